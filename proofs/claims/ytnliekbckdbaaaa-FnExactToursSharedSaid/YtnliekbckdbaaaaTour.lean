/- Tours: orders of cities; how long a tour is. -/
import Derived.Test.YtnliekbckdbaaaaCities
import Derived.Test.YtnliekbckdbaaaaGrid
namespace Go.Proofs.Ytnliekbckdbaaaa
open Go.RowKit

theorem own_cap {T base n c : Nat} {w : World} {A : Option Addr} {zs : List Int} (h : OwnI T base w A n c zs) : n ≤ c := by
  rcases h.form with ⟨_, h1, _, _⟩ | ⟨_, _, _, _, h1, _⟩
  · omega
  · exact h1
theorem own_cap2 {T base n c : Nat} {w : World} {A : Option Addr} {zs : List Int} (h : OwnI T base w A n c zs) : n ≤ c ∧ c ≤ maxLen := by
  rcases h.form with ⟨_, h1, h2, _⟩ | ⟨_, _, _, _, h1, h2⟩
  · subst h1 h2; exact ⟨Nat.le_refl _, Nat.zero_le _⟩
  · exact ⟨h1, h2⟩
theorem ints_take {w : World} {A : Option Addr} {n : Nat} {zs : List Int} (h : IntsAt w A n zs) {k : Nat} (hk : k ≤ n) : IntsAt w A k (zs.take k) := by
  refine ⟨by rw [List.length_take, h.len]; omega, fun h0 => ?_⟩
  obtain ⟨ad, e, hb, hc⟩ := h.2 (by omega)
  refine ⟨ad, e, hb, fun j hj => ?_⟩
  rw [hc j (by omega)]
  simp [List.getD, List.getElem?_take, hj]

/-- 'make' of a slice of values of one cell each -/
theorem wp_make_vals {P : Program} (w : World) {ops : Array Oper} {rest : List Oper} {o : Oper} {a : Act} {Q : Exit → Act → World → Prop}
    (hg : o.guard = none) (l c : Operand) (t : TypeId) (hop : o.op = Op.makeSlice t l c) (z : Value) (b : Nat) (hzc : z.cells = #[z]) (hb : b ≤ 8)
    (T : TypeId) (h1 : P.underlying t = some (.slice T)) (hinfo : (P.info? T).map (fun i => (i.zero, i.size, i.bytes)) = some (some z, 1, b))
    (kl kc : IntKind) (L C : Int) (n : Nat) (hl : a.eval l = .int kl L) (hc : a.eval c = .int kc C) (hL : L = (n : Int)) (hC : C = (n : Int)) (hn : n ≤ 1048576)
    (hK : ∀ (w' : World) (g : Nat), OwnC T w.heap.size 1 w' (some ⟨g, 0, none⟩) n n (List.replicate n z) → Below w.heap.size w w' → wpList P ops Q rest (a.put o.dst (.slice (some ⟨g, 0, none⟩) n n)) w') :
    wpList P ops Q (o :: rest) a w := by
  obtain ⟨i0, hi, hz0, hz1, hz2⟩ := info_parts hinfo
  have hmul : n * b ≤ 1048576 * 8 := Nat.mul_le_mul hn hb
  have hmul2 : b * n ≤ 8 * 1048576 := Nat.mul_le_mul hb hn
  refine wpList_make_full w hg l c t hop w.heap.size T i0 _ 1 h1 hi hz0 hz1 kl kc L C n hl hc hL hC (by rw [hz2]; omega) (by simp [maxLen]; omega) (Nat.le_refl _) ?_
  intro w' h2 h3
  refine hK w' w.heap.size ?_ (Upd.ext ((Upd.refl _ _).grown h3 (by intro k hk; cases hk)))
  have e : (madeCells z.cells (n * 1)).toList = List.replicate n z := by
    rw [hzc]
    show (madeCells #[z] (n * 1)).toList = _
    rw [toList_madeCells_one]; simp
  rw [← e]
  exact h2
theorem infoB : (Try.prog.info? 4).map (fun i => (i.zero, i.size, i.bytes)) = some (some (.bool false), 1, 1) := by kernel_rfl

def distinctTo (ts : List Int) (k : Nat) : Bool := (List.range k).all fun i => !hasB (ts.take i) (ts.getD i 0)
theorem distinctTo_snoc (ts : List Int) (k : Nat) : distinctTo ts (k + 1) = (distinctTo ts k && !hasB (ts.take k) (ts.getD k 0)) := by
  unfold distinctTo
  rw [List.range_succ, List.all_append]; simp
theorem distinctTo_not {ts : List Int} {k n : Nat} (h : k < n) (hh : hasB (ts.take k) (ts.getD k 0) = true) : distinctTo ts n = false := by
  unfold distinctTo
  rw [List.all_eq_false]
  exact ⟨k, by simpa using h, by rw [hh]; decide⟩
/-- does the list hold each of N numbers once? -/
def orderB (N : Nat) (ts : List Int) : Bool := decide (ts.length = N) && ((ts.all fun x => inB x 0 ((N : Int) - 1)) && distinctTo ts ts.length)
theorem orderB_len {N : Nat} {ts : List Int} (h : ts.length ≠ N) : orderB N ts = false := by simp [orderB, h]
theorem orderB_out {N j : Nat} {ts : List Int} (hj : j < ts.length) (h : inB (ts.getD j 0) 0 ((N : Int) - 1) = false) : orderB N ts = false := by
  have := all_false_of (fun x => inB x 0 ((N : Int) - 1)) ts j 0 hj h
  simp [orderB, this]
theorem orderB_twice {N j : Nat} {ts : List Int} (hj : j < ts.length) (h : hasB (ts.take j) (ts.getD j 0) = true) : orderB N ts = false := by
  simp [orderB, distinctTo_not hj h]
theorem orderB_yes {N n : Nat} {ts : List Int} (hn : ts.length = n) (e : n = N) (h1 : ∀ j, j < n → inB (ts.getD j 0) 0 ((N : Int) - 1) = true) (h2 : distinctTo ts n = true) : orderB N ts = true := by
  subst hn
  subst e
  have h3 : (ts.all fun x => inB x 0 ((ts.length : Int) - 1)) = true := by
    rw [List.all_eq_true]
    intro x hx
    obtain ⟨j, hj, rfl⟩ := List.mem_iff_getElem.1 hx
    have := h1 j hj
    simpa [List.getD, List.getElem?_eq_getElem hj] using this
  simp [orderB, h3, h2]
theorem orderB_bd {N : Nat} {ts : List Int} (h : orderB N ts = true) : ts.length = N ∧ ∀ j, j < N → ∃ x : Nat, ts.getD j 0 = (x : Int) ∧ x < N := by
  simp only [orderB, Bool.and_eq_true, decide_eq_true_eq, List.all_eq_true] at h
  obtain ⟨h1, h2, _⟩ := h
  refine ⟨h1, fun j hj => ?_⟩
  obtain ⟨a, b⟩ := inB_iff.1 (h2 (ts.getD j 0) (by simp [List.getD, List.getElem?_eq_getElem (h1 ▸ hj)]))
  exact ⟨(ts.getD j 0).toNat, by omega, by omega⟩
theorem has_snoc (ts : List Int) (k : Nat) (c : Int) (hk : k < ts.length) : hasB (ts.take (k + 1)) c = (hasB (ts.take k) c || decide (ts.getD k 0 = c)) := by
  unfold hasB
  rw [List.take_succ_eq_append_getElem hk]
  simp only [List.contains_eq_mem, List.mem_append, List.mem_singleton, List.getD, List.getElem?_eq_getElem hk, Option.getD_some]
  rw [Bool.decide_or]
  congr 1
  exact decide_eq_decide.2 ⟨fun h => h.symm, fun h => h.symm⟩
/-- which numbers are among the first k -/
def seenV (ts : List Int) (N k : Nat) : List Value := (List.range N).map fun (c : Nat) => .bool (hasB (ts.take k) (c : Int))
theorem seenV_zero (ts : List Int) (N : Nat) : seenV ts N 0 = List.replicate N (.bool false) := by
  apply List.ext_getElem (by simp [seenV])
  intro j h1 h2
  simp [seenV, hasB]
theorem seenV_get {ts : List Int} {N k x : Nat} (h : x < N) : (seenV ts N k)[x]? = some (.bool (hasB (ts.take k) (x : Int))) := by
  simp [seenV, h]
theorem seenV_step {ts : List Int} {N k x : Nat} (hk : k < ts.length) (hx : ts.getD k 0 = (x : Int)) : (seenV ts N k).set x (.bool true) = seenV ts N (k + 1) := by
  apply List.ext_getElem (by simp [seenV])
  intro j h1 h2
  rw [List.getElem_set]
  simp only [seenV, List.getElem_map, List.getElem_range]
  rw [has_snoc ts k _ hk, hx]
  by_cases e : x = j
  · rw [if_pos e, e]; simp
  · rw [if_neg e]
    have : decide ((x : Int) = (j : Int)) = false := by rw [decide_eq_false_iff_not]; omega
    rw [this, Bool.or_false]

set_option maxRecDepth 100000 in
set_option maxHeartbeats 1600000 in
theorem l04Tour_any (A : Option Addr) (n c : Nat) (ts : List Int) (N : Nat) (w : World) (h : IntsAt w A n ts) (hl : n ≤ 1048576) (hN1 : 1 ≤ N) (hN : N ≤ 10) :
    Calls Try.prog 71 #[.slice A n c, .int .i64 N] w fun e w' => e = .returned (.bool (orderB N ts)) ∧ Below w.heap.size w w' := by
  have HL := Lib.hid h.len
  by_cases hne : n = N
  · subst hne
    go_enter Try.func71, Try.ntmps71
    go_wp2_with (at_make; refine wp_make_vals _ rfl _ _ 68 rfl (.bool false) 1 rfl (by omega) 4 Try.underlying68 infoB .i64 .i64 _ _ n rfl rfl rfl rfl hl ?_; intro w1 g o1 b1)
    have hg := (o1.lt rfl).1
    rw [← seenV_zero ts n] at o1
    go_loopg [6] n (fun r i wr => ∃ k : Nat, r = n - k ∧ k ≤ n ∧ i = .int .i64 k ∧ OwnC 4 w.heap.size 1 wr (some ⟨g, 0, none⟩) n n (seenV ts n k) ∧ Below w.heap.size w wr ∧ Hid (∀ j, j < k → inB (ts.getD j 0) 0 ((n : Int) - 1) = true) ∧ Hid (distinctTo ts k = true))
    case atStart => exact ⟨0, by omega, by omega, rfl, o1, b1, Lib.hid (fun j hj => by omega), Lib.hid rfl⟩
    case round =>
      clear o1 b1
      obtain ⟨k, hr, hk, rfl, hown, hb, hall, hdis⟩ := hrel
      have HR := Lib.hid hr
      clear hr
      by_cases hlt : k < n
      · obtain ⟨ad, rfl, _, hcell⟩ := (h.below hb).at_ hlt
        have HT := Lib.hid (@orderB_out n k ts (by rw [HL.out]; exact hlt))
        have HT2 := Lib.hid (@orderB_twice n k ts (by rw [HL.out]; exact hlt))
        have HST := Lib.hid (fun x => @seenV_step ts n k x (by rw [HL.out]; exact hlt))
        have HD := Lib.hid (distinctTo_snoc ts k)
        have HA := Lib.hid (show inB (ts.getD k 0) 0 ((n : Int) - 1) = true → ∀ j, j < k + 1 → inB (ts.getD j 0) 0 ((n : Int) - 1) = true from fun hk1 j hj => by
          by_cases e : j = k
          · rw [e]; exact hk1
          · exact hall.out j (by omega))
        generalize ts.getD k 0 = x at *
        cases hin : inB x 0 ((n : Int) - 1)
        · have HO := Lib.hid (HT.out hin)
          go_wp2_with (go_at_call 57; refine (l00In_any _ _ _ _).mono ?_; rintro e w' ⟨rfl, rfl⟩; rw [hin])
          go_ret
          exact ⟨ret_bool HO.out.symm, hb⟩
        · have HA2 := Lib.hid (HA.out hin)
          obtain ⟨x0, x1⟩ := inB_iff.1 hin
          obtain ⟨y, rfl⟩ := Int.eq_ofNat_of_zero_le x0
          have hy : y < n := by omega
          have hy' : (y : Int) < (n : Int) := by omega
          have hc2 := hown.cell (j := y) (by omega)
          rw [seenV_get hy] at hc2
          have hf := hown.free y
          have hset := hown.set y (.bool true)
          rw [HST.out y rfl] at hset
          have hb2 := hb.setCell (p := ⟨g, y, none⟩) hg (.bool true)
          cases hh : hasB (ts.take k) y
          · rw [hh] at hc2
            have HD2 := Lib.hid (show distinctTo ts (k + 1) = true by rw [HD.out, hdis.out, hh]; rfl)
            go_wp2_with (go_at_call 57; refine (l00In_any _ _ _ _).mono ?_; rintro e w' ⟨rfl, rfl⟩; rw [hin])
            go_roundg (n - (k + 1))
            case measure => rw [HR.out]; omega
            case rel => exact ⟨k + 1, rfl, by omega, by go_num, hset, hb2, HA2, HD2⟩
          · rw [hh] at hc2
            have HO := Lib.hid (HT2.out hh)
            go_wp2_with (go_at_call 57; refine (l00In_any _ _ _ _).mono ?_; rintro e w' ⟨rfl, rfl⟩; rw [hin])
            go_ret
            exact ⟨ret_bool HO.out.symm, hb⟩
      · have e : k = n := by omega
        subst e
        have HO := Lib.hid (orderB_yes HL.out rfl hall.out hdis.out)
        go_wp2
        go_ret
        exact ⟨ret_bool HO.out.symm, hb⟩
  · have HO := Lib.hid (orderB_len (N := N) (ts := ts) (by rw [HL.out]; exact hne))
    have hne' : ¬ (n : Int) = (N : Int) := by omega
    go_enter Try.func71, Try.ntmps71
    go_wp2
    go_ret
    exact ⟨ret_bool HO.out.symm, Below.refl _ _⟩

set_option maxRecDepth 100000 in
set_option maxHeartbeats 1600000 in
theorem isOrderOf_any (A : Option Addr) (n c : Nat) (ts : List Int) (N : Nat) (w : World) (h : IntsAt w A n ts) (hl : n ≤ 1048576) (hc : n ≤ c) (hcm : c ≤ maxLen) (hN1 : 1 ≤ N) (hN : N ≤ 10) :
    Calls Try.prog 73 #[.int .i64 N, .slice A n c] w fun e w' => e = .returned (.bool (orderB N ts)) ∧ w = w' := by
  have HL := Lib.hid h.len
  by_cases hne : n = N
  · subst hne
    cases hall : ts.all fun x => inB x 0 ((n : Int) - 1)
    · have HO := Lib.hid (show orderB n ts = false by simp [orderB, hall])
      go_enter Try.func73, Try.ntmps73
      go_wp2_with (first | (go_at_call 65; refine (size_any _ _).mono ?_; rintro e w' ⟨rfl, rfl⟩) | (go_at_call 66; refine (allWithin_any _ _ _ ts _ _ _ h hl).mono ?_; rintro e w' ⟨rfl, rfl⟩; rw [hall]))
      go_ret
      exact ⟨ret_bool HO.out.symm, rfl⟩
    · have HALL := Lib.hid (show ∀ j, j < n → inB (ts.getD j 0) 0 ((n : Int) - 1) = true from fun j hj => List.all_eq_true.1 hall _ (by simp [List.getD, List.getElem?_eq_getElem (by rw [HL.out]; exact hj : j < ts.length)]))
      go_enter Try.func73, Try.ntmps73
      go_wp2_with (first | (go_at_call 65; refine (size_any _ _).mono ?_; rintro e w' ⟨rfl, rfl⟩) | (go_at_call 66; refine (allWithin_any _ _ _ ts _ _ _ h hl).mono ?_; rintro e w' ⟨rfl, rfl⟩; rw [hall]))
      clear hall
      go_loop [21] (fun i => ∃ k : Nat, k ≤ n ∧ i = .int .i64 k ∧ Hid (distinctTo ts k = true)) (fun i => n - (intOf i).toNat)
      case atStart => exact ⟨0, by omega, rfl, Lib.hid rfl⟩
      case round =>
        obtain ⟨k, hk, rfl, hdis⟩ := hrel
        by_cases hlt : k < n
        · obtain ⟨ad, rfl, _, hcell⟩ := h.at_ hlt
          have HT2 := Lib.hid (@orderB_twice n k ts (by rw [HL.out]; exact hlt))
          have HD := Lib.hid (distinctTo_snoc ts k)
          have ht := ints_take h (show k ≤ n by omega)
          have hkc : (k : Int) ≤ (c : Int) := by omega
          generalize ts.getD k 0 = x at *
          cases hh : hasB (ts.take k) x
          · have HD2 := Lib.hid (show distinctTo ts (k + 1) = true by rw [HD.out, hdis.out, hh]; rfl)
            go_wp2_with (go_at_call 68; refine (has_any _ _ _ (ts.take k) _ _ ht (by omega)).mono ?_; rintro e w' ⟨rfl, rfl⟩; rw [hh])
            go_round
            case rel => exact ⟨k + 1, by omega, by go_num, HD2⟩
            case measure => simp [intOf]; omega
          · have HO := Lib.hid (HT2.out hh)
            go_wp2_with (go_at_call 68; refine (has_any _ _ _ (ts.take k) _ _ ht (by omega)).mono ?_; rintro e w' ⟨rfl, rfl⟩; rw [hh])
            go_ret
            exact ⟨ret_bool HO.out.symm, rfl⟩
        · have e : k = n := by omega
          subst e
          have HO := Lib.hid (orderB_yes HL.out rfl HALL.out hdis.out)
          go_wp2
          go_ret
          exact ⟨ret_bool HO.out.symm, rfl⟩
  · have HO := Lib.hid (orderB_len (N := N) (ts := ts) (by rw [HL.out]; exact hne))
    have hne' : ¬ (n : Int) = (N : Int) := by omega
    go_enter Try.func73, Try.ntmps73
    go_wp2_with (go_at_call 65; refine (size_any _ _).mono ?_; rintro e w' ⟨rfl, rfl⟩)
    go_ret
    exact ⟨ret_bool HO.out.symm, rfl⟩

/-- how long the first k ways of a tour are -/
def longTo (ws ts : List Int) (N k : Nat) : Int := (List.range k).foldl (fun s i => s + ws.getD ((ts.getD i 0).toNat * N + (ts.getD ((i + 1) % N) 0).toNat) 0) 0
theorem longTo_snoc (ws ts : List Int) (N k : Nat) : longTo ws ts N (k + 1) = longTo ws ts N k + ws.getD ((ts.getD k 0).toNat * N + (ts.getD ((k + 1) % N) 0).toNat) 0 := by
  unfold longTo
  rw [List.range_succ, List.foldl_append]; rfl

set_option maxRecDepth 100000 in
set_option maxHeartbeats 1600000 in
theorem l04Long_any (A : Option Addr) (n c : Nat) (ws : List Int) (B : Option Addr) (N d : Nat) (ts : List Int) (w : World) (h : IntsAt w A n ws) (hy : IntsAt w B N ts) (hn : n = N * N) (hN1 : 1 ≤ N) (hN : N ≤ 10)
    (hw : ∀ j, j < n → 0 ≤ ws.getD j 0 ∧ ws.getD j 0 ≤ 1000) (ht : ∀ j, j < N → ∃ x : Nat, ts.getD j 0 = (x : Int) ∧ x < N) :
    Calls Try.prog 50 #[.slice A n c, .slice B N d] w fun e w' => e = .returned (.int .i64 (longTo ws ts N N)) ∧ Below w.heap.size w w' := by
  have HW := Lib.hid hw
  have HT := Lib.hid ht
  clear hw ht
  go_enter Try.func50, Try.ntmps50
  go_wp2
  go_loopg [6, 7] N (fun r s i wr => ∃ k : Nat, r = N - k ∧ k ≤ N ∧ i = .int .i64 k ∧ s = .int .i64 (longTo ws ts N k) ∧ 0 ≤ longTo ws ts N k ∧ longTo ws ts N k ≤ 1000 * k ∧ Below w.heap.size w wr)
  case atStart => exact ⟨0, by omega, by omega, rfl, rfl, by simp [longTo], by simp [longTo], Below.refl _ _⟩
  case round =>
    obtain ⟨k, hr, hk, rfl, rfl, s0, s1, hb⟩ := hrel
    have HR := Lib.hid hr
    clear hr
    by_cases hlt : k < N
    · have hm := Nat.mod_lt (k + 1) (show 0 < N by omega)
      obtain ⟨a, ha, ha2⟩ := HT.out k hlt
      obtain ⟨b, hb1, hb2⟩ := HT.out ((k + 1) % N) hm
      obtain ⟨bd, rfl, _, hc1⟩ := (hy.below hb).at_ hlt
      obtain ⟨bd', e1, _, hc2⟩ := (hy.below hb).at_ hm
      injection e1 with e1
      subst e1
      obtain ⟨ad, rfl, _, hc3⟩ := (h.below hb).at_ (k := a * N + b) (by rw [hn]; exact idx_lt ha2 hb2)
      have hx := HW.out (a * N + b) (by rw [hn]; exact idx_lt ha2 hb2)
      have hsn := longTo_snoc ws ts N k
      rw [ha, hb1, Int.toNat_natCast, Int.toNat_natCast] at hsn
      rw [ha] at hc1
      rw [hb1] at hc2
      clear ha hb1
      obtain ⟨f1, f2, f3⟩ := mul_facts hN hn ha2 hb2
      have hmod : ((k : Int) + 1) % (N : Int) = (((k + 1) % N : Nat) : Int) := by
        rw [show ((k : Int) + 1) = ((k + 1 : Nat) : Int) from by omega]; rfl
      have hmi : ((((k + 1) % N : Nat) : Int)) < (N : Int) := by omega
      have HM := Lib.hid hmod
      generalize ws.getD (a * N + b) 0 = x at *
      generalize longTo ws ts N k = s at *
      generalize (k + 1) % N = j at *
      have HS := Lib.hid hsn
      clear hsn
      go_wp2_with go_quiet (fail)
      go_roundg (N - (k + 1))
      case measure => rw [HR.out]; omega
      case rel => exact ⟨k + 1, rfl, by omega, by go_num, by rw [HS.out], by rw [HS.out]; omega, by rw [HS.out]; omega, below_drewN hb _⟩
    · have e : k = N := by omega
      subst e
      go_wp2
      go_ret
      exact ⟨rfl, hb⟩
set_option maxRecDepth 100000 in
set_option maxHeartbeats 1600000 in
theorem tourLong_any (A : Option Addr) (n c : Nat) (ws : List Int) (B : Option Addr) (N d : Nat) (ts : List Int) (w : World) (h : IntsAt w A n ws) (hy : IntsAt w B N ts) (hn : n = N * N) (hN1 : 1 ≤ N) (hN : N ≤ 10)
    (hw : ∀ j, j < n → 0 ≤ ws.getD j 0 ∧ ws.getD j 0 ≤ 1000) (ht : ∀ j, j < N → ∃ x : Nat, ts.getD j 0 = (x : Int) ∧ x < N) :
    Calls Try.prog 61 #[.slice A n c, .slice B N d] w fun e w' => e = .returned (.int .i64 (longTo ws ts N N)) ∧ Below w.heap.size w w' := by
  have HW := Lib.hid hw
  have HT := Lib.hid ht
  have hcn := cityN_sq hN1 hN
  rw [← hn] at hcn
  have hl : n ≤ 1048576 := by have := sq_bd hN; omega
  have HN := Lib.hid hn
  clear hw ht hn
  go_enter Try.func61, Try.ntmps61
  go_wp2_with (go_at_call 46; refine (cities_any _ _ _ _ hl).mono ?_; rw [hcn]; rintro e w' ⟨rfl, rfl⟩)
  clear hcn
  go_loopg [6, 13] N (fun r s i wr => ∃ k : Nat, r = N - k ∧ k ≤ N ∧ i = .int .i64 k ∧ s = .int .i64 (longTo ws ts N k) ∧ 0 ≤ longTo ws ts N k ∧ longTo ws ts N k ≤ 1000 * k ∧ Below w.heap.size w wr)
  case atStart => exact ⟨0, by omega, by omega, rfl, rfl, by simp [longTo], by simp [longTo], Below.refl _ _⟩
  case round =>
    obtain ⟨k, hr, hk, rfl, rfl, s0, s1, hb⟩ := hrel
    have HR := Lib.hid hr
    clear hr
    by_cases hlt : k < N
    · have hm := Nat.mod_lt (k + 1) (show 0 < N by omega)
      obtain ⟨a, ha, ha2⟩ := HT.out k hlt
      obtain ⟨b, hb1, hb2⟩ := HT.out ((k + 1) % N) hm
      obtain ⟨bd, rfl, _, hc1⟩ := (hy.below hb).at_ hlt
      obtain ⟨bd', e1, _, hc2⟩ := (hy.below hb).at_ hm
      injection e1 with e1
      subst e1
      obtain ⟨ad, rfl, _, hc3⟩ := (h.below hb).at_ (k := a * N + b) (by rw [HN.out]; exact idx_lt ha2 hb2)
      have hx := HW.out (a * N + b) (by rw [HN.out]; exact idx_lt ha2 hb2)
      have hsn := longTo_snoc ws ts N k
      rw [ha, hb1, Int.toNat_natCast, Int.toNat_natCast] at hsn
      rw [ha] at hc1
      rw [hb1] at hc2
      clear ha hb1
      obtain ⟨f1, f2, f3⟩ := mul_facts hN HN.out ha2 hb2
      have hmod : ((k : Int) + 1) % (N : Int) = (((k + 1) % N : Nat) : Int) := by
        rw [show ((k : Int) + 1) = ((k + 1 : Nat) : Int) from by omega]; rfl
      have hmi : ((((k + 1) % N : Nat) : Int)) < (N : Int) := by omega
      generalize ws.getD (a * N + b) 0 = x at *
      generalize longTo ws ts N k = s at *
      generalize (k + 1) % N = j at *
      have HS := Lib.hid hsn
      clear hsn
      go_wp2_with go_quiet (fail)
      go_roundg (N - (k + 1))
      case measure => rw [HR.out]; omega
      case rel => exact ⟨k + 1, rfl, by omega, by go_num, by rw [HS.out], by rw [HS.out]; omega, by rw [HS.out]; omega, by first | exact below_drewN hb _ | exact hb⟩
    · have e : k = N := by omega
      subst e
      go_wp2
      go_ret
      exact ⟨rfl, hb⟩

def tourB (ws ts : List Int) : Bool := citiesB ws && orderB (cityN ws.length).toNat ts
def tourLV (ws ts : List Int) : Int := if tourB ws ts = true then longTo ws ts (cityN ws.length).toNat (cityN ws.length).toNat else 0
theorem tourLV_no {ws ts : List Int} (h : tourB ws ts = false) : tourLV ws ts = 0 := by unfold tourLV; rw [if_neg (by rw [h]; decide)]
theorem tourLV_yes {ws ts : List Int} (h : tourB ws ts = true) : tourLV ws ts = longTo ws ts (cityN ws.length).toNat (cityN ws.length).toNat := by unfold tourLV; rw [if_pos h]
theorem cities_bd {ws : List Int} (h : citiesB ws = true) : ∃ N : Nat, 1 ≤ N ∧ N ≤ 10 ∧ ws.length = N * N ∧ cityN ws.length = N ∧ ∀ j, j < ws.length → 0 ≤ ws.getD j 0 ∧ ws.getD j 0 ≤ 1000 := by
  rcases cityN_or ws.length with hn | ⟨N, hN1, hN2, hsq, hN⟩
  · rw [citiesB_none hn] at h; cases h
  · refine ⟨N, hN1, hN2, hsq, hN, fun j hj => ?_⟩
    have := ((citiesB_iff hN).1 h).1
    rw [List.all_eq_true] at this
    exact inB_iff.1 (this (ws.getD j 0) (by simp [List.getD, List.getElem?_eq_getElem hj]))

set_option maxRecDepth 100000 in
set_option maxHeartbeats 800000 in
theorem l04Valid_any (A : Option Addr) (n c : Nat) (ws : List Int) (B : Option Addr) (m d : Nat) (ts : List Int) (w : World) (h : IntsAt w A n ws) (hl : n ≤ 1048576) (hy : IntsAt w B m ts) (hl2 : m ≤ 1048576) :
    Calls Try.prog 52 #[.slice A n c, .slice B m d] w fun e w' => e = .returned (.bool (tourB ws ts)) ∧ Below w.heap.size w w' := by
  cases hc : citiesB ws
  · have hv := countV_no hc
    have HT := Lib.hid (show tourB ws ts = false by simp [tourB, hc])
    go_enter Try.func52, Try.ntmps52
    go_wp2_with (go_at_call 43; refine (l04Count_any _ _ _ ws _ h hl).mono ?_; rw [hv]; rintro e w1 ⟨rfl, hd⟩)
    go_ret
    exact ⟨ret_bool HT.out.symm, hd.below⟩
  · obtain ⟨N, hN1, hN2, _, hN, _⟩ := cities_bd hc
    have hv := countV_yes hc
    rw [hN] at hv
    have HT := Lib.hid (show tourB ws ts = orderB N ts by simp [tourB, hc, hN])
    have hpos : (0 : Int) < (N : Int) := by omega
    go_enter Try.func52, Try.ntmps52
    go_wp2_with (go_at_call 43; refine (l04Count_any _ _ _ ws _ h hl).mono ?_; rw [hv]; rintro e w1 ⟨rfl, hd⟩)
    refine (l04Tour_any _ _ _ ts N _ (hy.drewTo hd) hl2 hN1 hN2).mono ?_
    rintro e w2 ⟨rfl, hb⟩
    go_wp2_with fail
    go_ret
    exact ⟨ret_bool HT.out.symm, below_ext hd.below hd.below.size hb⟩

set_option maxRecDepth 100000 in
set_option maxHeartbeats 800000 in
theorem isTour_any (A : Option Addr) (n c : Nat) (ws : List Int) (B : Option Addr) (m d : Nat) (ts : List Int) (w : World) (h : IntsAt w A n ws) (hl : n ≤ 1048576) (hy : IntsAt w B m ts) (hl2 : m ≤ 1048576) (hcap : m ≤ d) (hcm : d ≤ maxLen) :
    Calls Try.prog 54 #[.slice A n c, .slice B m d] w fun e w' => e = .returned (.bool (tourB ws ts)) ∧ Below w.heap.size w w' := by
  have HL := Lib.hid h.len
  cases hc : citiesB ws
  · have HT := Lib.hid (show tourB ws ts = false by simp [tourB, hc])
    go_enter Try.func54, Try.ntmps54
    go_wp2_with (go_at_call 45; refine (implAreCities_any _ _ _ ws _ h hl).mono ?_; rw [hc]; rintro e w1 ⟨rfl, hd⟩)
    go_ret
    exact ⟨ret_bool HT.out.symm, hd.below⟩
  · obtain ⟨N, hN1, hN2, _, hN, _⟩ := cities_bd hc
    have HT := Lib.hid (show tourB ws ts = orderB N ts by simp [tourB, hc, hN])
    rw [HL.out] at hN
    go_enter Try.func54, Try.ntmps54
    go_wp2_with (first | (go_at_call 45; refine (implAreCities_any _ _ _ ws _ h hl).mono ?_; rw [hc]; rintro e w1 ⟨rfl, hd⟩) | (go_at_call 46; refine (cities_any _ _ _ _ hl).mono ?_; rw [hN]; rintro e w' ⟨rfl, rfl⟩))
    refine (isOrderOf_any _ _ _ ts N _ (hy.drewTo hd) hl2 hcap hcm hN1 hN2).mono ?_
    rintro e w2 ⟨rfl, rfl⟩
    go_wp2_with fail
    go_ret
    exact ⟨ret_bool HT.out.symm, hd.below⟩


end Go.Proofs.Ytnliekbckdbaaaa
