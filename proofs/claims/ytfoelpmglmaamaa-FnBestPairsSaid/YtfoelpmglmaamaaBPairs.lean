/- Best pairs: the program's walk. -/
import Derived.Test.YtfoelpmglmaamaaBPairsPlain
import Derived.Test.YtfoelpmglmaamaaGrid
import Derived.Test.YtfoelpmglmaamaaMore
import Derived.Test.YtfoelpmglmaamaaOpen
import Derived.StillTailTactics
import Derived.Deep.RegionHeld3
namespace Go.Proofs.Ytfoelpmglmaamaa
open Go.RowKit

theorem pow_facts {S : Nat} (h1 : 1 ≤ S) (h2 : S ≤ 16) : ((2 ^ S : Nat) : Int) = (2 : Int) ^ S ∧ 2 ≤ 2 ^ S ∧ 2 ^ S ≤ 65536 := by
  refine ⟨by exact_mod_cast rfl, ?_, Nat.pow_le_pow_right (n := 2) (by omega) h2⟩
  have := Nat.pow_le_pow_right (n := 2) (by omega) h1
  omega
theorem shl_c {k : Nat} (hk : k ≤ 62) : IntKind.i64.wrap (2 ^ min (k : Int).toNat 64) = ((2 ^ k : Nat) : Int) ∧ IntKind.i64.wrap (1 * 2 ^ min (k : Int).toNat 64) = ((2 ^ k : Nat) : Int) ∧ (2 : Int) ^ k = ((2 ^ k : Nat) : Int) := by
  have e : ((2 ^ k : Nat) : Int) = (2 : Int) ^ k := by exact_mod_cast rfl
  have h := Nat.pow_le_pow_right (n := 2) (by omega) hk
  have h0 : 0 < 2 ^ k := Nat.two_pow_pos k
  rw [Int.toNat_natCast, Nat.min_eq_left (by omega), Int.one_mul, ← e]
  exact ⟨IntWalk.i64_in _ (by omega), IntWalk.i64_in _ (by omega), rfl⟩

theorem bit_test0 (m k : Nat) (hm : m < 9223372036854775808) : (bits .and .i64 ((m : Int) / 2 ^ k) 1 == 0) = !m.testBit k := by
  have h1 := bit_test m k hm
  have hd : m / 2 ^ k ≤ m := Nat.div_le_self _ _
  rw [div_pow_cast, show (1 : Int) = ((1 : Nat) : Int) from rfl, i64_and_nat (m / 2 ^ k) 1 (by omega) (by omega), Nat.and_one_is_mod] at h1 ⊢
  rw [← h1]
  by_cases h : m / 2 ^ k % 2 = 1
  · rw [h]; rfl
  · rw [show m / 2 ^ k % 2 = 0 by omega]; rfl

theorem onesCount_o (S m : Nat) (w : World) (hS : S ≤ 16) (hm : m < 2 ^ S) :
    Calls Try.prog 27 #[.int .u64 m] w fun e w' => e = .returned (.int .i64 (bcnt m S : Nat)) ∧ w = w' := by
  go_enter Try.func27, Try.ntmps27
  go_wp2_with (go_at_call 36; refine (onesCount_any S m _ hS hm).mono ?_; rintro e w' ⟨rfl, rfl⟩)
  go_ret
  exact ⟨rfl, rfl⟩

theorem results_tmp5 {fn : Func} {t u v x y : Tmp} (h : fn.results = #[.tmp t, .tmp u, .tmp v, .tmp x, .tmp y]) (tmps : Array Value) (P : Program) (w : World) :
    (results fn tmps).run P w = .ok (.tuple #[tmps.getD t undef, tmps.getD u undef, tmps.getD v undef, tmps.getD x undef, tmps.getD y undef]) w := by
  simp [results, h]
theorem keepFar_b {w w' : World} {row : Option Nat} {a : Addr} {v : Value} (hg : w.grownBy w' row) (h : w.cell? a = some v) (hne : some a.block ≠ row) : w'.cell? a = some v :=
  (hg.cell_far a (World.block_lt_of_cell? w _ h) hne).trans h
theorem ne_own_b {A : Option Addr} {n c b : Nat} (h : ∀ ad, A = some ad → ad.block ≠ b) : some b ≠ (Value.slice A n c).ownBlock := by
  cases A with
  | none => intro h2; cases h2
  | some ad => intro h2; injection h2 with h2; exact h ad rfl h2.symm
theorem updG {w w' : World} {A : Option Addr} {n c : Nat} (hg : w.grownBy w' (Value.slice A n c).ownBlock) : Upd (blk A) w w' := (Upd.refl _ _).grown hg (by
  intro k hk
  cases A with
  | none => cases hk
  | some ad => injection hk with hk; exact .inl ⟨ad, rfl, hk⟩)
theorem sep_g {A B : Option Addr} {n c g H : Nat} (h : Sep A B) (hB : ∀ ad, B = some ad → ad.block < H) (hat : (Value.slice A n c).ownBlock = some g ∨ g = H) : Sep (some ⟨g, 0, none⟩) B := by
  intro x y hx hy
  injection hx with hx
  subst hx
  have h1 := hB y hy
  rcases hat with h5 | h5
  · cases A with
    | none => cases h5
    | some ed => injection h5 with h5; have := h ed y rfl hy; show g ≠ y.block; rw [← h5]; exact this
  · show g ≠ y.block; omega
theorem sep_app {T b : Nat} {w : World} {A S : Option Addr} {n c g : Nat} {zs : List Int} (h : Sep S A) (o : OwnI T b w A n c zs) (hg : blk S g ∨ w.heap.size ≤ g) : Sep (some ⟨g, 0, none⟩) A := by
  intro x y hx hy
  injection hx with hx
  subst hx
  have h1 := (o.lt hy).2
  rcases hg with ⟨z, hz1, hz2⟩ | h2
  · have := h z y hz1 hy; show g ≠ y.block; omega
  · show g ≠ y.block; omega
set_option maxRecDepth 100000 in
set_option maxHeartbeats 3200000 in
theorem implBest_any (A : Option Addr) (n c S : Nat) (cs : List Int) (w : World) (h : IntsAt w A n cs) (hn : n = S * S) (hS1 : 1 ≤ S) (hS : S ≤ 16) (hall : (cs.all fun x => inB x (-1000000) 1000000) = true) :
    Calls Try.prog 10 #[.int .i64 S, .slice A n c] w fun e w' => ∃ (P U V : Option Addr) (p cp cu cv : Nat), e = .returned (.tuple #[.slice P p cp, .int .i64 ((bpRest cs S).getD 0 0), .slice U p cu, .slice V S cv, .bool true]) ∧ OwnI 2 w.heap.size w' P p cp (bpPs cs S) ∧ OwnI 2 w.heap.size w' U p cu (bpUs cs S) ∧ OwnI 2 w.heap.size w' V S cv (bpVs cs S) ∧ Sep P U ∧ Sep P V ∧ Sep U V ∧ Below w.heap.size w w' := by
  obtain ⟨hP, hP2, hP16⟩ := pow_facts hS1 hS
  have HP := Lib.hid hP
  have hn256 : n ≤ 256 := by rw [hn]; exact Nat.mul_le_mul hS hS
  have hin1 : inB (S : Int) 1 16 = true := inB_iff.2 (by omega)
  have hsq : ((S : Int) * (S : Int)) = (n : Int) := by rw [hn]; push_cast; rfl
  have HSQ := Lib.hid hn
  have HC := Lib.hid (show ∀ j, j < S * S → -1000000 ≤ cs.getD j 0 ∧ cs.getD j 0 ≤ 1000000 from fun j hj => by
    have hl := h.len
    have := List.all_eq_true.1 hall _ (List.getElem_mem (show j < cs.length by omega))
    simp only [List.getD, List.getElem?_eq_getElem (show j < cs.length by omega), Option.getD_some]
    exact inB_iff.1 this)
  have hpb : (2 : Int) ^ S ≤ 65536 := by rw [← hP]; omega
  have hpb2 : 2 ≤ (2 : Int) ^ S := by rw [← hP]; omega
  clear hn
  go_enter Try.func10, Try.ntmps10
  go_wp2_with (first | (go_at_call 24; refine (within_any _ _ _ _).mono ?_; rw [hin1]; rintro e w' ⟨rfl, rfl⟩) | (go_at_call 25; refine (size_any _ _).mono ?_; rintro e w' ⟨rfl, rfl⟩) | (go_at_call 26; refine (allWithin_any _ _ _ cs _ _ _ h (by omega)).mono ?_; rw [hall]; rintro e w' ⟨rfl, rfl⟩) | (at_make; refine wp_make_ints _ rfl _ _ 25 rfl 2 Try.underlying25 info64 .i64 .i64 _ _ (2 ^ S) rfl rfl (by go_num) (by go_num) (by omega) ?_; intro w1 gR oR bR))
  have oR0 : OwnI 2 w.heap.size w1 (some ⟨gR, 0, none⟩) (2 ^ S) (2 ^ S) (bpR cs S 0) := oR
  clear oR
  go_loopg [11] (2 ^ S - 1) (fun r sv wr => ∃ (j : Nat) (x : Int), r = 2 ^ S - 1 - j ∧ j ≤ 2 ^ S - 1 ∧ sv = .int .i64 x ∧ Hid (x = ((2 ^ S : Nat) : Int) - 2 - j) ∧ OwnI 2 w.heap.size wr (some ⟨gR, 0, none⟩) (2 ^ S) (2 ^ S) (bpR cs S j) ∧ Below w.heap.size w wr)
  case atStart => exact ⟨0, _, rfl, Nat.zero_le _, rfl, Lib.hid (by rw [hP]; omega), oR0, bR⟩
  case round =>
    clear oR0 bR
    obtain ⟨j, x, hr, hj, rfl, HX, oR, hb⟩ := hrel
    have HR := Lib.hid hr
    clear hr
    have hgR := (OwnI.lt oR rfl).1
    by_cases hlt : j < 2 ^ S - 1
    · have hx0 : 0 ≤ x := by rw [HX.out]; omega
      obtain ⟨m, rfl⟩ := Int.eq_ofNat_of_zero_le hx0
      have HM := Lib.hid (show 2 ^ S - 2 - j = m by have := HX.out; omega)
      have hm1 : m + 1 < 2 ^ S := by have := HX.out; omega
      have hm2 : (m : Int) ≤ 65536 := by omega
      have HSET := Lib.hid (show bpR cs S (j + 1) = (bpR cs S j).set m (bpB cs (bpR cs S j) S m (bcnt m S) S).1 by rw [bpR, HM.out])
      have HRB := Lib.hid (fun i (hi : i < 2 ^ S) => bpR_all hS HC.out (show j + 1 ≤ 2 ^ S by omega) i hi)
      have hrow := bcnt_full S m hm1
      have HON := Lib.hid (fun w' => onesCount_o S m w' hS (by omega))
      generalize bpR cs S j = R at *
      generalize bcnt m S = row at *
      clear hx0
      have hw : IntKind.u64.wrap (m : Int) = (m : Int) := by rw [IntKind.wrap_u64]; omega
      obtain ⟨wo, rfl⟩ : ∃ wo : World, wo = wr := ⟨_, rfl⟩
      go_wp2_with (go_at_call 27; refine (HON.out _).mono ?_; rintro e w' ⟨rfl, rfl⟩)
      go_loopg [13, 14, 15] S (fun r bv fv cv wi => ∃ (k : Nat), r = S - k ∧ k ≤ S ∧ bv = .int .i64 (bpB cs R S m row k).1 ∧ fv = .bool (bpB cs R S m row k).2 ∧ cv = .int .i64 k ∧ Drew wo wi)
      case atStart => exact ⟨0, rfl, Nat.zero_le _, rfl, rfl, rfl, Drew.refl _⟩
      case round =>
        obtain ⟨k, hr, hk, rfl, rfl, rfl, q, rfl⟩ := hrel
        have HRK := Lib.hid hr
        clear hr
        by_cases hlk : k < S
        · have hlk' : (k : Int) < (S : Int) := by omega
          have hbt := bit_test m k (by omega)
          have HIN := Lib.hid (bpB_in (cs := cs) (R := R) (S := S) (m := m) (row := row) (c := k))
          have HY := Lib.hid (bpB_yes (cs := cs) (R := R) (S := S) (m := m) (row := row) (c := k))
          have HNO := Lib.hid (bpB_no (cs := cs) (R := R) (S := S) (m := m) (row := row) (c := k))
          have hbb := bpB_bd (cs := cs) (R := R) (m := m) (B := 65536000000) (by omega) (by omega) HRB.out hrow HC.out k hk
          generalize bpB cs R S m row k = b0 at *
          obtain ⟨best, fnd⟩ := b0
          simp only at HIN HY HNO hbb ⊢
          cases hbk : m.testBit k
          · rw [hbk] at hbt
            have hidx := idx_lt' hrow hlk
            have hor1 := or_lt (m := m) (show m < 2 ^ S by omega) hlk
            have hcR := OwnI.cell oR hor1
            have hv1 := HRB.out _ hor1
            have hv2 := HC.out _ hidx
            obtain ⟨ad, rfl, _, hc3⟩ := (h.below hb).at_ (k := row * S + k) (by rw [HSQ.out]; exact hidx)
            have f1 : (row : Int) * (S : Int) = ((row * S : Nat) : Int) := by push_cast; rfl
            have f2 : row * S + k < n := by rw [HSQ.out]; exact hidx
            obtain ⟨s1, s2, s3⟩ := shl_c (k := k) (by omega)
            have s4 := i64_or_nat m (2 ^ k) (by omega) (by have := Nat.pow_le_pow_right (n := 2) (by omega) hlk; omega)
            generalize hor : m ||| 2 ^ k = mm at *
            have s5 : bits .or .i64 (m : Int) (IntKind.i64.wrap (2 ^ min (k : Int).toNat 64)) = (mm : Int) := by rw [s1]; exact s4
            have s6 : bits .or .i64 (m : Int) ((2 : Int) ^ k) = (mm : Int) := by rw [s3]; exact s4
            have s7 : bits .or .i64 (m : Int) (IntKind.i64.wrap ((2 : Int) ^ k)) = (mm : Int) := by rw [s3, IntWalk.i64_in _ (by have := Nat.pow_le_pow_right (n := 2) (by omega) (show k ≤ 62 by omega); have := Nat.two_pow_pos k; omega)]; exact s4
            have hmm2 : (mm : Int) < (2 : Int) ^ S := by rw [← HP.out]; omega
            generalize R.getD mm 0 = x1 at *
            generalize cs.getD (row * S + k) 0 = x2 at *
            have hmm : (mm : Int) < ((2 ^ S : Nat) : Int) := by omega
            have f3 : (row : Int) * (S : Int) ≤ 256 := by omega
            have f4 : 0 ≤ (row : Int) * (S : Int) := by omega
            have f5 : (row : Int) * (S : Int) + (k : Int) < (n : Int) := by omega
            have v1 : IntKind.i64.wrap ((row : Int) * (S : Int)) = (row : Int) * (S : Int) := IntWalk.i64_in _ (by omega)
            have v2 : IntKind.i64.wrap ((row : Int) * (S : Int) + (k : Int)) = (row : Int) * (S : Int) + (k : Int) := IntWalk.i64_in _ (by omega)
            have v3 : 0 ≤ (row : Int) * (S : Int) + (k : Int) := by omega
            have v4 : ((row : Int) * (S : Int) + (k : Int)).toNat = row * S + k := by
              rw [show (row : Int) * (S : Int) + (k : Int) = ((row * S + k : Nat) : Int) from by push_cast; rfl]; rfl
            have v5 : IntKind.i64.wrap (x2 + x1) = x2 + x1 := IntWalk.i64_in _ (by omega)
            clear f1 s1 s2 s3 s4 hor
            cases fnd
            · have HV := Lib.hid (HY.out hbk (.inl rfl))
              go_wp2_with fail
              go_quiet (fail)
              go_wp2
              go_roundg (S - (k + 1))
              case measure => rw [HRK.out]; omega
              case rel => exact ⟨k + 1, rfl, hlk, by rw [HV.out], by rw [HV.out], by go_num, ⟨_, rfl⟩⟩
            · by_cases hless : x2 + x1 < best
              · have HV := Lib.hid (HY.out hbk (.inr hless))
                go_wp2_with fail
                go_quiet (fail)
                go_wp2
                go_roundg (S - (k + 1))
                case measure => rw [HRK.out]; omega
                case rel => exact ⟨k + 1, rfl, hlk, by rw [HV.out], by rw [HV.out], by go_num, ⟨_, rfl⟩⟩
              · have HV := Lib.hid (HNO.out rfl (by omega))
                go_wp2_with fail
                go_quiet (fail)
                go_wp2
                go_roundg (S - (k + 1))
                case measure => rw [HRK.out]; omega
                case rel => exact ⟨k + 1, rfl, hlk, by rw [HV.out], by rw [HV.out], by go_num, ⟨_, rfl⟩⟩
          · rw [hbk] at hbt
            have HV := Lib.hid (HIN.out hbk)
            go_wp2_with fail
            go_roundg (S - (k + 1))
            case measure => rw [HRK.out]; omega
            case rel => exact ⟨k + 1, rfl, hlk, by rw [HV.out], by rw [HV.out], by go_num, ⟨_, rfl⟩⟩
        · have e : S = k := by omega
          subst e
          have fR := OwnI.free oR m
          have cR := OwnI.cell oR (j := m) (by omega)
          have oS := (OwnI.drewN oR q).set m (bpB cs R S m row S).1
          rw [← HSET.out] at oS
          have bS := (below_drewN hb q).setCell (p := ⟨gR, m, none⟩) hgR (.int .i64 (bpB cs R S m row S).1)
          have hms : (m : Int) < (2 : Int) ^ S := by rw [← HP.out]; omega
          generalize (bpB cs R S m row S).1 = x at *
          generalize R.getD m 0 = y at *
          go_wp2_with fail
          go_roundg (2 ^ S - 1 - (j + 1))
          case measure => rw [HR.out]; omega
          case rel => exact ⟨j + 1, _, rfl, by omega, by go_num, Lib.hid (by have := HX.out; omega), oS, bS⟩
    · have e : 2 ^ S - 1 = j := by omega
      have hneg : x < 0 := by rw [HX.out]; omega
      subst e
      rw [show bpR cs S (2 ^ S - 1) = bpRest cs S from rfl] at oR
      have HRB := Lib.hid (fun i (hi : i < 2 ^ S) => show -65536000000 ≤ (bpRest cs S).getD i 0 ∧ (bpRest cs S).getD i 0 ≤ 65536000000 from bpR_all hS HC.out (show 2 ^ S - 1 + 1 ≤ 2 ^ S by omega) i hi)
      have HPS := Lib.hid (bpP_ok cs (bpRest cs S) S)
      clear HR HX
      have hl0 : OwnI 2 w.heap.size wr none 0 0 (bpP cs (bpRest cs S) S 0).1 := OwnI.nil_ _ _ _
      generalize hRE : bpRest cs S = R at *
      have HRE := Lib.hid hRE
      clear hRE
      go_wp2_with fail
      go_loopg [17, 18, 19] S (fun r pv sv iv wi => ∃ (i p : Nat) (Q : Option Addr) (cq : Nat), r = S - i ∧ i ≤ S ∧ p ≤ i ∧ pv = .slice Q p cq ∧ sv = .int .i64 ((bpP cs R S i).2 : Nat) ∧ iv = .int .i64 i ∧ OwnI 2 w.heap.size wi (some ⟨gR, 0, none⟩) (2 ^ S) (2 ^ S) R ∧ OwnI 2 w.heap.size wi Q p cq (bpP cs R S i).1 ∧ Sep Q (some ⟨gR, 0, none⟩) ∧ Below w.heap.size w wi)
      case atStart => exact ⟨0, 0, none, 0, rfl, Nat.zero_le _, Nat.le_refl _, rfl, rfl, rfl, oR, hl0, (fun x y hx => by cases hx), hb⟩
      case round =>
        clear oR hb hl0
        obtain ⟨i, p, Q, cq, hr, hi, hpi, rfl, rfl, rfl, oR, oQ, hsQ, hb⟩ := hrel
        have HRI := Lib.hid hr
        clear hr
        have hgR := (OwnI.lt oR rfl).1
        by_cases hli : i < S
        · have hli' : (i : Int) < (S : Int) := by omega
          have HPN := Lib.hid (show bpP cs R S (i + 1) = bpA (bpP cs R S i) (bpF cs R S (bpP cs R S i).2 i S 0) from rfl)
          have hset := (HPS.out i).2.1
          generalize hPI : bpP cs R S i = PI at *
          obtain ⟨ps, m⟩ := PI
          simp only at HPN hset oQ ⊢
          clear hPI
          have hm2 : (m : Int) ≤ 65536 := by omega
          obtain ⟨wo, rfl⟩ : ∃ wo : World, wo = wr := ⟨_, rfl⟩
          go_wp2_with fail
          go_loopg [17, 18, 20] S (fun r pv sv kv wi => ∃ (k : Nat), r = S - k ∧ k ≤ S ∧ pv = .slice Q p cq ∧ sv = .int .i64 m ∧ kv = .int .i64 k ∧ Hid (bpF cs R S m i (S - k) k = bpF cs R S m i S 0) ∧ Drew wo wi)
          case atStart => exact ⟨0, rfl, Nat.zero_le _, rfl, rfl, rfl, Lib.hid rfl, Drew.refl _⟩
          case round =>
            obtain ⟨k, hr, hk, rfl, rfl, rfl, HF, q, rfl⟩ := hrel
            have HRK := Lib.hid hr
            clear hr
            by_cases hlk : k < S
            · have hlk' : (k : Int) < (S : Int) := by omega
              have hbt := bit_test0 m k (by omega)
              have HYES := Lib.hid (bpF_yes (cs := cs) (R := R) (m := m) (row := i) hlk)
              have HNO := Lib.hid (bpF_no (cs := cs) (R := R) (m := m) (row := i) hlk)
              cases hbk : m.testBit k
              · rw [hbk] at hbt
                have hidx := idx_lt' hli hlk
                have hor1 := or_lt (m := m) hset hlk
                have hcR := OwnI.cell oR hor1
                have hcM := OwnI.cell oR hset
                have hv1 := HRB.out _ hor1
                have hv2 := HC.out _ hidx
                obtain ⟨ad, rfl, _, hc3⟩ := (h.below hb).at_ (k := i * S + k) (by rw [HSQ.out]; exact hidx)
                have f1 : (i : Int) * (S : Int) = ((i * S : Nat) : Int) := by push_cast; rfl
                have f2 : i * S + k < n := by rw [HSQ.out]; exact hidx
                obtain ⟨s1, s2, s3⟩ := shl_c (k := k) (by omega)
                have s4 := i64_or_nat m (2 ^ k) (by omega) (by have := Nat.pow_le_pow_right (n := 2) (by omega) hlk; omega)
                have HGO := Lib.hid (show bpGo cs R S m i k = (!m.testBit k && decide (cs.getD (i * S + k) 0 + R.getD (m ||| 2 ^ k) 0 = R.getD m 0)) from rfl)
                have HOR := Lib.hid (show bpA (ps, m) (some k) = (ps ++ [(k : Int)], m ||| 2 ^ k) from rfl)
                generalize hor : m ||| 2 ^ k = mm at *
                have s5 : bits .or .i64 (m : Int) (IntKind.i64.wrap (2 ^ min (k : Int).toNat 64)) = (mm : Int) := by rw [s1]; exact s4
                have s6 : bits .or .i64 (m : Int) ((2 : Int) ^ k) = (mm : Int) := by rw [s3]; exact s4
                have s7 : bits .or .i64 (m : Int) (IntKind.i64.wrap ((2 : Int) ^ k)) = (mm : Int) := by rw [s3, IntWalk.i64_in _ (by have := Nat.pow_le_pow_right (n := 2) (by omega) (show k ≤ 62 by omega); have := Nat.two_pow_pos k; omega)]; exact s4
                have s8 : bits .or .i64 (m : Int) (wrap64 ((2 : Int) ^ k)) = (mm : Int) := by rw [← IntWalk.i64_left]; exact s7
                have hmm2 : (mm : Int) < (2 : Int) ^ S := by rw [← HP.out]; omega
                have hmm3 : (m : Int) < (2 : Int) ^ S := by rw [← HP.out]; omega
                generalize R.getD mm 0 = x1 at *
                generalize R.getD m 0 = x3 at *
                generalize cs.getD (i * S + k) 0 = x2 at *
                have hmm : (mm : Int) < ((2 ^ S : Nat) : Int) := by omega
                have f3 : (i : Int) * (S : Int) ≤ 256 := by omega
                have f4 : 0 ≤ (i : Int) * (S : Int) := by omega
                have f5 : (i : Int) * (S : Int) + (k : Int) < (n : Int) := by omega
                have v1 : IntKind.i64.wrap ((i : Int) * (S : Int)) = (i : Int) * (S : Int) := IntWalk.i64_in _ (by omega)
                have v2 : IntKind.i64.wrap ((i : Int) * (S : Int) + (k : Int)) = (i : Int) * (S : Int) + (k : Int) := IntWalk.i64_in _ (by omega)
                have v3 : 0 ≤ (i : Int) * (S : Int) + (k : Int) := by omega
                have v4 : ((i : Int) * (S : Int) + (k : Int)).toNat = i * S + k := by
                  rw [show (i : Int) * (S : Int) + (k : Int) = ((i * S + k : Nat) : Int) from by push_cast; rfl]; rfl
                have v5 : IntKind.i64.wrap (x2 + x1) = x2 + x1 := IntWalk.i64_in _ (by omega)
                clear f1 s1 s2 s3 s4 hor
                by_cases hEq : x2 + x1 = x3
                · have HV := Lib.hid (HYES.out (by rw [HGO.out, hbk, decide_eq_true hEq]; rfl))
                  have d1 : (x2 + x1 == x3) = true := by rw [hEq]; exact beq_self_eq_true _
                  clear hEq
                  have oR1 := OwnI.drewN oR q
                  have oQ1 := OwnI.drewN oQ q
                  have hb1 := below_drewN hb q
                  have c1 : (wo.drewN q).cell? ⟨gR, mm, none⟩ = some (.int .i64 x1) := hcR
                  have c2 : (wo.drewN q).cell? ⟨gR, m, none⟩ = some (.int .i64 x3) := hcM
                  have c3 : (wo.drewN q).cell? (ad.add (i * S + k)) = some (.int .i64 x2) := hc3
                  clear hcR hcM hc3
                  generalize wo.drewN q = W1 at *
                  go_wp2_with fail
                  go_quiet (fail)
                  have oR2 := OwnI.drewN oR1 nq
                  have oQ2 := OwnI.drewN oQ1 nq
                  have hb2 := below_drewN hb1 nq
                  have hsz := hb2.size
                  clear c1 c2 c3 oR1 oQ1 hb1
                  generalize W1.drewN nq = W2 at *
                  go_wp2_with (at_builtin; refine wp_append_int _ _ rfl _ _ _ rfl 2 w.heap.size Try.underlying25 info64 Q p cq _ rfl oQ2 rfl (by omega) hsz ?_; intro g4 c4 w4 o4 u4 b4 hg4)
                  go_roundg (S - (i + 1))
                  case measure => rw [HRI.out]; omega
                  case rel => exact ⟨i + 1, p + 1, _, c4, rfl, hli, by omega, rfl, by rw [HPN.out, ← HF.out, HV.out, HOR.out]; first | done | exact congrArg _ s8, by go_num, OwnI.sep oR2 u4 hsQ.symm, by rw [HPN.out, ← HF.out, HV.out, HOR.out]; exact o4, sep_app hsQ oR2 hg4, hb2.trans b4⟩
                · have HV := Lib.hid (HNO.out (by rw [HGO.out, decide_eq_false hEq]; simp))
                  have d1 : (x2 + x1 == x3) = false := by rw [beq_eq_false_iff_ne]; exact hEq
                  go_wp2_with fail
                  go_quiet (fail)
                  go_wp2
                  go_roundg (S - (k + 1))
                  case measure => rw [HRK.out]; omega
                  case rel => exact ⟨k + 1, rfl, hlk, rfl, rfl, by go_num, Lib.hid (by rw [← HV.out]; exact HF.out), ⟨_, rfl⟩⟩
              · rw [hbk] at hbt
                have HV := Lib.hid (HNO.out (by unfold bpGo; rw [hbk]; rfl))
                go_wp2_with go_quiet (fail)
                go_roundg (S - (k + 1))
                case measure => rw [HRK.out]; omega
                case rel => exact ⟨k + 1, rfl, hlk, rfl, rfl, by go_num, Lib.hid (by rw [← HV.out]; exact HF.out), ⟨_, rfl⟩⟩
            · have e : S = k := by omega
              subst e
              have HV := Lib.hid (show bpF cs R S m i S 0 = none by rw [← HF.out, Nat.sub_self]; rfl)
              go_wp2_with fail
              go_roundg (S - (i + 1))
              case measure => rw [HRI.out]; omega
              case rel => exact ⟨i + 1, p, Q, cq, rfl, hli, by omega, rfl, by rw [HPN.out, HV.out]; rfl, by go_num, OwnI.drewN oR q, by rw [HPN.out, HV.out]; exact OwnI.drewN oQ q, hsQ, below_drewN hb q⟩
        · have e : S = i := by omega
          subst e
          have HPL := Lib.hid (HPS.out S).2.2
          have HLN := Lib.hid oQ.len
          have hp16 : p ≤ S := hpi
          have HPB := Lib.hid (show bpPs cs S = (bpP cs R S S).1 by unfold bpPs; rw [HRE.out])
          have HR0 := Lib.hid (HRB.out 0 (by omega))
          generalize (bpP cs R S S).1 = ps at *
          go_wp2_with (at_make; refine wp_make_ints _ rfl _ _ 25 rfl 2 Try.underlying25 info64 .i64 .i64 _ _ S rfl rfl rfl rfl (by omega) ?_; intro w3 gO oO bO)
          have hsz3 := hb.size
          have oO0 : OwnI 2 w.heap.size w3 (some ⟨gO, 0, none⟩) S S (roT ps S 0) := OwnI.low oO hsz3
          have hsQO := sep_new oQ oO
          have hsRO := sep_new oR oO
          have oQ3 := oQ.below bO
          have oR3 := oR.below bO
          have hb3 := below_ext hb hsz3 bO
          have HO0 := Lib.hid oO0
          clear oO bO oQ oR hb hsz3
          go_loopg [151] p (fun r cv wi => ∃ (k : Nat), r = p - k ∧ k ≤ p ∧ cv = .int .i64 k ∧ OwnI 2 w.heap.size wi (some ⟨gO, 0, none⟩) S S (roT ps S k) ∧ Upd (blk (some ⟨gO, 0, none⟩)) w3 wi)
          case atStart => exact ⟨0, rfl, Nat.zero_le _, rfl, oO0, Upd.refl _ _⟩
          case round =>
            clear oO0
            obtain ⟨k, hr, hk, rfl, oO, uO⟩ := hrel
            have HRK := Lib.hid hr
            clear hr
            have oQ4 := OwnI.sep oQ3 uO hsQO
            have oR4 := OwnI.sep oR3 uO hsRO
            by_cases hlk : k < p
            · have hlk' : (k : Int) < (p : Int) := by omega
              obtain ⟨gQ, rfl, _, _, _, _⟩ := oQ4.pos (by omega)
              have cQ := OwnI.cell oQ4 hlk
              obtain ⟨b0, b1⟩ := HPL.out k (by rw [HLN.out]; exact hlk)
              have HST := Lib.hid (show roT ps S (k + 1) = (roT ps S k).set (ps.getD k 0).toNat (k : Int) from rfl)
              generalize ps.getD k 0 = x at *
              obtain ⟨b, rfl⟩ := Int.eq_ofNat_of_zero_le b0
              rw [Int.toNat_natCast] at HST
              have fO := OwnI.free oO b
              have cO := OwnI.cell oO (j := b) (by omega)
              have oS := OwnI.set oO b (k : Int)
              rw [← HST.out] at oS
              have uS := uO.setCell (p := ⟨gO, b, none⟩) (.inl ⟨_, rfl, rfl⟩) (.int .i64 (k : Int))
              generalize (roT ps S k).getD b 0 = y at *
              go_wp2_with fail
              go_roundg (p - (k + 1))
              case measure => rw [HRK.out]; omega
              case rel => exact ⟨k + 1, rfl, by omega, by go_num, oS, uS⟩
            · have e : p = k := by omega
              subst e
              have hb4 : Below w.heap.size w wr := below_blk hb3 hb3.size uO HO0.out (Nat.le_refl _)
              have HRO := Lib.hid (roT_bd (ps := ps) (S := S) p hp16)
              have HVS := Lib.hid (show bpVs cs S = lgT cs (roT ps S p) S S by unfold bpVs; rw [HPB.out, HLN.out])
              have HALL := Lib.hid (fun (t k j : Nat) (ht : t ≤ S) (hk : k < S) (hj : j ≤ S) => lg_all hS HC.out HRO.out ht hk hj)
              generalize roT ps S p = RO at *
              clear oQ3 oR3 uO hb3 HO0
              go_wp2_with (at_make; refine wp_make_ints _ rfl _ _ 25 rfl 2 Try.underlying25 info64 .i64 .i64 _ _ S rfl rfl rfl rfl (by omega) ?_; intro w5 gL oL bL)
              have hsz5 := hb4.size
              have oL0 : OwnI 2 w.heap.size w5 (some ⟨gL, 0, none⟩) S S (lgT cs RO S 0) := OwnI.low oL hsz5
              have hsQL := sep_new oQ4 oL
              have hsRL := sep_new oR4 oL
              have hsOL := sep_new oO oL
              have oQ5 := oQ4.below bL
              have oR5 := oR4.below bL
              have oO5 := oO.below bL
              have hb5 := below_ext hb4 hsz5 bL
              have HL0 := Lib.hid oL0
              clear oL bL oQ4 oR4 oO hb4 hsz5
              go_loopg [164] S (fun r cv wi => ∃ (t : Nat), r = S - t ∧ t ≤ S ∧ cv = .int .i64 t ∧ OwnI 2 w.heap.size wi (some ⟨gL, 0, none⟩) S S (lgT cs RO S t) ∧ Upd (blk (some ⟨gL, 0, none⟩)) w5 wi)
              case atStart => exact ⟨0, rfl, Nat.zero_le _, rfl, oL0, Upd.refl _ _⟩
              case round =>
                clear oL0
                obtain ⟨t, hr, ht, rfl, oL, uL⟩ := hrel
                have HRT := Lib.hid hr
                clear hr
                by_cases hlt2 : t < S
                · have hlt2' : (t : Int) < (S : Int) := by omega
                  have HTN := Lib.hid (show lgT cs RO S (t + 1) = lgK cs RO (lgT cs RO S t) S S from rfl)
                  have oL1 : OwnI 2 w.heap.size wr (some ⟨gL, 0, none⟩) S S (lgK cs RO (lgT cs RO S t) S 0) := oL
                  clear oL
                  obtain ⟨wo, rfl⟩ : ∃ wo : World, wo = wr := ⟨_, rfl⟩
                  go_wp2_with fail
                  go_loopg [168] S (fun r cv wi => ∃ (k : Nat), r = S - k ∧ k ≤ S ∧ cv = .int .i64 k ∧ OwnI 2 w.heap.size wi (some ⟨gL, 0, none⟩) S S (lgK cs RO (lgT cs RO S t) S k) ∧ Upd (blk (some ⟨gL, 0, none⟩)) w5 wi)
                  case atStart => exact ⟨0, rfl, Nat.zero_le _, rfl, oL1, uL⟩
                  case round =>
                    clear oL1 uL
                    obtain ⟨k, hr, hk2, rfl, oL, uL⟩ := hrel
                    have HRK2 := Lib.hid hr
                    clear hr
                    by_cases hlk2 : k < S
                    · have hlk2' : (k : Int) < (S : Int) := by omega
                      have HKN := Lib.hid (show lgK cs RO (lgT cs RO S t) S (k + 1) = lgJ cs RO (lgK cs RO (lgT cs RO S t) S k) S k S from rfl)
                      have oL1 : OwnI 2 w.heap.size wr (some ⟨gL, 0, none⟩) S S (lgJ cs RO (lgK cs RO (lgT cs RO S t) S k) S k 0) := oL
                      clear oL
                      obtain ⟨wo2, rfl⟩ : ∃ wo2 : World, wo2 = wr := ⟨_, rfl⟩
                      go_wp2_with fail
                      go_loopg [173] S (fun r cv wi => ∃ (j : Nat), r = S - j ∧ j ≤ S ∧ cv = .int .i64 j ∧ OwnI 2 w.heap.size wi (some ⟨gL, 0, none⟩) S S (lgJ cs RO (lgK cs RO (lgT cs RO S t) S k) S k j) ∧ Upd (blk (some ⟨gL, 0, none⟩)) w5 wi)
                      case atStart => exact ⟨0, rfl, Nat.zero_le _, rfl, oL1, uL⟩
                      case round =>
                        clear oL1 uL
                        obtain ⟨j, hr, hj2, rfl, oL, uL⟩ := hrel
                        have HRJ := Lib.hid hr
                        clear hr
                        by_cases hlj : j < S
                        · have hlj' : (j : Int) < (S : Int) := by omega
                          have HST := Lib.hid (show lgJ cs RO (lgK cs RO (lgT cs RO S t) S k) S k (j + 1) = (lgJ cs RO (lgK cs RO (lgT cs RO S t) S k) S k j).set k (min ((lgJ cs RO (lgK cs RO (lgT cs RO S t) S k) S k j).getD k 0) ((lgJ cs RO (lgK cs RO (lgT cs RO S t) S k) S k j).getD j 0 + cs.getD ((RO.getD j 0).toNat * S + k) 0 - cs.getD ((RO.getD j 0).toNat * S + j) 0)) from rfl)
                          have hbv := HALL.out t k j (by omega) hlk2 (by omega)
                          generalize lgJ cs RO (lgK cs RO (lgT cs RO S t) S k) S k j = V at *
                          have x1b := hbv.2 k hlk2
                          have x2b := hbv.2 j hlj
                          clear hbv
                          obtain ⟨r0, r1⟩ := HRO.out j hlj
                          have cO := OwnI.cell (OwnI.sep oO5 uL hsOL) hlj
                          generalize RO.getD j 0 = x at *
                          obtain ⟨ii, rfl⟩ := Int.eq_ofNat_of_zero_le r0
                          rw [Int.toNat_natCast] at HST
                          have hii : ii < S := by omega
                          have hi1 := idx_lt' hii hlk2
                          have hi2 := idx_lt' hii hlj
                          have y1b := HC.out _ hi1
                          have y2b := HC.out _ hi2
                          have hb6 : Below w.heap.size w wr := below_blk hb5 hb5.size uL HL0.out (Nat.le_refl _)
                          obtain ⟨ad, rfl, _, hc3⟩ := (h.below hb6).at_ (k := ii * S + k) (by rw [HSQ.out]; exact hi1)
                          have hc4 := ints_cell (h.below hb6) (k := ii * S + j) (by rw [HSQ.out]; exact hi2)
                          have cK := OwnI.cell oL hlk2
                          have cJ := OwnI.cell oL hlj
                          have fK := OwnI.free oL k
                          have oS := OwnI.set oL k (min (V.getD k 0) (V.getD j 0 + cs.getD (ii * S + k) 0 - cs.getD (ii * S + j) 0))
                          rw [← HST.out] at oS
                          have uS := uL.setCell (p := ⟨gL, k, none⟩) (.inl ⟨_, rfl, rfl⟩) (.int .i64 (min (V.getD k 0) (V.getD j 0 + cs.getD (ii * S + k) 0 - cs.getD (ii * S + j) 0)))
                          generalize V.getD k 0 = x1 at *
                          generalize V.getD j 0 = x2 at *
                          generalize cs.getD (ii * S + k) 0 = y1 at *
                          generalize cs.getD (ii * S + j) 0 = y2 at *
                          clear oL uL hb6
                          have f1 : (ii : Int) * (S : Int) = ((ii * S : Nat) : Int) := by push_cast; rfl
                          have f2 : ii * S + k < n := by rw [HSQ.out]; exact hi1
                          have f3 : ii * S + j < n := by rw [HSQ.out]; exact hi2
                          have v1 : IntKind.i64.wrap ((ii : Int) * (S : Int)) = (ii : Int) * (S : Int) := IntWalk.i64_in _ (by omega)
                          have v2 : IntKind.i64.wrap ((ii : Int) * (S : Int) + (k : Int)) = (ii : Int) * (S : Int) + (k : Int) := IntWalk.i64_in _ (by omega)
                          have v3 : 0 ≤ (ii : Int) * (S : Int) + (k : Int) := by omega
                          have v4 : ((ii : Int) * (S : Int) + (k : Int)).toNat = ii * S + k := by
                            rw [show (ii : Int) * (S : Int) + (k : Int) = ((ii * S + k : Nat) : Int) from by push_cast; rfl]; rfl
                          have v5 : (ii : Int) * (S : Int) + (k : Int) < (n : Int) := by omega
                          have v6 : IntKind.i64.wrap ((ii : Int) * (S : Int) + (j : Int)) = (ii : Int) * (S : Int) + (j : Int) := IntWalk.i64_in _ (by omega)
                          have v7 : 0 ≤ (ii : Int) * (S : Int) + (j : Int) := by omega
                          have v8 : ((ii : Int) * (S : Int) + (j : Int)).toNat = ii * S + j := by
                            rw [show (ii : Int) * (S : Int) + (j : Int) = ((ii * S + j : Nat) : Int) from by push_cast; rfl]; rfl
                          have v9 : (ii : Int) * (S : Int) + (j : Int) < (n : Int) := by omega
                          have va : IntKind.i64.wrap (x2 + y1) = x2 + y1 := IntWalk.i64_in _ (by omega)
                          have vb : IntKind.i64.wrap (x2 + y1 - y2) = x2 + y1 - y2 := IntWalk.i64_in _ (by omega)
                          clear f1
                          go_wp2_with fail
                          generalize hW2 : wr = W2 at *
                          refine wp_region_still_tail 30 (by kernel_rfl) (by kernel_rfl) ?_
                          change wpStill _ _ W2.drew (fun a' => wpList _ _ _ _ a' W2.drew) _ _
                          simp only [List.take_succ_cons, List.take_zero, List.drop_succ_cons, List.drop_zero]
                          repeat still_step
                          refine wpStill_nil ?_
                          go_wp2
                          all_goals
                            first | rw [show min x1 (x2 + y1 - y2) = x2 + y1 - y2 from by omega] at oS uS | rw [show min x1 (x2 + y1 - y2) = x1 from by omega] at oS uS
                            go_roundg (S - (j + 1))
                            case measure => rw [HRJ.out]; omega
                            case rel => exact ⟨j + 1, rfl, by omega, by go_num, oS.drew, uS.drew⟩
                        · have e : S = j := by omega
                          subst e
                          rw [← HKN.out] at oL
                          go_wp2_with fail
                          go_roundg (S - (k + 1))
                          case measure => rw [HRK2.out]; omega
                          case rel => exact ⟨k + 1, rfl, by omega, by go_num, oL, uL⟩
                    · have e : S = k := by omega
                      subst e
                      rw [← HTN.out] at oL
                      go_wp2_with fail
                      go_roundg (S - (t + 1))
                      case measure => rw [HRT.out]; omega
                      case rel => exact ⟨t + 1, rfl, by omega, by go_num, oL, uL⟩
                · have e : S = t := by omega
                  subst e
                  have oQ6 := OwnI.sep oQ5 uL hsQL
                  have oR6 := OwnI.sep oR5 uL hsRL
                  have hb6 : Below w.heap.size w wr := below_blk hb5 hb5.size uL HL0.out (Nat.le_refl _)
                  have HVB := Lib.hid (fun i (hi : i < S) => show -10000000000 ≤ (lgT cs RO S S).getD i 0 ∧ (lgT cs RO S S).getD i 0 ≤ 0 from by have h1 := (lgT_bd hS HC.out HRO.out S).2 i hi; omega)
                  generalize lgT cs RO S S = V at *
                  clear uL oQ5 oR5 oO5 hb5 HL0 hsOL hsQO hsRO
                  have hU0 : OwnI 2 w.heap.size wr none 0 0 (uT cs ps V S 0) := OwnI.nil_ _ _ _
                  have hsU0 : Sep (none : Option Addr) (some ⟨gL, 0, none⟩) := fun x y hx => by cases hx
                  have hsU1 : Sep (none : Option Addr) Q := fun x y hx => by cases hx
                  have hsU2 : Sep (none : Option Addr) (some ⟨gR, 0, none⟩) := fun x y hx => by cases hx
                  go_wp2_with fail
                  go_loopg [28, 215] p (fun r uv cv wi => ∃ (k : Nat) (U : Option Addr) (cu : Nat), r = p - k ∧ k ≤ p ∧ cv = .int .i64 k ∧ uv = .slice U k cu ∧ OwnI 2 w.heap.size wi U k cu (uT cs ps V S k) ∧ OwnI 2 w.heap.size wi Q p cq ps ∧ OwnI 2 w.heap.size wi (some ⟨gR, 0, none⟩) (2 ^ S) (2 ^ S) R ∧ OwnI 2 w.heap.size wi (some ⟨gL, 0, none⟩) S S V ∧ Sep U (some ⟨gL, 0, none⟩) ∧ Sep U Q ∧ Sep U (some ⟨gR, 0, none⟩) ∧ Below w.heap.size w wi)
                  case atStart => exact ⟨0, none, 0, rfl, Nat.zero_le _, rfl, rfl, hU0, oQ6, oR6, oL, hsU0, hsU1, hsU2, hb6⟩
                  case round =>
                    clear hU0 oQ6 oR6 oL hsU0 hsU1 hsU2 hb6
                    obtain ⟨k, U, cu, hr, hk, rfl, rfl, oU, oQ, oR, oL, hsUL, hsUQ, hsUR, hb⟩ := hrel
                    have HRK := Lib.hid hr
                    clear hr
                    by_cases hlk : k < p
                    · have hlk' : (k : Int) < (p : Int) := by omega
                      have hkS : k < S := by omega
                      obtain ⟨gQ, rfl, _, _, _, _⟩ := oQ.pos (by omega)
                      have cQ := OwnI.cell oQ hlk
                      obtain ⟨b0, b1⟩ := HPL.out k (by rw [HLN.out]; exact hlk)
                      have HST := Lib.hid (show uT cs ps V S (k + 1) = uT cs ps V S k ++ [cs.getD (k * S + (ps.getD k 0).toNat) 0 - V.getD (ps.getD k 0).toNat 0] from rfl)
                      generalize ps.getD k 0 = x at *
                      obtain ⟨b, rfl⟩ := Int.eq_ofNat_of_zero_le b0
                      rw [Int.toNat_natCast] at HST
                      have hbS : b < S := by omega
                      have hi1 := idx_lt' hkS hbS
                      have y1b := HC.out _ hi1
                      have x1b := HVB.out b hbS
                      obtain ⟨ad, rfl, _, hc3⟩ := (h.below hb).at_ (k := k * S + b) (by rw [HSQ.out]; exact hi1)
                      have cL := OwnI.cell oL hbS
                      generalize V.getD b 0 = x1 at *
                      generalize cs.getD (k * S + b) 0 = y1 at *
                      have f1 : (k : Int) * (S : Int) = ((k * S : Nat) : Int) := by push_cast; rfl
                      have f2 : k * S + b < n := by rw [HSQ.out]; exact hi1
                      have v1 : IntKind.i64.wrap ((k : Int) * (S : Int)) = (k : Int) * (S : Int) := IntWalk.i64_in _ (by omega)
                      have v2 : IntKind.i64.wrap ((k : Int) * (S : Int) + (b : Int)) = (k : Int) * (S : Int) + (b : Int) := IntWalk.i64_in _ (by omega)
                      have v3 : 0 ≤ (k : Int) * (S : Int) + (b : Int) := by omega
                      have v4 : ((k : Int) * (S : Int) + (b : Int)).toNat = k * S + b := by
                        rw [show (k : Int) * (S : Int) + (b : Int) = ((k * S + b : Nat) : Int) from by push_cast; rfl]; rfl
                      have v5 : (k : Int) * (S : Int) + (b : Int) < (n : Int) := by omega
                      have v6 : IntKind.i64.wrap (y1 - x1) = y1 - x1 := IntWalk.i64_in _ (by omega)
                      have hsz := hb.size
                      clear f1
                      obtain ⟨i0, hi0, hz0, hz1, hz2⟩ := info_parts info64
                      have nA : some (ad.add (k * S + b)).block ≠ (Value.slice U k cu).ownBlock := ne_own_b fun x ha => by have h2 := (oU.lt ha).1; have h3 := block_add ad (k * S + b); have h4 := World.block_lt_of_cell? w _ (ints_cell h (k := k * S + b) (by rw [HSQ.out]; exact hi1)); omega
                      have nB : some gL ≠ (Value.slice U k cu).ownBlock := ne_own_b fun x ha => hsUL x ⟨gL, 0, none⟩ ha rfl
                      go_wp2_with fail
                      generalize hW2 : wr = W2 at *
                      go_region_held3 (fun w' => w'.cell? (ad.add (k * S + b)) = some (.int .i64 y1) ∧ w'.cell? ⟨gL, b, none⟩ = some (.int .i64 x1))
                        (first
                          | go_keep
                          | (go_split_ands
                             refine ⟨keepFar_b hgrow (by assumption) nA, keepFar_b hgrow (by assumption) nB⟩))
                        ((refine step_append_lies _ (by rfl) _ _ _ (by rfl) w.heap.size 2 i0 _ 1 8 Try.underlying25 hi0 hz0 hz1 hz2 rfl (by omega) (.slice U k cu) k ((uT cs ps V S k).map (Value.int .i64)) (by rfl) ((World.ownsRow.alloc oU _).drew) ⟨W2.heap.size, 0, none⟩ 1 1 [.int .i64 (y1 - x1)] (by rfl) (by rfl) (World.news_of_block (cs := #[.int .i64 (y1 - x1)]) (t := 2) (fr := (0, 0)) (heap_alloc_new W2 _)) (by simp [Value.oneCell']) (by omega) (by unfold maxLen; omega) (by omega) (by simp; omega) (W2.heap.size + 1) (by simp) ?_; intro gg5 cap5 w5 hown5 hgrow hat5 hlt5))
                      have oU2 : OwnI 2 w.heap.size w5 (some ⟨gg5, 0, none⟩) (k + 1) cap5 (uT cs ps V S (k + 1)) := by
                        rw [HST.out]
                        have h5 := hown5
                        rw [show ((uT cs ps V S k).map (Value.int .i64)) ++ [.int .i64 (y1 - x1)] = (uT cs ps V S k ++ [y1 - x1]).map (Value.int .i64) by rw [List.map_append]; rfl] at h5
                        exact h5
                      have uU := updG hgrow
                      have hb' := (hb.alloc hsz (.cells #[.int .i64 (y1 - x1)] 2)).drew
                      have oU' := (oU.alloc (.cells #[.int .i64 (y1 - x1)] 2)).drew
                      have hb2 := below_blk hb' hb'.size uU oU' (Nat.le_refl _)
                      have oQ2 := OwnI.sep (oQ.alloc (.cells #[.int .i64 (y1 - x1)] 2)).drew uU hsUQ.symm
                      have oR2 := OwnI.sep (oR.alloc (.cells #[.int .i64 (y1 - x1)] 2)).drew uU hsUR.symm
                      have oL2 := OwnI.sep (oL.alloc (.cells #[.int .i64 (y1 - x1)] 2)).drew uU hsUL.symm
                      have t1 := sep_g hsUL (fun ad ha => Nat.lt_succ_of_lt (oL.lt ha).2) hat5
                      have t2 := sep_g hsUQ (fun ad ha => Nat.lt_succ_of_lt (oQ.lt ha).2) hat5
                      have t3 := sep_g hsUR (fun ad ha => Nat.lt_succ_of_lt (oR.lt ha).2) hat5
                      clear oU oQ oR oL hb hown5 hgrow hat5 hb' oU' uU nA nB
                      go_split_ands
                      go_wp2_with fail
                      go_roundg (p - (k + 1))
                      case measure => rw [HRK.out]; omega
                      case rel => exact ⟨k + 1, _, _, rfl, by omega, by go_num, rfl, oU2, oQ2, oR2, oL2, t1, t2, t3, hb2⟩
                    · have e : p = k := by omega
                      subst e
                      have c0 := OwnI.cell oR (j := 0) (by omega)
                      have HUV := Lib.hid (show bpUs cs S = uT cs ps V S p by unfold bpUs; rw [HPB.out, HVS.out, HLN.out])
                      have h0S : (0 : Int) < (2 : Int) ^ S := by omega
                      have HZ := Lib.hid (show (bpRest cs S).getD 0 0 = R.getD 0 0 by rw [HRE.out])
                      generalize R.getD 0 0 = z at *
                      go_wp2_with fail
                      go_quiet (fail)
                      go_wp2
                      (try simp only [Exit.inBlock, Exit.then])
                      refine bodyPost_ret (results_tmp5 rfl _ _ _) rfl ?_
                      exact ⟨Q, U, some ⟨gL, 0, none⟩, p, cq, cu, S, (by rw [HZ.out]; first | done | rfl), by rw [HPB.out]; exact OwnI.drewN oQ _, by rw [HUV.out]; exact OwnI.drewN oU _, by rw [HVS.out]; exact OwnI.drewN oL _, hsUQ.symm, hsQL, hsUL, below_drewN hb _⟩
end Go.Proofs.Ytfoelpmglmaamaa
