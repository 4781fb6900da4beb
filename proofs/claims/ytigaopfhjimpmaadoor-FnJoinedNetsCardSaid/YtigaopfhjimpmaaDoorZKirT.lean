/- How many trees a net has: the program's walk. -/
import Derived.Test.YtigaopfhjimpmaaDoorZKirI
import Derived.Test.YtigaopfhjimpmaaDoorZValid2
namespace Go.Proofs.YtigaopfhjimpmaaDoor
open Go.RowKit
open DetP

theorem ret_IBt {a b : Int} {x y : Bool} (h1 : a = b) (h2 : x = y) : Ending.returned (.tuple #[.int .i64 a, .bool x]) = .returned (.tuple #[.int .i64 b, .bool y]) := by rw [h1, h2]
theorem arcs_inT {xs : List ArcR} {N : Nat} (hv : validB N xs = true) : ∀ i, i < xs.length → frN xs i < N ∧ toN xs i < N ∧ frN xs i ≠ toN xs i := by
  obtain ⟨_, _, _, hb⟩ := valid_bd hv
  intro i hi
  have := hb i hi
  unfold frN toN; omega
theorem infoSL : (Tryd.prog.info? 26).map (fun i => (i.zero, i.size, i.bytes)) = some (some (.slice none 0 0), 1, 24) := by kernel_rfl
/-- the rows that are made so far -/
structure MadeTo (w : World) (TS T base gT : Nat) (g : Nat → Nat) (R i : Nat) : Prop where
  top : VB w gT TS R (fun x => if x < i then .slice (some ⟨g x, 0, none⟩) R R else .slice none 0 0)
  row : ∀ x, x < i → VB w (g x) T R (fun _ => .int .i64 0)
  ne : ∀ x, x < i → g x ≠ gT
  inj : ∀ x y, x < i → y < i → g x = g y → x = y
  low : ∀ x, x < i → base ≤ g x
  lowT : base ≤ gT
theorem MadeTo.next {w w' : World} {TS T base gT R i gN : Nat} {g : Nat → Nat} (h : MadeTo w TS T base gT g R i) (hb : Below w.heap.size w w') (hN : Blk w' gN T ((List.replicate R (Value.int .i64 0)).toArray)) (hg : w.heap.size ≤ gN) (hbase : base ≤ w.heap.size) :
    MadeTo (w'.setCell ⟨gT, i, none⟩ (.slice (some ⟨gN, 0, none⟩) R R)) TS T base gT (fun x => if x = i then gN else g x) R (i + 1) := by
  have hT := h.top.lt
  have hx : ∀ x, x < i → g x < w.heap.size := fun x hx => (h.row x hx).lt
  have hneT : gN ≠ gT := by omega
  refine ⟨((h.top.ext hb).set i _).congr fun x hxR => ?_, fun x hx1 => ?_, fun x hx1 => ?_, fun x y hx1 hy1 he => ?_, fun x hx1 => ?_, h.lowT⟩
  · by_cases e : x = i
    · subst e; simp
    · by_cases e2 : x < i
      · have : x < i + 1 := by omega
        simp [e, e2, this]
      · have : ¬ x < i + 1 := by omega
        simp [e, e2, this]
  · by_cases e : x = i
    · subst e
      simp only [if_true]
      refine VB.far ?_ (p := ⟨gT, x, none⟩) hneT _
      unfold VB
      rw [← rep_range]; exact hN
    · simp only [if_neg e]
      exact ((h.row x (by omega)).ext hb).far (p := ⟨gT, i, none⟩) (h.ne x (by omega)) _
  · by_cases e : x = i
    · simp only [if_pos e]; exact hneT
    · simp only [if_neg e]; exact h.ne x (by omega)
  · by_cases e : x = i <;> by_cases e2 : y = i
    · omega
    · simp only [if_pos e, if_neg e2] at he
      have := hx y (by omega); omega
    · simp only [if_neg e, if_pos e2] at he
      have := hx x (by omega); omega
    · simp only [if_neg e, if_neg e2] at he
      exact h.inj x y (by omega) (by omega) he
  · by_cases e : x = i
    · simp only [if_pos e]; omega
    · simp only [if_neg e]; exact h.low x (by omega)
theorem MadeTo.rows {w : World} {TS T base gT R : Nat} {g : Nat → Nat} (h : MadeTo w TS T base gT g R R) : KRowsAt w TS T gT g R R (fun _ => R) (fun _ _ => 0) :=
  ⟨h.top.congr fun x hx => if_pos hx, h.row, h.ne, h.inj⟩
set_option maxRecDepth 100000 in
set_option maxHeartbeats 3200000 in
theorem implTreesIn_r (nodes : Int) (A : Option Addr) (n c : Nat) (xs : List ArcR) (w : World) (h : ArcsAt w A n xs) (hn0 : n ≤ maxLen) :
    Calls Tryd.prog 18 #[.agg #[.int .i64 nodes, .slice A n c]] w (RetV (.tuple #[.int .i64 (trV nodes xs), .bool (trB nodes xs)]) w) := by
  have HX := Lib.hid h.len
  have hW : Below w.heap.size w (w.alloc (.cells #[.int .i64 nodes, .slice A n c] 31)) := (Below.refl _ _).alloc (Nat.le_refl _) _
  have h3 := h.alloc (.cells #[.int .i64 nodes, .slice A n c] 31)
  have HB := Lib.hid (Blk.new w 31 #[.int .i64 nodes, .slice A n c])
  have hlt0 : w.heap.size < (w.alloc (.cells #[.int .i64 nodes, .slice A n c] 31)).heap.size := by simp
  clear h
  have q0 := HB.out.cell 0
  have q1 := HB.out.cell 1
  cases hv : validB nodes xs
  · have HS := Lib.hid (show trB nodes xs = false by unfold trB; rw [hv]; rfl)
    go_enter Tryd.func18, Tryd.ntmps18
    go_wp2_with fail
    generalize w.alloc (.cells #[.int .i64 nodes, .slice A n c] 31) = W at *
    refine (implValidNet_r nodes A n c xs _ h3 hn0).mono ?_
    rw [hv]
    rintro e w1 ⟨rfl, e1⟩
    go_wp2_with fail
    go_ret2
    exact ⟨ret_IBt (trV_no HS.out).symm HS.out.symm, below_ext hW hW.size e1⟩
  · obtain ⟨v0, v1, v2, _⟩ := valid_bd hv
    rw [HX.out] at v2
    obtain ⟨N, rfl⟩ := Int.eq_ofNat_of_zero_le (show 0 ≤ nodes by omega)
    have HV := Lib.hid hv
    by_cases hN8 : 8 < N
    · have HS := Lib.hid (show trB N xs = false by unfold trB; rw [hv, decide_eq_false (by omega)]; rfl)
      have d1 : decide ((N : Int) > 8) = true := decide_eq_true (by omega)
      have d2 : (8 : Int) < (N : Int) := by omega
      go_enter Tryd.func18, Tryd.ntmps18
      go_wp2_with fail
      generalize w.alloc (.cells #[.int .i64 N, .slice A n c] 31) = W at *
      refine (implValidNet_r N A n c xs _ h3 hn0).mono ?_
      rw [hv]
      rintro e w1 ⟨rfl, e1⟩
      clear q0 q1
      have q0 := (HB.out.ext e1).cell 0
      go_wp2_with fail
      go_ret2
      exact ⟨ret_IBt (trV_no HS.out).symm HS.out.symm, below_ext hW hW.size e1⟩
    · have HS := Lib.hid (show trB N xs = true by unfold trB; rw [hv, decide_eq_true (by omega)]; rfl)
      obtain ⟨m, hNm⟩ : ∃ m, N = m + 1 := ⟨N - 1, by omega⟩
      have hm1 : 1 ≤ m := by omega
      have hm7 : m ≤ 7 := by omega
      have HIN := Lib.hid (arcs_inT hv)
      have HIM := Lib.hid (arcs_inT hv)
      rw [hNm] at HIM
      have HVV := Lib.hid (show trV N xs = bP (lapB xs) m by unfold trV; rw [if_pos HS.out, Int.toNat_natCast, hNm, Nat.add_sub_cancel])
      have HOK := Lib.hid (lapB_ok HIM.out (by rw [HX.out]; exact v2))
      rw [HX.out] at HIN
      have hvb := Lib.hid ((valid_bd hv).2.2.2)
      rw [HX.out] at hvb
      have HLB := Lib.hid (show lapB xs = lapK xs n from by funext i j; show lapK xs xs.length _ _ = _; rw [HX.out])
      have d1 : decide ((N : Int) > 8) = false := decide_eq_false (by omega)
      have d2 : ¬ (8 : Int) < (N : Int) := by omega
      have hN8' : N ≤ 8 := by omega
      have hsub : (N : Int) - 1 = (m : Int) := by omega
      have hmN : m < N := by omega
      have HNm := Lib.hid hNm
      clear hNm
      go_enter Tryd.func18, Tryd.ntmps18
      go_wp2_with fail
      generalize w.alloc (.cells #[.int .i64 N, .slice A n c] 31) = W at *
      refine (implValidNet_r N A n c xs _ h3 hn0).mono ?_
      rw [hv]
      rintro e w1 ⟨rfl, e1⟩
      clear q0 q1 hv
      have K1 := Lib.hid (HB.out.ext e1)
      have q0 := K1.out.cell 0
      have h4 := h3.below e1
      have hle1 := e1.size
      have hszv : w.heap.size ≤ w1.heap.size := Nat.le_trans hW.size hle1
      go_wp2_with (at_make; refine wp_make_valsW _ rfl _ _ 71 rfl (.slice none 0 0) 24 rfl (by omega) 26 Tryd.underlying71 infoSL .i64 .i64 _ _ N rfl rfl rfl rfl (by omega) ?_; intro w2 gT oT b2; have p0 := (K1.out.ext b2).cell 0; have p1 := (K1.out.ext b2).cell 1)
      have hTlo : w1.heap.size ≤ gT := (OwnC.lt oT rfl).1
      have HM0 := Lib.hid (show MadeTo w2 26 2 w1.heap.size gT (fun _ => 0) N 0 from ⟨by
        have := OwnC.vb oT
        rw [rep_range] at this
        exact this, fun x hx => absurd hx (Nat.not_lt_zero _), fun x hx => absurd hx (Nat.not_lt_zero _), fun x y hx => absurd hx (Nat.not_lt_zero _), fun x hx => absurd hx (Nat.not_lt_zero _), hTlo⟩)
      have K2 := Lib.hid (K1.out.ext b2)
      have hW1 : w.heap.size < w1.heap.size := Nat.lt_of_lt_of_le hlt0 hle1
      have HW2 := Lib.hid b2
      clear oT q0 p0 p1 b2
      go_wp2_with fail
      go_loopg [5, 22] N (fun r _ iv wr => ∃ (i : Nat) (g : Nat → Nat), r = N - i ∧ i ≤ N ∧ iv = .int .i64 (i : Int) ∧ Hid (MadeTo wr 26 2 w1.heap.size gT g N i) ∧ Below w1.heap.size w1 wr)
      case atStart => exact ⟨0, _, rfl, Nat.zero_le _, rfl, HM0, HW2.out⟩
      case round =>
        clear HM0
        obtain ⟨i, g, hr, hi, rfl, HM, hbl⟩ := hrel
        have HR := Lib.hid hr
        clear hr
        obtain ⟨wo, rfl⟩ : ∃ wo : World, wo = wr := ⟨_, rfl⟩
        have K3 := Lib.hid (K1.out.ext hbl)
        have p0 := K3.out.cell 0
        have p1 := K3.out.cell 1
        by_cases hiN : i < N
        · have hii : (i : Int) < (N : Int) := Int.ofNat_lt.2 hiN
          go_wp2_with (at_make; refine wp_make_ints _ rfl _ _ 26 rfl 2 Tryd.underlying26 info64 .i64 .i64 _ _ N rfl rfl rfl rfl (by omega) ?_; intro w5 gN oN bN; have t1 := (HM.out.top.ext bN).cell hiN; have t2 := (HM.out.top.ext bN).free i; rw [if_neg (Nat.lt_irrefl i)] at t1)
          have HN := Lib.hid (HM.out.next bN (by
            have h9 := OwnC.vb (show OwnC 2 wo.heap.size 1 w5 (some ⟨gN, 0, none⟩) N N ((List.replicate N (0 : Int)).map (Value.int .i64)) from oN)
            rw [List.map_replicate] at h9
            exact h9) (OwnI.lt oN rfl).1 hbl.size)
          have hb9 := (hbl.trans (bN.mono hbl.size)).setCell (p := ⟨gT, i, none⟩) hTlo (.slice (some ⟨gN, 0, none⟩) N N)
          go_roundg (N - (i + 1))
          case measure => rw [HR.out]; exact Nat.sub_lt_sub_left hiN (Nat.lt_succ_self i)
          case rel => exact ⟨i + 1, _, rfl, hiN, by first | rfl | go_num, HN, hb9⟩
        · obtain rfl : N = i := Nat.le_antisymm (Nat.le_of_not_lt hiN) hi
          have HRW := Lib.hid (HM.out.rows)
          have HLOW := Lib.hid HM.out.low
          have HBL := Lib.hid hbl
          clear hbl HM
          go_wp2_with fail
          go_loopg [7, 35] n (fun r _ iv wr => ∃ k : Nat, r = n - k ∧ k ≤ n ∧ iv = .int .i64 (k : Int) ∧ Hid (KRowsAt wr 26 2 gT g N N (fun _ => N) (lapK xs k)) ∧ Below w1.heap.size w1 wr)
          case atStart => exact ⟨0, rfl, Nat.zero_le _, rfl, HRW, HBL.out⟩
          case round =>
            clear HRW
            obtain ⟨k, hr, hk, rfl, HRW, hbl⟩ := hrel
            have HR := Lib.hid hr
            clear hr p0 p1
            obtain ⟨wo, rfl⟩ : ∃ wo : World, wo = wr := ⟨_, rfl⟩
            have K3 := Lib.hid (K1.out.ext hbl)
            have p0 := K3.out.cell 0
            have p1 := K3.out.cell 1
            by_cases hkn : k < n
            · skip
              --FAST{
              obtain ⟨ad, rfl, had, k0, k1, k2, k3⟩ := (h4.below hbl).at_ hkn
              obtain ⟨f1, f2, f3⟩ := HIN.out k hkn
              obtain ⟨⟨a0, _⟩, ⟨b0, _⟩, _⟩ := hvb.out k hkn
              have HFR := Lib.hid (show (xs.getD k default).fr = ((frN xs k : Nat) : Int) from by unfold frN; omega)
              have HTO := Lib.hid (show (xs.getD k default).to_ = ((toN xs k : Nat) : Int) from by unfold toN; omega)
              have HBD := Lib.hid (fun i j => show -48 ≤ lapK xs k i j ∧ lapK xs k i j ≤ 48 from by have := lapK_bd xs k i j; omega)
              have HSTEP := Lib.hid (fun a b => lapB_step (xs := xs) (k := k) rfl rfl f3 a b)
              generalize xs.getD k default = x at *
              obtain ⟨af, at_, ar, aq⟩ := x
              replace HFR := Lib.hid (show af = ((frN xs k : Nat) : Int) from HFR.out)
              replace HTO := Lib.hid (show at_ = ((toN xs k : Nat) : Int) from HTO.out)
              replace k0 : wo.cell? _ = some (.int .i64 af) := k0
              replace k1 : wo.cell? _ = some (.int .i64 at_) := k1
              replace k2 : wo.cell? _ = some (.int .i64 ar) := k2
              replace k3 : wo.cell? _ = some (.int .i64 aq) := k3
              rw [HFR.out] at k0
              rw [HTO.out] at k1
              generalize frN xs k = f at *
              generalize toN xs k = t at *
              clear a0 b0
              have HKA := Lib.hid (Blk.new wo 42 #[.int .i64 (f : Int), .int .i64 (t : Int), .int .i64 ar, .int .i64 aq])
              have HR1 := Lib.hid (HRW.out.alloc (.cells #[.int .i64 (f : Int), .int .i64 (t : Int), .int .i64 ar, .int .i64 aq] 42))
              have HB1 := Lib.hid (hbl.alloc hbl.size (.cells #[.int .i64 (f : Int), .int .i64 (t : Int), .int .i64 ar, .int .i64 aq] 42))
              have HGF := Lib.hid (show wo.heap.size ≠ g f from fun e => Nat.lt_irrefl _ (e ▸ (HRW.out.row f f1).lt))
              have HGT := Lib.hid (show wo.heap.size ≠ g t from fun e => Nat.lt_irrefl _ (e ▸ (HRW.out.row t f2).lt))
              have HLF := Lib.hid (HLOW.out f f1)
              have HLT := Lib.hid (HLOW.out t f2)
              have hft : (f : Int) < (N : Int) := Int.ofNat_lt.2 f1
              have htt : (t : Int) < (N : Int) := Int.ofNat_lt.2 f2
              have hkk : (k : Int) < (n : Int) := Int.ofNat_lt.2 hkn
              have hne2 : t ≠ f := fun e => f3 e.symm
              have s0 := HKA.out.cell 0
              have s1 := HKA.out.cell 1
              clear HRW hbl
              go_upto_region 12 with (fail)
              clear k0 k1 k2 k3
              generalize wo.alloc (.cells #[.int .i64 (f : Int), .int .i64 (t : Int), .int .i64 ar, .int .i64 aq] 42) = W2 at *
              generalize wo.heap.size = gA at *
              obtain ⟨y1, y2⟩ := HBD.out f f
              obtain ⟨y3, y4⟩ := HBD.out t t
              obtain ⟨y5, y6⟩ := HBD.out f t
              obtain ⟨y7, y8⟩ := HBD.out t f
              clear s0 s1
              have t1 := HR1.out.line f1
              have c1 := HR1.out.cell f1 f1
              skip
              have g1 := HR1.out.free f1 f
              have s0 := HKA.out.cell 0
              have s1 := HKA.out.cell 1
              have HR2 := Lib.hid ((HR1.out.set f1 f (lapK xs k f f + 1)).drew)
              have HK2 := Lib.hid ((HKA.out.far (p := ⟨g f, f, none⟩) (HGF.out) (.int .i64 (lapK xs k f f + 1))).drew)
              have HB2 := Lib.hid ((HB1.out.setCell (p := ⟨g f, f, none⟩) (HLF.out) (.int .i64 (lapK xs k f f + 1))).drew)
              refine wp_region_still_tail 10 (by kernel_rfl) (by kernel_rfl) ?_
              change wpStill _ _ W2.drew (fun a' => wpList _ _ _ _ a' W2.drew) _ _
              simp only [List.take_succ_cons, List.take_zero, List.drop_succ_cons, List.drop_zero]
              repeat still_step
              refine wpStill_nil ?_
              go_upto_region 13 with (fail)
              clear t1 c1 g1 s0 s1 HR1 HKA HB1
              generalize (W2.setCell ⟨g f, f, none⟩ (.int .i64 (lapK xs k f f + 1))).drew = W3 at *
              have t1 := HR2.out.line f2
              have c1 := HR2.out.cell f2 f2
              rw [setF_ne (.inl hne2)] at c1
              have g1 := HR2.out.free f2 t
              have s0 := HK2.out.cell 0
              have s1 := HK2.out.cell 1
              have HR3 := Lib.hid ((HR2.out.set f2 t (lapK xs k t t + 1)).drew)
              have HK3 := Lib.hid ((HK2.out.far (p := ⟨g t, t, none⟩) (HGT.out) (.int .i64 (lapK xs k t t + 1))).drew)
              have HB3 := Lib.hid ((HB2.out.setCell (p := ⟨g t, t, none⟩) (HLT.out) (.int .i64 (lapK xs k t t + 1))).drew)
              refine wp_region_still_tail 10 (by kernel_rfl) (by kernel_rfl) ?_
              change wpStill _ _ W3.drew (fun a' => wpList _ _ _ _ a' W3.drew) _ _
              simp only [List.take_succ_cons, List.take_zero, List.drop_succ_cons, List.drop_zero]
              repeat still_step
              refine wpStill_nil ?_
              go_upto_region 14 with (fail)
              clear t1 c1 g1 s0 s1 HR2 HK2 HB2
              generalize (W3.setCell ⟨g t, t, none⟩ (.int .i64 (lapK xs k t t + 1))).drew = W4 at *
              have t1 := HR3.out.line f1
              have c1 := HR3.out.cell f1 f2
              rw [setF_ne (.inl f3), setF_ne (.inr hne2)] at c1
              have g1 := HR3.out.free f1 t
              have s0 := HK3.out.cell 0
              have s1 := HK3.out.cell 1
              have HR4 := Lib.hid ((HR3.out.set f1 t (lapK xs k f t - 1)).drew)
              have HK4 := Lib.hid ((HK3.out.far (p := ⟨g f, t, none⟩) (HGF.out) (.int .i64 (lapK xs k f t - 1))).drew)
              have HB4 := Lib.hid ((HB3.out.setCell (p := ⟨g f, t, none⟩) (HLF.out) (.int .i64 (lapK xs k f t - 1))).drew)
              refine wp_region_still_tail 10 (by kernel_rfl) (by kernel_rfl) ?_
              change wpStill _ _ W4.drew (fun a' => wpList _ _ _ _ a' W4.drew) _ _
              simp only [List.take_succ_cons, List.take_zero, List.drop_succ_cons, List.drop_zero]
              repeat still_step
              refine wpStill_nil ?_
              go_upto_region 15 with (fail)
              clear t1 c1 g1 s0 s1 HR3 HK3 HB3
              generalize (W4.setCell ⟨g f, t, none⟩ (.int .i64 (lapK xs k f t - 1))).drew = W5 at *
              have t1 := HR4.out.line f2
              have c1 := HR4.out.cell f2 f1
              rw [setF_ne (.inl hne2), setF_ne (.inr f3), setF_ne (.inl hne2)] at c1
              have g1 := HR4.out.free f2 f
              have s0 := HK4.out.cell 0
              have s1 := HK4.out.cell 1
              have HR5 := Lib.hid ((HR4.out.set f2 f (lapK xs k t f - 1)).drew)
              have HK5 := Lib.hid ((HK4.out.far (p := ⟨g t, f, none⟩) (HGT.out) (.int .i64 (lapK xs k t f - 1))).drew)
              have HB5 := Lib.hid ((HB4.out.setCell (p := ⟨g t, f, none⟩) (HLT.out) (.int .i64 (lapK xs k t f - 1))).drew)
              refine wp_region_still_tail 10 (by kernel_rfl) (by kernel_rfl) ?_
              change wpStill _ _ W5.drew (fun a' => wpList _ _ _ _ a' W5.drew) _ _
              simp only [List.take_succ_cons, List.take_zero, List.drop_succ_cons, List.drop_zero]
              repeat still_step
              refine wpStill_nil ?_
              have HRE := Lib.hid (KRowsAt.congr HR5.out (fun a b _ _ => HSTEP.out a b))
              go_wp2_with fail
              go_roundg (n - (k + 1))
              case measure => rw [HR.out]; exact Nat.sub_lt_sub_left hkn (Nat.lt_succ_self k)
              case rel => exact ⟨k + 1, rfl, hkn, by first | rfl | go_num, HRE, HB5.out⟩
              --FAST}
            · obtain rfl : n = k := Nat.le_antisymm (Nat.le_of_not_lt hkn) hk
              have HRC := Lib.hid (show KRowsAt wo 26 2 gT g N N (fun x => if x < 0 then m else N) (lapB xs) from by
                rw [HLB.out]
                have e : (fun x : Nat => if x < 0 then m else N) = fun _ => N := funext fun x => if_neg (Nat.not_lt_zero _)
                rw [e]; exact HRW.out)
              have HBL2 := Lib.hid hbl
              have HCUT := Lib.hid (fun i => show (fun x => if x = i then m else (if x < i then m else N)) = (fun x => if x < i + 1 then m else N) from funext fun x => by
                by_cases e : x = i
                · rw [if_pos e, if_pos (by omega)]
                · rw [if_neg e]
                  by_cases e2 : x < i
                  · rw [if_pos e2, if_pos (by omega)]
                  · rw [if_neg e2, if_neg (by omega)])
              generalize lapB xs = l at *
              clear HRW hbl HIM HIN hvb
              go_wp2_with fail
              go_loopg [8, 91] m (fun r _ iv wr => ∃ i : Nat, r = m - i ∧ i ≤ m ∧ iv = .int .i64 (i : Int) ∧ Hid (KRowsAt wr 26 2 gT g N N (fun x => if x < i then m else N) l) ∧ Below w1.heap.size w1 wr)
              case atStart => exact ⟨0, rfl, Nat.zero_le _, rfl, HRC, HBL2.out⟩
              case round =>
                clear HRC p0 p1
                obtain ⟨i, hr, hi, rfl, HRW, hbl⟩ := hrel
                have HRI := Lib.hid hr
                clear hr
                obtain ⟨wp, rfl⟩ : ∃ wp : World, wp = wr := ⟨_, rfl⟩
                by_cases him : i < m
                · have hii : (i : Int) < (m : Int) := Int.ofNat_lt.2 him
                  have hiN : i < N := Nat.lt_trans him hmN
                  have K5 := Lib.hid (K1.out.ext hbl)
                  have p0 := K5.out.cell 0
                  have t1 := HRW.out.line hiN
                  rw [if_neg (Nat.lt_irrefl i)] at t1
                  have t2 := HRW.out.freeT i
                  have HR2 := Lib.hid ((HRW.out.cut (i := i) m).drew)
                  rw [HCUT.out i] at HR2
                  have hb2 := ((hbl.setCell (p := ⟨gT, i, none⟩) hTlo (.slice (some ⟨g i, 0, none⟩) m N)).drew)
                  have hmI : (m : Int) < (N : Int) := Int.ofNat_lt.2 hmN
                  have hwm : IntKind.i64.wrap (m : Int) = (m : Int) := IntWalk.i64_in _ (by omega)
                  have hwm2 : (m : Int) ≤ (N : Int) := Int.ofNat_le.2 (Nat.le_of_lt hmN)
                  go_upto_region 21 with (fail)
                  refine wp_region_still_tail 10 (by kernel_rfl) (by kernel_rfl) ?_
                  change wpStill _ _ wp.drew (fun a' => wpList _ _ _ _ a' wp.drew) _ _
                  simp only [List.take_succ_cons, List.take_zero, List.drop_succ_cons, List.drop_zero]
                  repeat still_step
                  refine wpStill_nil ?_
                  go_wp2_with fail
                  go_roundg (m - (i + 1))
                  case measure => rw [HRI.out]; exact Nat.sub_lt_sub_left him (Nat.lt_succ_self i)
                  case rel => exact ⟨i + 1, rfl, him, by first | rfl | go_num, HR2, hb2⟩
                · obtain rfl : m = i := Nat.le_antisymm (Nat.le_of_not_lt him) hi
                  go_wp2_with fail
                  refine (determinant_any gT N N N m g _ l wp HRW.out (Nat.le_of_lt hmN) (Nat.le_of_lt hmN) (fun i hi => if_pos hi) hm7 hm1 HOK.out).mono ?_
                  rintro e w9 ⟨rfl, u9⟩
                  have hb9 := hbl.trans (u9.toBelow hbl.size (fun b hb ⟨i, hi, e⟩ => by have := HLOW.out i hi; omega))
                  clear hbl u9
                  go_wp2_with fail
                  go_ret2
                  exact ⟨ret_IBt HVV.out.symm HS.out.symm, below_ext hW hW.size (ext_trans e1 hb9)⟩
end Go.Proofs.YtigaopfhjimpmaaDoor
