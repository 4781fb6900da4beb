/- CutTree of the program: the walk. -/
import Derived.Test.YtpaahjeohigngaaJ5
import Derived.Test.YtpaahjeohigngaaZCutOf
import Derived.Test.YtpaahjeohigngaaJ2
namespace Go.Proofs.Ytpaahjeohigngaa
open Go.RowKit

/-- the rounds keep the flow in its rooms -/
theorem greatRun_flow {xs : List ArcR} {N F t n : Nat} (hv : validB N xs = true) (hn : xs.length = n) (hF : F < N) (ht : t < N) (hne : t ≠ F) : ∀ (k : Nat) (fl : List Int) (a : Int), FlowIn xs fl n → FlowIn xs (greatRun xs n N F t k fl a).1 n
  | 0, fl, a, h => h
  | k + 1, fl, a, h => by
    by_cases hby : (reachL (linksTo xs fl n) N F).getD t 0 = -2
    · rw [great_end hby]; exact h
    · obtain ⟨ws, w1, _, _, w4, w5⟩ := aug_ok (nodes := (N : Int)) rfl hv hn h hF ht hne hby
      rw [great_step hby w1]
      have h0 : 0 ≤ amtOf ws 100000000 := amtOf_ge ws _ (by omega) (fun l hl => by have := (w4 l hl).1; omega)
      exact greatRun_flow hv hn hF ht hne k _ _ (w5 _ h0 (amtOf_le ws _).2).2.1
theorem greatL_flow {xs : List ArcR} {N F t n : Nat} (hv : validB N xs = true) (hn : xs.length = n) (hF : F < N) (ht : t < N) (hne : t ≠ F) : FlowIn xs (greatL xs N F t).1 n := by
  subst hn
  obtain ⟨_, _, _, hb⟩ := valid_bd hv
  exact greatRun_flow hv rfl hF ht hne _ _ _ (flow_zero fun k hk => (hb k hk).2.2.2.1.1)
theorem zerosT_rep (N : Nat) : (madeCells (Value.int .i64 0).cells (N * 1)).toList = (List.replicate N (0 : Int)).map (Value.int .i64) := by
  show (madeCells #[Value.int .i64 0] (N * 1)).toList = _
  rw [toList_madeCells_one]; simp
theorem both_step {xs : List ArcR} {n k : Nat} {x : ArcR} (hl : xs.length = n) (hk : k < n) (hx : xs.getD k default = x) : arcsV (bothL (xs.take (k + 1))) = arcsV (bothL (xs.take k)) ++ [.int .i64 x.fr, .int .i64 x.to_, .int .i64 x.room, .int .i64 x.cost, .int .i64 x.to_, .int .i64 x.fr, .int .i64 x.room, .int .i64 x.cost] := by
  rw [bothL_take hl hk, hx]
  unfold arcsV
  rw [List.flatMap_append]
  rfl
theorem par_step {par by_ : List Int} {i j : Nat} {p : Int} (h1 : (parTo par by_ i p j).getD (i + 1 + j) 0 = p) (h2 : by_.getD (i + 1 + j) 0 ≠ -2) : parTo par by_ i p (j + 1) = (parTo par by_ i p j).set (i + 1 + j) i := by rw [parTo, if_pos ⟨h1, h2⟩]
theorem par_no1 {par by_ : List Int} {i j : Nat} {p : Int} (h1 : (parTo par by_ i p j).getD (i + 1 + j) 0 ≠ p) : parTo par by_ i p (j + 1) = parTo par by_ i p j := by rw [parTo, if_neg (fun h => h1 h.1)]
theorem par_no2 {par by_ : List Int} {i j : Nat} {p : Int} (h2 : by_.getD (i + 1 + j) 0 = -2) : parTo par by_ i p (j + 1) = parTo par by_ i p j := by rw [parTo, if_neg (fun h => h.2 h2)]

theorem parK_yes {par by_ : List Int} {i k : Nat} {p : Int} (hk : i + 1 ≤ k) (h1 : (parTo par by_ i p (k - (i + 1))).getD k 0 = p) (h2 : by_.getD k 0 ≠ -2) : parTo par by_ i p (k + 1 - (i + 1)) = (parTo par by_ i p (k - (i + 1))).set k i := by
  obtain ⟨j, rfl⟩ : ∃ j, k = i + 1 + j := ⟨k - (i + 1), by omega⟩
  rw [show i + 1 + j + 1 - (i + 1) = j + 1 by omega]
  rw [show i + 1 + j - (i + 1) = j by omega] at h1 ⊢
  exact par_step h1 h2
theorem parK_no1 {par by_ : List Int} {i k : Nat} {p : Int} (hk : i + 1 ≤ k) (h1 : (parTo par by_ i p (k - (i + 1))).getD k 0 ≠ p) : parTo par by_ i p (k + 1 - (i + 1)) = parTo par by_ i p (k - (i + 1)) := by
  obtain ⟨j, rfl⟩ : ∃ j, k = i + 1 + j := ⟨k - (i + 1), by omega⟩
  rw [show i + 1 + j + 1 - (i + 1) = j + 1 by omega]
  rw [show i + 1 + j - (i + 1) = j by omega] at h1 ⊢
  exact par_no1 h1
theorem parK_no2 {par by_ : List Int} {i k : Nat} {p : Int} (hk : i + 1 ≤ k) (h2 : by_.getD k 0 = -2) : parTo par by_ i p (k + 1 - (i + 1)) = parTo par by_ i p (k - (i + 1)) := by
  obtain ⟨j, rfl⟩ : ∃ j, k = i + 1 + j := ⟨k - (i + 1), by omega⟩
  rw [show i + 1 + j + 1 - (i + 1) = j + 1 by omega]
  rw [show i + 1 + j - (i + 1) = j by omega]
  exact par_no2 h2
theorem tree_step {xs2 : List ArcR} {N i : Nat} {P : Nat} (h1 : 1 ≤ i) (hP : (treeTo xs2 N (i - 1)).1.getD i 0 = (P : Int)) : treeTo xs2 N (i + 1 - 1) = (parTo (treeTo xs2 N (i - 1)).1 (reachL (linksTo xs2 (greatL xs2 N i P).1 xs2.length) N i) i P (N - (i + 1)), (treeTo xs2 N (i - 1)).2.set i (greatL xs2 N i P).2) := by
  obtain ⟨j, rfl⟩ : ∃ j, i = j + 1 := ⟨i - 1, by omega⟩
  rw [show j + 1 - 1 = j from rfl] at hP ⊢
  rw [show j + 1 + 1 - 1 = j + 1 from rfl, treeTo]
  unfold treeBy
  rw [hP, Int.toNat_natCast, show N - 1 - (j + 1) = N - (j + 1 + 1) by omega]

set_option maxRecDepth 100000 in
set_option maxHeartbeats 6400000 in
theorem implCutTree_r (nodes : Int) (A : Option Addr) (n c : Nat) (xs : List ArcR) (w : World) (h : ArcsAt w A n xs) (hn0 : n ≤ maxLen) :
    Calls Try.prog 16 #[.agg #[.int .i64 nodes, .slice A n c]] w (RetLLB 2 (treeV nodes xs).1 (treeV nodes xs).2 (treeB nodes xs) w) := by
  have HX := Lib.hid h.len
  have hW : Below w.heap.size w (w.alloc (.cells #[.int .i64 nodes, .slice A n c] 26)) := (Below.refl _ _).alloc (Nat.le_refl _) _
  have h3 := h.alloc (.cells #[.int .i64 nodes, .slice A n c] 26)
  have HB := Lib.hid (Blk.new w 26 #[.int .i64 nodes, .slice A n c])
  have hlt0 : w.heap.size < (w.alloc (.cells #[.int .i64 nodes, .slice A n c] 26)).heap.size := by simp
  clear h
  cases hv : validB nodes xs
  · have HS := Lib.hid (show treeB nodes xs = false by simp [treeB, hv])
    have HV := Lib.hid (treeV_no HS.out)
    go_enter Try.func16, Try.ntmps16
    go_wp2_with fail
    generalize w.alloc (.cells #[.int .i64 nodes, .slice A n c] 26) = W at *
    refine (implValidNet_r nodes A n c xs _ h3 hn0).mono ?_
    rw [hv]
    rintro e w1 ⟨rfl, e1⟩
    go_wp2_with fail
    go_ret3
    exact ⟨none, 0, 0, none, 0, 0, ret_LLB HS.out.symm, by rw [HV.out]; exact OwnI.nil_ _ _ _, by rw [HV.out]; exact OwnI.nil_ _ _ _, sep_none, below_ext hW hW.size e1⟩
  · obtain ⟨v0, v1, v2, _⟩ := valid_bd hv
    rw [HX.out] at v2
    by_cases hn24 : n ≤ 24
    · have HS := Lib.hid (show treeB nodes xs = true by simp [treeB, hv, HX.out, hn24])
      have hvv := treeV_yes HS.out
      obtain ⟨N, rfl⟩ := Int.eq_ofNat_of_zero_le (show 0 ≤ nodes by omega)
      rw [Int.toNat_natCast] at hvv
      have HV := Lib.hid hvv
      have HV2 := Lib.hid (both_valid hv (by rw [HX.out]; exact hn24))
      have HX2 := Lib.hid (show (bothL xs).length = 2 * n by rw [bothL_len, HX.out])
      go_enter Try.func16, Try.ntmps16
      go_wp2_with fail
      generalize w.alloc (.cells #[.int .i64 N, .slice A n c] 26) = W at *
      refine (implValidNet_r N A n c xs _ h3 hn0).mono ?_
      rw [hv]
      rintro e w1 ⟨rfl, e1⟩
      clear hv hvv
      have q0 := (HB.out.ext e1).cell 0
      have q1 := (HB.out.ext e1).cell 1
      have kb := Blk.new w1 26 #[.int .i64 N, .slice none 0 0]
      have hd := e1.alloc e1.size (.cells #[.int .i64 N, .slice none 0 0] 26)
      have q2 := (HB.out.ext hd).cell 0
      have q3 := (HB.out.ext hd).cell 1
      have hgt : ¬ (n : Int) > 24 := by omega
      have hlt1 : w1.heap.size < (w1.alloc (.cells #[.int .i64 N, .slice none 0 0] 26)).heap.size := by simp
      have hle1 := e1.size
      go_wp2_with fail
      generalize w1.alloc (.cells #[.int .i64 N, .slice none 0 0] 26) = W1 at *
      clear q0 q1 q2 q3 e1
      go_loopg [31] n (fun r iv wr => ∃ (k : Nat) (L : Option Addr) (q : Nat), r = n - k ∧ k ≤ n ∧ iv = .int .i64 k ∧ Blk wr w1.heap.size 26 #[.int .i64 N, .slice L (2 * k) q] ∧ OwnA 34 W1.heap.size wr L (2 * k) q (bothL (xs.take k)) ∧ Below W.heap.size W wr ∧ W1.heap.size ≤ wr.heap.size)
      case atStart => exact ⟨0, none, 0, rfl, by omega, rfl, kb, OwnC.nil_ _ _ _ _, hd, Nat.le_refl _⟩
      case round =>
        clear kb hd
        obtain ⟨k, L, q, hr, hk, rfl, kb, ol, hbw, hsz1⟩ := hrel
        have HR := Lib.hid hr
        clear hr
        by_cases hlt : k < n
        · obtain ⟨ad, rfl, had, c0, c1, c2, c3⟩ := (h3.below hbw).at_ hlt
          have HST := Lib.hid (both_step HX.out hlt rfl)
          generalize xs.getD k default = x at *
          obtain ⟨af, at_, ar, aq⟩ := x
          have ka := Blk.new wr 34 #[.int .i64 af, .int .i64 at_, .int .i64 ar, .int .i64 aq]
          have hd2 := hbw.alloc hbw.size (.cells #[.int .i64 af, .int .i64 at_, .int .i64 ar, .int .i64 aq] 34)
          have ol2 := OwnC.alloc ol (.cells #[.int .i64 af, .int .i64 at_, .int .i64 ar, .int .i64 aq] 34)
          have kb2 := kb.alloc (.cells #[.int .i64 af, .int .i64 at_, .int .i64 ar, .int .i64 aq] 34)
          have hsz2 : W1.heap.size ≤ (wr.alloc (.cells #[.int .i64 af, .int .i64 at_, .int .i64 ar, .int .i64 aq] 34)).heap.size := Nat.le_trans hsz1 (by simp)
          have s0 := ka.cell 0
          have s1 := ka.cell 1
          have s2 := ka.cell 2
          have s3 := ka.cell 3
          have q1 := kb2.cell 1
          have hszk := ka.lt
          clear ka hbw ol kb
          go_upto_region 7 with (fail)
          generalize wr.alloc (.cells #[.int .i64 af, .int .i64 at_, .int .i64 ar, .int .i64 aq] 34) = W2 at *
          have kb3 := kb2.alloc (.cells #[.int .i64 af, .int .i64 at_, .int .i64 ar, .int .i64 aq, .int .i64 at_, .int .i64 af, .int .i64 ar, .int .i64 aq] 34)
          have hd3 := hd2.alloc hd2.size (.cells #[.int .i64 af, .int .i64 at_, .int .i64 ar, .int .i64 aq, .int .i64 at_, .int .i64 af, .int .i64 ar, .int .i64 aq] 34)
          have hszz : W1.heap.size ≤ (W2.alloc (.cells #[.int .i64 af, .int .i64 at_, .int .i64 ar, .int .i64 aq, .int .i64 at_, .int .i64 af, .int .i64 ar, .int .i64 aq] 34)).heap.size := Nat.le_trans hsz2 (by simp)
          have HKB := Lib.hid (fun (w6 : World) (b6 : Below W1.heap.size (W2.alloc (.cells #[.int .i64 af, .int .i64 at_, .int .i64 ar, .int .i64 aq, .int .i64 at_, .int .i64 af, .int .i64 ar, .int .i64 aq] 34)) w6) => kb3.below b6 hlt1)
          have HSP := Lib.hid (fun (w6 : World) (A5 : Option Addr) (n5 c5 : Nat) (vs : List Value) (o6 : OwnC 34 W1.heap.size 4 w6 A5 n5 c5 vs) (v : Value) => OwnC.far o6 (p := ⟨w1.heap.size, 1, none⟩) (fun ad ha => by have := (OwnC.lt o6 ha).1; show ad.block ≠ w1.heap.size; omega) v)
          clear kb3
          go_wp2_with (at_builtin; go_must (refine wp_append_cells _ rfl _ _ _ rfl 34 W1.heap.size Try.underlying24 _ 4 32 info4 rfl (by decide) (by decide) (by decide) L (2 * k) q _ rfl (OwnC.alloc ol2 _) _ 2 2 [.int .i64 af, .int .i64 at_, .int .i64 ar, .int .i64 aq, .int .i64 at_, .int .i64 af, .int .i64 ar, .int .i64 aq] rfl rfl (src_one (w := W2) (T := 34) (cs := #[.int .i64 af, .int .i64 at_, .int .i64 ar, .int .i64 aq, .int .i64 at_, .int .i64 af, .int .i64 ar, .int .i64 aq]) 2 (by decide)) (by simp [Value.oneCell']) (by omega) hszz ?_; intro A5 c5 w6 o6 u6 b6 hg6; have kb6 := HKB.out w6 b6; have f6 := kb6.free 1; have r6 := kb6.cell 1))
          have o7 : OwnA 34 W1.heap.size (w6.setCell ⟨w1.heap.size, 1, none⟩ (.slice A5 (2 * (k + 1)) c5)) A5 (2 * (k + 1)) c5 (bothL (xs.take (k + 1))) := by
            unfold OwnA
            rw [HST.out]
            exact HSP.out _ _ _ _ _ o6 _
          have kb7 := kb6.set 1 (.slice A5 (2 * (k + 1)) c5)
          have hd7 := (hd3.trans (b6.mono (by have := hd2.size; omega))).setCell (p := ⟨w1.heap.size, 1, none⟩) hle1 (.slice A5 (2 * (k + 1)) c5)
          have hsz7 : W1.heap.size ≤ (w6.setCell ⟨w1.heap.size, 1, none⟩ (.slice A5 (2 * (k + 1)) c5)).heap.size := by have := b6.size; simp; omega
          go_roundg (n - (k + 1))
          case measure => rw [HR.out]; omega
          case rel => exact ⟨k + 1, A5, c5, rfl, by omega, by go_num, kb7, o7, hd7, hsz7⟩
        · have e : k = n := by omega
          subst e
          have hn48 : 2 * k ≤ 48 := by omega
          rw [List.take_of_length_le (by rw [HX.out]; exact Nat.le_refl _)] at ol
          generalize bothL xs = xs2 at *
          generalize 2 * k = n2 at *
          obtain ⟨l0, hl0, hy0, hy1, hy2⟩ := info_parts info64
          have hmk1 := fun (w : World) => run_make (P := Try.prog) w 29 2 l0 _ Try.underlying29 hl0 hy0 .i64 .i64 (N : Int) (N : Int) (by omega) (Int.le_refl _) (by rw [hy2]; omega) (by omega)
          simp only [Int.toNat_natCast, hy1] at hmk1
          have HZ1 := Lib.hid (zerosT_rep N)
          generalize madeCells (Value.int .i64 0).cells (N * 1) = M1 at *
          have hbx : Blk wr w.heap.size 26 #[.int .i64 N, .slice A k c] := HB.out.below hbw hlt0
          have q0 := hbx.cell 0
          have pa := (hbx.alloc (.cells M1 2)).cell 0
          have HBX := Lib.hid hbx
          have hszr := hbw.size
          clear hbx
          go_wp2_with fail
          go_cut [8, 9] (fun s8 s9 wx => ∃ (g1 g2 : Nat), s8 = .slice (some ⟨g1, 0, none⟩) N N ∧ s9 = .slice (some ⟨g2, 0, none⟩) N N ∧ OwnI 2 wr.heap.size wx (some ⟨g1, 0, none⟩) N N (List.replicate N 0) ∧ OwnI 2 wr.heap.size wx (some ⟨g2, 0, none⟩) N N (List.replicate N 0) ∧ g1 ≠ g2 ∧ Below wr.heap.size wr wx)
          case first =>
            have z1 := HZ1.out
            have hx : M1.size = N * 1 := by have := congrArg List.length z1; simpa using this
            have HO := Lib.hid (fun (W' : World) => (show OwnI 2 W'.heap.size (W'.alloc (.cells M1 2)) (some ⟨W'.heap.size, 0, none⟩) N N (List.replicate N 0) from by
              have h := World.ownsRow_lit (e := 2) (base := W'.heap.size) (size := 1) W' M1 N (Nat.le_refl _) (by unfold maxLen; omega) hx
              rw [z1] at h
              exact h))
            have HO2 := Lib.hid (show OwnI 2 wr.heap.size ((wr.alloc (.cells M1 2)).alloc (.cells M1 2)) (some ⟨wr.heap.size + 1, 0, none⟩) N N (List.replicate N 0) from by
              have h := HO.out (wr.alloc (.cells M1 2))
              rw [World.size_alloc] at h
              exact OwnI.low h (by omega))
            clear z1 hx
            go_region
            all_goals
              go_wp2_with fail
              go_meet
              first
                | exact ⟨wr.heap.size, wr.heap.size + 1, rfl, rfl, OwnI.drew (OwnI.alloc (HO.out wr) _), OwnI.drew HO2.out, by omega, (((Below.refl _ _).alloc (Nat.le_refl _) _).alloc (by simp) _).drew⟩
                | exact ⟨wr.heap.size + 1, wr.heap.size, rfl, rfl, OwnI.drew HO2.out, OwnI.drew (OwnI.alloc (HO.out wr) _), by omega, (((Below.refl _ _).alloc (Nat.le_refl _) _).alloc (by simp) _).drew⟩
          case rest =>
            obtain ⟨g1, g2, rfl, rfl, o1, o2, hg12, hbx⟩ := hcut
            have kb4 := kb.ext hbx
            have ol4 := OwnC.below ol hbx
            clear q0 pa hmk1 HZ1 kb
            have HLsep := Lib.hid (fun (g : Nat) (hg : wr.heap.size ≤ g) (ad : Addr) (ha : L = some ad) => (show ad.block ≠ g from by have := (OwnC.lt ol ha).2; omega))
            have hszr' := hbx.size
            have KX := Lib.hid (HBX.out.ext hbx)
            have KB := Lib.hid kb4
            have OL := Lib.hid ol4
            have hw2 := hbw.trans (hbx.mono hszr)
            have hW2 := Nat.le_trans hszr hbx.size
            have hgb := kb4.lt
            have hg1' := (OwnI.lt o1 rfl).1
            have hg2' := (OwnI.lt o2 rfl).1
            have hg1b : w1.heap.size < g1 := Nat.lt_of_lt_of_le hlt1 (Nat.le_trans hsz1 hg1')
            have hg2b : w1.heap.size < g2 := Nat.lt_of_lt_of_le hlt1 (Nat.le_trans hsz1 hg2')
            have hlo0 : w.heap.size ≤ wr.heap.size := Nat.le_trans hW.size hszr
            clear hg1' hg2' hbx kb4 ol4 hbw HBX h3 ol
            obtain ⟨wm, rfl⟩ : ∃ wm : World, wm = wr := ⟨_, rfl⟩
            obtain ⟨wl, rfl⟩ : ∃ wl : World, wl = wc := ⟨_, rfl⟩
            go_wp2_with fail
            go_loopg [10] (N - 1) (fun r iv wi => ∃ (i : Nat), r = N - i ∧ 1 ≤ i ∧ i ≤ N ∧ iv = .int .i64 i ∧ OwnI 2 wm.heap.size wi (some ⟨g1, 0, none⟩) N N (treeTo xs2 N (i - 1)).1 ∧ OwnI 2 wm.heap.size wi (some ⟨g2, 0, none⟩) N N (treeTo xs2 N (i - 1)).2 ∧ Below wm.heap.size wl wi ∧ wl.heap.size ≤ wi.heap.size ∧ Blk wi w.heap.size 26 #[.int .i64 N, .slice A k c] ∧ Blk wi w1.heap.size 26 #[.int .i64 N, .slice L n2 q] ∧ OwnA 34 W1.heap.size wi L n2 q xs2)
            case atStart => exact ⟨1, rfl, by omega, by omega, rfl, o1, o2, Below.refl _ _, Nat.le_refl _, KX.out, KB.out, OL.out⟩
            case round =>
              clear o1 o2 KX KB OL
              obtain ⟨i, hr, hi1, hiN, rfl, o1, o2, hbw, hszw, kx, kb, ol⟩ := hrel
              have HR := Lib.hid hr
              clear hr
              have q0 := kx.cell 0
              by_cases hlt : i < N
              · obtain ⟨hPO, hWL⟩ := treeTo_ok (xs2 := xs2) (N := N) (i - 1) (by omega)
                obtain ⟨hp0, hp1⟩ := hPO.2 i hi1 hlt
                obtain ⟨P, hP⟩ := Int.eq_ofNat_of_zero_le hp0
                rw [hP] at hp1
                have hPi : P < i := by omega
                have HTS := Lib.hid (tree_step hi1 hP)
                have HPO := Lib.hid (fun by_ j hj => parTo_ok (by_ := by_) (i := i) (p := (P : Int)) hPO j hj)
                have HFI := Lib.hid (greatL_flow HV2.out HX2.out hlt (show P < N by omega) (show P ≠ i by omega))
                have cP := OwnI.cell o1 hlt
                rw [hP] at cP
                have HP := Lib.hid hP
                have HWL := Lib.hid hWL
                rw [HX2.out] at HTS
                clear hP hp0 hp1 hPO hWL
                generalize treeTo xs2 N (i - 1) = T at *
                obtain ⟨par, wts⟩ := T
                have HA := Lib.hid ol.arcs
                have p0 := kb.cell 0
                have p1 := kb.cell 1
                have HKB := Lib.hid kb
                have HO1 := Lib.hid o1
                clear kb o1
                go_wp2_with fail
                go_cut [11, 12] (fun s11 s12 wx => ∃ (gF : Nat), s11 = .slice (some ⟨gF, 0, none⟩) n2 n2 ∧ s12 = .int .i64 (greatL xs2 N i P).2 ∧ OwnI 2 wr.heap.size wx (some ⟨gF, 0, none⟩) n2 n2 (greatL xs2 N i P).1 ∧ Below wr.heap.size wr wx)
                case first =>
                  go_region_held3 (fun w' => w'.cell? ⟨w1.heap.size, 0, none⟩ = some (.int .i64 N) ∧ w'.cell? ⟨w1.heap.size, 1, none⟩ = some (.slice L n2 q) ∧ w'.cell? ⟨g1, i, none⟩ = some (.int .i64 P))
                    (first
                      | exact ⟨p0, p1, cP⟩
                      | exact ⟨p3, p4, p5⟩)
                    (first
                      | (go_at_call 38; refine (netGreat_any N L n2 q xs2 i P _ HA.out.drew HV2.out hlt (by omega) (by omega)).mono ?_; rintro e w8 ⟨gF, rfl, oF, b8⟩; have p3 := (HKB.out.drew.ext b8).cell 0; have p4 := (HKB.out.drew.ext b8).cell 1; have p5 := OwnI.cell (OwnI.below (OwnI.drew HO1.out) b8) hlt; rw [HP.out] at p5; have HOF := Lib.hid oF; have HB8 := Lib.hid b8; clear oF b8))
                  all_goals
                    go_wp2_with fail
                    go_meet
                    exact ⟨gF, rfl, rfl, OwnI.low HOF.out (Nat.le_refl _), ext_trans (Below.drew (Below.refl _ wr)) HB8.out⟩
                case rest =>
                  obtain ⟨gF, rfl, rfl, oF, bF⟩ := hcut
                  have kbF := HKB.out.ext bF
                  have kxF := kx.ext bF
                  have olF := OwnC.below ol bF
                  have o1F := OwnI.below HO1.out bF
                  have o2F := OwnI.below o2 bF
                  have hgF := (OwnI.lt oF rfl).1
                  have hg1r := (OwnI.lt HO1.out rfl).2
                  have hg2r := (OwnI.lt o2 rfl).2
                  have hg1m := (OwnI.lt HO1.out rfl).1
                  have hg2m := (OwnI.lt o2 rfl).1
                  have hgF1 : gF ≠ g1 := by have : wr.heap.size ≤ gF := hgF; have : g1 < wr.heap.size := hg1r; omega
                  have hgF2 : gF ≠ g2 := by have : wr.heap.size ≤ gF := hgF; have : g2 < wr.heap.size := hg2r; omega
                  have hszF : wm.heap.size ≤ wr.heap.size := Nat.le_trans hszr' hszw
                  have HRO := Lib.hid (linksTo_ok (nodes := (N : Int)) (greatL xs2 N i P).1 rfl HV2.out n2 (by rw [HX2.out]; exact Nat.le_refl _))
                  have HBD := Lib.hid (flowIn_bd HX2.out HV2.out HFI.out)
                  have HLL := Lib.hid (linksTo_len xs2 (greatL xs2 N i P).1 n2)
                  clear HFI
                  generalize greatL xs2 N i P = GL at *
                  obtain ⟨fl, amt⟩ := GL
                  have hfr := OwnI.free o2F i
                  have hci := OwnI.cell o2F hlt
                  have bS := (hbw.trans (bF.mono hszF)).setCell (p := ⟨g2, i, none⟩) hg2m (.int .i64 amt)
                  have kbS := kbF.far (p := ⟨g2, i, none⟩) (show w1.heap.size ≠ g2 by omega) (.int .i64 amt)
                  have kxS := kxF.far (p := ⟨g2, i, none⟩) (show w.heap.size ≠ g2 by omega) (.int .i64 amt)
                  have olS := OwnC.far olF (p := ⟨g2, i, none⟩) (HLsep.out g2 hg2m) (.int .i64 amt)
                  have o1S := OwnI.far o1F (p := ⟨g2, i, none⟩) (fun ad ha => by injection ha with ha; subst ha; exact hg12) (.int .i64 amt)
                  have oFS := OwnI.far oF (p := ⟨g2, i, none⟩) (fun ad ha => by injection ha with ha; subst ha; exact hgF2) (.int .i64 amt)
                  have o2S := OwnI.set o2F i amt
                  have HO1F := Lib.hid o1S
                  have HO2F := Lib.hid o2S
                  have HFL := Lib.hid oFS.ints
                  have HAR := Lib.hid (OwnA.arcs olS)
                  have HOL := Lib.hid olS
                  have HKB5 := Lib.hid kbS
                  have HKX5 := Lib.hid kxS
                  have HB5 := Lib.hid bS
                  clear HKB HA HO1 p0 p1 cP q0 kx ol o2 kbF kxF olF o1F o2F oF bF kbS kxS olS o1S o2S oFS bS hbw
                  go_upto_region 15 with (fail)
                  generalize wc.setCell ⟨g2, i, none⟩ (.int .i64 amt) = W5 at *
                  have p0 := HKB5.out.cell 0
                  have p1 := HKB5.out.cell 1
                  clear hfr hci
                  go_cut [14] (fun s14 wx => ∃ (g4 : Nat), s14 = .slice (some ⟨g4, 0, none⟩) N N ∧ OwnC 4 W5.heap.size 1 wx (some ⟨g4, 0, none⟩) N N ((reachL (linksTo xs2 fl n2) N i).map reachV) ∧ Below W5.heap.size W5 wx)
                  case first =>
                    go_region_held3 (fun w' => w'.cell? ⟨w1.heap.size, 0, none⟩ = some (.int .i64 N) ∧ w'.cell? ⟨w1.heap.size, 1, none⟩ = some (.slice L n2 q))
                      (first
                        | exact ⟨p0, p1⟩
                        | exact ⟨p2, p3⟩
                        | exact ⟨p4, p5⟩)
                      (first
                        | (go_at_call 40; refine (netLinks_any N L n2 q xs2 _ n2 fl _ HAR.out.drew hn48 HFL.out.drew HBD.out).mono ?_; rintro e w7 ⟨L7, m7, q7, rfl, hm, ol7, b7⟩; have p2 := (HKB5.out.drew.ext b7).cell 0; have p3 := (HKB5.out.drew.ext b7).cell 1; have HM7 := Lib.hid hm; have HOL7 := Lib.hid ol7; have HB7 := Lib.hid b7; clear hm ol7 b7)
                        | (go_at_call 39; refine (netReach_any N _ L7 m7 q7 (linksTo xs2 fl n2) i _ _ (by omega) (by omega) (by omega) HRO.out HM7.out.symm (by have := HLL.out; rw [HM7.out]; omega) HOL7.out).mono ?_; rintro e w8 ⟨g3, g4, rfl, o3, o4, hg, b8⟩; have p4 := ((HKB5.out.drew.ext HB7.out).ext b8).cell 0; have p5 := ((HKB5.out.drew.ext HB7.out).ext b8).cell 1; have HB8 := Lib.hid b8; have HO4 := Lib.hid o4; clear b8 o3 o4))
                    all_goals
                      go_wp2_with fail
                      go_meet
                      exact ⟨g4, rfl, OwnC.low HO4.out (HB7.out.size), ext_trans (ext_trans (Below.drew (Below.refl _ W5)) HB7.out) HB8.out⟩
                  case rest =>
                    obtain ⟨g4, rfl, o4, bX⟩ := hcut
                    have hg4 := (OwnC.lt o4 rfl).1
                    have o1X := OwnI.below HO1F.out bX
                    have o2X := OwnI.below HO2F.out bX
                    have kxX := HKX5.out.ext bX
                    have kbX := HKB5.out.ext bX
                    have olX := OwnC.below HOL.out bX
                    have hs5 := HB5.out.size
                    have bbX := HB5.out.trans (bX.mono (Nat.le_trans hszr' hs5))
                    have hszX := bX.size
                    have hg41 : g4 ≠ g1 := by have := (OwnI.lt HO1F.out rfl).2; have h1 : g1 < W5.heap.size := this; have h2 : W5.heap.size ≤ g4 := hg4; omega
                    have HRL := Lib.hid (show (reachL (linksTo xs2 fl n2) N i).length = N from (bfs_ok HRO.out hlt N).len)
                    clear p0 p1 HKB5 HKX5 HO1F HO2F HFL HAR HOL HB5 HBD HLL HRO bX hg4
                    generalize reachL (linksTo xs2 fl n2) N i = by_ at *
                    have HG0 := Lib.hid (show parTo par by_ i (P : Int) (i + 1 - (i + 1)) = par from by rw [Nat.sub_self]; rfl)
                    rw [← HG0.out] at o1X
                    have hi1N : i + 1 ≤ N := hlt
                    obtain ⟨wk, rfl⟩ : ∃ wk : World, wk = wr := ⟨_, rfl⟩
                    obtain ⟨wd, rfl⟩ : ∃ wd : World, wd = wc := ⟨_, rfl⟩
                    go_wp2_with fail
                    go_loopg [15] (N - (i + 1)) (fun r kv wi => ∃ (j : Nat), r = N - j ∧ i + 1 ≤ j ∧ j ≤ N ∧ kv = .int .i64 j ∧ OwnI 2 wm.heap.size wi (some ⟨g1, 0, none⟩) N N (parTo par by_ i P (j - (i + 1))) ∧ OwnI 2 wm.heap.size wi (some ⟨g2, 0, none⟩) N N (wts.set i amt) ∧ OwnC 4 W5.heap.size 1 wi (some ⟨g4, 0, none⟩) N N (by_.map reachV) ∧ Below wm.heap.size wl wi ∧ wl.heap.size ≤ wi.heap.size ∧ Blk wi w.heap.size 26 #[.int .i64 N, .slice A k c] ∧ Blk wi w1.heap.size 26 #[.int .i64 N, .slice L n2 q] ∧ OwnA 34 W1.heap.size wi L n2 q xs2)
                    case atStart => exact ⟨i + 1, rfl, Nat.le_refl _, hi1N, by go_num, o1X, o2X, o4, bbX, Nat.le_trans hs5 hszX, kxX, kbX, olX⟩
                    case round =>
                      clear o1X o2X o4 bbX kxX kbX olX
                      obtain ⟨j, hr, hj1, hjN, rfl, o1, o2, o4, hbj, hszj, kx, kb, ol⟩ := hrel
                      have HR2 := Lib.hid hr
                      clear hr
                      have q0 := kx.cell 0
                      by_cases hlj : j < N
                      · have HPX := HPO.out by_ (j - (i + 1)) (by omega)
                        have cj := OwnI.cell o1 hlj
                        have ci := OwnI.cell o1 hlt
                        rw [HPX.2 i (Nat.le_refl _), HP.out] at ci
                        have cr := OwnC.cell o4 (j := j) (by omega)
                        have HY1 := Lib.hid (fun h1 h2 => parK_yes (par := par) (by_ := by_) (p := (P : Int)) hj1 h1 h2)
                        have HY2 := Lib.hid (fun h1 => parK_no1 (par := par) (by_ := by_) (p := (P : Int)) hj1 h1)
                        have HY3 := Lib.hid (fun h1 => parK_no2 (par := par) (by_ := by_) (p := (P : Int)) hj1 h1)
                        have hcr : (by_.map reachV)[j]? = some (.bool (by_.getD j 0 != -2)) := by
                          simp [reachV, List.getD, List.getElem?_eq_getElem (show j < by_.length by rw [HRL.out]; exact hlj)]
                        rw [hcr] at cr
                        clear HPX hcr
                        generalize parTo par by_ i (P : Int) (j - (i + 1)) = pj at *
                        generalize pj.getD j 0 = x at *
                        have hg1m : wm.heap.size ≤ g1 := (OwnI.lt o1 rfl).1
                        by_cases hxp : x = (P : Int)
                        · subst hxp
                          have d1 : ((P : Int) == (P : Int)) = true := beq_self_eq_true _
                          cases hb : (by_.getD j 0 != -2)
                          · rw [hb] at cr
                            have HE := Lib.hid (HY3.out (by simpa using hb))
                            clear hb
                            go_wp2_with fail
                            go_quiet (fail)
                            go_wp2_with fail
                            go_roundg (N - (j + 1))
                            case measure => rw [HR2.out]; omega
                            case rel => exact ⟨j + 1, rfl, by omega, by omega, by go_num, by rw [HE.out]; exact OwnI.drewN o1 _, OwnI.drewN o2 _, OwnC.drewN o4 _, below_drewN hbj _, hszj, kx.drewN _, kb.drewN _, OwnC.drewN ol _⟩
                          · rw [hb] at cr
                            have HE := Lib.hid (HY1.out rfl (by simpa using hb))
                            clear hb
                            go_wp2_with fail
                            go_quiet (fail)
                            have fb : (wr.drewN nq).frozen? ⟨g1, j, none⟩ = false := OwnI.free o1 j
                            have cb : (wr.drewN nq).cell? ⟨g1, j, none⟩ = some (.int .i64 P) := cj
                            have o1N := OwnI.set (OwnI.drewN o1 nq) j (i : Int)
                            have o2N := OwnI.far (OwnI.drewN o2 nq) (p := ⟨g1, j, none⟩) (fun ad ha => by injection ha with ha; subst ha; exact fun e => hg12 e.symm) (.int .i64 i)
                            have o4N := OwnC.far (OwnC.drewN o4 nq) (p := ⟨g1, j, none⟩) (fun ad ha => by injection ha with ha; subst ha; exact hg41) (.int .i64 i)
                            have kxN := (kx.drewN nq).far (p := ⟨g1, j, none⟩) (show w.heap.size ≠ g1 by omega) (.int .i64 i)
                            have kbN := (kb.drewN nq).far (p := ⟨g1, j, none⟩) (show w1.heap.size ≠ g1 by omega) (.int .i64 i)
                            have olN := OwnC.far (OwnC.drewN ol nq) (p := ⟨g1, j, none⟩) (HLsep.out g1 hg1m) (.int .i64 i)
                            have bN := (below_drewN hbj nq).setCell (p := ⟨g1, j, none⟩) hg1m (.int .i64 i)
                            have hsN : wl.heap.size ≤ ((wr.drewN nq).setCell ⟨g1, j, none⟩ (.int .i64 i)).heap.size := by have : (wr.drewN nq).heap.size = wr.heap.size := rfl; simp [this]; omega
                            clear o1 o2 o4 kx kb ol hbj cj ci cr q0
                            go_wp2_with fail
                            go_roundg (N - (j + 1))
                            case measure => rw [HR2.out]; omega
                            case rel => exact ⟨j + 1, rfl, by omega, by omega, by go_num, by rw [HE.out]; exact o1N, o2N, o4N, bN, hsN, kxN, kbN, olN⟩
                        · have d1 : (x == (P : Int)) = false := beq_eq_false_iff_ne.2 hxp
                          have HE := Lib.hid (HY2.out hxp)
                          clear hxp
                          go_wp2_with fail
                          go_quiet (fail)
                          go_wp2_with fail
                          go_roundg (N - (j + 1))
                          case measure => rw [HR2.out]; omega
                          case rel => exact ⟨j + 1, rfl, by omega, by omega, by go_num, by rw [HE.out]; exact OwnI.drewN o1 _, OwnI.drewN o2 _, OwnC.drewN o4 _, below_drewN hbj _, hszj, kx.drewN _, kb.drewN _, OwnC.drewN ol _⟩
                      · have e : N = j := by omega
                        subst e
                        go_wp2_with fail
                        go_roundg (N - (i + 1))
                        case measure => rw [HR.out]; omega
                        case rel => exact ⟨i + 1, rfl, by omega, hi1N, by go_num, by rw [HTS.out]; exact o1, by rw [HTS.out]; exact o2, hbj, hszj, kx, kb, ol⟩
              · have e : N = i := by omega
                subst e
                go_wp2_with fail
                go_ret3
                exact ⟨_, _, _, _, _, _, ret_LLB HS.out.symm, by rw [HV.out]; exact OwnI.low o1 hlo0, by rw [HV.out]; exact OwnI.low o2 hlo0, sep_ne hg12, below_ext hW hW.size (hw2.trans (hbw.mono hszr))⟩
    · have HS := Lib.hid (show treeB nodes xs = false by simp [treeB, HX.out, hn24])
      have HV := Lib.hid (treeV_no HS.out)
      go_enter Try.func16, Try.ntmps16
      go_wp2_with fail
      generalize w.alloc (.cells #[.int .i64 nodes, .slice A n c] 26) = W at *
      refine (implValidNet_r nodes A n c xs _ h3 hn0).mono ?_
      rw [hv]
      rintro e w1 ⟨rfl, e1⟩
      have q1 := (HB.out.ext e1).cell 1
      have hgt : (n : Int) > 24 := by omega
      go_wp2_with fail
      go_ret3
      exact ⟨none, 0, 0, none, 0, 0, ret_LLB HS.out.symm, by rw [HV.out]; exact OwnI.nil_ _ _ _, by rw [HV.out]; exact OwnI.nil_ _ _ _, sep_none, below_ext hW hW.size e1⟩
end Go.Proofs.Ytpaahjeohigngaa
