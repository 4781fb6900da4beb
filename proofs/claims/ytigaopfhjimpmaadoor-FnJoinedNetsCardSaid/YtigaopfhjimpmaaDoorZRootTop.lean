/- RootTree: the contracts of both sides. -/
import Derived.Test.YtigaopfhjimpmaaDoorZRootS
import Derived.Test.YtigaopfhjimpmaaDoorJ3
import Derived.Test.YtigaopfhjimpmaaDoorZValid2
namespace Go.Proofs.YtigaopfhjimpmaaDoor
open Go.RowKit

def okR (nodes : Int) (xs : List ArcR) (r : Int) : Bool := validB nodes xs && (inB r 0 (nodes - 1) && decide (nodes ≤ 6))
def rootV (nodes : Int) (xs : List ArcR) (r : Int) : List Int × Int := if okR nodes xs r = true then rtF xs nodes.toNat r.toNat nodes.toNat [] ([], 0) else ([], 0)
def rootB (nodes : Int) (xs : List ArcR) (r : Int) : Bool := decide ((rootV nodes xs r).1.length ≠ 0)
theorem stR_nil (N : Nat) : StR N ([], 0) := ⟨.inl rfl, by show -(1000 * (N : Int)) ≤ (0 : Int); omega, by show (0 : Int) ≤ 1000 * (N : Int); omega⟩
/-- without a tree nothing is told -/
def SzR (st : List Int × Int) : Prop := st.1.length = 0 → st = ([], 0)
theorem rtTo_sz {xs : List ArcR} {k : Nat} {G : List Int → List Int × Int → List Int × Int} {zs : List Int} {st : List Int × Int} (hG : ∀ (i : Nat) st, SzR st → SzR (G (zs ++ [(i : Int)]) st)) (hs : SzR st) : ∀ i, SzR (rtTo xs k G zs st i)
  | 0 => hs
  | i + 1 => by
    unfold rtTo
    have ih := rtTo_sz (xs := xs) (k := k) hG hs i
    split
    · exact hG i _ ih
    · exact ih
theorem rtF_sz {xs : List ArcR} {N r : Nat} (hN : 0 < N) : ∀ (f : Nat) (zs : List Int) (st : List Int × Int), zs.length + f = N → SzR st → SzR (rtF xs N r f zs st)
  | 0, zs, st, hl, hs => by
    show SzR (leafR xs N r zs st)
    unfold leafR
    split
    · intro h
      have : zs.length = 0 := h
      omega
    · exact hs
  | f + 1, zs, st, hl, hs => by
    unfold rtF
    split
    · exact rtF_sz hN f _ st (by rw [List.length_append, List.length_singleton]; omega) hs
    · refine rtTo_sz (fun i st hs => ?_) hs _
      exact rtF_sz hN f _ st (by rw [List.length_append, List.length_singleton]; omega) hs
theorem okR_bd {nodes : Int} {xs : List ArcR} {r : Int} (h : okR nodes xs r = true) : ∃ N R : Nat, nodes = (N : Int) ∧ r = (R : Int) ∧ 2 ≤ N ∧ N ≤ 6 ∧ R < N ∧ xs.length ≤ 48 ∧ validB nodes xs = true ∧ inB r 0 (nodes - 1) = true ∧ ∀ k, k < xs.length → (0 ≤ (xs.getD k default).fr ∧ (xs.getD k default).fr < N) ∧ (-1000 ≤ (xs.getD k default).cost ∧ (xs.getD k default).cost ≤ 1000) := by
  unfold okR at h
  rw [Bool.and_eq_true, Bool.and_eq_true] at h
  obtain ⟨hv, h1, h2⟩ := h
  obtain ⟨v0, v1, v2, v3⟩ := valid_bd hv
  obtain ⟨a, b⟩ := inB_iff.1 h1
  have h2 := of_decide_eq_true h2
  obtain ⟨N, rfl⟩ := Int.eq_ofNat_of_zero_le (show 0 ≤ nodes by omega)
  obtain ⟨R, rfl⟩ := Int.eq_ofNat_of_zero_le a
  exact ⟨N, R, rfl, rfl, by omega, by omega, by omega, v2, hv, h1, fun k hk => ⟨(v3 k hk).1, (v3 k hk).2.2.2.2⟩⟩
theorem rootV_no {nodes : Int} {xs : List ArcR} {r : Int} (h : okR nodes xs r = false) : rootV nodes xs r = ([], 0) ∧ rootB nodes xs r = false := by
  have e : rootV nodes xs r = ([], 0) := by unfold rootV; rw [if_neg (by rw [h]; decide)]
  exact ⟨e, by unfold rootB; rw [e]; rfl⟩
theorem rootV_len (nodes : Int) (xs : List ArcR) (r : Int) : (rootV nodes xs r).1.length ≤ 1048576 := by
  cases h : okR nodes xs r
  · rw [(rootV_no h).1]; simp
  · obtain ⟨N, R, rfl, rfl, n2, n6, hR, _, _, _, hv⟩ := okR_bd h
    unfold rootV
    rw [if_pos h]
    have := (rtF_ok (xs := xs) (N := N) (r := R) (fun k hk => (hv k hk).2) N [] ([], 0) (by simp) ChR.nil (stR_nil N)).1
    rw [Int.toNat_natCast, Int.toNat_natCast]
    omega
theorem ret_LIBr {A : Option Addr} {n c : Nat} {i j : Int} {a b : Bool} (h0 : i = j) (h : a = b) : Ending.returned (.tuple #[.slice A n c, .int .i64 i, .bool a]) = .returned (.tuple #[.slice A n c, .int .i64 j, .bool b]) := by rw [h0, h]

set_option maxRecDepth 100000 in
theorem l03Node_rt (g : Nat) (nodes : Int) (A : Option Addr) (n c : Nat) (xs : List ArcR) (a : Int) (w : World) (hb : Blk w g 31 #[.int .i64 nodes, .slice A n c]) (h : ArcsAt w A n xs) (hn0 : n ≤ maxLen) :
    Calls Tryd.prog 42 #[.pointer (some ⟨g, 0, none⟩), .int .i64 a] w fun e w' => e = .returned (.bool (validB nodes xs && inB a 0 (nodes - 1))) ∧ Drew w w' := by
  cases hv : validB nodes xs
  · go_enter Tryd.func42, Tryd.ntmps42
    go_wp2_with fail
    refine (l03Is_any g nodes A n c xs _ hb h hn0).mono ?_
    rw [hv]
    rintro e w1 ⟨rfl, hd⟩
    go_wp2_with fail
    go_ret
    exact ⟨rfl, hd⟩
  · obtain ⟨n0, n1, _⟩ := valid_bd hv
    go_enter Tryd.func42, Tryd.ntmps42
    go_wp2_with fail
    refine (l03Is_any g nodes A n c xs _ hb h hn0).mono ?_
    rw [hv]
    rintro e w1 ⟨rfl, hd⟩
    have q0 := (hb.ext hd.below).cell 0
    go_wp2_with fail
    refine (l00In_any _ _ _ _).mono ?_
    rintro e w' ⟨rfl, rfl⟩
    go_wp2_with fail
    go_ret
    exact ⟨rfl, hd⟩
set_option maxRecDepth 100000 in
set_option maxHeartbeats 3200000 in
theorem implRootTree_r (nodes : Int) (A : Option Addr) (n c : Nat) (xs : List ArcR) (r : Int) (w : World) (h : ArcsAt w A n xs) (hn0 : n ≤ maxLen) :
    Calls Tryd.prog 20 #[.agg #[.int .i64 nodes, .slice A n c], .int .i64 r] w (RetLIB 2 (rootV nodes xs r).1 (rootV nodes xs r).2 (rootB nodes xs r) w) := by
  have HX := Lib.hid h.len
  have hW : Below w.heap.size w (w.alloc (.cells #[.int .i64 nodes, .slice A n c] 31)) := (Below.refl _ _).alloc (Nat.le_refl _) _
  have h3 := h.alloc (.cells #[.int .i64 nodes, .slice A n c] 31)
  have KX := Lib.hid (Blk.new w 31 #[.int .i64 nodes, .slice A n c])
  have p0 := KX.out.cell 0
  have p1 := KX.out.cell 1
  clear h
  cases hv : validB nodes xs
  · have HN := Lib.hid (rootV_no (nodes := nodes) (xs := xs) (r := r) (by unfold okR; rw [hv]; rfl))
    go_enter Tryd.func20, Tryd.ntmps20
    go_wp2_with fail
    generalize w.alloc (.cells #[.int .i64 nodes, .slice A n c] 31) = W at *
    refine (implValidNet_r nodes A n c xs _ h3 hn0).mono ?_
    rw [hv]
    rintro e w1 ⟨rfl, e1⟩
    go_wp2_with fail
    go_ret3
    exact ⟨none, 0, 0, ret_LIBr (by rw [HN.out.1]) HN.out.2.symm, by rw [HN.out.1]; exact OwnI.nil_ _ _ _, below_ext hW hW.size e1⟩
  · obtain ⟨v0, v1, _⟩ := valid_bd hv
    cases hi : inB r 0 (nodes - 1)
    · have HN := Lib.hid (rootV_no (nodes := nodes) (xs := xs) (r := r) (by unfold okR; rw [hv, hi]; rfl))
      go_enter Tryd.func20, Tryd.ntmps20
      go_wp2_with fail
      generalize w.alloc (.cells #[.int .i64 nodes, .slice A n c] 31) = W at *
      refine (implValidNet_r nodes A n c xs _ h3 hn0).mono ?_
      rw [hv]
      rintro e w1 ⟨rfl, e1⟩
      have q0 := (KX.out.ext e1).cell 0
      have q1 := (KX.out.ext e1).cell 1
      go_wp2_with fail
      refine (isNode_any nodes r _ _ (by omega) (by omega)).mono ?_
      rw [hi]
      rintro e w2 ⟨rfl, e2⟩
      go_wp2_with fail
      go_ret3
      exact ⟨none, 0, 0, ret_LIBr (by rw [HN.out.1]) HN.out.2.symm, by rw [HN.out.1]; exact OwnI.nil_ _ _ _, below_ext hW hW.size (ext_trans e1 e2)⟩
    · by_cases h6 : nodes ≤ 6
      · have hok : okR nodes xs r = true := by unfold okR; rw [hv, hi, decide_eq_true h6]; rfl
        have HV0 := Lib.hid (show rootV nodes xs r = rtF xs nodes.toNat r.toNat nodes.toNat [] ([], 0) by unfold rootV; rw [if_pos hok])
        obtain ⟨N, R, rfl, rfl, n2, n6, hR, n48, _, _, hvv⟩ := okR_bd hok
        rw [HX.out] at n48
        have HV := Lib.hid (show rootV N xs R = rtF xs N R N [] ([], 0) from HV0.out)
        have HSZ := Lib.hid (show SzR (rootV N xs R) by rw [HV.out]; exact rtF_sz (by omega) N [] ([], 0) (by simp) (fun _ => rfl))
        have HVV := Lib.hid (show ∀ k, k < n → (0 ≤ (xs.getD k default).fr ∧ (xs.getD k default).fr < N) ∧ (-1000 ≤ (xs.getD k default).cost ∧ (xs.getD k default).cost ≤ 1000) from fun k hk => hvv k (by rw [HX.out]; exact hk))
        clear hvv hok HV0
        go_enter Tryd.func20, Tryd.ntmps20
        go_wp2_with fail
        generalize w.alloc (.cells #[.int .i64 N, .slice A n c] 31) = W at *
        refine (implValidNet_r N A n c xs _ h3 hn0).mono ?_
        rw [hv]
        rintro e w1 ⟨rfl, e1⟩
        have q0 := (KX.out.ext e1).cell 0
        have q1 := (KX.out.ext e1).cell 1
        go_wp2_with fail
        refine (isNode_any N R _ _ (by omega) (by omega)).mono ?_
        rw [hi]
        rintro e w2 ⟨rfl, e2⟩
        have q2 := ((KX.out.ext e1).ext e2).cell 0
        have q3 := ((KX.out.ext e1).ext e2).cell 1
        have e12 := ext_trans e1 e2
        have h4 := h3.below e12
        clear p0 p1 q0 q1 hv hi
        go_wp2_with fail
        refine (rootTree_any w2.heap.size A n c xs N R HX.out n48 n2 n6 hR HVV.out N [] ([], 0) none 0 0 none 0 0 _ h4 (OwnI.nil_ _ _ _) (OwnI.nil_ _ _ _) (fun _ => ⟨rfl, rfl, rfl⟩) (Nat.le_refl _) (by omega) ChR.nil (stR_nil N)).mono ?_
        rw [← HV.out]
        rintro e w3 ⟨P, np, cp, rfl, o3, hnl, b3⟩
        have HNL := Lib.hid hnl
        have HLN := Lib.hid o3.len
        have hle : w.heap.size ≤ w2.heap.size := Nat.le_trans hW.size e12.size
        have hb := below_ext hW hW.size (ext_trans e12 b3)
        have o3' := OwnI.low o3 hle
        have HRB := Lib.hid (show rootB N xs R = decide ((rootV N xs R).1.length ≠ 0) from rfl)
        clear hnl o3 b3 q2 q3
        cases P with
        | none =>
          have HB := Lib.hid (show rootB N xs R = false by
            rw [HRB.out]
            refine decide_eq_false (fun h => h ?_)
            rw [HLN.out]
            rcases o3'.form with ⟨_, h2, _⟩ | ⟨g, h2, _⟩
            · exact h2
            · cases h2)
          generalize rootV N xs R = V at *
          go_wp2_with fail
          go_ret3
          exact ⟨none, np, cp, ret_LIBr rfl HB.out.symm, o3', hb⟩
        | some ad =>
          have HB := Lib.hid (show rootB N xs R = true by
            rw [HRB.out]
            refine decide_eq_true (fun h => ?_)
            have := HNL.out (List.eq_nil_of_length_eq_zero h)
            cases this.1)
          generalize rootV N xs R = V at *
          go_wp2_with fail
          go_ret3
          exact ⟨some ad, np, cp, ret_LIBr rfl HB.out.symm, o3', hb⟩
      · have HN := Lib.hid (rootV_no (nodes := nodes) (xs := xs) (r := r) (by unfold okR; rw [hv, hi, decide_eq_false h6]; rfl))
        go_enter Tryd.func20, Tryd.ntmps20
        go_wp2_with fail
        generalize w.alloc (.cells #[.int .i64 nodes, .slice A n c] 31) = W at *
        refine (implValidNet_r nodes A n c xs _ h3 hn0).mono ?_
        rw [hv]
        rintro e w1 ⟨rfl, e1⟩
        have q0 := (KX.out.ext e1).cell 0
        have q1 := (KX.out.ext e1).cell 1
        go_wp2_with fail
        refine (isNode_any nodes r _ _ (by omega) (by omega)).mono ?_
        rw [hi]
        rintro e w2 ⟨rfl, e2⟩
        have q2 := ((KX.out.ext e1).ext e2).cell 0
        go_wp2_with fail
        go_ret3
        exact ⟨none, 0, 0, ret_LIBr (by rw [HN.out.1]) HN.out.2.symm, by rw [HN.out.1]; exact OwnI.nil_ _ _ _, below_ext hW hW.size (ext_trans e1 e2)⟩
set_option maxHeartbeats 800000 in
theorem l03NoneR_any (n : Nat) (w : World) (hn : n ≤ 1000) :
    Calls Tryd.prog 25 #[.int .i64 n] w (RetI 2 (List.replicate n (-1)) w) := by
  have he : OwnI 2 w.heap.size (w.alloc (.cells #[] 2)) (some ⟨w.heap.size, 0, none⟩) 0 0 (List.replicate 0 (-1)) := World.ownsRow_lit (e := 2) (base := w.heap.size) (size := 1) w #[] 0 (Nat.le_refl _) (Nat.zero_le _) rfl
  have hb0 := (Below.refl w.heap.size w).alloc (Nat.le_refl _) (.cells #[] 2)
  go_enter Tryd.func25, Tryd.ntmps25
  go_wp2_with fail
  generalize w.alloc (.cells #[] 2) = W at *
  go_loopg [0, 3] n (fun r nv ov wi => ∃ (k : Nat) (B : Option Addr) (d : Nat), r = n - k ∧ k ≤ n ∧ nv = .int .i64 ((n - k : Nat) : Int) ∧ ov = .slice B k d ∧ OwnI 2 w.heap.size wi B k d (List.replicate k (-1)) ∧ Below w.heap.size w wi)
  case atStart => exact ⟨0, _, 0, rfl, by omega, rfl, rfl, he, hb0⟩
  case round =>
    clear he hb0
    obtain ⟨k, B, d, hr, hk, rfl, rfl, ob, hbw⟩ := hrel
    have HR := Lib.hid hr
    clear hr
    have hsz := hbw.size
    by_cases hlt : k < n
    · obtain ⟨t, ht⟩ : ∃ t, n - k = t + 1 := ⟨n - k - 1, by omega⟩
      have HT := Lib.hid (show n - (k + 1) = t by omega)
      have HRP := Lib.hid (show List.replicate k (-1 : Int) ++ [-1] = List.replicate (k + 1) (-1) by rw [List.replicate_succ'])
      rw [ht]
      have ht2 : t ≤ 1000 := by omega
      have v1 : (((t + 1 : Nat) : Int)) > 0 := by omega
      clear ht
      go_wp2_with (at_builtin; (refine wp_append_int _ _ rfl _ _ _ rfl 2 w.heap.size Tryd.underlying26 info64 B k d _ rfl ob rfl (by omega) hsz ?_; intro g5 c5 w6 o6 u6 b6 hg6))
      rw [HRP.out] at o6
      go_roundg (n - (k + 1))
      case measure => rw [HR.out]; omega
      case rel => exact ⟨k + 1, _, c5, rfl, by omega, by rw [HT.out], rfl, o6, hbw.trans b6⟩
    · have e : n = k := by omega
      subst e
      rw [Nat.sub_self]
      go_wp2_with fail
      go_ret
      exact ⟨_, _, _, rfl, ob, hbw⟩
set_option maxRecDepth 100000 in
set_option maxHeartbeats 3200000 in
theorem specRootTree_r (nodes : Int) (A : Option Addr) (n c : Nat) (xs : List ArcR) (r : Int) (w : World) (h : ArcsAt w A n xs) (hn0 : n ≤ maxLen) :
    Calls Tryd.prog 21 #[.agg #[.int .i64 nodes, .slice A n c], .int .i64 r] w (RetLIB 2 (rootV nodes xs r).1 (rootV nodes xs r).2 (rootB nodes xs r) w) := by
  have HX := Lib.hid h.len
  have hW : Below w.heap.size w (w.alloc (.cells #[.int .i64 nodes, .slice A n c] 31)) := (Below.refl _ _).alloc (Nat.le_refl _) _
  have h3 := h.alloc (.cells #[.int .i64 nodes, .slice A n c] 31)
  have KX := Lib.hid (Blk.new w 31 #[.int .i64 nodes, .slice A n c])
  have hAlt : ∀ ad, A = some ad → 0 < n → ad.block < w.heap.size := fun ad ha hp => by
    obtain ⟨ad', e, h1, _⟩ := h.at_ hp
    rw [ha] at e
    injection e with e
    subst e
    exact h1
  clear h
  cases hv : (validB nodes xs && inB r 0 (nodes - 1))
  · have HN := Lib.hid (rootV_no (nodes := nodes) (xs := xs) (r := r) (by unfold okR; rw [← Bool.and_assoc, hv]; rfl))
    go_enter Tryd.func21, Tryd.ntmps21
    go_wp2_with fail
    generalize w.alloc (.cells #[.int .i64 nodes, .slice A n c] 31) = W at *
    refine (l03Node_rt _ nodes A n c xs r _ KX.out h3 hn0).mono ?_
    rw [hv]
    rintro e w1 ⟨rfl, hd⟩
    have e1 := hd.below
    go_wp2_with fail
    go_ret3
    exact ⟨none, 0, 0, ret_LIBr (by rw [HN.out.1]) HN.out.2.symm, by rw [HN.out.1]; exact OwnI.nil_ _ _ _, below_ext hW hW.size e1⟩
  · by_cases h6 : nodes ≤ 6
    · have hok : okR nodes xs r = true := by unfold okR; rw [← Bool.and_assoc, hv, decide_eq_true h6]; rfl
      have HV0 := Lib.hid (show rootV nodes xs r = rtF xs nodes.toNat r.toNat nodes.toNat [] ([], 0) by unfold rootV; rw [if_pos hok])
      obtain ⟨N, R, rfl, rfl, n2, n6, hR, n48, _, _, hvv⟩ := okR_bd hok
      rw [HX.out] at n48
      have HV := Lib.hid (show rootV N xs R = rtF xs N R N [] ([], 0) from HV0.out)
      have HSZ := Lib.hid (show SzR (rootV N xs R) by rw [HV.out]; exact rtF_sz (by omega) N [] ([], 0) (by simp) (fun _ => rfl))
      have HVV := Lib.hid (show ∀ k, k < n → (0 ≤ (xs.getD k default).fr ∧ (xs.getD k default).fr < N) ∧ (-1000 ≤ (xs.getD k default).cost ∧ (xs.getD k default).cost ≤ 1000) from fun k hk => hvv k (by rw [HX.out]; exact hk))
      clear hvv hok HV0
      go_enter Tryd.func21, Tryd.ntmps21
      go_wp2_with fail
      generalize w.alloc (.cells #[.int .i64 N, .slice A n c] 31) = W at *
      refine (l03Node_rt _ N A n c xs R _ KX.out h3 hn0).mono ?_
      rw [hv]
      rintro e w1 ⟨rfl, hd⟩
      have e1 := hd.below
      have q0 := (KX.out.ext e1).cell 0
      have hs1 := e1.size
      have hgW := KX.out.lt
      obtain ⟨WW, hWW⟩ : ∃ WW : World, WW = ((w1.alloc (.cells #[] 2)).alloc (.cells #[.slice (some ⟨w1.heap.size, 0, none⟩) 0 0] 26)).alloc (.cells #[.int .i64 0] 2) := ⟨_, rfl⟩
      have bWW : Below w1.heap.size w1 WW := by
        rw [hWW]
        exact (((Below.refl _ _).alloc (Nat.le_refl _) _).alloc (by simp) _).alloc (by simp; omega) _
      have hWsz : WW.heap.size = w1.heap.size + 3 := by rw [hWW]; simp
      have hN1 : OwnI 2 w1.heap.size (w1.alloc (.cells #[] 2)) (some ⟨w1.heap.size, 0, none⟩) 0 0 [] := World.ownsRow_lit (e := 2) (base := w1.heap.size) (size := 1) w1 #[] 0 (Nat.le_refl _) (Nat.zero_le _) rfl
      have oDW : OwnI 2 w1.heap.size WW (some ⟨w1.heap.size, 0, none⟩) 0 0 [] := by
        rw [hWW]
        exact OwnI.alloc (OwnI.alloc hN1 _) _
      have kBW : Blk WW (w1.heap.size + 1) 26 #[.slice (some ⟨w1.heap.size, 0, none⟩) 0 0] := by
        rw [hWW]
        have h := Blk.alloc (Blk.new (w1.alloc (.cells #[] 2)) 26 #[.slice (some ⟨w1.heap.size, 0, none⟩) 0 0]) (.cells #[.int .i64 0] 2)
        rw [show (w1.alloc (.cells #[] 2)).heap.size = w1.heap.size + 1 by simp] at h
        exact h
      have kLW : Blk WW (w1.heap.size + 2) 2 #[.int .i64 0] := by
        rw [hWW]
        have h := Blk.new ((w1.alloc (.cells #[] 2)).alloc (.cells #[.slice (some ⟨w1.heap.size, 0, none⟩) 0 0] 26)) 2 #[.int .i64 0]
        rw [show ((w1.alloc (.cells #[] 2)).alloc (.cells #[.slice (some ⟨w1.heap.size, 0, none⟩) 0 0] 26)).heap.size = w1.heap.size + 2 by simp] at h
        exact h
      have qW := ((KX.out.ext e1).ext bWW).cell 0
      have KGW := Lib.hid ((KX.out.ext e1).ext bWW)
      have hAW := (h3.below e1).below bWW
      have HWW := Lib.hid hWW
      rw [hWW] at qW
      clear hv hWW hN1
      go_wp2_with fail
      rw [← HWW.out]
      refine (l03NoneR_any N WW (by omega)).mono ?_
      rintro e w2 ⟨C, nc, cC, rfl, oC, b2⟩
      obtain rfl : nc = N := by rw [← oC.len]; simp
      obtain ⟨gC, rfl, hgC, _⟩ := oC.pos (by omega)
      have hs2 := b2.size
      have hRS : RSt w1.heap.size w.heap.size gC (w1.heap.size + 1) (w1.heap.size + 2) A n c nc cC xs w2 (List.replicate nc (-1)) ([], 0) (some ⟨w1.heap.size, 0, none⟩) 0 0 :=
        ⟨KGW.out.ext b2, hAW.below b2, OwnI.low oC bWW.size, kBW.ext b2, OwnI.below oDW b2, kLW.ext b2, fun ad ha h => by
          injection ha with ha
          subst ha
          rcases h with h | h | h
          · have h' : w1.heap.size = gC := h
            omega
          · have h' : w1.heap.size = w1.heap.size + 1 := h
            omega
          · have h' : w1.heap.size = w1.heap.size + 2 := h
            omega⟩
      have HC := l03Root_any w1.heap.size w.heap.size gC (w1.heap.size + 1) (w1.heap.size + 2) A n c xs nc R cC HX.out n48 n2 n6 hR HVV.out (fun h => by rcases h with h | h | h <;> omega) (by omega) (by omega) (by omega) (fun ad ha hp h => by
          have := hAlt ad ha hp
          rcases h with h | h | h <;> omega) nc [] (List.replicate nc (-1)) ([], 0) (some ⟨w1.heap.size, 0, none⟩) 0 0 w2 hRS (by omega) (by simp) ChR.nil rfl (by simp [List.getD, hR])
      rw [← HV.out] at HC
      have HC : Calls Tryd.prog 43 #[.pointer (some ⟨w.heap.size, 0, none⟩), .slice (some ⟨gC, 0, none⟩) nc cC, .int .i64 0, .int .i64 R, .int .i64 0, .pointer (some ⟨w1.heap.size + 1, 0, none⟩), .pointer (some ⟨w1.heap.size + 2, 0, none⟩)] w2 _ := HC
      have HC := Lib.hid HC
      clear hRS qW
      go_wp2_with fail
      refine HC.out.mono ?_
      rintro e w3 ⟨rfl, ch', D', nd', cd', hR3, _, hu3⟩
      have r1 := (hR3.kB.cell 0).trans (show _ = some (Value.slice D' nd' cd') from rfl)
      have r2 := (hR3.kL.cell 0).trans (show _ = some (Value.int .i64 (rootV nc xs R).2) from rfl)
      have hb3 : Below w1.heap.size w2 w3 := hu3.toBelow (by omega) (fun k hk h => by rcases h with h | h | h <;> omega)
      have hbF := below_ext hW hW.size (below_ext e1 e1.size ((bWW.trans (b2.mono bWW.size)).trans hb3))
      have oF := OwnI.low hR3.oD (show w.heap.size ≤ w1.heap.size by omega)
      have HLN := Lib.hid oF.len
      have HRB := Lib.hid (show rootB nc xs R = decide ((rootV nc xs R).1.length ≠ 0) from rfl)
      clear hR3 hu3 hb3 oC b2 oDW kBW kLW hAW
      by_cases h0 : nd' = 0
      · have HB := Lib.hid (show rootB nc xs R = false by rw [HRB.out]; exact decide_eq_false (fun h => h (by rw [HLN.out]; exact h0)))
        have HV2 := Lib.hid (show rootV nc xs R = ([], 0) from HSZ.out (by rw [HLN.out]; exact h0))
        subst h0
        generalize rootV nc xs R = V at *
        go_wp2_with fail
        go_ret3
        exact ⟨none, 0, 0, ret_LIBr (by rw [HV2.out]) HB.out.symm, by rw [HV2.out]; exact OwnI.nil_ _ _ _, hbF⟩
      · have HB := Lib.hid (show rootB nc xs R = true by rw [HRB.out]; exact decide_eq_true (fun h => h0 (by rw [← HLN.out]; exact h)))
        have hn0 : ¬ (nd' : Int) = 0 := by omega
        have hn1 : ((nd' : Int) == 0) = false := by rw [beq_eq_false_iff_ne]; exact hn0
        generalize rootV nc xs R = V at *
        go_wp2_with fail
        go_quiet (fail)
        go_wp2_with fail
        go_ret3
        exact ⟨D', nd', cd', ret_LIBr rfl HB.out.symm, OwnI.drewN oF _, below_drewN hbF _⟩
    · have HN := Lib.hid (rootV_no (nodes := nodes) (xs := xs) (r := r) (by unfold okR; rw [← Bool.and_assoc, hv, decide_eq_false h6]; rfl))
      go_enter Tryd.func21, Tryd.ntmps21
      go_wp2_with fail
      generalize w.alloc (.cells #[.int .i64 nodes, .slice A n c] 31) = W at *
      refine (l03Node_rt _ nodes A n c xs r _ KX.out h3 hn0).mono ?_
      rw [hv]
      rintro e w1 ⟨rfl, hd⟩
      have e1 := hd.below
      have q0 := (KX.out.ext e1).cell 0
      go_wp2_with fail
      go_ret3
      exact ⟨none, 0, 0, ret_LIBr (by rw [HN.out.1]) HN.out.2.symm, by rw [HN.out.1]; exact OwnI.nil_ _ _ _, below_ext hW hW.size e1⟩
end Go.Proofs.YtigaopfhjimpmaaDoor
