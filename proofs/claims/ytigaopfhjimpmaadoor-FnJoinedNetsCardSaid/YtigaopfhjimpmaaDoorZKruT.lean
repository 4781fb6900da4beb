/- Cheapest trees of the program: the walk. -/
import Derived.Test.YtigaopfhjimpmaaDoorZKruI
import Derived.Test.YtigaopfhjimpmaaDoorZValid2
import Derived.Test.YtigaopfhjimpmaaDoorZMark
namespace Go.Proofs.YtigaopfhjimpmaaDoor
open Go.RowKit

theorem sortNil_any (gS : Nat) (w : World) :
    Calls Tryd.prog 33 #[.slice none 0 0, .func (.func 34) #[] #[.pointer (some ⟨gS, 0, none⟩)]] w fun e w' => e = .returned (.tuple #[]) ∧ w = w' := by
  have HI : ∀ w1 : World, Calls Tryd.prog 56 #[.slice none 0 0, .int .i64 0, .int .i64 0, .func (.func 34) #[] #[.pointer (some ⟨gS, 0, none⟩)]] w1 fun e w' => e = .returned (.tuple #[]) ∧ w1 = w' := by
    intro w1
    go_enter Tryd.func56, Tryd.ntmps56
    go_wp2_with fail
    go_loopg [8] 0 (fun r iv wr => r = 0 ∧ iv = .int .i64 1 ∧ w1 = wr)
    case atStart => exact ⟨rfl, rfl, rfl⟩
    case round =>
      obtain ⟨_, rfl, rfl⟩ := hrel
      go_wp2_with fail
      go_end0
      exact ⟨rfl, rfl⟩
  have HS : ∀ w1 : World, Calls Tryd.prog 51 #[.slice none 0 0, .int .i64 0, .func (.func 34) #[] #[.pointer (some ⟨gS, 0, none⟩)]] w1 fun e w' => e = .returned (.tuple #[]) ∧ w1 = w' := by
    intro w1
    go_enter Tryd.func51, Tryd.ntmps51
    go_wp2_with fail
    go_loopg [7, 8] 0 (fun r av bv wi => r = 0 ∧ av = .int .i64 0 ∧ bv = .int .i64 20 ∧ w1 = wi)
    case atStart => exact ⟨rfl, rfl, rfl, rfl⟩
    case round =>
      obtain ⟨_, rfl, rfl, rfl⟩ := hrel
      go_wp2_with fail
      refine (HI _).mono ?_
      rintro e w2 ⟨rfl, rfl⟩
      go_wp2_with fail
      go_loopg [6] 0 (fun r av wi => r = 0 ∧ av = .int .i64 20 ∧ w1 = wi)
      case atStart => exact ⟨rfl, rfl, rfl⟩
      case round =>
        obtain ⟨_, rfl, rfl⟩ := hrel
        go_wp2_with fail
        go_end0
        exact ⟨rfl, rfl⟩
  go_enter Tryd.func33, Tryd.ntmps33
  go_wp2_with fail
  refine (HS _).mono ?_
  rintro e w2 ⟨rfl, rfl⟩
  go_wp2_with fail
  go_end0
  exact ⟨rfl, rfl⟩
theorem sortOrd_any (nodes : Int) (A : Option Addr) (n c : Nat) (xs : List ArcR) (Q : Option Addr) (gS cq base : Nat) (w : World) (h : ArcsAt w A n xs) (hn : n ≤ 48) (k2 : Blk w gS 31 #[.int .i64 nodes, .slice A n c]) (sA : 0 < n → Sep A Q) (sS : ∀ ad, Q = some ad → gS ≠ ad.block) (o : OwnI 2 base w Q n cq (seqI 0 n)) :
    Calls Tryd.prog 33 #[.slice Q n cq, .func (.func 34) #[] #[.pointer (some ⟨gS, 0, none⟩)]] w fun e w' => e = .returned (.tuple #[]) ∧ OwnI 2 base w' Q n cq (ordA xs) ∧ Upd (blk Q) w w' := by
  have hxl := h.1
  rcases OwnC.form o with ⟨rfl, rfl, rfl⟩ | ⟨g, rfl, _, _, _⟩
  · refine (sortNil_any gS w).mono ?_
    rintro e w' ⟨rfl, rfl⟩
    have : ordA xs = [] := List.eq_nil_of_length_eq_zero (by rw [(ordA_perm xs).length_eq, seqI_len]; exact hxl)
    rw [this]
    exact ⟨rfl, OwnI.nil_ _ _ _, Upd.refl _ _⟩
  · refine (sortStable_any n g gS cq base (coA xs) w (cmpC_arcs nodes A n c xs g gS w h hn k2 sA (sS _ rfl)) o hn).mono ?_
    rintro e w' ⟨rfl, M, o2, p2, s2, u2⟩
    rw [← ordA_eq (xs := xs) (by rw [hxl]; exact p2) s2]
    exact ⟨rfl, o2, u2⟩
theorem ret_LIBk {A : Option Addr} {n c : Nat} {i j : Int} {a b : Bool} (h0 : i = j) (h : a = b) : Ending.returned (.tuple #[.slice A n c, .int .i64 i, .bool a]) = .returned (.tuple #[.slice A n c, .int .i64 j, .bool b]) := by rw [h0, h]
theorem size_qK (n : Int) (w : World) (m : Nat) :
    Calls Tryd.prog 38 #[.int .i64 n] (w.drewN m) fun e w'' => e = .returned (.int .i64 n) ∧ ∃ q, w'' = w.drewN q := quiet_here ((size_any n (w.drewN m)).mono fun _ _ ⟨h1, h2⟩ => ⟨h1, h2⟩)
theorem kru_app (xs : List ArcR) : ∀ (A B : List Int) (s : KruS), kru xs (A ++ B) s = kru xs B (kru xs A s)
  | [], B, s => rfl
  | i :: A, B, s => by
    rw [List.cons_append, kru, kru]
    split
    · exact kru_app xs A B s
    · exact kru_app xs A B _
/-- behind k arcs of the scan -/
def kruK (xs : List ArcR) (N k : Nat) : KruS := kru xs ((ordA xs).take k) ⟨seqI 0 N, [], 0⟩
theorem kruK_all (xs : List ArcR) (N : Nat) : kruK xs N xs.length = kruO xs N := by
  unfold kruK kruO
  rw [List.take_of_length_le (by rw [(ordA_perm xs).length_eq, seqI_len]; exact Nat.le_refl _)]
theorem kruK_step {xs : List ArcR} {N k : Nat} (hk : k < xs.length) {i : Int} (hi : (ordA xs).getD k 0 = i) : kruK xs N (k + 1) = if (kruK xs N k).G.getD (frA xs i) 0 = (kruK xs N k).G.getD (toA xs i) 0 then kruK xs N k else ⟨(kruK xs N k).G.map (repl ((kruK xs N k).G.getD (frA xs i) 0) ((kruK xs N k).G.getD (toA xs i) 0)), (kruK xs N k).out ++ [i], (kruK xs N k).c + coA xs i⟩ := by
  have hl : k < (ordA xs).length := by rw [(ordA_perm xs).length_eq, seqI_len]; exact hk
  conv => lhs; unfold kruK
  rw [take_at hl, hi, kru_app]
  show kru xs [i] (kruK xs N k) = _
  rw [kru]
  split
  · rw [kru]
  · rw [kru]
theorem ordA_at {xs : List ArcR} {k : Nat} (hk : k < xs.length) : ∃ i : Nat, (ordA xs).getD k 0 = (i : Int) ∧ i < xs.length := by
  have hl : k < (ordA xs).length := by rw [(ordA_perm xs).length_eq, seqI_len]; exact hk
  have hm : (ordA xs).getD k 0 ∈ ordA xs := by
    simp only [List.getD, List.getElem?_eq_getElem hl, Option.getD_some]; exact List.getElem_mem hl
  rw [(ordA_perm xs).mem_iff, seqI_in] at hm
  exact ⟨((ordA xs).getD k 0).toNat, by omega, by omega⟩
theorem kruK_Gl (xs : List ArcR) (N : Nat) : ∀ k, k ≤ xs.length → (kruK xs N k).G.length = N ∧ (kruK xs N k).out.length ≤ k
  | 0, _ => ⟨seqI_len _ _, Nat.zero_le _⟩
  | k + 1, hk => by
    obtain ⟨h1, h2⟩ := kruK_Gl xs N k (by omega)
    rw [kruK_step (by omega) rfl]
    split
    · exact ⟨h1, by omega⟩
    · exact ⟨by rw [List.length_map]; exact h1, by simp; omega⟩
theorem ctB_no {nodes : Int} {xs : List ArcR} (h : validB nodes xs = false) : ctB nodes xs = false ∧ ctL nodes xs = [] ∧ ctC nodes xs = 0 := by
  have hb : ctB nodes xs = false := by unfold ctB; rw [h]; rfl
  exact ⟨hb, by unfold ctL; rw [hb]; rfl, by unfold ctC; rw [hb]; rfl⟩
set_option maxRecDepth 100000 in
set_option maxHeartbeats 3200000 in
theorem implCheapTree_r (nodes : Int) (A : Option Addr) (n c : Nat) (xs : List ArcR) (w : World) (h : ArcsAt w A n xs) (hn0 : n ≤ maxLen) :
    Calls Tryd.prog 17 #[.agg #[.int .i64 nodes, .slice A n c]] w (RetLIB 2 (ctL nodes xs) (ctC nodes xs) (ctB nodes xs) w) := by
  have HX := Lib.hid h.len
  have hW : Below w.heap.size w (w.alloc (.cells #[.int .i64 nodes, .slice A n c] 31)) := (Below.refl _ _).alloc (Nat.le_refl _) _
  have h3 := h.alloc (.cells #[.int .i64 nodes, .slice A n c] 31)
  have HB := Lib.hid (Blk.new w 31 #[.int .i64 nodes, .slice A n c])
  have hlt0 : w.heap.size < (w.alloc (.cells #[.int .i64 nodes, .slice A n c] 31)).heap.size := by simp
  have HAlt := Lib.hid (fun ad (e : A = some ad) (h0 : 0 < n) => show ad.block < w.heap.size from by
    obtain ⟨ad', e2, h5, _⟩ := h.at_ h0
    rw [e] at e2; injection e2 with e2; subst e2; exact h5)
  clear h
  have q0 := HB.out.cell 0
  have q1 := HB.out.cell 1
  cases hv : validB nodes xs
  · have HS := Lib.hid (ctB_no hv)
    go_enter Tryd.func17, Tryd.ntmps17
    go_wp2_with fail
    generalize w.alloc (.cells #[.int .i64 nodes, .slice A n c] 31) = W at *
    refine (implValidNet_r nodes A n c xs _ h3 hn0).mono ?_
    rw [hv]
    rintro e w1 ⟨rfl, e1⟩
    go_wp2_with fail
    go_ret3
    exact ⟨none, 0, 0, ret_LIBk HS.out.2.2.symm HS.out.1.symm, by rw [HS.out.2.1]; exact OwnI.nil_ _ _ _, below_ext hW hW.size e1⟩
  · obtain ⟨v0, v1, v2, vb⟩ := valid_bd hv
    rw [HX.out] at v2 vb
    have HVB := Lib.hid vb
    obtain ⟨N, rfl⟩ := Int.eq_ofNat_of_zero_le (show 0 ≤ nodes by omega)
    have HV := Lib.hid hv
    clear vb
    go_enter Tryd.func17, Tryd.ntmps17
    go_wp2_with fail
    generalize w.alloc (.cells #[.int .i64 N, .slice A n c] 31) = W at *
    refine (implValidNet_r N A n c xs _ h3 hn0).mono ?_
    rw [hv]
    rintro e w1 ⟨rfl, e1⟩
    have h4 := h3.below e1
    have K1 := Lib.hid (HB.out.ext e1)
    clear hv h3 q0 q1
    have q0 := K1.out.cell 0
    have q1 := K1.out.cell 1
    have hle1 := e1.size
    go_wp2_with fail
    go_loopg [5, 6, 18] n (fun r qv _ iv wi => ∃ (i : Nat) (Q : Option Addr) (cq : Nat), r = n - i ∧ i ≤ n ∧ qv = .slice Q i cq ∧ iv = .int .i64 i ∧ OwnI 2 w1.heap.size wi Q i cq (seqI 0 i) ∧ Below w1.heap.size w1 wi)
    case atStart => exact ⟨0, none, 0, rfl, Nat.zero_le _, rfl, rfl, OwnI.nil_ _ _ _, Below.refl _ _⟩
    case round =>
      obtain ⟨i, Q, cq, hr, hi, rfl, rfl, o, hb⟩ := hrel
      have HR := Lib.hid hr
      clear hr q0 q1
      by_cases hli : i < n
      · have hli' : (i : Int) < (n : Int) := by omega
        have hsz := hb.size
        have HS := Lib.hid (seqI_snoc i)
        go_wp2_with (at_builtin; refine wp_append_int _ _ rfl _ _ _ rfl 2 w1.heap.size Tryd.underlying26 info64 Q i cq _ rfl o rfl (by omega) hsz ?_; intro g4 c4 w4 o4 u4 b4 hg4)
        go_roundg (n - (i + 1))
        case measure => rw [HR.out]; omega
        case rel => exact ⟨i + 1, _, c4, rfl, by omega, rfl, by go_num, by rw [HS.out]; exact o4, hb.trans b4⟩
      · obtain rfl : n = i := by omega
        obtain ⟨wo, rfl⟩ : ∃ wo : World, wo = wr := ⟨_, rfl⟩
        have h5 := h4.below hb
        have K2 := Lib.hid (K1.out.ext hb)
        have HSRT := Lib.hid (sortOrd_any N A n c xs Q w.heap.size cq w1.heap.size wo h5 v2 K2.out (fun hn1 x y hx hy => by
          have a1 := HAlt.out x hx hn1
          have a2 := (OwnI.lt o hy).1
          omega) (fun ad hq => by have := (OwnI.lt o hq).1; omega) o)
        have hlo1 : W.heap.size ≤ w1.heap.size := hle1
        have HBK := Lib.hid (fun (w2 : World) (u2 : Upd (blk Q) wo w2) => below_blk hb hb.size u2 o (Nat.le_refl _))
        clear o
        go_wp2_with fail
        refine HSRT.out.mono ?_
        rintro e w2 ⟨rfl, o2, u2⟩
        have hb2 := HBK.out w2 u2
        have K3 := Lib.hid (K1.out.ext hb2)
        have h6 := h4.below hb2
        have q0 := K3.out.cell 0
        have q1 := K3.out.cell 1
        clear u2 hb h5 h4 HBK HSRT
        go_wp2_with fail
        refine (newGroups_any N _ (by omega) (by omega)).mono ?_
        rintro e w3 ⟨gG, rfl, oG, b3⟩
        have o3 := OwnI.below o2 b3
        have hb3 := ext_trans hb2 b3
        have hGlo := (OwnI.lt oG rfl).1
        have hsz2 := hb2.size
        have HSQ := Lib.hid (show ∀ ad, Q = some ad → ¬ blk (some ⟨gG, 0, none⟩) ad.block from fun ad hq => by
          rintro ⟨z, z1, z2⟩
          injection z1 with z1
          subst z1
          have := (OwnI.lt o2 hq).2
          have z2 : gG = ad.block := z2
          omega)
        have HSX := Lib.hid (show ∀ ad, A = some ad → 0 < n → ¬ blk (some ⟨gG, 0, none⟩) ad.block from fun ad hq hn1 => by
          rintro ⟨z, z1, z2⟩
          injection z1 with z1
          subst z1
          have := HAlt.out ad hq hn1
          have z2 : gG = ad.block := z2
          omega)
        have HSB := Lib.hid (show ¬ blk (some ⟨gG, 0, none⟩) w.heap.size from by
          rintro ⟨z, z1, z2⟩
          injection z1 with z1
          subst z1
          have z2 : gG = w.heap.size := z2
          omega)
        have K4 := Lib.hid (K1.out.ext hb3)
        have h7 := h6.below b3
        have hG3 : gG < w3.heap.size := (OwnI.lt oG rfl).2
        clear q0 q1 o2 h6 K3
        go_wp2_with fail
        go_loopg [8, 9, 11, 34] n (fun r s8 s9 _ iv wr => ∃ (k : Nat) (O : Option Addr) (oc : Nat), r = n - k ∧ k ≤ n ∧ iv = .int .i64 (k : Int) ∧ s8 = .slice O (kruK xs N k).out.length oc ∧ s9 = .int .i64 (kruK xs N k).c ∧ -1000 * (k : Int) ≤ (kruK xs N k).c ∧ (kruK xs N k).c ≤ 1000 * (k : Int) ∧ OwnI 2 w3.heap.size wr O (kruK xs N k).out.length oc (kruK xs N k).out ∧ OwnI 3 w2.heap.size wr (some ⟨gG, 0, none⟩) N N (kruK xs N k).G ∧ Upd (blk (some ⟨gG, 0, none⟩)) w3 wr)
        case atStart => exact ⟨0, none, 0, rfl, Nat.zero_le _, rfl, rfl, rfl, by show _ ≤ (0 : Int); omega, by show (0 : Int) ≤ _; omega, OwnI.nil_ _ _ _, oG, Upd.refl _ _⟩
        case round =>
          clear oG
          obtain ⟨k, O, oc, hr, hk, rfl, rfl, rfl, hc1, hc2, oO, oG, hu⟩ := hrel
          have HR := Lib.hid hr
          clear hr
          obtain ⟨wl, rfl⟩ : ∃ wl : World, wl = wr := ⟨_, rfl⟩
          have HST := Lib.hid (fun i (hi : (ordA xs).getD k 0 = i) (hk : k < n) => kruK_step (xs := xs) (N := N) (k := k) (by rw [HX.out]; exact hk) hi)
          have HGL := Lib.hid (kruK_Gl xs N k (by rw [HX.out]; exact hk))
          have HDONE := Lib.hid (fun (e : k = n) => show kruK xs N k = kruO xs N from by rw [e, ← HX.out, kruK_all])
          generalize kruK xs N k = st at *
          by_cases hkn : k < n
          · obtain ⟨i, hi, hin⟩ := ordA_at (xs := xs) (k := k) (by rw [HX.out]; exact hkn)
            rw [HX.out] at hin
            have HS1 := Lib.hid (HST.out _ hi hkn)
            have o4 := OwnI.upd o3 hu HSQ.out
            obtain ⟨gQ, rfl, _, _, _⟩ := OwnC.pos o4 (by omega)
            have c1 := OwnI.cell o4 hkn
            rw [hi] at c1
            have h8 := h7.upd hu (fun ad e1 => HSX.out ad e1 (by omega))
            have K5 := Lib.hid (K4.out.upd hu HSB.out)
            have q1 := K5.out.cell 1
            obtain ⟨ad, rfl, had, k0, k1, k2, k3⟩ := h8.at_ hin
            have HARC := Lib.hid (fun (W : World) (hW : Upd (blk (some ⟨gG, 0, none⟩)) wl W) => show W.cell? (ad.add (i * 4)) = some (.int .i64 (xs.getD i default).fr) ∧ W.cell? { block := (ad.add (i * 4)).block, off := (ad.add (i * 4)).off + 1 } = some (.int .i64 (xs.getD i default).to_) ∧ W.cell? { block := (ad.add (i * 4)).block, off := (ad.add (i * 4)).off + 3 } = some (.int .i64 (xs.getD i default).cost) from by
              obtain ⟨ad2, e2, _, r0, r1, _, r3⟩ := (h8.upd hW (fun ad e1 => HSX.out ad e1 (by omega))).at_ hin
              cases e2
              exact ⟨r0, r1, r3⟩)
            obtain ⟨⟨a0, a1⟩, ⟨b0, b1⟩, _, _, cc0, cc1⟩ := HVB.out i hin
            have HFR := Lib.hid (show ((frA xs (i : Int) : Nat) : Int) = (xs.getD i default).fr from by unfold frA; rw [Int.toNat_natCast]; omega)
            have HTO := Lib.hid (show ((toA xs (i : Int) : Nat) : Int) = (xs.getD i default).to_ from by unfold toA; rw [Int.toNat_natCast]; omega)
            have HCO := Lib.hid (show coA xs (i : Int) = (xs.getD i default).cost from by unfold coA; rw [Int.toNat_natCast])
            have hfN : frA xs (i : Int) < N := by have := HFR.out; omega
            have htN : toA xs (i : Int) < N := by have := HTO.out; omega
            have H8 := Lib.hid h8
            have HAD := Lib.hid (show ad.block < w3.heap.size from by
              obtain ⟨ad2, e2, e3, _⟩ := h7.at_ hin
              cases e2
              exact e3)
            have HXC := Lib.hid (rfl : (xs.getD i default).cost = (xs.getD i default).cost)
            generalize hxg : xs.getD i default = x at *
            have HXG := Lib.hid hxg
            clear hxg HXC
            obtain ⟨af, at_, ar, aq⟩ := x
            replace HFR := Lib.hid (show af = ((frA xs (i : Int) : Nat) : Int) from HFR.out.symm)
            replace HTO := Lib.hid (show at_ = ((toA xs (i : Int) : Nat) : Int) from HTO.out.symm)
            replace HARC := Lib.hid (fun (W : World) (hW : Upd (blk (some ⟨gG, 0, none⟩)) wl W) => show W.cell? (ad.add (i * 4)) = some (.int .i64 af) ∧ W.cell? { block := (ad.add (i * 4)).block, off := (ad.add (i * 4)).off + 1 } = some (.int .i64 at_) ∧ W.cell? { block := (ad.add (i * 4)).block, off := (ad.add (i * 4)).off + 3 } = some (.int .i64 aq) from HARC.out W hW)
            rw [HFR.out, HTO.out] at HARC
            replace k0 : wl.cell? _ = some (.int .i64 af) := k0
            replace k1 : wl.cell? _ = some (.int .i64 at_) := k1
            replace k3 : wl.cell? _ = some (.int .i64 aq) := k3
            replace cc0 : -1000 ≤ aq := cc0
            replace cc1 : aq ≤ 1000 := cc1
            replace HCO := Lib.hid (show coA xs (i : Int) = aq from HCO.out)
            rw [HFR.out] at k0
            rw [HTO.out] at k1
            rw [HCO.out] at HS1
            clear a0 a1 b0 b1 k2 hi
            generalize frA xs (i : Int) = f at *
            generalize toA xs (i : Int) = t at *
            have hk' : (k : Int) < (n : Int) := by omega
            have hi' : (i : Int) < (n : Int) := by omega
            have HOG := Lib.hid oG
            go_upto_region 16 with (fail)
            go_cut [51] (fun sx wx => sx = .bool (st.G.getD f 0 != st.G.getD t 0) ∧ OwnI 3 w2.heap.size wx (some ⟨gG, 0, none⟩) N N (st.G.map (repl (st.G.getD f 0) (st.G.getD t 0))) ∧ Upd (blk (some ⟨gG, 0, none⟩)) wl wx)
            case first =>
              go_region_held3 (fun w' => w'.cell? ⟨w.heap.size, 1, none⟩ = some (.slice (some ad) n c) ∧ w'.cell? (ad.add (i * 4)) = some (.int .i64 (f : Int)) ∧ w'.cell? { block := (ad.add (i * 4)).block, off := (ad.add (i * 4)).off + 1 } = some (.int .i64 (t : Int)))
                (first | exact ⟨q1, k0, k1⟩ | exact ⟨r1, r2, r3⟩)
                (first | (go_at_call 37; refine (join_any N gG N w2.heap.size st.G f t _ (HOG.out.drewN 1) hfN htN (by omega)).mono ?_; rintro e w8 ⟨rfl, o8, u8⟩; have r1 := (K5.out.upd (((Upd.refl _ _).drewN 1).trans u8) HSB.out).cell 1; have r2 := (HARC.out w8 (((Upd.refl _ _).drewN 1).trans u8)).1; have r3 := (HARC.out w8 (((Upd.refl _ _).drewN 1).trans u8)).2.1))
              all_goals
                go_wp2_with fail
                go_meet
                exact ⟨rfl, o8, ((Upd.refl _ _).drewN 1).trans u8⟩
            case rest =>
              obtain ⟨rfl, o8, u8⟩ := hcut
              have K6 := Lib.hid (K5.out.upd u8 HSB.out)
              have q1 := K6.out.cell 1
              have r3 := (HARC.out wc u8).2.2
              have hu8 := hu.trans u8
              clear k0 k1 k3 HOG oG
              by_cases hj : st.G.getD f 0 = st.G.getD t 0
              · have d1 : (st.G.getD f 0 != st.G.getD t 0) = false := by rw [hj]; exact bne_self_eq_false _
                have HE := Lib.hid (HS1.out.trans (if_pos hj))
                rw [hj, repl_same] at o8
                rw [d1]
                have oO2 := OwnI.upd oO u8 (fun ad ha => by
                  rintro ⟨z, z1, z2⟩
                  injection z1 with z1
                  subst z1
                  have := (OwnI.lt oO ha).1
                  have z2 : gG = ad.block := z2
                  omega)
                clear hj d1 oO hu
                go_wp2_with fail
                go_roundg (n - (k + 1))
                case measure => rw [HR.out]; omega
                case rel => exact ⟨k + 1, O, oc, rfl, by omega, by go_num, by rw [HE.out], by rw [HE.out], by rw [HE.out]; omega, by rw [HE.out]; omega, by rw [HE.out]; exact oO2, by rw [HE.out]; exact o8, hu8⟩
              · have d1 : (st.G.getD f 0 != st.G.getD t 0) = true := by rw [bne_iff_ne]; exact hj
                have HE := Lib.hid (HS1.out.trans (if_neg hj))
                rw [d1]
                have oO2 := OwnI.upd oO u8 (fun ad ha => by
                  rintro ⟨z, z1, z2⟩
                  injection z1 with z1
                  subst z1
                  have := (OwnI.lt oO ha).1
                  have z2 : gG = ad.block := z2
                  omega)
                have hsz := hu8.size
                have hol := HGL.out.2
                have H9 := Lib.hid (H8.out.upd u8 (fun ad e1 => HSX.out ad e1 (by omega)))
                have HLT3 := Lib.hid K4.out.lt
                have vc : IntKind.i64.wrap (st.c + aq) = st.c + aq := IntWalk.i64_in _ (by omega)
                have HAR := Lib.hid (fun (W : World) (hW : Upd (blk (some ⟨gG, 0, none⟩)) wl W) => (HARC.out W hW).2.2)
                have HBX := Lib.hid (fun (W : World) (b : Below w3.heap.size wc W) => show W.cell? ⟨w.heap.size, 1, none⟩ = some (.slice (some ad) n c) ∧ W.cell? { block := (ad.add (i * 4)).block, off := (ad.add (i * 4)).off + 3 } = some (.int .i64 aq) from by
                  refine ⟨((K6.out.below b HLT3.out).cell 1), ?_⟩
                  obtain ⟨ad2, e2, _, _, _, _, x3⟩ := (H9.out.keep b.size (fun ad1 e1 _ => b.block _ (by cases e1; exact HAD.out))).at_ hin
                  cases e2
                  rw [HXG.out] at x3
                  exact x3)
                clear hj d1 oO hu q1 r3
                go_wp2_with (at_builtin; refine wp_append_int _ _ rfl _ _ _ rfl 2 w3.heap.size Tryd.underlying26 info64 O st.out.length oc _ rfl oO2 rfl (by omega) hsz ?_; intro g4 c4 w4 o4 u4 b4 hg4; have r1 := (HBX.out w4 b4).1; have r2 := (HBX.out w4 b4).2)
                have HU4 := Lib.hid (hu8.then u4 (fun b hb2 hS => by
                  obtain ⟨z, z1, z2⟩ := hS
                  have := (OwnI.lt oO2 z1).1
                  exfalso
                  have z2 : z.block = b := z2
                  omega))
                have o9 := OwnI.upd o8 u4 (fun ad ha => by
                  cases ha
                  rintro ⟨z, z1, z2⟩
                  have := (OwnI.lt oO2 z1).1
                  have z2 : z.block = gG := z2
                  omega)
                go_roundg (n - (k + 1))
                case measure => rw [HR.out]; omega
                case rel => exact ⟨k + 1, some ⟨g4, 0, none⟩, c4, rfl, by omega, by go_num, by rw [HE.out]; simp, by rw [HE.out], by rw [HE.out]; show _ ≤ st.c + aq; omega, by rw [HE.out]; show st.c + aq ≤ _; omega, by rw [HE.out]; simpa using o4, by rw [HE.out]; exact o9, HU4.out⟩
          · obtain rfl : n = k := by omega
            have HE := Lib.hid (HDONE.out rfl)
            have K5 := Lib.hid (K4.out.upd hu HSB.out)
            have q0 := K5.out.cell 0
            have hbw := hb3.trans (hu.toBelow hb3.size (fun b hb2 ⟨z, z1, z2⟩ => by
              injection z1 with z1
              subst z1
              have z2 : gG = b := z2
              omega))
            have hol := HGL.out.2
            have hbW := below_ext hW hW.size (ext_trans e1 hbw)
            generalize hst : kruO xs N = sf at *
            have HSF := Lib.hid hst
            replace HE := Lib.hid (show st = sf from HE.out)
            clear hst oG hu HST HGL
            have vN : IntKind.i64.wrap ((N : Int) - 1) = (N : Int) - 1 := IntWalk.i64_in _ (by omega)
            go_wp2_with fail
            go_quiet ((go_at_call 38; exact size_qK _ _ _))
            by_cases hlen : (st.out.length : Int) = (N : Int) - 1
            · have d1 : ((st.out.length : Int) != (N : Int) - 1) = false := by rw [hlen]; exact bne_self_eq_false _
              have HB1 := Lib.hid (show ctB N xs = true from by
                unfold ctB
                rw [HV.out, Int.toNat_natCast, HSF.out, ← HE.out, decide_eq_true hlen]; rfl)
              have HL1 := Lib.hid (show ctL N xs = st.out from by unfold ctL; rw [if_pos HB1.out, Int.toNat_natCast, HSF.out, HE.out])
              have HC1 := Lib.hid (show ctC N xs = st.c from by unfold ctC; rw [if_pos HB1.out, Int.toNat_natCast, HSF.out, HE.out])
              clear hlen
              go_wp2_with fail
              go_ret3
              exact ⟨_, _, _, ret_LIBk HC1.out.symm HB1.out.symm, by rw [HL1.out]; exact OwnI.drewN (OwnI.low oO (by have := hW.size; have := hb3.size; omega)) _, ext_drewN hbW _⟩
            · have d1 : ((st.out.length : Int) != (N : Int) - 1) = true := by rw [bne_iff_ne]; exact hlen
              have HB1 := Lib.hid (show ctB N xs = false from by
                unfold ctB
                rw [HV.out, Int.toNat_natCast, HSF.out, ← HE.out, decide_eq_false hlen]; rfl)
              have HL1 := Lib.hid (show ctL N xs = [] from by unfold ctL; rw [HB1.out]; rfl)
              have HC1 := Lib.hid (show ctC N xs = 0 from by unfold ctC; rw [HB1.out]; rfl)
              clear hlen
              go_wp2_with fail
              go_ret3
              exact ⟨none, 0, 0, ret_LIBk HC1.out.symm HB1.out.symm, by rw [HL1.out]; exact OwnI.nil_ _ _ _, ext_drewN hbW _⟩
end Go.Proofs.YtigaopfhjimpmaaDoor
