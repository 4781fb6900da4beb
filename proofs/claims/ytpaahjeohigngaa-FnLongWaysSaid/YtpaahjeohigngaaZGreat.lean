/- Greatest flows: the walks. -/
import Derived.Test.YtpaahjeohigngaaZAlong
import Derived.Test.YtpaahjeohigngaaZCutOf
namespace Go.Proofs.Ytpaahjeohigngaa
open Go.RowKit

theorem flowIn_bd {nodes : Int} {xs : List ArcR} {fl : List Int} {n : Nat} (hl : xs.length = n) (hv : validB nodes xs = true) (h : FlowIn xs fl n) : ∀ k, k < n → (0 ≤ fl.getD k 0 ∧ fl.getD k 0 ≤ 1000000) ∧ (0 ≤ (xs.getD k default).room ∧ (xs.getD k default).room ≤ 1000000) ∧ (-1000 ≤ (xs.getD k default).cost ∧ (xs.getD k default).cost ≤ 1000) := by
  subst hl
  obtain ⟨_, _, _, h5⟩ := valid_bd hv
  intro k hk
  have h1 := h.2 k hk
  have h2 := (h5 k hk).2.2.2.1
  exact ⟨⟨h1.1, by omega⟩, h2, (h5 k hk).2.2.2.2⟩
theorem valid_roomG {nodes : Int} {xs : List ArcR} {n : Nat} (hl : xs.length = n) (h : validB nodes xs = true) : 2 ≤ nodes ∧ nodes ≤ 16 ∧ n ≤ 48 ∧ ∀ k, k < n → 0 ≤ (xs.getD k default).room ∧ (xs.getD k default).room ≤ 1000000 := by
  subst hl
  obtain ⟨a, b, c, d⟩ := valid_bd h
  exact ⟨a, b, c, fun k hk => (d k hk).2.2.2.1⟩
theorem out_le {nodes : Int} {xs : List ArcR} {fl : List Int} {n : Nat} (hl : xs.length = n) (hv : validB nodes xs = true) (h : FlowIn xs fl n) (node : Int) : outTo xs fl node n ≤ 48000000 := by
  have hb := flowIn_bd hl hv h
  obtain ⟨_, _, h4, _⟩ := valid_bd hv
  have := (outTo_bd (xs := xs) node (fun k hk => (hb k hk).1) n (Nat.le_refl _)).2
  omega
theorem ret_LI {A : Option Addr} {n c : Nat} {i j : Int} (h : i = j) : Ending.returned (.tuple #[.slice A n c, .int .i64 i]) = .returned (.tuple #[.slice A n c, .int .i64 j]) := by rw [h]
theorem greatG_ge : (48000001 : Int) ≤ greatG := by unfold greatG; omega
theorem reachV_two {by_ : List Int} {t : Nat} (h : by_.getD t 0 = -2) : (by_.getD t 0 != -2) = false := by rw [h]; rfl

set_option maxRecDepth 100000 in
set_option maxHeartbeats 3200000 in
theorem netGreat_any (N : Nat) (A : Option Addr) (n c : Nat) (xs : List ArcR) (F t : Nat) (w : World) (h : ArcsAt w A n xs) (hv : validB N xs = true) (hF : F < N) (ht : t < N) (hne : t ≠ F) :
    Calls Try.prog 38 #[.agg #[.int .i64 N, .slice A n c], .int .i64 F, .int .i64 t] w fun e w' => ∃ (gF : Nat), e = .returned (.tuple #[.slice (some ⟨gF, 0, none⟩) n n, .int .i64 (greatL xs N F t).2]) ∧ OwnI 2 w.heap.size w' (some ⟨gF, 0, none⟩) n n (greatL xs N F t).1 ∧ Below w.heap.size w w' := by
  have HX := Lib.hid h.len
  have HVA := Lib.hid hv
  obtain ⟨n0, n1, n2, hroom⟩ := valid_roomG h.len hv
  have hW : Below w.heap.size w (w.alloc (.cells #[.int .i64 N, .slice A n c] 26)) := (Below.refl _ _).alloc (Nat.le_refl _) _
  have h3 := h.alloc (.cells #[.int .i64 N, .slice A n c] 26)
  have hb := Blk.new w 26 #[.int .i64 N, .slice A n c]
  have hlt0 : w.heap.size < (w.alloc (.cells #[.int .i64 N, .slice A n c] 26)).heap.size := by simp
  have HB := Lib.hid hb
  have p1 := hb.cell 1
  have HF0 := Lib.hid (flow_zero (xs := xs) (n := n) (fun k hk => (hroom k hk).1))
  have HO0 := Lib.hid (out_zero xs n F n (Nat.le_refl _))
  have hG := greatG_ge
  have HGL := Lib.hid (show greatL xs N F t = greatRun xs n N F t greatG (List.replicate n 0) 0 by unfold greatL; rw [HX.out])
  generalize greatG = G at *
  clear h hb hv hroom
  go_enter Try.func38, Try.ntmps38
  go_wp2_with (at_make; refine wp_make_ints _ rfl _ _ 29 rfl 2 Try.underlying29 info64 .i64 .i64 _ _ n rfl rfl rfl rfl (by omega) ?_; intro w1 gF o1 b1)
  generalize w.alloc (.cells #[.int .i64 N, .slice A n c] 26) = W at *
  clear p1
  go_loopg [9] G (fun r av wr => ∃ (fl : List Int) (a : Int), 48000001 ≤ r + a ∧ av = .int .i64 a ∧ 0 ≤ a ∧ OwnI 2 W.heap.size wr (some ⟨gF, 0, none⟩) n n fl ∧ Below W.heap.size W wr ∧ Hid (FlowIn xs fl n ∧ a = outTo xs fl F n ∧ greatRun xs n N F t r fl a = greatL xs N F t))
  case atStart => exact ⟨_, 0, by omega, rfl, Int.le_refl _, o1, b1, Lib.hid ⟨HF0.out, HO0.out.symm, HGL.out.symm⟩⟩
  case round =>
    clear o1 b1
    obtain ⟨fl, a, hra, rfl, ha0, o, hbw, hfl⟩ := hrel
    have hFI := hfl.out.1
    have hA := hfl.out.2.1
    have hRun := Lib.hid hfl.out.2.2
    have hle := out_le HX.out HVA.out hFI F
    rw [← hA] at hle
    have HA := Lib.hid hA
    have HBD := Lib.hid (flowIn_bd HX.out HVA.out hFI)
    have HLS := Lib.hid (linksTo_ok fl rfl HVA.out n (by rw [HX.out]; exact Nat.le_refl _))
    have HAUG := Lib.hid (fun hby => aug_ok (F := F) (t := t) rfl HVA.out HX.out hFI hF ht hne hby)
    have hlen := linksTo_len xs fl n
    have hRL := (bfs_ok HLS.out hF N).len
    have HRL := Lib.hid (show (reachL (linksTo xs fl n) N F).length = N from hRL)
    have HBX := Lib.hid (HB.out.below hbw hlt0)
    have q0 := HBX.out.cell 0
    have q1 := HBX.out.cell 1
    have HX3 := Lib.hid (h3.below hbw)
    have HO := Lib.hid o
    have HBW := Lib.hid hbw
    have hgF := (OwnI.lt o rfl).2
    have hgF' : gF < wr.heap.size := hgF
    have hbs := hbw.size
    clear hRL hFI hA hfl o hbw hgF
    go_wp2_with fail
    go_region_held3 (fun w' => w'.cell? ⟨w.heap.size, 0, none⟩ = some (.int .i64 N) ∧ w'.cell? ⟨w.heap.size, 1, none⟩ = some (.slice A n c))
      (first
        | exact ⟨q0, q1⟩
        | exact ⟨q2, q3⟩
        | exact ⟨q4, q5⟩)
      (first
        | (go_at_call 40; refine (netLinks_any N A n c xs _ _ fl _ HX3.out.drew n2 (OwnI.ints HO.out).drew HBD.out).mono ?_; rintro e w7 ⟨L, l, q, rfl, hm, ol, b7⟩; have q2 := (HBX.out.drew.ext b7).cell 0; have q3 := (HBX.out.drew.ext b7).cell 1; have HM7 := Lib.hid hm; have HOL := Lib.hid ol; have HB7 := Lib.hid b7; clear hm ol b7)
        | (go_at_call 39; refine (netReach_any N _ L l q (linksTo xs fl n) F _ _ (by omega) (by omega) (by omega) HLS.out HM7.out.symm (by rw [HM7.out]; omega) HOL.out).mono ?_; rintro e w8 ⟨g1, g2, rfl, o1, o2, hg, b8⟩; have q4 := ((HBX.out.drew.ext HB7.out).ext b8).cell 0; have q5 := ((HBX.out.drew.ext HB7.out).ext b8).cell 1; have HB8 := Lib.hid b8; have HO1 := Lib.hid o1; have HO2 := Lib.hid o2; clear b8 o1 o2))
    all_goals
      clear q0 q1 q2 q3 q4 q5
      have b9 : Below wr.heap.size wr w8 := ext_trans (ext_trans (Below.drew (Below.refl _ _)) HB7.out) HB8.out
      have o9 := OwnI.below HO.out b9
      have hb9 := ext_trans HBW.out b9
      have hc2 := OwnC.cell HO2.out (j := t) (by omega)
      rw [reachV_get HRL.out ht] at hc2
      have hg1 := (OwnC.lt HO1.out rfl).1
      have hg1' : wr.heap.size ≤ g1 := Nat.le_trans HB7.out.size hg1
      have htN : (t : Int) < (N : Int) := by omega
      have HB9 := Lib.hid b9
      clear b9 hg1
      by_cases hby : (reachL (linksTo xs fl n) N F).getD t 0 = -2
      · rw [reachV_two hby] at hc2
        have HE := Lib.hid (great_end (xs := xs) (n := n) (N := N) (F := F) (t := t) (k := gk) (fl := fl) (a := a) hby)
        have HE2 := Lib.hid (hRun.out.symm.trans HE.out)
        clear hby
        go_wp2_with fail
        go_ret2
        exact ⟨gF, ret_LI (by rw [HE2.out]), by rw [HE2.out]; exact OwnI.low o9 hW.size, below_ext hW hW.size hb9⟩
      · have hbt : ((reachL (linksTo xs fl n) N F).getD t 0 != -2) = true := bne_iff_ne.2 hby
        rw [hbt] at hc2
        obtain ⟨ws, hw1, hw2, ⟨l0, ws', hws⟩, hw4, hw5⟩ := HAUG.out hby
        have hr0 := hw4 l0 (by rw [hws]; simp)
        have hamt : amtOf ws 1000000000000000 = amtOf ws 100000000 := by rw [hws]; exact amtOf_big (by omega) (by omega)
        have hx0 : 1 ≤ amtOf ws 100000000 := amtOf_ge ws _ (by omega) fun l hl => (hw4 l hl).1
        have hx1 : amtOf ws 100000000 ≤ 1000000 := by have := (amtOf_le ws 100000000).2 l0 (by rw [hws]; simp); omega
        obtain ⟨k1, k2, k3, _⟩ := hw5 (amtOf ws 100000000) (by omega) fun l hl => (amtOf_le ws 100000000).2 l hl
        have ho2 := out_le HX.out HVA.out k2 F
        rw [k3, ← HA.out] at ho2
        obtain ⟨r', hr'⟩ : ∃ r', gk = r' + 1 := ⟨gk - 1, by omega⟩
        subst hr'
        have HST := Lib.hid (great_step (xs := xs) (n := n) (N := N) (F := F) (t := t) (k := r') (fl := fl) (a := a) hby hw1)
        have HP := Lib.hid hw2
        have HW4 := Lib.hid hw4
        have HK1 := Lib.hid k1
        have HK2 := Lib.hid k2
        have HK3 := Lib.hid k3
        have HAM := Lib.hid hamt
        clear hw1 hw2 hw4 hw5 hws hr0 hamt k1 k2 k3 hby hbt
        go_wp2_with fail
        refine (push_any W.heap.size _ _ n _ fl g1 N _ _ F t ws _ _ o9 n2 HO1.out HRL.out (by omega) (fun ad ha => by injection ha with ha; subst ha; show gF ≠ g1; omega) hF HP.out HW4.out (by omega) (by omega) (by rw [HAM.out]; exact HK1.out) (by rw [HAM.out]; exact hx1) ht).mono ?_
        rw [HAM.out]
        rintro e w9 ⟨rfl, o10, u10⟩
        have hbX := below_blk hb9 (Nat.le_trans hbs HB9.out.size) u10 o9 (Nat.le_refl _)
        generalize amtOf ws 100000000 = x at *
        go_wp2_with fail
        go_roundg r'
        case measure => omega
        case rel => exact ⟨_, a + x, by omega, rfl, by omega, o10, hbX, Lib.hid ⟨HK2.out, by rw [HK3.out, ← HA.out], by rw [← HST.out]; exact hRun.out⟩⟩

set_option maxRecDepth 100000 in
set_option maxHeartbeats 3200000 in
theorem l03Great_any (g N : Nat) (A : Option Addr) (n c : Nat) (xs : List ArcR) (F t : Nat) (w : World) (hb : Blk w g 26 #[.int .i64 N, .slice A n c]) (h : ArcsAt w A n xs) (hv : validB N xs = true) (hF : F < N) (ht : t < N) (hne : t ≠ F) :
    Calls Try.prog 42 #[.pointer (some ⟨g, 0, none⟩), .int .i64 F, .int .i64 t] w fun e w' => ∃ (gF : Nat), e = .returned (.tuple #[.slice (some ⟨gF, 0, none⟩) n n, .int .i64 (greatL xs N F t).2]) ∧ OwnI 2 w.heap.size w' (some ⟨gF, 0, none⟩) n n (greatL xs N F t).1 ∧ Below w.heap.size w w' := by
  have HX := Lib.hid h.len
  have HVA := Lib.hid hv
  obtain ⟨n0, n1, n2, hroom⟩ := valid_roomG h.len hv
  have HB := Lib.hid hb
  have p1 := hb.cell 1
  have hlt0 := hb.lt
  have HF0 := Lib.hid (flow_zero (xs := xs) (n := n) (fun k hk => (hroom k hk).1))
  have HO0 := Lib.hid (out_zero xs n F n (Nat.le_refl _))
  have hG := greatG_ge
  have HGL := Lib.hid (show greatL xs N F t = greatRun xs n N F t greatG (List.replicate n 0) 0 by unfold greatL; rw [HX.out])
  generalize greatG = G at *
  clear hb hv hroom
  go_enter Try.func42, Try.ntmps42
  go_wp2_with (at_make; refine wp_make_ints _ rfl _ _ 29 rfl 2 Try.underlying29 info64 .i64 .i64 _ _ n rfl rfl rfl rfl (by omega) ?_; intro w1 gF o1 b1)
  clear p1
  go_loopg [9] G (fun r av wr => ∃ (fl : List Int) (a : Int), 48000001 ≤ r + a ∧ av = .int .i64 a ∧ 0 ≤ a ∧ OwnI 2 w.heap.size wr (some ⟨gF, 0, none⟩) n n fl ∧ Below w.heap.size w wr ∧ Hid (FlowIn xs fl n ∧ a = outTo xs fl F n ∧ greatRun xs n N F t r fl a = greatL xs N F t))
  case atStart => exact ⟨_, 0, by omega, rfl, Int.le_refl _, o1, b1, Lib.hid ⟨HF0.out, HO0.out.symm, HGL.out.symm⟩⟩
  case round =>
    clear o1 b1
    obtain ⟨fl, a, hra, rfl, ha0, o, hbw, hfl⟩ := hrel
    have hFI := hfl.out.1
    have hA := hfl.out.2.1
    have hRun := Lib.hid hfl.out.2.2
    have hle := out_le HX.out HVA.out hFI F
    rw [← hA] at hle
    have HA := Lib.hid hA
    have HBD := Lib.hid (flowIn_bd HX.out HVA.out hFI)
    have HLS := Lib.hid (linksTo_ok fl rfl HVA.out n (by rw [HX.out]; exact Nat.le_refl _))
    have HAUG := Lib.hid (fun hby => aug_ok (F := F) (t := t) rfl HVA.out HX.out hFI hF ht hne hby)
    have hlen := linksTo_len xs fl n
    have hRL := (bfs_ok HLS.out hF N).len
    have HRL := Lib.hid (show (reachL (linksTo xs fl n) N F).length = N from hRL)
    have HBX := Lib.hid (HB.out.ext hbw)
    have HX3 := Lib.hid (h.below hbw)
    have HO := Lib.hid o
    have HBW := Lib.hid hbw
    have hgF := (OwnI.lt o rfl).2
    have hgF' : gF < wr.heap.size := hgF
    have hbs := hbw.size
    clear hRL hFI hA hfl o hbw hgF
    go_wp2_with fail
    refine (l03Lefts_any g N A n c xs _ _ fl _ HBX.out HX3.out n2 (OwnI.ints HO.out) HBD.out).mono ?_
    rintro e w7 ⟨L, l, q, rfl, hm, ol, b7⟩
    rw [← hm] at hlen
    have HM7 := Lib.hid hm
    have hLb := Lib.hid (fun bd (hb : L = some bd) => (OwnC.lt ol hb).1)
    clear hm
    go_wp2_with fail
    refine (l03Reach_any g N _ L l q (linksTo xs fl n) F _ _ (HBX.out.ext b7) (by omega) (by omega) hF HLS.out HM7.out.symm (by omega) ol).mono ?_
    rintro e w8 ⟨gB, cB, rfl, ob, b8⟩
    have HOL := Lib.hid (OwnC.below ol b8)
    have b9 : Below wr.heap.size wr w8 := ext_trans b7 b8
    have o9 := OwnI.below HO.out b9
    have hb9 := ext_trans HBW.out b9
    have hc2 := OwnI.cell ob ht
    have hg1 := (OwnI.lt ob rfl).1
    have hg1' : wr.heap.size ≤ gB := Nat.le_trans b7.size hg1
    have htN : (t : Int) < (N : Int) := by omega
    have HB9 := Lib.hid b9
    have HOB := Lib.hid ob
    clear b9 hg1 ol ob b7 b8
    by_cases hby : (reachL (linksTo xs fl n) N F).getD t 0 = -2
    · rw [hby] at hc2
      have HE := Lib.hid (great_end (xs := xs) (n := n) (N := N) (F := F) (t := t) (k := gk) (fl := fl) (a := a) hby)
      have HE2 := Lib.hid (hRun.out.symm.trans HE.out)
      clear hby
      go_wp2_with fail
      go_ret2
      exact ⟨gF, ret_LI (by rw [HE2.out]), by rw [HE2.out]; exact o9, hb9⟩
    · have hbt : ((reachL (linksTo xs fl n) N F).getD t 0 == -2) = false := beq_eq_false_iff_ne.2 hby
      obtain ⟨ws, hw1, hw2, ⟨l0, ws', hws⟩, hw4, hw5⟩ := HAUG.out hby
      have hx0 : 1 ≤ amtOf ws 100000000 := amtOf_ge ws _ (by omega) fun l hl => (hw4 l hl).1
      have hx1 : amtOf ws 100000000 ≤ 1000000 := by
        have := (amtOf_le ws 100000000).2 l0 (by rw [hws]; simp)
        have := hw4 l0 (by rw [hws]; simp)
        omega
      obtain ⟨k1, k2, k3, _⟩ := hw5 (amtOf ws 100000000) (by omega) fun l hl => (amtOf_le ws 100000000).2 l hl
      have ho2 := out_le HX.out HVA.out k2 F
      rw [k3, ← HA.out] at ho2
      obtain ⟨r', hr'⟩ : ∃ r', gk = r' + 1 := ⟨gk - 1, by omega⟩
      subst hr'
      have HST := Lib.hid (great_step (xs := xs) (n := n) (N := N) (F := F) (t := t) (k := r') (fl := fl) (a := a) hby hw1)
      have HP := Lib.hid hw2
      have HW4 := Lib.hid hw4
      have HK1 := Lib.hid k1
      have HK2 := Lib.hid k2
      have HK3 := Lib.hid k3
      clear hw1 hw2 hw4 hw5 hws k1 k2 k3 hby
      generalize (reachL (linksTo xs fl n) N F).getD t 0 = bt at *
      go_wp2_with fail
      refine (l03Along_any w.heap.size _ _ _ n _ fl L l q gB cB N _ _ F t ws _ _ o9 n2 HOL.out HM7.out.symm (by omega) HOB.out (by omega) (fun ad ha => by injection ha with ha; subst ha; show gF ≠ gB; omega) (fun ad bd ha hb => by injection ha with ha; subst ha; have := hLb.out bd hb; show gF ≠ bd.block; omega) hF HP.out HW4.out (by omega) (by omega) HK1.out hx1 ht).mono ?_
      rintro e w9 ⟨rfl, o10, u10⟩
      have hbX := below_blk hb9 (Nat.le_trans hbs HB9.out.size) u10 o9 (Nat.le_refl _)
      generalize amtOf ws 100000000 = x at *
      go_wp2_with fail
      go_roundg r'
      case measure => omega
      case rel => exact ⟨_, a + x, by omega, rfl, by omega, o10, hbX, Lib.hid ⟨HK2.out, by rw [HK3.out, ← HA.out], by rw [← HST.out]; exact hRun.out⟩⟩
set_option maxRecDepth 100000 in
theorem l03Node_any (g : Nat) (nodes : Int) (A : Option Addr) (n c : Nat) (xs : List ArcR) (a : Int) (w : World) (hb : Blk w g 26 #[.int .i64 nodes, .slice A n c]) (h : ArcsAt w A n xs) (hn0 : n ≤ maxLen) :
    Calls Try.prog 35 #[.pointer (some ⟨g, 0, none⟩), .int .i64 a] w fun e w' => e = .returned (.bool (validB nodes xs && inB a 0 (nodes - 1))) ∧ Drew w w' := by
  cases hv : validB nodes xs
  · go_enter Try.func35, Try.ntmps35
    go_wp2_with fail
    refine (l03Is_any g nodes A n c xs _ hb h hn0).mono ?_
    rw [hv]
    rintro e w1 ⟨rfl, hd⟩
    go_wp2_with fail
    go_ret
    exact ⟨rfl, hd⟩
  · obtain ⟨n0, n1, _⟩ := valid_bd hv
    go_enter Try.func35, Try.ntmps35
    go_wp2_with fail
    refine (l03Is_any g nodes A n c xs _ hb h hn0).mono ?_
    rw [hv]
    rintro e w1 ⟨rfl, hd⟩
    have q0 := (hb.ext hd.below).cell 0
    go_wp2_with fail
    refine (l00In_any _ _ _ _).mono ?_
    rintro e w' ⟨rfl, rfl⟩
    go_wp2_with fail
    go_ret
    exact ⟨rfl, hd⟩
set_option maxRecDepth 100000 in
theorem l03Ends_any (g : Nat) (nodes : Int) (A : Option Addr) (n c : Nat) (xs : List ArcR) (a b : Int) (w : World) (hb : Blk w g 26 #[.int .i64 nodes, .slice A n c]) (h : ArcsAt w A n xs) (hn0 : n ≤ maxLen) :
    Calls Try.prog 41 #[.pointer (some ⟨g, 0, none⟩), .int .i64 a, .int .i64 b] w fun e w' => e = .returned (.bool (endsB nodes xs a b)) ∧ Drew w w' := by
  cases h1 : (validB nodes xs && inB a 0 (nodes - 1))
  · have HE := Lib.hid (show endsB nodes xs a b = false by unfold endsB; rw [← Bool.and_assoc, h1]; rfl)
    go_enter Try.func41, Try.ntmps41
    go_wp2_with fail
    refine (l03Node_any g nodes A n c xs a _ hb h hn0).mono ?_
    rw [h1]
    rintro e w1 ⟨rfl, hd⟩
    go_wp2_with fail
    go_ret
    exact ⟨ret_bool HE.out.symm, hd⟩
  · have hv : validB nodes xs = true := (Bool.and_eq_true _ _ ▸ h1).1
    cases h2 : inB b 0 (nodes - 1)
    · have h3 : (validB nodes xs && inB b 0 (nodes - 1)) = false := by rw [h2, Bool.and_false]
      have HE := Lib.hid (show endsB nodes xs a b = false by unfold endsB; rw [h2]; simp)
      clear h2 hv
      go_enter Try.func41, Try.ntmps41
      go_wp2_with fail
      refine (l03Node_any g nodes A n c xs a _ hb h hn0).mono ?_
      rw [h1]
      rintro e w1 ⟨rfl, hd⟩
      go_wp2_with fail
      refine (l03Node_any g nodes A n c xs b _ (hb.ext hd.below) (h.drewTo hd) hn0).mono ?_
      rw [h3]
      rintro e w2 ⟨rfl, hd2⟩
      go_wp2_with fail
      go_ret
      exact ⟨ret_bool HE.out.symm, hd.trans hd2⟩
    · have h3 : (validB nodes xs && inB b 0 (nodes - 1)) = true := by rw [h2, hv]; rfl
      have hd : (a != b) = decide (a ≠ b) := by rw [Bool.eq_iff_iff]; simp
      have HE := Lib.hid (show endsB nodes xs a b = (a != b) by unfold endsB; rw [← Bool.and_assoc, h1, h2, hd]; rfl)
      clear hd h2 hv
      go_enter Try.func41, Try.ntmps41
      go_wp2_with fail
      refine (l03Node_any g nodes A n c xs a _ hb h hn0).mono ?_
      rw [h1]
      rintro e w1 ⟨rfl, hd⟩
      go_wp2_with fail
      refine (l03Node_any g nodes A n c xs b _ (hb.ext hd.below) (h.drewTo hd) hn0).mono ?_
      rw [h3]
      rintro e w2 ⟨rfl, hd2⟩
      go_wp2_with fail
      go_ret
      exact ⟨ret_bool HE.out.symm, hd.trans hd2⟩
end Go.Proofs.Ytpaahjeohigngaa
