/- A net that is drawn. -/
import Derived.Test.YtigaopfhjimpmaaDoorJ3
import Derived.Test.YtigaopfhjimpmaaDoorZValid
import Derived.Test.YtigaopfhjimpmaaDoorJ2
import Derived.Test.YtigaopfhjimpmaaDoorZNetLaw
namespace Go.Proofs.YtigaopfhjimpmaaDoor
open Go.RowKit

theorem arcsV_snoc (xs : List ArcR) (a : ArcR) : arcsV (xs ++ [a]) = arcsV xs ++ a.cells := by simp [arcsV]
/-- what drawn arcs are like -/
def ArcD (N : Nat) (a : ArcR) : Prop := (0 ≤ a.fr ∧ a.fr < N) ∧ (0 ≤ a.to_ ∧ a.to_ < N) ∧ a.fr ≠ a.to_ ∧ (0 ≤ a.room ∧ a.room ≤ 6) ∧ (0 ≤ a.cost ∧ a.cost ≤ 8)
structure NetD (N most : Nat) (xs : List ArcR) : Prop where
  lo : 2 ≤ N
  hi : N ≤ most
  len : xs.length ≤ 10
  arcs : ∀ a ∈ xs, ArcD N a
def NetDrawn (T : Nat) (most : Nat) (S : Nat → Prop) (w : World) (e : Ending) (w' : World) : Prop :=
  ∃ (N : Nat) (L : Option Addr) (m q : Nat) (xs : List ArcR), e = .returned (.agg #[.int .i64 (N : Int), .slice L m q]) ∧ OwnA T w.heap.size w' L m q xs ∧ NetD N most xs ∧ Upd S w w'

theorem to_ok {fr x N : Nat} (h1 : fr < N) (h2 : (x : Int) < max 1 ((N : Int) - 1)) (h3 : 2 ≤ N) : ∃ tt : Nat, ((fr : Int) + 1 + (x : Int)).tmod (N : Int) = (tt : Int) ∧ tt < N ∧ tt ≠ fr := by
  refine ⟨(fr + 1 + x) % N, ?_, Nat.mod_lt _ (by omega), ?_⟩
  · rw [show (fr : Int) + 1 + (x : Int) = ((fr + 1 + x : Nat) : Int) by omega]; rfl
  · intro e
    have h4 : x ≤ N - 2 := by omega
    by_cases h5 : fr + 1 + x < N
    · rw [Nat.mod_eq_of_lt h5] at e; omega
    · have h6 : (fr + 1 + x) % N = fr + 1 + x - N := by
        rw [Nat.mod_eq_sub_mod (by omega), Nat.mod_eq_of_lt (by omega)]
      omega

set_option maxRecDepth 100000 in
set_option maxHeartbeats 1600000 in
theorem drawOk_any (A : Option Addr) (n c g k : Nat) (s : Int) (most : Nat) (w : World) (h : BytesAt w A n) (hl : n ≤ maxLen) (hs : SrcAt w g A n c k s) (hf : BytesFar A n g) (hk : k ≤ 1000) (hm2 : 2 ≤ most) (hm16 : most ≤ 16) :
    Calls Tryd.prog 32 #[.pointer (some ⟨g, 0, none⟩), .int .i64 (most : Int)] w (NetDrawn 42 most (blk (some ⟨g, 0, none⟩)) w) := by
  have hgs := hs.lt
  have hin := h.in_
  have k4 := Blk.new w 31 #[.int .i64 0, .slice none 0 0]
  have hs4 := hs.alloc (.cells #[.int .i64 0, .slice none 0 0] 31)
  have hb4 : Below w.heap.size w (w.alloc (.cells #[.int .i64 0, .slice none 0 0] 31)) := (Below.refl _ _).alloc (Nat.le_refl _) _
  have h4 := h.below hb4
  have hu4 := (Upd.refl (blk (some ⟨g, 0, none⟩)) w).alloc (.cells #[.int .i64 0, .slice none 0 0] 31)
  go_enter Tryd.func32, Tryd.ntmps32
  go_wp2_with fail
  generalize w.alloc (.cells #[.int .i64 0, .slice none 0 0] 31) = w4 at *
  refine (pick_any A n c g k s _ _ h4 hl hs4 hf (by omega) (by omega)).mono ?_
  rintro e w1 ⟨r, k1, s1, rfl, hr, hk1, hs1, hu1⟩
  replace k4 := k4.upd hu1 (blk_not (by omega))
  replace h4 := h4.upd hu1 hf.no
  replace hu4 := hu4.trans hu1
  have E1 := Lib.hid (show (2 : Int) + (r : Int) = ((2 + r : Nat) : Int) by omega)
  have hN2 : 2 ≤ 2 + r := by omega
  have hNm : 2 + r ≤ most := by omega
  go_wp2_with fail
  rw [E1.out]
  clear E1
  generalize 2 + r = N at *
  have hlt4 := k4.lt
  have hsz1 := hu4.size
  have k5 := Blk.new w1 31 #[.int .i64 (N : Int), .slice none 0 0]
  have hs5 := hs1.alloc (.cells #[.int .i64 (N : Int), .slice none 0 0] 31)
  replace h4 := h4.below ((Below.refl w1.heap.size w1).alloc (Nat.le_refl _) (.cells #[.int .i64 (N : Int), .slice none 0 0] 31))
  replace hu4 := hu4.alloc (.cells #[.int .i64 (N : Int), .slice none 0 0] 31)
  replace k4 := k4.alloc (.cells #[.int .i64 (N : Int), .slice none 0 0] 31)
  have hz5 : w1.heap.size + 1 ≤ (w1.alloc (.cells #[.int .i64 (N : Int), .slice none 0 0] 31)).heap.size := by simp
  generalize w1.alloc (.cells #[.int .i64 (N : Int), .slice none 0 0] 31) = w5 at *
  clear hs4 hb4 hs1 hu1
  generalize hb5 : w1.heap.size = b5 at *
  refine (pick_any A n c g k1 s1 _ _ h4 hl hs5 hf (by omega) (by omega)).mono ?_
  rintro e w6 ⟨m, k6, s6, rfl, hm, hk6, hs6, hu6⟩
  replace k4 := k4.upd hu6 (blk_not (by omega))
  replace k5 := k5.upd hu6 (blk_not (by omega))
  replace h4 := h4.upd hu6 hf.no
  replace hu4 := hu4.trans hu6
  have hz6 : b5 + 1 ≤ w6.heap.size := Nat.le_trans hz5 hu6.size
  have hm10 : m ≤ 10 := by omega
  clear hm hs5 hu6 hz5 h
  go_wp2_with fail
  go_loopg [6, 7] m (fun rr kv av wr => ∃ (j kk : Nat) (ss : Int) (L : Option Addr) (q : Nat) (xs : List ArcR), rr = m - j ∧ j ≤ m ∧ kk ≤ 1004 + 10 * j ∧ kv = .int .i64 ((m - j : Nat) : Int) ∧ Blk wr w.heap.size 31 #[.int .i64 0, .slice none 0 0] ∧ Blk wr b5 31 #[.int .i64 (N : Int), .slice L j q] ∧ OwnA 42 (b5 + 1) wr L j q xs ∧ (∀ a ∈ xs, ArcD N a) ∧ SrcAt wr g A n c kk ss ∧ BytesAt wr A n ∧ Upd (blk (some ⟨g, 0, none⟩)) w wr ∧ b5 + 1 ≤ wr.heap.size)
  case atStart => exact ⟨0, k6, s6, none, 0, [], by omega, by omega, by omega, by go_num, k4, k5, OwnC.nil_ _ _ _ _, (fun a ha => nomatch ha), hs6, h4, hu4, hz6⟩
  case round =>
    clear k4 k5 h4 hu4 hs6 hz6
    obtain ⟨j, kk, ss, L, q, xs, hr, hj, hkk, rfl, k4, k5, own, hall, hs, h, hu, hz⟩ := hrel
    have HR := Lib.hid hr
    clear hr
    have HALL := Lib.hid hall
    clear hall
    by_cases hlt : j < m
    · have hp : (0 : Int) < ((m - j : Nat) : Int) := by omega
      have HNN := Lib.hid (show ((m - j : Nat) : Int) - 1 = ((m - (j + 1) : Nat) : Int) by omega)
      have hrest : ((m - j : Nat) : Int) ≤ 100 := by omega
      generalize ((m - j : Nat) : Int) = rest at *
      have q50 := k5.cell 0
      go_wp2_with fail
      refine (pick_any A n c g kk ss _ _ h hl hs hf (by omega) (by omega)).mono ?_
      rintro e w7 ⟨fr, k7, s7, rfl, hfr, hk7, hs7, hu7⟩
      replace k4 := k4.upd hu7 (blk_not (by omega))
      replace k5 := k5.upd hu7 (blk_not (by omega))
      replace own := OwnC.upd own hu7 (fun ad ha => blk_not (by have := (OwnC.lt own ha).1; omega))
      replace h := h.upd hu7 hf.no
      replace hu := hu.trans hu7
      replace hz := Nat.le_trans hz hu7.size
      clear hu7 hs q50
      have own0 := own
      have ka := Blk.new w7 42 #[.int .i64 (fr : Int), .int .i64 0, .int .i64 0, .int .i64 0]
      replace k4 := k4.alloc (.cells #[.int .i64 (fr : Int), .int .i64 0, .int .i64 0, .int .i64 0] 42)
      replace k5 := k5.alloc (.cells #[.int .i64 (fr : Int), .int .i64 0, .int .i64 0, .int .i64 0] 42)
      replace own := OwnC.alloc own (.cells #[.int .i64 (fr : Int), .int .i64 0, .int .i64 0, .int .i64 0] 42)
      replace h := h.below ((Below.refl w7.heap.size w7).alloc (Nat.le_refl _) (.cells #[.int .i64 (fr : Int), .int .i64 0, .int .i64 0, .int .i64 0] 42))
      replace hs7 := hs7.alloc (.cells #[.int .i64 (fr : Int), .int .i64 0, .int .i64 0, .int .i64 0] 42)
      replace hu := hu.alloc (.cells #[.int .i64 (fr : Int), .int .i64 0, .int .i64 0, .int .i64 0] 42)
      go_wp2_with fail
      generalize w7.alloc (.cells #[.int .i64 (fr : Int), .int .i64 0, .int .i64 0, .int .i64 0] 42) = wA at *
      generalize hb7 : w7.heap.size = b7 at *
      have HL7 := Lib.hid (fun (ad : Addr) (ha : L = some ad) => show ad.block < b7 from by have := (OwnC.lt own0 ha).2; omega)
      have KA := Lib.hid ka
      have K4 := Lib.hid k4
      have K5 := Lib.hid k5
      have OWN := Lib.hid own
      have HH := Lib.hid h
      have HS := Lib.hid hs7
      have HU := Lib.hid hu
      have a0 := ka.cell 0
      have n0 := k5.cell 0
      clear ka k4 k5 own own0 h hs7 hu
      have v1 : IntKind.i64.wrap ((fr : Int) + 1) = (fr : Int) + 1 := IntWalk.i64_in _ (by omega)
      have v2 : IntKind.i64.wrap ((N : Int) - 1) = (N : Int) - 1 := IntWalk.i64_in _ (by omega)
      have v3 : ¬ N = 0 := by omega
      go_region_held3 (fun w' => w'.cell? ⟨b7, 0, none⟩ = some (.int .i64 (fr : Int)) ∧ w'.cell? ⟨b5, 0, none⟩ = some (.int .i64 (N : Int)))
        (first
          | exact ⟨a0, n0⟩
          | exact ⟨a1, n1⟩
          | exact ⟨a2, n2⟩)
        (first
          | (go_at_call 50; refine (pick_any A n c g k7 s7 _ _ (HH.out.drewN 1) hl HS.out.drew hf (by omega) (by omega)).mono ?_; rintro e w8 ⟨x, k8, s8, rfl, hx, hk8, hs8, hu8⟩; have a1 := (KA.out.drew.upd hu8 (blk_not (by omega))).cell 0; have n1 := (K5.out.drew.upd hu8 (blk_not (by omega))).cell 0; have f8 := (KA.out.drew.upd hu8 (blk_not (by omega))).free 1; have c8 := (KA.out.drew.upd hu8 (blk_not (by omega))).cell 1; have a2 := ((KA.out.drew.upd hu8 (blk_not (by omega))).set 1 (.int .i64 (((fr : Int) + 1 + (x : Int)).tmod (N : Int)))).cell 0; have n2 := ((K5.out.drew.upd hu8 (blk_not (by omega))).far (p := ⟨b7, 1, none⟩) (show b5 ≠ b7 by omega) (.int .i64 (((fr : Int) + 1 + (x : Int)).tmod (N : Int)))).cell 0; have v5 : IntKind.i64.wrap ((fr : Int) + 1 + (x : Int)) = (fr : Int) + 1 + (x : Int) := IntWalk.i64_in _ (by omega); have HU8 := Lib.hid hu8; have HS8 := Lib.hid hs8; clear hu8 hs8))
      clear a0 n0 a1 n1 a2 n2 f8 c8 v1 v2 v3 v5
      obtain ⟨tt, ht1, ht2, ht3⟩ := to_ok (fr := fr) (x := x) (N := N) (by omega) (by omega) (by omega)
      rw [ht1]
      have hlt5 : b5 ≠ b7 := by omega
      have hw4b : w.heap.size ≠ b7 := by omega
      have k4 := ((K4.out.drew.upd HU8.out (blk_not (by omega))).far (p := ⟨b7, 1, none⟩) hw4b (.int .i64 (tt : Int)))
      have k5 := ((K5.out.drew.upd HU8.out (blk_not (by omega))).far (p := ⟨b7, 1, none⟩) hlt5 (.int .i64 (tt : Int)))
      have ka := ((KA.out.drew.upd HU8.out (blk_not (by omega))).set 1 (.int .i64 (tt : Int)))
      have own := OwnC.far (OwnC.upd (OwnC.drew OWN.out) HU8.out (fun ad ha => blk_not (by have := (OwnC.lt OWN.out ha).1; omega))) (p := ⟨b7, 1, none⟩) (fun ad ha => by have := (OwnC.lt OWN.out ha).2; have := HL7.out ad ha; show ad.block ≠ b7; omega) (.int .i64 (tt : Int))
      have hs8 := Blk.far HS8.out (p := ⟨b7, 1, none⟩) (show g ≠ b7 by omega) (.int .i64 (tt : Int))
      have h8 := ((HH.out.drewN 1).upd HU8.out hf.no).belowB ((Below.refl w.heap.size w8).setCell (p := ⟨b7, 1, none⟩) (by show w.heap.size ≤ b7; omega) (.int .i64 (tt : Int))) hin
      have hu8 := (HU.out.drew.trans HU8.out).setCell (p := ⟨b7, 1, none⟩) (.inr (by show w.heap.size ≤ b7; omega)) (.int .i64 (tt : Int))
      have hz8 : b7 + 1 ≤ (w8.setCell ⟨b7, 1, none⟩ (.int .i64 (tt : Int))).heap.size := by have := ka.lt; omega
      clear K4 K5 KA OWN HS8 HH HU8 HU HS
      generalize w8.setCell ⟨b7, 1, none⟩ (.int .i64 (tt : Int)) = W9 at *
      go_wp2_with fail
      refine (pick_any A n c g k8 s8 _ _ h8 hl hs8 hf (by omega) (by omega)).mono ?_
      rintro e w10 ⟨ro, k10, s10, rfl, hro, hk10, hs10, hu10⟩
      replace k4 := k4.upd hu10 (blk_not (by omega))
      replace k5 := k5.upd hu10 (blk_not (by omega))
      replace ka := ka.upd hu10 (blk_not (by omega))
      replace own := OwnC.upd own hu10 (fun ad ha => blk_not (by have := (OwnC.lt own ha).1; omega))
      replace h8 := h8.upd hu10 hf.no
      replace hu8 := hu8.trans hu10
      replace hz8 := Nat.le_trans hz8 hu10.size
      clear hu10 hs8
      have f2 := ka.free 2
      have c2 := ka.cell 2
      go_wp2_with fail
      clear f2 c2
      replace k4 := k4.far (p := ⟨b7, 2, none⟩) hw4b (.int .i64 (ro : Int))
      replace k5 := k5.far (p := ⟨b7, 2, none⟩) hlt5 (.int .i64 (ro : Int))
      replace ka := ka.set 2 (.int .i64 (ro : Int))
      have own' := OwnC.far own (p := ⟨b7, 2, none⟩) (fun ad ha => by have := HL7.out ad ha; show ad.block ≠ b7; omega) (.int .i64 (ro : Int))
      replace hs10 := Blk.far hs10 (p := ⟨b7, 2, none⟩) (show g ≠ b7 by omega) (.int .i64 (ro : Int))
      replace h8 := h8.belowB ((Below.refl w.heap.size w10).setCell (p := ⟨b7, 2, none⟩) (by show w.heap.size ≤ b7; omega) (.int .i64 (ro : Int))) hin
      replace hu8 := hu8.setCell (p := ⟨b7, 2, none⟩) (.inr (by show w.heap.size ≤ b7; omega)) (.int .i64 (ro : Int))
      replace hz8 : b7 + 1 ≤ (w10.setCell ⟨b7, 2, none⟩ (.int .i64 (ro : Int))).heap.size := by have := ka.lt; omega
      clear own
      have own := own'
      clear own'
      generalize w10.setCell ⟨b7, 2, none⟩ (.int .i64 (ro : Int)) = w11 at *
      refine (pick_any A n c g k10 s10 _ _ h8 hl hs10 hf (by omega) (by omega)).mono ?_
      rintro e w12 ⟨co, k12, s12, rfl, hco, hk12, hs12, hu12⟩
      replace k4 := k4.upd hu12 (blk_not (by omega))
      replace k5 := k5.upd hu12 (blk_not (by omega))
      replace ka := ka.upd hu12 (blk_not (by omega))
      replace own := OwnC.upd own hu12 (fun ad ha => blk_not (by have := (OwnC.lt own ha).1; omega))
      replace h8 := h8.upd hu12 hf.no
      replace hu8 := hu8.trans hu12
      replace hz8 := Nat.le_trans hz8 hu12.size
      clear hu12 hs10
      have f2 := ka.free 3
      have c2 := ka.cell 3
      go_upto_region 9 with (fail)
      clear f2 c2
      replace k4 := k4.far (p := ⟨b7, 3, none⟩) hw4b (.int .i64 (co : Int))
      replace k5 := k5.far (p := ⟨b7, 3, none⟩) hlt5 (.int .i64 (co : Int))
      replace ka := ka.set 3 (.int .i64 (co : Int))
      have own' := OwnC.far own (p := ⟨b7, 3, none⟩) (fun ad ha => by have := HL7.out ad ha; show ad.block ≠ b7; omega) (.int .i64 (co : Int))
      replace hs12 := Blk.far hs12 (p := ⟨b7, 3, none⟩) (show g ≠ b7 by omega) (.int .i64 (co : Int))
      replace h8 := h8.belowB ((Below.refl w.heap.size w12).setCell (p := ⟨b7, 3, none⟩) (by show w.heap.size ≤ b7; omega) (.int .i64 (co : Int))) hin
      replace hu8 := hu8.setCell (p := ⟨b7, 3, none⟩) (.inr (by show w.heap.size ≤ b7; omega)) (.int .i64 (co : Int))
      replace hz8 : b7 + 1 ≤ (w12.setCell ⟨b7, 3, none⟩ (.int .i64 (co : Int))).heap.size := by have := ka.lt; omega
      clear own
      have own := own'
      clear own'
      generalize w12.setCell ⟨b7, 3, none⟩ (.int .i64 (co : Int)) = w13 at *
      have c0 := ka.cell 0
      have c1 := ka.cell 1
      have c2 := ka.cell 2
      have c3 := ka.cell 3
      have q0 := k5.cell 1
      have k4' := k4.alloc (.cells #[.int .i64 (fr : Int), .int .i64 (tt : Int), .int .i64 (ro : Int), .int .i64 (co : Int)] 42)
      have k5' := k5.alloc (.cells #[.int .i64 (fr : Int), .int .i64 (tt : Int), .int .i64 (ro : Int), .int .i64 (co : Int)] 42)
      have hs' := Blk.alloc hs12 (.cells #[.int .i64 (fr : Int), .int .i64 (tt : Int), .int .i64 (ro : Int), .int .i64 (co : Int)] 42)
      have h' := h8.belowB ((Below.refl w.heap.size w13).alloc (by have := k5.lt; omega) (.cells #[.int .i64 (fr : Int), .int .i64 (tt : Int), .int .i64 (ro : Int), .int .i64 (co : Int)] 42)) hin
      have hu' := hu8.alloc (.cells #[.int .i64 (fr : Int), .int .i64 (tt : Int), .int .i64 (ro : Int), .int .i64 (co : Int)] 42)
      have hszz : b5 + 1 ≤ (w13.alloc (.cells #[.int .i64 (fr : Int), .int .i64 (tt : Int), .int .i64 (ro : Int), .int .i64 (co : Int)] 42)).heap.size := by simp; omega
      have HKB := Lib.hid (fun (w6 : World) (b6 : Below (b5 + 1) (w13.alloc (.cells #[.int .i64 (fr : Int), .int .i64 (tt : Int), .int .i64 (ro : Int), .int .i64 (co : Int)] 42)) w6) => k5'.below b6 (by omega))
      go_wp2_with (at_builtin; go_must (refine wp_append_cells _ rfl _ _ _ rfl 42 (b5 + 1) Tryd.underlying29 _ 4 32 info4 rfl (by decide) (by decide) (by decide) L j q _ rfl (OwnC.alloc own _) _ 1 1 [.int .i64 (fr : Int), .int .i64 (tt : Int), .int .i64 (ro : Int), .int .i64 (co : Int)] rfl rfl (src_one (w := w13) (T := 42) (cs := #[.int .i64 (fr : Int), .int .i64 (tt : Int), .int .i64 (ro : Int), .int .i64 (co : Int)]) 1 (by decide)) (by simp [Value.oneCell']) (by omega) hszz ?_; intro A5 c5 w16 o6 u6 b6 hg6; have kb6 := HKB.out w16 b6; have f6 := kb6.free 1; have r6 := kb6.cell 1))
      have o7 : OwnA 42 (b5 + 1) (w16.setCell ⟨b5, 1, none⟩ (.slice A5 (j + 1) c5)) A5 (j + 1) c5 (xs ++ [⟨fr, tt, ro, co⟩]) := by
        have o8 := OwnC.far o6 (p := ⟨b5, 1, none⟩) (fun ad ha => by have := (OwnC.lt o6 ha).1; show ad.block ≠ b5; omega) (.slice A5 (j + 1) c5)
        unfold OwnA
        rw [arcsV_snoc]
        exact o8
      have kb7 := kb6.set 1 (.slice A5 (j + 1) c5)
      have k47 := (k4'.below b6 (by omega)).far (p := ⟨b5, 1, none⟩) (show w.heap.size ≠ b5 by omega) (.slice A5 (j + 1) c5)
      have hs17 := Blk.far (hs'.below b6 (by omega)) (p := ⟨b5, 1, none⟩) (show g ≠ b5 by omega) (.slice A5 (j + 1) c5)
      have h17 := h'.belowB ((b6.mono (show w.heap.size ≤ b5 + 1 by omega)).setCell (p := ⟨b5, 1, none⟩) (show w.heap.size ≤ b5 by omega) (.slice A5 (j + 1) c5)) hin
      have hu17 := (hu'.then (S' := blk L) u6 (fun b hb hbL => by obtain ⟨z, z1, z2⟩ := hbL; have := (OwnC.lt own z1).1; omega)).setCell (p := ⟨b5, 1, none⟩) (.inr (show w.heap.size ≤ b5 by omega)) (.slice A5 (j + 1) c5)
      have hz17 : b5 + 1 ≤ (w16.setCell ⟨b5, 1, none⟩ (.slice A5 (j + 1) c5)).heap.size := by have := kb7.lt; omega
      go_roundg (m - (j + 1))
      case measure => rw [HR.out]; omega
      case rel =>
        refine ⟨j + 1, k12, s12, A5, c5, _, rfl, by omega, by omega, by rw [HNN.out], k47, kb7, o7, ?_, hs17, h17, hu17, hz17⟩
        intro a ha
        rw [List.mem_append, List.mem_singleton] at ha
        rcases ha with ha | rfl
        · exact HALL.out a ha
        · refine ⟨⟨by show (0 : Int) ≤ fr; omega, by show (fr : Int) < N; omega⟩, ⟨by show (0 : Int) ≤ tt; omega, by show (tt : Int) < N; omega⟩, ?_, ⟨by show (0 : Int) ≤ ro; omega, by show (ro : Int) ≤ 6; omega⟩, by show (0 : Int) ≤ co; omega, by show (co : Int) ≤ 8; omega⟩
          show (fr : Int) ≠ (tt : Int)
          omega
    · obtain rfl : m = j := by omega
      have q0 := k5.cell 0
      have q1 := k5.cell 1
      have f0 := k4.free 0
      have f1 := k4.free 1
      have p0 := k4.cell 0
      have p1 := k4.cell 1
      have hlen : xs.length = m := (OwnA.arcs own).1
      have HLEN := Lib.hid hlen
      clear hlen
      go_wp2_with fail
      have k4b := (k4.set 0 (.int .i64 (N : Int))).set 1 (.slice L m q)
      have ownb := OwnC.far (OwnC.far own (p := ⟨w.heap.size, 0, none⟩) (fun ad ha => by have := (OwnC.lt own ha).1; show ad.block ≠ w.heap.size; omega) (.int .i64 (N : Int))) (p := ⟨w.heap.size, 1, none⟩) (fun ad ha => by have := (OwnC.lt own ha).1; show ad.block ≠ w.heap.size; omega) (.slice L m q)
      have hub := (hu.setCell (p := ⟨w.heap.size, 0, none⟩) (.inr (Nat.le_refl _)) (.int .i64 (N : Int))).setCell (p := ⟨w.heap.size, 1, none⟩) (.inr (Nat.le_refl _)) (.slice L m q)
      have x0 := k4b.cell 0
      have x1 := k4b.cell 1
      generalize (wr.setCell ⟨w.heap.size, 0, none⟩ (.int .i64 (N : Int))).setCell ⟨w.heap.size, 1, none⟩ (.slice L m q) = wz at *
      exact bodyPost_ret (v := .agg #[.int .i64 (N : Int), .slice L m q]) (by simp [results, Tryd.results32, go_sem, x0, x1]) rfl ⟨N, L, m, q, xs, rfl, OwnC.low ownb (by omega), ⟨hN2, hNm, by rw [HLEN.out]; exact hm10, HALL.out⟩, hub⟩

set_option maxRecDepth 100000 in
set_option maxHeartbeats 1600000 in
theorem b10Net_any (A : Option Addr) (n c : Nat) (most : Nat) (w : World) (h : BytesAt w A n) (hl : n ≤ maxLen) (hm2 : 2 ≤ most) (hm16 : most ≤ 16) :
    Calls Tryd.prog 15 #[.slice A n c, .int .i64 (most : Int)] w (NetDrawn 42 most (fun _ => False) w) := by
  have hin := h.in_
  have k4 := Blk.new w 31 #[.int .i64 0, .slice none 0 0]
  have hb4 : Below w.heap.size w (w.alloc (.cells #[.int .i64 0, .slice none 0 0] 31)) := (Below.refl _ _).alloc (Nat.le_refl _) _
  have h4 := h.below hb4
  have hlt4 := k4.lt
  go_enter Tryd.func15, Tryd.ntmps15
  go_wp2_with fail
  generalize w.alloc (.cells #[.int .i64 0, .slice none 0 0] 31) = w4 at *
  refine (from_any A n c _ h4).mono ?_
  rintro e w5 ⟨rfl, hs, hf, hb5, hz5⟩
  replace h4 := h4.below hb5
  replace k4 := k4.ext hb5
  go_wp2_with fail
  refine (drawOk_any A n c _ 0 0 most _ h4 hl hs hf (by omega) hm2 hm16).mono ?_
  rintro e w6 ⟨N, L, m, q, xs, rfl, own, hd, hu⟩
  replace k4 := k4.upd hu (blk_not (by omega))
  have f0 := k4.free 0
  have f1 := k4.free 1
  have p0 := k4.cell 0
  have p1 := k4.cell 1
  have hb6 : Below w.heap.size w w6 := (hb4.trans (hb5.mono (by omega))).trans (hu.toBelow (by omega) fun k hk => blk_not (by omega))
  have hs5 : w4.heap.size < w5.heap.size := by omega
  go_wp2_with fail
  have k4b := (k4.set 0 (.int .i64 (N : Int))).set 1 (.slice L m q)
  have ownb := OwnC.far (OwnC.far own (p := ⟨w.heap.size, 0, none⟩) (fun ad ha => by have := (OwnC.lt own ha).1; show ad.block ≠ w.heap.size; omega) (.int .i64 (N : Int))) (p := ⟨w.heap.size, 1, none⟩) (fun ad ha => by have := (OwnC.lt own ha).1; show ad.block ≠ w.heap.size; omega) (.slice L m q)
  have hub := (hb6.setCell (p := ⟨w.heap.size, 0, none⟩) (Nat.le_refl _) (.int .i64 (N : Int))).setCell (p := ⟨w.heap.size, 1, none⟩) (Nat.le_refl _) (.slice L m q)
  have x0 := k4b.cell 0
  have x1 := k4b.cell 1
  generalize (w6.setCell ⟨w.heap.size, 0, none⟩ (.int .i64 (N : Int))).setCell ⟨w.heap.size, 1, none⟩ (.slice L m q) = wz at *
  exact bodyPost_ret (v := .agg #[.int .i64 (N : Int), .slice L m q]) (by simp [results, Tryd.results15, go_sem, x0, x1]) rfl ⟨N, L, m, q, xs, rfl, OwnC.low ownb (by omega), hd, Upd.ofBelow hub⟩
theorem netD_valid {N most : Nat} {xs : List ArcR} (h : NetD N most xs) (hm : most ≤ 16) : validB N xs = true := by
  obtain ⟨h1, h2, h3, h4⟩ := h
  simp only [validB, Bool.and_eq_true, decide_eq_true_eq, List.all_eq_true]
  refine ⟨inB_iff.2 ⟨by omega, by omega⟩, by omega, fun a ha => ?_⟩
  obtain ⟨a1, a2, a3, a4, a5⟩ := h4 a ha
  simp only [arcOkB, Bool.and_eq_true, decide_eq_true_eq]
  exact ⟨inB_iff.2 ⟨a1.1, by omega⟩, inB_iff.2 ⟨a2.1, by omega⟩, a3, inB_iff.2 ⟨a4.1, by omega⟩, inB_iff.2 ⟨by omega, by omega⟩⟩
end Go.Proofs.YtigaopfhjimpmaaDoor
