/- Left over arcs of the reference. -/
import Derived.Test.YtpaahjeohigngaaZLinks
namespace Go.Proofs.Ytpaahjeohigngaa
open Go.RowKit

theorem infoLf : (Try.prog.info? 98).map (fun i => (i.zero, i.size, i.bytes)) = some (some (.agg #[.int .i64 0, .int .i64 0, .int .i64 0, .int .i64 0, .int .i64 0, .bool false]), 6, 48) := by kernel_rfl
set_option maxRecDepth 100000 in
set_option maxHeartbeats 3200000 in
theorem l03Lefts_any (g : Nat) (nodes : Int) (A : Option Addr) (n c : Nat) (xs : List ArcR) (B : Option Addr) (d : Nat) (fl : List Int) (w : World) (hb : Blk w g 26 #[.int .i64 nodes, .slice A n c]) (h : ArcsAt w A n xs) (hn : n ≤ 48) (hy : IntsAt w B n fl)
    (hf : ∀ k, k < n → (0 ≤ fl.getD k 0 ∧ fl.getD k 0 ≤ 1000000) ∧ (0 ≤ (xs.getD k default).room ∧ (xs.getD k default).room ≤ 1000000) ∧ (-1000 ≤ (xs.getD k default).cost ∧ (xs.getD k default).cost ≤ 1000)) :
    Calls Try.prog 55 #[.pointer (some ⟨g, 0, none⟩), .slice B n d] w fun e w' => ∃ (L : Option Addr) (m q : Nat), e = .returned (.slice L m q) ∧ m = (linksTo xs fl n).length ∧ OwnC 98 w.heap.size 6 w' L m q (flatV LinkR.cellsS (linksTo xs fl n)) ∧ Below w.heap.size w w' := by
  have HF := Lib.hid hf
  obtain ⟨i0, hi0, hz0, hz1, hz2⟩ := info_parts infoLf
  have he : OwnC 98 w.heap.size 6 (w.alloc (.cells #[] 98)) (some ⟨w.heap.size, 0, none⟩) 0 0 [] := World.ownsRow_lit (e := 98) (base := w.heap.size) (size := 6) w #[] 0 (Nat.le_refl _) (Nat.zero_le _) rfl
  have hW : Below w.heap.size w (w.alloc (.cells #[] 98)) := (Below.refl _ _).alloc (Nat.le_refl _) _
  clear hf
  go_enter Try.func55, Try.ntmps55
  go_wp2_with fail
  generalize w.alloc (.cells #[] 98) = W at *
  go_loopg [5, 11] n (fun r ov i wr => ∃ (k : Nat) (L : Option Addr) (m q : Nat), r = n - k ∧ k ≤ n ∧ i = .int .i64 k ∧ ov = .slice L m q ∧ m ≤ 2 * k ∧ Hid (m = (linksTo xs fl k).length) ∧ OwnC 98 w.heap.size 6 wr L m q (flatV LinkR.cellsS (linksTo xs fl k)) ∧ Below w.heap.size w wr)
  case atStart => exact ⟨0, _, 0, 0, by omega, by omega, rfl, rfl, by omega, Lib.hid rfl, he, hW⟩
  case round =>
    clear he hW
    obtain ⟨k, L, m, q, hr, hk, rfl, rfl, hm2, hm, hown, hd⟩ := hrel
    have HR := Lib.hid hr
    clear hr
    have p1 := (hb.ext hd).cell 1
    by_cases hlt : k < n
    · obtain ⟨ad, rfl, hadlt, _⟩ := h.at_ hlt
      obtain ⟨c0, c1, c2, c3⟩ := arcs_cell (h.below hd) hlt
      obtain ⟨⟨y0, y1⟩, ⟨r0, r1⟩, ⟨q0, q1⟩⟩ := HF.out k hlt
      have HS := Lib.hid (linksTo_succ xs fl k)
      obtain ⟨bd, rfl, hbdlt, _⟩ := hy.at_ hlt
      have hyc := ints_cell (hy.below hd) hlt
      generalize xs.getD k default = x at *
      generalize fl.getD k 0 = y at *
      obtain ⟨f, t, r, q'⟩ := x
      have r0' : 0 ≤ r := r0
      have r1' : r ≤ 1000000 := r1
      have q0' : -1000 ≤ q' := q0
      have q1' : q' ≤ 1000 := q1
      have HLO := Lib.hid (fun ad (ha : L = some ad) => (OwnC.lt hown ha).1)
      clear r0 r1 q0 q1
      by_cases hy1 : y < r
      · by_cases hy2 : 0 < y
        · have HL := Lib.hid (show linksTo xs fl (k + 1) = linksTo xs fl k ++ [⟨k, false, f, t, r - y, q'⟩] ++ [⟨k, true, t, f, y, -q'⟩] by rw [HS.out, linksOf_yy (a := ⟨f, t, r, q'⟩) hy1 hy2, List.append_assoc])
          go_wp2_with fail
          go_quiet (fail)
          have o2 := OwnC.drewN hown nq
          have hd3 := below_drewN hd nq
          have y2 : (wr.drewN nq).cell? (bd.add k) = some (.int .i64 y) := hyc
          have f0 : (wr.drewN nq).cell? (ad.add (k * 4)) = some (.int .i64 f) := c0
          have f1 : (wr.drewN nq).cell? ⟨(ad.add (k * 4)).block, (ad.add (k * 4)).off + 1, none⟩ = some (.int .i64 t) := c1
          have f2 : (wr.drewN nq).cell? ⟨(ad.add (k * 4)).block, (ad.add (k * 4)).off + 2, none⟩ = some (.int .i64 r) := c2
          have f3 : (wr.drewN nq).cell? ⟨(ad.add (k * 4)).block, (ad.add (k * 4)).off + 3, none⟩ = some (.int .i64 q') := c3
          have v1 : IntKind.i64.wrap (r - y) = r - y := IntWalk.i64_in _ (by omega)
          have v2 : IntKind.i64.wrap (-q') = -q' := IntWalk.i64_in _ (by omega)
          have hbs := hd3.size
          have nA : some (ad.add (k * 4)).block ≠ (Value.slice L m q).ownBlock := ne_own fun x ha => by have := HLO.out x ha; rw [block_add]; omega
          have nB : some (bd.add k).block ≠ (Value.slice L m q).ownBlock := ne_own fun x ha => by have := HLO.out x ha; rw [block_add]; omega
          clear hown hd hyc c0 c1 c2 c3
          go_wp2_with fail
          generalize wr.drewN nq = W2 at *
          go_region_held3 (fun w' => w'.cell? (ad.add (k * 4)) = some (.int .i64 f) ∧ w'.cell? ⟨(ad.add (k * 4)).block, (ad.add (k * 4)).off + 1, none⟩ = some (.int .i64 t) ∧ w'.cell? ⟨(ad.add (k * 4)).block, (ad.add (k * 4)).off + 2, none⟩ = some (.int .i64 r) ∧ w'.cell? ⟨(ad.add (k * 4)).block, (ad.add (k * 4)).off + 3, none⟩ = some (.int .i64 q') ∧ w'.cell? (bd.add k) = some (.int .i64 y))
            (first
              | go_keep
              | (go_split_ands
                 refine ⟨keepFar hgrow (by assumption) nA, keepFar hgrow (by assumption) nA, keepFar hgrow (by assumption) nA, keepFar hgrow (by assumption) nA, keepFar hgrow (by assumption) nB⟩))
            ((refine step_append_lies _ (by rfl) _ _ _ (by rfl) w.heap.size 98 i0 _ 6 48 Try.underlying89 hi0 hz0 hz1 hz2 rfl (by omega) (.slice L m q) (m) (flatV LinkR.cellsS (linksTo xs fl k)) (by rfl) ((World.ownsRow.alloc o2 _).drew) ⟨W2.heap.size, 0, none⟩ 1 1 (LinkR.cellsS ⟨k, false, f, t, r - y, q'⟩) (by rfl) (by rfl) (World.news_of_block (cs := #[.int .i64 f, .int .i64 t, .int .i64 (r - y), .int .i64 q', .int .i64 k, .bool false]) (t := 98) (fr := (0, 0)) (heap_alloc_new W2 _)) (by simp [LinkR.cellsS, Value.oneCell']) (by omega) (by unfold maxLen; omega) (by omega) (by simp; omega) (W2.heap.size + 1) (by simp) ?_; intro gg5 cap5 w5 hown5 hgrow hat5 hlt5))
          have o5 : OwnC 98 w.heap.size 6 w5 (some ⟨gg5, 0, none⟩) (m + 1) cap5 (flatV LinkR.cellsS (linksTo xs fl k ++ [⟨k, false, f, t, r - y, q'⟩])) := by
            have h := hown5
            rw [show LinkR.cellsS ⟨k, false, f, t, r - y, q'⟩ = flatV LinkR.cellsS [⟨k, false, f, t, r - y, q'⟩] from (flatV_one _ _).symm, flatV_append] at h
            exact h
          have hd5 := below_grown ((hd3.alloc hbs (.cells #[.int .i64 f, .int .i64 t, .int .i64 (r - y), .int .i64 q', .int .i64 k, .bool false] 98)).drew) (by simp; omega) hgrow (OwnC.drew (OwnC.alloc o2 _)) (Nat.le_refl _)
          go_split_ands
          clear f0 f1 f2 f3 y2
          have hbs2 := hd5.size
          have hge : w.heap.size ≤ gg5 := (OwnC.lt o5 rfl).1
          have nA2 : some (ad.add (k * 4)).block ≠ (Value.slice (some ⟨gg5, 0, none⟩) (m + 1) cap5).ownBlock := ne_own fun x ha => by injection ha with ha; subst ha; rw [block_add]; show gg5 ≠ ad.block; omega
          have nB2 : some (bd.add k).block ≠ (Value.slice (some ⟨gg5, 0, none⟩) (m + 1) cap5).ownBlock := ne_own fun x ha => by injection ha with ha; subst ha; rw [block_add]; show gg5 ≠ bd.block; omega
          clear nA nB hat5 hgrow hown5 p1
          go_wp2_with fail
          clear hbs
          have hbs := hbs2
          go_region_held3 (fun w' => w'.cell? (ad.add (k * 4)) = some (.int .i64 f) ∧ w'.cell? ⟨(ad.add (k * 4)).block, (ad.add (k * 4)).off + 1, none⟩ = some (.int .i64 t) ∧ w'.cell? ⟨(ad.add (k * 4)).block, (ad.add (k * 4)).off + 2, none⟩ = some (.int .i64 r) ∧ w'.cell? ⟨(ad.add (k * 4)).block, (ad.add (k * 4)).off + 3, none⟩ = some (.int .i64 q') ∧ w'.cell? (bd.add k) = some (.int .i64 y))
            (first
              | go_keep
              | (go_split_ands
                 refine ⟨keepFar hgrow (by assumption) nA2, keepFar hgrow (by assumption) nA2, keepFar hgrow (by assumption) nA2, keepFar hgrow (by assumption) nA2, keepFar hgrow (by assumption) nB2⟩))
            ((refine step_append_lies _ (by rfl) _ _ _ (by rfl) w.heap.size 98 i0 _ 6 48 Try.underlying89 hi0 hz0 hz1 hz2 rfl (by omega) (.slice (some ⟨gg5, 0, none⟩) (m + 1) cap5) (m + 1) (flatV LinkR.cellsS (linksTo xs fl k ++ [⟨k, false, f, t, r - y, q'⟩])) (by rfl) ((World.ownsRow.alloc o5 _).drew) ⟨w5.heap.size, 0, none⟩ 1 1 (LinkR.cellsS ⟨k, true, t, f, y, -q'⟩) (by rfl) (by rfl) (World.news_of_block (cs := #[.int .i64 t, .int .i64 f, .int .i64 y, .int .i64 (-q'), .int .i64 k, .bool true]) (t := 98) (fr := (0, 0)) (heap_alloc_new w5 _)) (by simp [LinkR.cellsS, Value.oneCell']) (by omega) (by unfold maxLen; omega) (by omega) (by simp; omega) (w5.heap.size + 1) (by simp) ?_; intro gg6 cap6 w6 hown6 hgrow hat6 hlt6))
          have o6 : OwnC 98 w.heap.size 6 w6 (some ⟨gg6, 0, none⟩) (m + 1 + 1) cap6 (flatV LinkR.cellsS (linksTo xs fl k ++ [⟨k, false, f, t, r - y, q'⟩] ++ [⟨k, true, t, f, y, -q'⟩])) := by
            have h := hown6
            rw [show LinkR.cellsS ⟨k, true, t, f, y, -q'⟩ = flatV LinkR.cellsS [⟨k, true, t, f, y, -q'⟩] from (flatV_one _ _).symm, flatV_append] at h
            exact h
          have hd6 := below_grown ((hd5.alloc hbs (.cells #[.int .i64 t, .int .i64 f, .int .i64 y, .int .i64 (-q'), .int .i64 k, .bool true] 98)).drew) (by simp; omega) hgrow (OwnC.drew (OwnC.alloc o5 _)) (Nat.le_refl _)
          go_split_ands
          go_wp2_with fail
          go_roundg (n - (k + 1))
          case measure => rw [HR.out]; omega
          case rel => exact ⟨k + 1, _, _, _, rfl, by omega, by go_num, rfl, by omega, Lib.hid (by rw [HL.out, hm.out]; simp), by rw [HL.out]; exact o6, hd6⟩
        · have HL := Lib.hid (show linksTo xs fl (k + 1) = linksTo xs fl k ++ [⟨k, false, f, t, r - y, q'⟩] by rw [HS.out, linksOf_yn (a := ⟨f, t, r, q'⟩) hy1 hy2])
          go_wp2_with fail
          go_quiet (fail)
          have o2 := OwnC.drewN hown nq
          have hd3 := below_drewN hd nq
          have y2 : (wr.drewN nq).cell? (bd.add k) = some (.int .i64 y) := hyc
          have f0 : (wr.drewN nq).cell? (ad.add (k * 4)) = some (.int .i64 f) := c0
          have f1 : (wr.drewN nq).cell? ⟨(ad.add (k * 4)).block, (ad.add (k * 4)).off + 1, none⟩ = some (.int .i64 t) := c1
          have f2 : (wr.drewN nq).cell? ⟨(ad.add (k * 4)).block, (ad.add (k * 4)).off + 2, none⟩ = some (.int .i64 r) := c2
          have f3 : (wr.drewN nq).cell? ⟨(ad.add (k * 4)).block, (ad.add (k * 4)).off + 3, none⟩ = some (.int .i64 q') := c3
          have v1 : IntKind.i64.wrap (r - y) = r - y := IntWalk.i64_in _ (by omega)
          have v2 : IntKind.i64.wrap (-q') = -q' := IntWalk.i64_in _ (by omega)
          have hbs := hd3.size
          have nA : some (ad.add (k * 4)).block ≠ (Value.slice L m q).ownBlock := ne_own fun x ha => by have := HLO.out x ha; rw [block_add]; omega
          have nB : some (bd.add k).block ≠ (Value.slice L m q).ownBlock := ne_own fun x ha => by have := HLO.out x ha; rw [block_add]; omega
          clear hown hd hyc c0 c1 c2 c3
          go_wp2_with fail
          generalize wr.drewN nq = W2 at *
          go_region_held3 (fun w' => w'.cell? (ad.add (k * 4)) = some (.int .i64 f) ∧ w'.cell? ⟨(ad.add (k * 4)).block, (ad.add (k * 4)).off + 1, none⟩ = some (.int .i64 t) ∧ w'.cell? ⟨(ad.add (k * 4)).block, (ad.add (k * 4)).off + 2, none⟩ = some (.int .i64 r) ∧ w'.cell? ⟨(ad.add (k * 4)).block, (ad.add (k * 4)).off + 3, none⟩ = some (.int .i64 q') ∧ w'.cell? (bd.add k) = some (.int .i64 y))
            (first
              | go_keep
              | (go_split_ands
                 refine ⟨keepFar hgrow (by assumption) nA, keepFar hgrow (by assumption) nA, keepFar hgrow (by assumption) nA, keepFar hgrow (by assumption) nA, keepFar hgrow (by assumption) nB⟩))
            ((refine step_append_lies _ (by rfl) _ _ _ (by rfl) w.heap.size 98 i0 _ 6 48 Try.underlying89 hi0 hz0 hz1 hz2 rfl (by omega) (.slice L m q) (m) (flatV LinkR.cellsS (linksTo xs fl k)) (by rfl) ((World.ownsRow.alloc o2 _).drew) ⟨W2.heap.size, 0, none⟩ 1 1 (LinkR.cellsS ⟨k, false, f, t, r - y, q'⟩) (by rfl) (by rfl) (World.news_of_block (cs := #[.int .i64 f, .int .i64 t, .int .i64 (r - y), .int .i64 q', .int .i64 k, .bool false]) (t := 98) (fr := (0, 0)) (heap_alloc_new W2 _)) (by simp [LinkR.cellsS, Value.oneCell']) (by omega) (by unfold maxLen; omega) (by omega) (by simp; omega) (W2.heap.size + 1) (by simp) ?_; intro gg5 cap5 w5 hown5 hgrow hat5 hlt5))
          have o5 : OwnC 98 w.heap.size 6 w5 (some ⟨gg5, 0, none⟩) (m + 1) cap5 (flatV LinkR.cellsS (linksTo xs fl k ++ [⟨k, false, f, t, r - y, q'⟩])) := by
            have h := hown5
            rw [show LinkR.cellsS ⟨k, false, f, t, r - y, q'⟩ = flatV LinkR.cellsS [⟨k, false, f, t, r - y, q'⟩] from (flatV_one _ _).symm, flatV_append] at h
            exact h
          have hd5 := below_grown ((hd3.alloc hbs (.cells #[.int .i64 f, .int .i64 t, .int .i64 (r - y), .int .i64 q', .int .i64 k, .bool false] 98)).drew) (by simp; omega) hgrow (OwnC.drew (OwnC.alloc o2 _)) (Nat.le_refl _)
          go_split_ands
          clear f0 f1 f2 f3 y2 hgrow hown5
          go_wp2_with fail
          go_roundg (n - (k + 1))
          case measure => rw [HR.out]; omega
          case rel => exact ⟨k + 1, _, _, _, rfl, by omega, by go_num, rfl, by omega, Lib.hid (by rw [HL.out, hm.out]; simp), by rw [HL.out]; exact o5, hd5⟩
      · by_cases hy2 : 0 < y
        · have HL := Lib.hid (show linksTo xs fl (k + 1) = linksTo xs fl k ++ [⟨k, true, t, f, y, -q'⟩] by rw [HS.out, linksOf_ny (a := ⟨f, t, r, q'⟩) hy1 hy2])
          go_wp2_with fail
          go_quiet (fail)
          have o2 := OwnC.drewN hown nq
          have hd3 := below_drewN hd nq
          have y2 : (wr.drewN nq).cell? (bd.add k) = some (.int .i64 y) := hyc
          have f0 : (wr.drewN nq).cell? (ad.add (k * 4)) = some (.int .i64 f) := c0
          have f1 : (wr.drewN nq).cell? ⟨(ad.add (k * 4)).block, (ad.add (k * 4)).off + 1, none⟩ = some (.int .i64 t) := c1
          have f2 : (wr.drewN nq).cell? ⟨(ad.add (k * 4)).block, (ad.add (k * 4)).off + 2, none⟩ = some (.int .i64 r) := c2
          have f3 : (wr.drewN nq).cell? ⟨(ad.add (k * 4)).block, (ad.add (k * 4)).off + 3, none⟩ = some (.int .i64 q') := c3
          have v1 : IntKind.i64.wrap (r - y) = r - y := IntWalk.i64_in _ (by omega)
          have v2 : IntKind.i64.wrap (-q') = -q' := IntWalk.i64_in _ (by omega)
          have hbs := hd3.size
          have nA : some (ad.add (k * 4)).block ≠ (Value.slice L m q).ownBlock := ne_own fun x ha => by have := HLO.out x ha; rw [block_add]; omega
          have nB : some (bd.add k).block ≠ (Value.slice L m q).ownBlock := ne_own fun x ha => by have := HLO.out x ha; rw [block_add]; omega
          clear hown hd hyc c0 c1 c2 c3
          go_wp2_with fail
          generalize wr.drewN nq = W2 at *
          go_region_held3 (fun w' => w'.cell? (ad.add (k * 4)) = some (.int .i64 f) ∧ w'.cell? ⟨(ad.add (k * 4)).block, (ad.add (k * 4)).off + 1, none⟩ = some (.int .i64 t) ∧ w'.cell? ⟨(ad.add (k * 4)).block, (ad.add (k * 4)).off + 2, none⟩ = some (.int .i64 r) ∧ w'.cell? ⟨(ad.add (k * 4)).block, (ad.add (k * 4)).off + 3, none⟩ = some (.int .i64 q') ∧ w'.cell? (bd.add k) = some (.int .i64 y))
            (first
              | go_keep
              | (go_split_ands
                 refine ⟨keepFar hgrow (by assumption) nA, keepFar hgrow (by assumption) nA, keepFar hgrow (by assumption) nA, keepFar hgrow (by assumption) nA, keepFar hgrow (by assumption) nB⟩))
            ((refine step_append_lies _ (by rfl) _ _ _ (by rfl) w.heap.size 98 i0 _ 6 48 Try.underlying89 hi0 hz0 hz1 hz2 rfl (by omega) (.slice L m q) (m) (flatV LinkR.cellsS (linksTo xs fl k)) (by rfl) ((World.ownsRow.alloc o2 _).drew) ⟨W2.heap.size, 0, none⟩ 1 1 (LinkR.cellsS ⟨k, true, t, f, y, -q'⟩) (by rfl) (by rfl) (World.news_of_block (cs := #[.int .i64 t, .int .i64 f, .int .i64 y, .int .i64 (-q'), .int .i64 k, .bool true]) (t := 98) (fr := (0, 0)) (heap_alloc_new W2 _)) (by simp [LinkR.cellsS, Value.oneCell']) (by omega) (by unfold maxLen; omega) (by omega) (by simp; omega) (W2.heap.size + 1) (by simp) ?_; intro gg5 cap5 w5 hown5 hgrow hat5 hlt5))
          have o5 : OwnC 98 w.heap.size 6 w5 (some ⟨gg5, 0, none⟩) (m + 1) cap5 (flatV LinkR.cellsS (linksTo xs fl k ++ [⟨k, true, t, f, y, -q'⟩])) := by
            have h := hown5
            rw [show LinkR.cellsS ⟨k, true, t, f, y, -q'⟩ = flatV LinkR.cellsS [⟨k, true, t, f, y, -q'⟩] from (flatV_one _ _).symm, flatV_append] at h
            exact h
          have hd5 := below_grown ((hd3.alloc hbs (.cells #[.int .i64 t, .int .i64 f, .int .i64 y, .int .i64 (-q'), .int .i64 k, .bool true] 98)).drew) (by simp; omega) hgrow (OwnC.drew (OwnC.alloc o2 _)) (Nat.le_refl _)
          go_split_ands
          clear f0 f1 f2 f3 y2 hgrow hown5
          go_wp2_with fail
          go_roundg (n - (k + 1))
          case measure => rw [HR.out]; omega
          case rel => exact ⟨k + 1, _, _, _, rfl, by omega, by go_num, rfl, by omega, Lib.hid (by rw [HL.out, hm.out]; simp), by rw [HL.out]; exact o5, hd5⟩
        · have HL := Lib.hid (show linksTo xs fl (k + 1) = linksTo xs fl k by rw [HS.out, linksOf_nn (a := ⟨f, t, r, q'⟩) hy1 hy2, List.append_nil])
          go_wp2_with fail
          go_quiet (fail)
          go_wp2_with fail
          go_roundg (n - (k + 1))
          case measure => rw [HR.out]; omega
          case rel => exact ⟨k + 1, _, _, _, rfl, by omega, by go_num, rfl, by omega, Lib.hid (by rw [HL.out, hm.out]), by rw [HL.out]; exact OwnC.drewN hown _, below_drewN hd _⟩
    · have e : k = n := by omega
      subst e
      go_wp2_with fail
      go_ret
      exact ⟨L, m, q, rfl, hm.out, hown, hd⟩
end Go.Proofs.Ytpaahjeohigngaa
