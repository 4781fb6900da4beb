/- PlainNet: the walks of both, and of the laws' marks on nets, with what they hold. -/
import Derived.Test.YtefplmkffbcgfaaValid2
import Derived.Test.YtefplmkffbcgfaaNetMark
import Derived.Test.YtefplmkffbcgfaaAppC
import Derived.Test.YtefplmkffbcgfaaFlow
namespace Go.Proofs.Ytefplmkffbcgfaa
open Go.RowKit

def seqA (k : Int) (n : Nat) : List ArcR := (List.range n).map fun (i : Nat) => ⟨k + 4 * i, k + 4 * i + 1, k + 4 * i + 1 + 1, k + 4 * i + 1 + 1 + 1⟩
theorem seqA_len (k : Int) (n : Nat) : (seqA k n).length = n := by simp [seqA]
theorem seqA_get (k : Int) (n j : Nat) (h : j < n) : (seqA k n).getD j default = ⟨k + 4 * j, k + 4 * j + 1, k + 4 * j + 1 + 1, k + 4 * j + 1 + 1 + 1⟩ := by simp [seqA, List.getD, h]
theorem seqA_step (zs : List ArcR) (k : Int) (n j : Nat) (hl : zs.length = n) (hj : j < n) : (seqA k j ++ zs.drop j).set j ⟨k + 4 * j, k + 4 * j + 1, k + 4 * j + 1 + 1, k + 4 * j + 1 + 1 + 1⟩ = seqA k (j + 1) ++ zs.drop (j + 1) := by
  apply List.ext_getElem?
  intro i
  have hs := seqA_len k j
  have hs1 := seqA_len k (j+1)
  rw [List.getElem?_set]
  simp only [List.length_append, List.length_drop, hs]
  by_cases h1 : j = i
  · subst h1
    rw [if_pos rfl, if_pos (by omega), List.getElem?_append_left (by omega)]
    simp [seqA]
  · rw [if_neg h1]
    by_cases h2 : i < j
    · rw [List.getElem?_append_left (by omega), List.getElem?_append_left (by omega)]
      simp [seqA, h2, Nat.lt_succ_of_lt h2]
    · rw [List.getElem?_append_right (by omega), List.getElem?_append_right (by omega), hs, hs1, List.getElem?_drop, List.getElem?_drop]
      congr 1
      omega

set_option maxHeartbeats 1600000 in
theorem markArcS_seq (base : Nat) (A : Option Addr) (n c : Nat) (xs : List ArcR) (k : Int) (w : World) (h : OwnA 63 base w A n c xs) (hk : 0 ≤ k) (hb : k + 4 * n ≤ 4611686018427387904) :
    Calls Try.prog 15 #[.slice A n c, .int .i64 k] w fun e w' => e = .returned (.int .i64 (k + 4 * n)) ∧ OwnA 63 base w' A n c (seqA k n) ∧ Upd (blk A) w w' := by
  have HL := Lib.hid h.len
  go_enter Try.func15, Try.ntmps15
  go_wp2
  go_loopg [1, 5] n (fun r kk i wr => ∃ (j : Nat), r = n - j ∧ j ≤ n ∧ i = .int .i64 j ∧ kk = .int .i64 (k + 4 * j) ∧ OwnA 63 base wr A n c (seqA k j ++ xs.drop j) ∧ Upd (blk A) w wr)
  case atStart => exact ⟨0, by omega, by omega, rfl, by simp, by simpa [seqA] using h, Upd.refl _ _⟩
  case round =>
    obtain ⟨j, hr, hj, rfl, rfl, hown, hu⟩ := hrel
    have HR := Lib.hid hr
    clear hr
    by_cases hlt : j < n
    · obtain ⟨g, rfl, _, _, _, _⟩ := OwnC.pos hown (by omega)
      have g0 := OwnC.free hown (j * 4)
      have g1 := OwnC.free hown (j * 4 + 1)
      have g2 := OwnC.free hown (j * 4 + 2)
      have g3 := OwnC.free hown (j * 4 + 3)
      obtain ⟨e0, e1, e2, e3⟩ := hown.cells hlt
      have o2 := hown.set4 hlt ⟨k + 4 * j, k + 4 * j + 1, k + 4 * j + 1 + 1, k + 4 * j + 1 + 1 + 1⟩
      rw [seqA_step xs k n j HL.out hlt] at o2
      generalize (seqA k j ++ xs.drop j).getD j default = y at *
      clear hown
      go_wp2
      go_roundg (n - (j + 1))
      case measure => rw [HR.out]; omega
      case rel => exact ⟨j + 1, rfl, by omega, by go_num, by go_num, o2, (((hu.setCell (p := ⟨g, j * 4, none⟩) (.inl ⟨_, rfl, rfl⟩) _).setCell (p := ⟨g, j * 4 + 1, none⟩) (.inl ⟨_, rfl, rfl⟩) _).setCell (p := ⟨g, j * 4 + 2, none⟩) (.inl ⟨_, rfl, rfl⟩) _).setCell (p := ⟨g, j * 4 + 3, none⟩) (.inl ⟨_, rfl, rfl⟩) _⟩
    · go_wp2
      go_ret
      have e : j = n := by omega
      subst e
      refine ⟨rfl, ?_, hu⟩
      rw [List.drop_of_length_le (by rw [HL.out]; exact Nat.le_refl _), List.append_nil] at hown
      exact hown
theorem markNet_seq (base : Nat) (nodes : Int) (A : Option Addr) (n c : Nat) (xs : List ArcR) (k : Int) (w : World) (h : OwnA 63 base w A n c xs) (hk : 0 ≤ k) (hb : k + 4 * n ≤ 4611686018427387904) :
    Calls Try.prog 16 #[.agg #[.int .i64 nodes, .slice A n c], .int .i64 k] w fun e w' => ∃ (k' : Int), e = .returned (.int .i64 k') ∧ Hid (k' = k + 4 * n) ∧ 0 ≤ k' ∧ k' ≤ k + 4 * n ∧ OwnA 63 base w' A n c (seqA k n) ∧ Upd (blk A) w w' := by
  go_enter Try.func16, Try.ntmps16
  go_wp2_with fail
  refine (markArcS_seq base A n c xs k _ (OwnC.alloc h _) hk hb).mono ?_
  rintro e w1 ⟨rfl, o, u⟩
  go_wp2_with fail
  go_ret
  exact ⟨_, rfl, Lib.hid rfl, by omega, by omega, o, ((Upd.refl _ w).alloc _).then u (fun _ _ h => h)⟩
set_option maxHeartbeats 1600000 in
theorem heldArcS_any (A : Option Addr) (n c : Nat) (k : Int) (w : World) (h : ArcsAt w A n (seqA k n)) (hk : 0 ≤ k) (hb : k + 4 * n ≤ 4611686018427387904) :
    Calls Try.prog 49 #[.slice A n c, .int .i64 k] w fun e w' => e = .returned (.int .i64 (k + 4 * n)) ∧ w = w' := by
  go_enter Try.func49, Try.ntmps49
  go_wp2
  go_loop [1, 5] (fun kk i => ∃ j : Nat, j ≤ n ∧ i = .int .i64 j ∧ kk = .int .i64 (k + 4 * j)) (fun _ i => n - (intOf i).toNat)
  case atStart => exact ⟨0, by omega, rfl, by simp⟩
  case round =>
    obtain ⟨j, hj, rfl, rfl⟩ := hrel
    by_cases hlt : j < n
    · obtain ⟨ad, rfl, _, c0, c1, c2, c3⟩ := h.at_ hlt
      rw [seqA_get k n j hlt] at c0 c1 c2 c3
      go_wp2
      go_round
      case rel => exact ⟨j + 1, by omega, by go_num, by go_num⟩
      case measure => simp [intOf]; omega
    · go_wp2
      go_ret
      have e : j = n := by omega
      subst e
      exact ⟨rfl, rfl⟩
theorem heldNet_any (nodes : Int) (A : Option Addr) (n c : Nat) (k : Int) (w : World) (h : ArcsAt w A n (seqA k n)) (hk : 0 ≤ k) (hb : k + 4 * n ≤ 4611686018427387904) :
    Calls Try.prog 17 #[.agg #[.int .i64 nodes, .slice A n c], .int .i64 k] w (RetV (.int .i64 (k + 4 * n)) w) := by
  have hpos : ¬ (k + 4 * (n : Int) < 0) := by omega
  go_enter Try.func17, Try.ntmps17
  go_wp2_with fail
  refine (heldArcS_any A n c k _ (h.alloc _) hk hb).mono ?_
  rintro e w1 ⟨rfl, rfl⟩
  go_wp2_with fail
  go_ret
  exact ⟨rfl, (Below.refl _ _).alloc (Nat.le_refl _) _⟩
def plainN (nodes : Int) (xs : List ArcR) : Int := if validB nodes xs = true then nodes else 0
def plainA (nodes : Int) (xs : List ArcR) : List ArcR := if validB nodes xs = true then xs else []
theorem plain_yes {nodes : Int} {xs : List ArcR} (h : validB nodes xs = true) : plainN nodes xs = nodes ∧ plainA nodes xs = xs := by unfold plainN plainA; rw [if_pos h, if_pos h]; exact ⟨rfl, rfl⟩
theorem plain_no {nodes : Int} {xs : List ArcR} (h : validB nodes xs = false) : plainN nodes xs = 0 ∧ plainA nodes xs = [] := by unfold plainN plainA; rw [if_neg (by rw [h]; decide), if_neg (by rw [h]; decide)]; exact ⟨rfl, rfl⟩
def RetNB (T : Nat) (nd : Int) (xs : List ArcR) (b : Bool) (w : World) (e : Ending) (w' : World) : Prop :=
  ∃ (A : Option Addr) (n c : Nat), e = .returned (.tuple #[.agg #[.int .i64 nd, .slice A n c], .bool b]) ∧ OwnA T w.heap.size w' A n c xs ∧ Below w.heap.size w w'
theorem ret_NB {i j : Int} {A : Option Addr} {n c : Nat} {a b : Bool} (h1 : i = j) (h2 : a = b) : Ending.returned (.tuple #[.agg #[.int .i64 i, .slice A n c], .bool a]) = .returned (.tuple #[.agg #[.int .i64 j, .slice A n c], .bool b]) := by rw [h1, h2]

theorem arcs_src {w : World} {A : Option Addr} {n : Nat} {xs : List ArcR} (h : ArcsAt w A n xs) : 0 < n → ∃ bd, A = some bd ∧ ∀ j u, (arcsV xs)[j]? = some u → w.cell? (bd.add j) = some u := fun hn => by
  obtain ⟨bd, hA, _, hc⟩ := h.2 hn
  refine ⟨bd, hA, fun j u hu => ?_⟩
  have hj : j < (arcsV xs).length := by
    by_cases hj : j < (arcsV xs).length
    · exact hj
    · rw [List.getElem?_eq_none (by omega)] at hu; cases hu
  rw [arcsV_len, h.len] at hj
  obtain ⟨k, i, hk, hi, rfl⟩ : ∃ k i, k < n ∧ i < 4 ∧ j = k * 4 + i := ⟨j / 4, j % 4, by omega, by omega, by omega⟩
  rw [arcsV_get xs k i (by rw [h.len]; exact hk) hi] at hu
  obtain ⟨c0, c1, c2, c3⟩ := hc k hk
  have hb : (bd.add (k * 4)).block = bd.block := block_add bd _
  have ho : (bd.add (k * 4)).off = bd.off + k * 4 := by unfold Addr.add; split <;> simp_all
  rw [hb, ho] at c1 c2 c3
  have hadd : ∀ i, 1 ≤ i → bd.add (k * 4 + i) = ⟨bd.block, bd.off + k * 4 + i, none⟩ := fun i hi => by
    unfold Addr.add; rw [if_neg (by omega)]; simp [Nat.add_assoc]
  have hi4 : i = 0 ∨ i = 1 ∨ i = 2 ∨ i = 3 := by omega
  rcases hi4 with rfl | rfl | rfl | rfl
  · rw [Nat.add_zero, c0]; exact hu
  · rw [hadd 1 (by omega), c1]; exact hu
  · rw [hadd 2 (by omega), c2]; exact hu
  · rw [hadd 3 (by omega), c3]; exact hu
set_option maxRecDepth 100000 in
set_option maxHeartbeats 3200000 in
theorem implPlainNet_r (nodes : Int) (A : Option Addr) (n c : Nat) (xs : List ArcR) (w : World) (h : ArcsAt w A n xs) (hn : n ≤ 1048576) :
    Calls Try.prog 12 #[.int .i64 nodes, .slice A n c] w (RetNB 63 (plainN nodes xs) (plainA nodes xs) (validB nodes xs) w) := by
  have HX := Lib.hid h.len
  have he : OwnC 63 (w.heap.size + 1) 4 ((w.alloc (.cells #[.int .i64 0, .slice none 0 0] 26)).alloc (.cells #[] 63)) (some ⟨w.heap.size + 1, 0, none⟩) 0 0 [] := by
    have := World.ownsRow_lit (e := 63) (base := w.heap.size + 1) (size := 4) (w.alloc (.cells #[.int .i64 0, .slice none 0 0] 26)) #[] 0 (by simp) (Nat.zero_le _) rfl
    rw [World.size_alloc] at this
    exact this
  have hb0 := ((Below.refl w.heap.size w).alloc (Nat.le_refl _) (.cells #[.int .i64 0, .slice none 0 0] 26)).alloc (by simp) (.cells #[] 63)
  have kr := (Blk.new w 26 #[.int .i64 0, .slice none 0 0]).alloc (.cells #[] 63)
  have h2 := (h.alloc (.cells #[.int .i64 0, .slice none 0 0] 26)).alloc (.cells #[] 63)
  have hsz : w.heap.size + 1 ≤ ((w.alloc (.cells #[.int .i64 0, .slice none 0 0] 26)).alloc (.cells #[] 63)).heap.size := by simp
  go_enter Try.func12, Try.ntmps12
  have HSRC := Lib.hid (arcs_src h2)
  have HONE := Lib.hid (arcs_one xs)
  have HUL := Lib.hid (show (arcsV xs).length = n * 4 by rw [arcsV_len, HX.out])
  cases hv : validB nodes xs
  · obtain ⟨p1, p2⟩ := plain_no hv
    have HPN := Lib.hid p1
    have HPA := Lib.hid p2
    clear p1 p2
    go_wp2_with (at_builtin; refine wp_append_cells _ rfl _ _ _ rfl 63 (w.heap.size + 1) Try.underlying24 _ 4 32 info4 rfl (by decide) (by decide) (by decide) (some ⟨w.heap.size + 1, 0, none⟩) 0 0 _ rfl he A n c (arcsV xs) rfl HUL.out HSRC.out HONE.out (by omega) hsz ?_; intro A5 c5 w6 o6 u6 b6 hg6; have hn6 : 0 + n = n := Nat.zero_add n; have kr6 := kr.below b6 (Nat.lt_succ_self _))
    have o6' : OwnA 63 (w.heap.size + 1) w6 A5 n c5 xs := by
      have := o6
      rw [hn6, List.nil_append] at this
      exact this
    have hb6 := hb0.trans (b6.mono (by omega))
    have hs6 := hb6.size
    have hbB := hb6.alloc hs6 (.cells #[.int .i64 nodes, .slice A5 n c5] 26)
    have krB := kr6.alloc (.cells #[.int .i64 nodes, .slice A5 n c5] 26)
    have oB := OwnC.alloc o6' (.cells #[.int .i64 nodes, .slice A5 n c5] 26)
    have kbB := Blk.new w6 26 #[.int .i64 nodes, .slice A5 n c5]
    clear o6 u6 b6 hg6 kr6 hb6 o6'
    refine (implValidNet_r nodes A5 n c5 xs _ (OwnA.arcs oB) (by unfold maxLen; omega)).mono ?_
    rw [hv]
    rintro e w8 ⟨rfl, b8⟩
    clear hv
    have kr8 := krB.ext b8
    have kb8 := kbB.ext b8
    have x0 := kr8.cell 0
    have x1 := kr8.cell 1
    have y0 := kr8.free 0
    have y1 := kr8.free 1
    have z0 := kb8.cell 0
    have z1 := kb8.cell 1
    have hs8 : w.heap.size < w8.heap.size := kr8.lt
    have hb8 := hbB.trans (b8.mono hbB.size)
    have o8 := OwnC.below oB b8
    have kr9 := (kr8.set 0 (.int .i64 0)).set 1 (.slice none 0 0)
    have r0 := kr9.cell 0
    have r1 := kr9.cell 1
    have y1' := (kr8.set 0 (.int .i64 0)).free 1
    have x1' := (kr8.set 0 (.int .i64 0)).cell 1
    have hb9 := (hb8.setCell (p := ⟨w.heap.size, 0, none⟩) (Nat.le_refl _) (.int .i64 0)).setCell (p := ⟨w.heap.size, 1, none⟩) (Nat.le_refl _) (.slice none 0 0)
    clear kr8 kb8 kr9 krB kbB hbB oB b8 o8 hb8 z0 z1
    go_wp2_with fail
    refine bodyPost_ret (v := .tuple #[.agg #[.int .i64 0, .slice none 0 0], .bool false]) (by simp [results, Try.results12, go_sem, r0, r1]) rfl ⟨none, 0, 0, ret_NB HPN.out.symm rfl, by rw [HPA.out]; exact OwnC.nil_ _ _ _ _, hb9⟩
  · obtain ⟨p1, p2⟩ := plain_yes hv
    have HPN := Lib.hid p1
    have HPA := Lib.hid p2
    clear p1 p2
    go_wp2_with (at_builtin; refine wp_append_cells _ rfl _ _ _ rfl 63 (w.heap.size + 1) Try.underlying24 _ 4 32 info4 rfl (by decide) (by decide) (by decide) (some ⟨w.heap.size + 1, 0, none⟩) 0 0 _ rfl he A n c (arcsV xs) rfl HUL.out HSRC.out HONE.out (by omega) hsz ?_; intro A5 c5 w6 o6 u6 b6 hg6; have hn6 : 0 + n = n := Nat.zero_add n; have kr6 := kr.below b6 (Nat.lt_succ_self _))
    have o6' : OwnA 63 (w.heap.size + 1) w6 A5 n c5 xs := by
      have := o6
      rw [hn6, List.nil_append] at this
      exact this
    have hb6 := hb0.trans (b6.mono (by omega))
    have hs6 := hb6.size
    have hbB := hb6.alloc hs6 (.cells #[.int .i64 nodes, .slice A5 n c5] 26)
    have krB := kr6.alloc (.cells #[.int .i64 nodes, .slice A5 n c5] 26)
    have oB := OwnC.alloc o6' (.cells #[.int .i64 nodes, .slice A5 n c5] 26)
    have kbB := Blk.new w6 26 #[.int .i64 nodes, .slice A5 n c5]
    clear o6 u6 b6 hg6 kr6 hb6 o6'
    refine (implValidNet_r nodes A5 n c5 xs _ (OwnA.arcs oB) (by unfold maxLen; omega)).mono ?_
    rw [hv]
    rintro e w8 ⟨rfl, b8⟩
    clear hv
    have kr8 := krB.ext b8
    have kb8 := kbB.ext b8
    have x0 := kr8.cell 0
    have x1 := kr8.cell 1
    have y0 := kr8.free 0
    have y1 := kr8.free 1
    have z0 := kb8.cell 0
    have z1 := kb8.cell 1
    have hs8 : w.heap.size < w8.heap.size := kr8.lt
    have hb8 := hbB.trans (b8.mono hbB.size)
    have o8 := OwnC.below oB b8
    have kr9 := (kr8.set 0 (.int .i64 nodes)).set 1 (.slice A5 n c5)
    have r0 := kr9.cell 0
    have r1 := kr9.cell 1
    have y1' := (kr8.set 0 (.int .i64 nodes)).free 1
    have x1' := (kr8.set 0 (.int .i64 nodes)).cell 1
    have hb9 := (hb8.setCell (p := ⟨w.heap.size, 0, none⟩) (Nat.le_refl _) (.int .i64 nodes)).setCell (p := ⟨w.heap.size, 1, none⟩) (Nat.le_refl _) (.slice A5 n c5)
    have o9 := OwnC.far (OwnC.far o8 (p := ⟨w.heap.size, 0, none⟩) (fun ad ha => by have h1 := (OwnC.lt o8 ha).1; show ad.block ≠ w.heap.size; omega) (.int .i64 nodes)) (p := ⟨w.heap.size, 1, none⟩) (fun ad ha => by have h1 := (OwnC.lt o8 ha).1; show ad.block ≠ w.heap.size; omega) (.slice A5 n c5)
    clear kr8 kb8 kr9 krB kbB hbB oB b8 o8 hb8
    go_wp2_with fail
    refine bodyPost_ret (v := .tuple #[.agg #[.int .i64 nodes, .slice A5 n c5], .bool true]) (by simp [results, Try.results12, go_sem, r0, r1]) rfl ⟨A5, n, c5, ret_NB HPN.out.symm rfl, by rw [HPA.out]; exact OwnC.low o9 (Nat.le_succ _), hb9⟩
set_option maxRecDepth 100000 in
set_option maxHeartbeats 3200000 in
theorem specPlainNet_r (nodes : Int) (A : Option Addr) (n c : Nat) (xs : List ArcR) (w : World) (h : ArcsAt w A n xs) (hn : n ≤ 1048576) :
    Calls Try.prog 10 #[.int .i64 nodes, .slice A n c] w (RetNB 63 (plainN nodes xs) (plainA nodes xs) (validB nodes xs) w) := by
  have HX := Lib.hid h.len
  have he : OwnC 63 (w.heap.size + 1) 4 ((w.alloc (.cells #[.int .i64 0, .slice none 0 0] 26)).alloc (.cells #[] 63)) (some ⟨w.heap.size + 1, 0, none⟩) 0 0 [] := by
    have := World.ownsRow_lit (e := 63) (base := w.heap.size + 1) (size := 4) (w.alloc (.cells #[.int .i64 0, .slice none 0 0] 26)) #[] 0 (by simp) (Nat.zero_le _) rfl
    rw [World.size_alloc] at this
    exact this
  have hb0 := ((Below.refl w.heap.size w).alloc (Nat.le_refl _) (.cells #[.int .i64 0, .slice none 0 0] 26)).alloc (by simp) (.cells #[] 63)
  have kr := (Blk.new w 26 #[.int .i64 0, .slice none 0 0]).alloc (.cells #[] 63)
  have h2 := (h.alloc (.cells #[.int .i64 0, .slice none 0 0] 26)).alloc (.cells #[] 63)
  have hsz : w.heap.size + 1 ≤ ((w.alloc (.cells #[.int .i64 0, .slice none 0 0] 26)).alloc (.cells #[] 63)).heap.size := by simp
  go_enter Try.func10, Try.ntmps10
  have HSRC := Lib.hid (arcs_src h2)
  have HONE := Lib.hid (arcs_one xs)
  have HUL := Lib.hid (show (arcsV xs).length = n * 4 by rw [arcsV_len, HX.out])
  cases hv : validB nodes xs
  · obtain ⟨p1, p2⟩ := plain_no hv
    have HPN := Lib.hid p1
    have HPA := Lib.hid p2
    clear p1 p2
    go_wp2_with (at_builtin; refine wp_append_cells _ rfl _ _ _ rfl 63 (w.heap.size + 1) Try.underlying24 _ 4 32 info4 rfl (by decide) (by decide) (by decide) (some ⟨w.heap.size + 1, 0, none⟩) 0 0 _ rfl he A n c (arcsV xs) rfl HUL.out HSRC.out HONE.out (by omega) hsz ?_; intro A5 c5 w6 o6 u6 b6 hg6; have hn6 : 0 + n = n := Nat.zero_add n; have kr6 := kr.below b6 (Nat.lt_succ_self _))
    have o6' : OwnA 63 (w.heap.size + 1) w6 A5 n c5 xs := by
      have := o6
      rw [hn6, List.nil_append] at this
      exact this
    have hb6 := hb0.trans (b6.mono (by omega))
    have hs6 := hb6.size
    have hbB := hb6.alloc hs6 (.cells #[.int .i64 nodes, .slice A5 n c5] 26)
    have krB := kr6.alloc (.cells #[.int .i64 nodes, .slice A5 n c5] 26)
    have oB := OwnC.alloc o6' (.cells #[.int .i64 nodes, .slice A5 n c5] 26)
    have kbB := Blk.new w6 26 #[.int .i64 nodes, .slice A5 n c5]
    clear o6 u6 b6 hg6 kr6 hb6 o6'
    refine (l03Is_any w6.heap.size nodes A5 n c5 xs _ kbB (OwnA.arcs oB) (by unfold maxLen; omega)).mono ?_
    rw [hv]
    rintro e w8 ⟨rfl, hd⟩
    have b8 := hd.below
    clear hd
    clear hv
    have kr8 := krB.ext b8
    have kb8 := kbB.ext b8
    have x0 := kr8.cell 0
    have x1 := kr8.cell 1
    have y0 := kr8.free 0
    have y1 := kr8.free 1
    have z0 := kb8.cell 0
    have z1 := kb8.cell 1
    have hs8 : w.heap.size < w8.heap.size := kr8.lt
    have hb8 := hbB.trans (b8.mono hbB.size)
    have o8 := OwnC.below oB b8
    have kr9 := (kr8.set 0 (.int .i64 0)).set 1 (.slice none 0 0)
    have r0 := kr9.cell 0
    have r1 := kr9.cell 1
    have y1' := (kr8.set 0 (.int .i64 0)).free 1
    have x1' := (kr8.set 0 (.int .i64 0)).cell 1
    have hb9 := (hb8.setCell (p := ⟨w.heap.size, 0, none⟩) (Nat.le_refl _) (.int .i64 0)).setCell (p := ⟨w.heap.size, 1, none⟩) (Nat.le_refl _) (.slice none 0 0)
    clear kr8 kb8 kr9 krB kbB hbB oB b8 o8 hb8 z0 z1
    go_wp2_with fail
    refine bodyPost_ret (v := .tuple #[.agg #[.int .i64 0, .slice none 0 0], .bool false]) (by simp [results, Try.results10, go_sem, r0, r1]) rfl ⟨none, 0, 0, ret_NB HPN.out.symm rfl, by rw [HPA.out]; exact OwnC.nil_ _ _ _ _, hb9⟩
  · obtain ⟨p1, p2⟩ := plain_yes hv
    have HPN := Lib.hid p1
    have HPA := Lib.hid p2
    clear p1 p2
    go_wp2_with (at_builtin; refine wp_append_cells _ rfl _ _ _ rfl 63 (w.heap.size + 1) Try.underlying24 _ 4 32 info4 rfl (by decide) (by decide) (by decide) (some ⟨w.heap.size + 1, 0, none⟩) 0 0 _ rfl he A n c (arcsV xs) rfl HUL.out HSRC.out HONE.out (by omega) hsz ?_; intro A5 c5 w6 o6 u6 b6 hg6; have hn6 : 0 + n = n := Nat.zero_add n; have kr6 := kr.below b6 (Nat.lt_succ_self _))
    have o6' : OwnA 63 (w.heap.size + 1) w6 A5 n c5 xs := by
      have := o6
      rw [hn6, List.nil_append] at this
      exact this
    have hb6 := hb0.trans (b6.mono (by omega))
    have hs6 := hb6.size
    have hbB := hb6.alloc hs6 (.cells #[.int .i64 nodes, .slice A5 n c5] 26)
    have krB := kr6.alloc (.cells #[.int .i64 nodes, .slice A5 n c5] 26)
    have oB := OwnC.alloc o6' (.cells #[.int .i64 nodes, .slice A5 n c5] 26)
    have kbB := Blk.new w6 26 #[.int .i64 nodes, .slice A5 n c5]
    clear o6 u6 b6 hg6 kr6 hb6 o6'
    refine (l03Is_any w6.heap.size nodes A5 n c5 xs _ kbB (OwnA.arcs oB) (by unfold maxLen; omega)).mono ?_
    rw [hv]
    rintro e w8 ⟨rfl, hd⟩
    have b8 := hd.below
    clear hd
    clear hv
    have kr8 := krB.ext b8
    have kb8 := kbB.ext b8
    have x0 := kr8.cell 0
    have x1 := kr8.cell 1
    have y0 := kr8.free 0
    have y1 := kr8.free 1
    have z0 := kb8.cell 0
    have z1 := kb8.cell 1
    have hs8 : w.heap.size < w8.heap.size := kr8.lt
    have hb8 := hbB.trans (b8.mono hbB.size)
    have o8 := OwnC.below oB b8
    have kr9 := (kr8.set 0 (.int .i64 nodes)).set 1 (.slice A5 n c5)
    have r0 := kr9.cell 0
    have r1 := kr9.cell 1
    have y1' := (kr8.set 0 (.int .i64 nodes)).free 1
    have x1' := (kr8.set 0 (.int .i64 nodes)).cell 1
    have hb9 := (hb8.setCell (p := ⟨w.heap.size, 0, none⟩) (Nat.le_refl _) (.int .i64 nodes)).setCell (p := ⟨w.heap.size, 1, none⟩) (Nat.le_refl _) (.slice A5 n c5)
    have o9 := OwnC.far (OwnC.far o8 (p := ⟨w.heap.size, 0, none⟩) (fun ad ha => by have h1 := (OwnC.lt o8 ha).1; show ad.block ≠ w.heap.size; omega) (.int .i64 nodes)) (p := ⟨w.heap.size, 1, none⟩) (fun ad ha => by have h1 := (OwnC.lt o8 ha).1; show ad.block ≠ w.heap.size; omega) (.slice A5 n c5)
    clear kr8 kb8 kr9 krB kbB hbB oB b8 o8 hb8
    go_wp2_with fail
    refine bodyPost_ret (v := .tuple #[.agg #[.int .i64 nodes, .slice A5 n c5], .bool true]) (by simp [results, Try.results10, go_sem, r0, r1]) rfl ⟨A5, n, c5, ret_NB HPN.out.symm rfl, by rw [HPA.out]; exact OwnC.low o9 (Nat.le_succ _), hb9⟩
end Go.Proofs.Ytefplmkffbcgfaa
