/- LossRound of both: the values, and the walks of the two outer functions. -/
import Derived.Test.YtnljfhmdjhppmaaZRound
import Derived.Test.YtnljfhmdjhppmaaZRoundS
import Derived.Test.YtnljfhmdjhppmaaZFlow
import Derived.Test.YtnljfhmdjhppmaaZNetMark
namespace Go.Proofs.Ytnljfhmdjhppmaa
open Go.RowKit

theorem linksTo_all {nodes : Int} {xs : List ArcR} (fl : List Int) (h : validB nodes xs = true) : ∀ n, n ≤ xs.length → ∀ k, k < (linksTo xs fl n).length → ((linksTo xs fl n).getD k default).fr ≠ ((linksTo xs fl n).getD k default).to_ ∧ (-1000 ≤ ((linksTo xs fl n).getD k default).cost ∧ ((linksTo xs fl n).getD k default).cost ≤ 1000)
  | 0, _ => fun k hk => by simp [linksTo] at hk
  | n + 1, hn => by
    have ih := linksTo_all fl h n (by omega)
    obtain ⟨_, _, _, hb⟩ := valid_bd h
    obtain ⟨_, _, h3, _, h4⟩ := hb n (by omega)
    intro k hk
    rw [linksTo_succ] at hk ⊢
    have hof : ∀ l ∈ linksOf n (xs.getD n default) (fl.getD n 0), l.fr ≠ l.to_ ∧ (-1000 ≤ l.cost ∧ l.cost ≤ 1000) := by
      generalize xs.getD n default = a at *
      generalize fl.getD n 0 = y at *
      intro l hl
      unfold linksOf at hl
      rw [List.mem_append] at hl
      rcases hl with hl | hl <;> split at hl <;> simp at hl <;> subst hl <;> (simp only []) <;> omega
    by_cases e : k < (linksTo xs fl n).length
    · have e2 : (linksTo xs fl n ++ linksOf n (xs.getD n default) (fl.getD n 0)).getD k default = (linksTo xs fl n).getD k default := by simp [List.getD, List.getElem?_append_left e]
      rw [e2]; exact ih k e
    · rw [List.length_append] at hk
      have e2 : (linksTo xs fl n ++ linksOf n (xs.getD n default) (fl.getD n 0)).getD k default = (linksOf n (xs.getD n default) (fl.getD n 0)).getD (k - (linksTo xs fl n).length) default := by simp [List.getD, List.getElem?_append_right (show (linksTo xs fl n).length ≤ k by omega)]
      rw [e2]
      apply hof
      exact getDL_mem (by omega)
def firstP (f : Nat → Bool) : Nat → Nat → Nat
  | 0, i => i
  | k + 1, i => if f i = true then i else firstP f k (i + 1)
theorem firstP_ok {f : Nat → Bool} : ∀ (k i p : Nat), i ≤ p → p < i + k → f p = true → i ≤ firstP f k i ∧ firstP f k i ≤ p ∧ f (firstP f k i) = true ∧ ∀ m, i ≤ m → m < firstP f k i → f m = false
  | 0, i, p, h1, h2, _ => by omega
  | k + 1, i, p, h1, h2, h3 => by
    rw [firstP]
    cases hi : f i
    · rw [if_neg (by decide)]
      have hne : i ≠ p := fun e => by rw [e, h3] at hi; cases hi
      obtain ⟨a, b, c, d⟩ := firstP_ok (f := f) k (i + 1) p (by omega) (by omega) h3
      refine ⟨by omega, b, c, fun m m1 m2 => ?_⟩
      by_cases e : m = i
      · rw [e]; exact hi
      · exact d m (by omega) m2
    · rw [if_pos rfl]
      exact ⟨Nat.le_refl _, h1, hi, fun m _ _ => by omega⟩
def lossPer (ls : List LinkR) (N : Nat) : Nat := firstP (fun p => decide (preN ls (lossR ls N N) (lossE ls N).toNat (N + p) = preN ls (lossR ls N N) (lossE ls N).toNat N)) N 1
def lossLs (ls : List LinkR) (N : Nat) : List Int := if lossE ls N = -1 then [] else lossP ls N (lossPer ls N)
theorem lossPer_ok {ls : List LinkR} {N : Nat} (hN : 1 ≤ N) (hls : LinksOk ls N) (hne : ∀ k, k < ls.length → (ls.getD k default).fr ≠ (ls.getD k default).to_) : lossE ls N = -1 ∨ (1 ≤ lossPer ls N ∧ lossPer ls N ≤ N ∧ preN ls (lossR ls N N) (lossE ls N).toNat (N + lossPer ls N) = preN ls (lossR ls N N) (lossE ls N).toNat N ∧ ∀ m, 1 ≤ m → m < lossPer ls N → preN ls (lossR ls N N) (lossE ls N).toNat (N + m) ≠ preN ls (lossR ls N N) (lossE ls N).toNat N) := by
  by_cases hE : lossE ls N = -1
  · exact .inl hE
  · obtain ⟨e, he1, he2, he3⟩ := (lossE_ok hN hls hne).resolve_left hE
    obtain ⟨_, p, p1, p2, p3⟩ := back_ok hls (loss_r hls hne N) hN he2 he3
    have e2 : (lossE ls N).toNat = e := by rw [he1]; rfl
    obtain ⟨a, b, c, d⟩ := firstP_ok (f := fun p => decide (preN ls (lossR ls N N) (lossE ls N).toNat (N + p) = preN ls (lossR ls N N) (lossE ls N).toNat N)) N 1 p p1 (by omega) (by simp only [e2]; exact decide_eq_true p3)
    exact .inr ⟨a, Nat.le_trans b p2, of_decide_eq_true c, fun m m1 m2 => of_decide_eq_false (d m m1 m2)⟩
theorem lossLs_len {ls : List LinkR} {N : Nat} (hN : 1 ≤ N) (hls : LinksOk ls N) (hne : ∀ k, k < ls.length → (ls.getD k default).fr ≠ (ls.getD k default).to_) : (lossLs ls N).length ≤ N := by
  unfold lossLs
  rcases lossPer_ok hN hls hne with h | ⟨h1, h2, _⟩
  · rw [if_pos h]; simp
  · split
    · simp
    · unfold lossP
      rw [List.length_cons, List.length_reverse, backTo_len]; omega
def lossV (nodes : Int) (xs : List ArcR) (fl : List Int) : List Int := if flowB nodes xs fl = true then lossLs (linksTo xs fl xs.length) nodes.toNat else []
def lossB (nodes : Int) (xs : List ArcR) (fl : List Int) : Bool := flowB nodes xs fl && decide (lossE (linksTo xs fl xs.length) nodes.toNat ≠ -1)
theorem lossV_no {nodes : Int} {xs : List ArcR} {fl : List Int} (h : flowB nodes xs fl = false) : lossV nodes xs fl = [] := by unfold lossV; rw [if_neg (by rw [h]; decide)]
theorem lossV_yes {nodes : Int} {xs : List ArcR} {fl : List Int} (h : flowB nodes xs fl = true) : lossV nodes xs fl = lossLs (linksTo xs fl xs.length) nodes.toNat := by unfold lossV; rw [if_pos h]
theorem lossB_no {nodes : Int} {xs : List ArcR} {fl : List Int} (h : flowB nodes xs fl = false) : lossB nodes xs fl = false := by unfold lossB; rw [h]; rfl
theorem lossB_yes {nodes : Int} {xs : List ArcR} {fl : List Int} (h : flowB nodes xs fl = true) : lossB nodes xs fl = decide (lossE (linksTo xs fl xs.length) nodes.toNat ≠ -1) := by unfold lossB; rw [h]; rfl
structure LossHyp (ls : List LinkR) (N : Nat) : Prop where
  hls : LinksOk ls N
  hlc : LinksC ls
  hll : ls.length ≤ 96
  hne : ∀ k, k < ls.length → (ls.getD k default).fr ≠ (ls.getD k default).to_
theorem loss_hyps {nodes : Int} {xs : List ArcR} {fl : List Int} {n N : Nat} (hl : xs.length = n) (hN : nodes = N) (h : validB nodes xs = true) : LossHyp (linksTo xs fl n) N := by
  obtain ⟨_, _, h1, _⟩ := valid_bd h
  have h2 := linksTo_all fl h n (by omega)
  have h3 := linksTo_len xs fl n
  exact ⟨linksTo_ok fl hN h n (by omega), fun k hk => (h2 k hk).2, by omega, fun k hk => (h2 k hk).1⟩
theorem lossV_len (nodes : Int) (xs : List ArcR) (fl : List Int) : (lossV nodes xs fl).length ≤ 1048576 := by
  cases h : flowB nodes xs fl
  · rw [lossV_no h]; simp
  · rw [lossV_yes h]
    have hv := (flow_bd h).1
    obtain ⟨n0, n1, _⟩ := valid_bd hv
    obtain ⟨N, rfl⟩ := Int.eq_ofNat_of_zero_le (show 0 ≤ nodes by omega)
    have hh := loss_hyps (fl := fl) (n := xs.length) (N := N) rfl rfl hv
    have := lossLs_len (by omega) hh.hls hh.hne
    rw [Int.toNat_natCast]
    omega
theorem ret_LBl {A : Option Addr} {n c : Nat} {a b : Bool} (h : a = b) : Ending.returned (.tuple #[.slice A n c, .bool a]) = .returned (.tuple #[.slice A n c, .bool b]) := by rw [h]
theorem flow_bd3 {nodes : Int} {xs : List ArcR} {fl : List Int} {n : Nat} (hl : xs.length = n) (h : flowB nodes xs fl = true) : n ≤ 48 ∧ fl.length = n ∧ ∀ k, k < n → (0 ≤ fl.getD k 0 ∧ fl.getD k 0 ≤ 1000000) ∧ (0 ≤ (xs.getD k default).room ∧ (xs.getD k default).room ≤ 1000000) ∧ (-1000 ≤ (xs.getD k default).cost ∧ (xs.getD k default).cost ≤ 1000) := by
  subst hl
  obtain ⟨h1, h2, h3⟩ := flow_bd h
  obtain ⟨_, _, h4, h5⟩ := valid_bd h1
  exact ⟨h4, h2, fun k hk => ⟨⟨(h3 k hk).1, (h3 k hk).2.2⟩, (h5 k hk).2.2.2.1, (h5 k hk).2.2.2.2⟩⟩

set_option maxRecDepth 100000 in
set_option maxHeartbeats 3200000 in
theorem specLossRound_r (nodes : Int) (A : Option Addr) (n c : Nat) (xs : List ArcR) (B : Option Addr) (m d : Nat) (fl : List Int) (w : World) (h : ArcsAt w A n xs) (hn0 : n ≤ maxLen) (hy : IntsAt w B m fl) (hm0 : m ≤ 1048576) :
    Calls Try.prog 20 #[.agg #[.int .i64 nodes, .slice A n c], .slice B m d] w (RetLB 2 (lossV nodes xs fl) (lossB nodes xs fl) w) := by
  have HX := Lib.hid h.len
  have HY := Lib.hid hy.len
  have hW : Below w.heap.size w (w.alloc (.cells #[.int .i64 nodes, .slice A n c] 26)) := (Below.refl _ _).alloc (Nat.le_refl _) _
  have h3 := h.alloc (.cells #[.int .i64 nodes, .slice A n c] 26)
  have hy3 := hy.alloc (.cells #[.int .i64 nodes, .slice A n c] 26)
  have HB := Lib.hid (Blk.new w 26 #[.int .i64 nodes, .slice A n c])
  clear h hy
  cases hf : flowB nodes xs fl
  · have HA := Lib.hid (lossB_no hf)
    have HV := Lib.hid (lossV_no hf)
    go_enter Try.func20, Try.ntmps20
    go_wp2_with fail
    generalize w.alloc (.cells #[.int .i64 nodes, .slice A n c] 26) = W at *
    refine (l03Flow_any _ nodes A n c xs B m d fl _ HB.out h3 hn0 hy3 hm0).mono ?_
    rw [hf]
    rintro e w1 ⟨rfl, hd⟩
    go_wp2_with fail
    go_ret2
    exact ⟨none, 0, 0, ret_LBl HA.out.symm, by rw [HV.out]; exact OwnI.nil_ _ _ _, below_ext hW hW.size hd.below⟩
  · obtain ⟨b1, b2, b3⟩ := flow_bd3 HX.out hf
    have HBD := Lib.hid b3
    have hmn : m = n := by rw [← HY.out, b2]
    have hv := (flow_bd hf).1
    obtain ⟨n0, n1, _⟩ := valid_bd hv
    obtain ⟨N, rfl⟩ := Int.eq_ofNat_of_zero_le (show 0 ≤ nodes by omega)
    have hh := loss_hyps (fl := fl) (n := n) (N := N) HX.out rfl hv
    have HP := Lib.hid (lossPer_ok (by omega) hh.hls hh.hne)
    have hV := lossV_yes hf
    have hB := lossB_yes hf
    rw [HX.out, Int.toNat_natCast] at hV hB
    have HV := Lib.hid hV
    have HA := Lib.hid hB
    have HH := Lib.hid hh
    clear b2 b3 hv hV hB hh
    subst hmn
    go_enter Try.func20, Try.ntmps20
    go_wp2_with fail
    generalize w.alloc (.cells #[.int .i64 N, .slice A m c] 26) = W at *
    refine (l03Flow_any _ N A m c xs B m d fl _ HB.out h3 hn0 hy3 hm0).mono ?_
    rw [hf]
    rintro e w1 ⟨rfl, hd⟩
    clear hf
    go_wp2_with fail
    refine (l03Round_any _ N A m c xs B d fl _ (HB.out.ext hd.below) (h3.drewTo hd) b1 (hy3.drewTo hd) (by omega) (by omega) HH.out.hls HH.out.hlc HH.out.hll HH.out.hne HBD.out (lossPer (linksTo xs fl m) N) HP.out _ _ HV.out HA.out).mono ?_
    rintro e w2 ⟨A1, n2, c1, rfl, o1, bb⟩
    go_wp2_with fail
    go_ret2
    exact ⟨A1, n2, c1, rfl, OwnI.low o1 (Nat.le_trans hW.size hd.below.size), below_ext hW hW.size (ext_trans hd.below bb)⟩
set_option maxRecDepth 100000 in
set_option maxHeartbeats 3200000 in
theorem implLossRound_r (nodes : Int) (A : Option Addr) (n c : Nat) (xs : List ArcR) (B : Option Addr) (m d : Nat) (fl : List Int) (w : World) (h : ArcsAt w A n xs) (hn0 : n ≤ maxLen) (hy : IntsAt w B m fl) (hm0 : m ≤ 1048576) :
    Calls Try.prog 19 #[.agg #[.int .i64 nodes, .slice A n c], .slice B m d] w (RetLB 2 (lossV nodes xs fl) (lossB nodes xs fl) w) := by
  have HX := Lib.hid h.len
  have HY := Lib.hid hy.len
  have hW : Below w.heap.size w (w.alloc (.cells #[.int .i64 nodes, .slice A n c] 26)) := (Below.refl _ _).alloc (Nat.le_refl _) _
  have h3 := h.alloc (.cells #[.int .i64 nodes, .slice A n c] 26)
  have hy3 := hy.alloc (.cells #[.int .i64 nodes, .slice A n c] 26)
  have HB := Lib.hid (Blk.new w 26 #[.int .i64 nodes, .slice A n c])
  clear h hy
  cases hf : flowB nodes xs fl
  · have HA := Lib.hid (lossB_no hf)
    have HV := Lib.hid (lossV_no hf)
    go_enter Try.func19, Try.ntmps19
    go_wp2_with fail
    generalize w.alloc (.cells #[.int .i64 nodes, .slice A n c] 26) = W at *
    refine (isFlowing_any nodes A n c xs B m d fl _ h3 hn0 hy3 hm0).mono ?_
    rw [hf]
    rintro e w1 ⟨rfl, b1⟩
    go_wp2_with fail
    go_ret2
    exact ⟨none, 0, 0, ret_LBl HA.out.symm, by rw [HV.out]; exact OwnI.nil_ _ _ _, below_ext hW hW.size b1⟩
  · obtain ⟨b1, b2, b3⟩ := flow_bd3 HX.out hf
    have HBD := Lib.hid b3
    have hmn : m = n := by rw [← HY.out, b2]
    have hv := (flow_bd hf).1
    obtain ⟨n0, n1, _⟩ := valid_bd hv
    obtain ⟨N, rfl⟩ := Int.eq_ofNat_of_zero_le (show 0 ≤ nodes by omega)
    have hh := loss_hyps (fl := fl) (n := n) (N := N) HX.out rfl hv
    have HP := Lib.hid (lossPer_ok (by omega) hh.hls hh.hne)
    have hV := lossV_yes hf
    have hB := lossB_yes hf
    rw [HX.out, Int.toNat_natCast] at hV hB
    have HV := Lib.hid hV
    have HA := Lib.hid hB
    have HH := Lib.hid hh
    clear b2 b3 hv hV hB hh
    subst hmn
    go_enter Try.func19, Try.ntmps19
    go_wp2_with fail
    generalize w.alloc (.cells #[.int .i64 N, .slice A m c] 26) = W at *
    refine (isFlowing_any N A m c xs B m d fl _ h3 hn0 hy3 hm0).mono ?_
    rw [hf]
    rintro e w1 ⟨rfl, e1⟩
    have q0 := (HB.out.ext e1).cell 0
    have q1 := (HB.out.ext e1).cell 1
    clear hf
    go_wp2_with fail
    refine (lossRound_any N A m c xs B d fl _ (h3.below e1) b1 (hy3.below e1) (by omega) (by omega) HH.out.hls HH.out.hlc HH.out.hll HH.out.hne HBD.out (lossPer (linksTo xs fl m) N) HP.out _ HV.out).mono ?_
    rintro e w2 ⟨A1, n2, c1, rfl, o1, hnil, bb⟩
    have hlow := Nat.le_trans hW.size e1.size
    by_cases hE : lossE (linksTo xs fl m) N = -1
    · obtain ⟨rfl, rfl, rfl⟩ := hnil (by rw [HV.out]; unfold lossLs; rw [if_pos hE])
      have HA2 := Lib.hid (show lossB N xs fl = false from HA.out.trans (decide_eq_false (by rw [hE]; decide)))
      clear hE HA hnil
      go_wp2_with fail
      go_ret2
      exact ⟨_, _, _, ret_LBl HA2.out.symm, OwnI.low o1 hlow, below_ext hW hW.size (ext_trans e1 bb)⟩
    · have HA2 := Lib.hid (show lossB N xs fl = true from HA.out.trans (decide_eq_true hE))
      obtain ⟨g, rfl, _⟩ := OwnI.pos o1 (by rw [← o1.len, HV.out]; unfold lossLs; rw [if_neg hE]; unfold lossP; simp)
      clear hE HA hnil
      go_wp2_with fail
      go_ret2
      exact ⟨_, _, _, ret_LBl HA2.out.symm, OwnI.low o1 hlow, below_ext hW hW.size (ext_trans e1 bb)⟩
end Go.Proofs.Ytnljfhmdjhppmaa
