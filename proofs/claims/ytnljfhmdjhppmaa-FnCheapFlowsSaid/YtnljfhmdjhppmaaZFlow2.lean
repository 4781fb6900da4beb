/- What flows cost and what goes out of nodes. -/
import Derived.Test.YtnljfhmdjhppmaaZFlow
namespace Go.Proofs.Ytnljfhmdjhppmaa
open Go.RowKit

def costTo (xs : List ArcR) (fl : List Int) (k : Nat) : Int := (List.range k).foldl (fun s i => s + fl.getD i 0 * (xs.getD i default).cost) 0
theorem costTo_succ (xs : List ArcR) (fl : List Int) (k : Nat) : costTo xs fl (k + 1) = costTo xs fl k + fl.getD k 0 * (xs.getD k default).cost := by
  unfold costTo
  rw [List.range_succ, List.foldl_append]; rfl
theorem mul_bd {y q : Int} (h0 : 0 ≤ y) (h1 : y ≤ 1000000) (h2 : -1000 ≤ q) (h3 : q ≤ 1000) : -1000000000 ≤ y * q ∧ y * q ≤ 1000000000 := by
  have a : y * q ≤ 1000000 * 1000 := by
    by_cases hq : 0 ≤ q
    · exact Int.mul_le_mul h1 h3 hq (by omega)
    · have : y * q ≤ 0 := Int.mul_nonpos_of_nonneg_of_nonpos h0 (by omega)
      omega
  have b : y * (-q) ≤ 1000000 * 1000 := by
    by_cases hq : 0 ≤ -q
    · exact Int.mul_le_mul h1 (by omega) hq (by omega)
    · have : y * (-q) ≤ 0 := Int.mul_nonpos_of_nonneg_of_nonpos h0 (by omega)
      omega
  rw [Int.mul_neg] at b
  omega
def outTo (xs : List ArcR) (fl : List Int) (node : Int) (k : Nat) : Int := (List.range k).foldl (fun s i => s + (if (xs.getD i default).fr = node then fl.getD i 0 else 0) - (if (xs.getD i default).to_ = node then fl.getD i 0 else 0)) 0
theorem outTo_succ (xs : List ArcR) (fl : List Int) (node : Int) (k : Nat) : outTo xs fl node (k + 1) = outTo xs fl node k + (if (xs.getD k default).fr = node then fl.getD k 0 else 0) - (if (xs.getD k default).to_ = node then fl.getD k 0 else 0) := by
  unfold outTo
  rw [List.range_succ, List.foldl_append]; rfl
theorem outTo_bd {xs : List ArcR} {fl : List Int} {n : Nat} (node : Int) (hf : ∀ k, k < n → 0 ≤ fl.getD k 0 ∧ fl.getD k 0 ≤ 1000000) : ∀ k, k ≤ n → -1000000 * (k : Int) ≤ outTo xs fl node k ∧ outTo xs fl node k ≤ 1000000 * (k : Int)
  | 0, _ => by simp [outTo]
  | k + 1, h => by
    have := outTo_bd (xs := xs) node hf k (by omega)
    have := hf k (by omega)
    rw [outTo_succ]
    split <;> split <;> omega

set_option maxRecDepth 100000 in
set_option maxHeartbeats 1600000 in
theorem l03Cost_any (g : Nat) (nodes : Int) (A : Option Addr) (n c : Nat) (xs : List ArcR) (B : Option Addr) (d : Nat) (fl : List Int) (w : World) (hb : Blk w g 26 #[.int .i64 nodes, .slice A n c]) (h : ArcsAt w A n xs) (hn : n ≤ 48) (hy : IntsAt w B n fl)
    (hf : ∀ k, k < n → (0 ≤ fl.getD k 0 ∧ fl.getD k 0 ≤ 1000000) ∧ (-1000 ≤ (xs.getD k default).cost ∧ (xs.getD k default).cost ≤ 1000)) :
    Calls Try.prog 56 #[.pointer (some ⟨g, 0, none⟩), .slice B n d] w fun e w' => e = .returned (.int .i64 (costTo xs fl n)) ∧ Drew w w' := by
  have HF := Lib.hid hf
  clear hf
  go_enter Try.func56, Try.ntmps56
  go_wp2
  go_loopg [5, 9] n (fun r sv i wr => ∃ (k : Nat), r = n - k ∧ k ≤ n ∧ i = .int .i64 k ∧ sv = .int .i64 (costTo xs fl k) ∧ -1000000000 * (k : Int) ≤ costTo xs fl k ∧ costTo xs fl k ≤ 1000000000 * (k : Int) ∧ Drew w wr)
  case atStart => exact ⟨0, by omega, by omega, rfl, rfl, by simp [costTo], by simp [costTo], Drew.refl _⟩
  case round =>
    obtain ⟨k, hr, hk, rfl, rfl, s0, s1, hd⟩ := hrel
    have HR := Lib.hid hr
    clear hr
    have p1 := (Blk.ext hb hd.below).cell 1
    by_cases hlt : k < n
    · obtain ⟨ad, rfl, had, c0, c1, c2, c3⟩ := (h.drewTo hd).at_ hlt
      obtain ⟨bd, rfl, _, hcl⟩ := (hy.drewTo hd).at_ hlt
      obtain ⟨⟨y0, y1⟩, ⟨q0, q1⟩⟩ := HF.out k hlt
      have HS := Lib.hid (costTo_succ xs fl k)
      obtain ⟨m0, m1⟩ := mul_bd y0 y1 q0 q1
      generalize xs.getD k default = x at *
      generalize fl.getD k 0 = y at *
      generalize costTo xs fl k = s at *
      obtain ⟨f, t, r, q⟩ := x
      have m0' : -1000000000 ≤ y * q := m0
      have m1' : y * q ≤ 1000000000 := m1
      clear m0 m1
      go_wp2
      go_quiet (fail)
      go_wp2
      go_roundg (n - (k + 1))
      case measure => rw [HR.out]; omega
      case rel => exact ⟨k + 1, rfl, by omega, by go_num, by rw [HS.out], by rw [HS.out]; show _ ≤ s + y * q; omega, by rw [HS.out]; show s + y * q ≤ _; omega, hd.step _⟩
    · have e : k = n := by omega
      subst e
      go_wp2
      go_ret
      exact ⟨rfl, hd⟩

set_option maxRecDepth 100000 in
set_option maxHeartbeats 1600000 in
theorem netCost_any (nodes : Int) (A : Option Addr) (n c : Nat) (xs : List ArcR) (B : Option Addr) (d : Nat) (fl : List Int) (w : World) (h : ArcsAt w A n xs) (hn : n ≤ 48) (hy : IntsAt w B n fl)
    (hf : ∀ k, k < n → (0 ≤ fl.getD k 0 ∧ fl.getD k 0 ≤ 1000000) ∧ (-1000 ≤ (xs.getD k default).cost ∧ (xs.getD k default).cost ≤ 1000)) :
    Calls Try.prog 50 #[.agg #[.int .i64 nodes, .slice A n c], .slice B n d] w (RetV (.int .i64 (costTo xs fl n)) w) := by
  have HF := Lib.hid hf
  have hb := Blk.new w 26 #[.int .i64 nodes, .slice A n c]
  have hW : Below w.heap.size w (w.alloc (.cells #[.int .i64 nodes, .slice A n c] 26)) := (Below.refl _ _).alloc (Nat.le_refl _) _
  have h3 := h.alloc (.cells #[.int .i64 nodes, .slice A n c] 26)
  have hy3 := hy.alloc (.cells #[.int .i64 nodes, .slice A n c] 26)
  clear hf hb h hy
  go_enter Try.func50, Try.ntmps50
  go_wp2_with fail
  generalize w.alloc (.cells #[.int .i64 nodes, .slice A n c] 26) = W at *
  go_loopg [5, 11] n (fun r sv i wr => ∃ (k : Nat), r = n - k ∧ k ≤ n ∧ i = .int .i64 k ∧ sv = .int .i64 (costTo xs fl k) ∧ -1000000000 * (k : Int) ≤ costTo xs fl k ∧ costTo xs fl k ≤ 1000000000 * (k : Int) ∧ Below W.heap.size W wr)
  case atStart => exact ⟨0, by omega, by omega, rfl, rfl, by simp [costTo], by simp [costTo], Below.refl _ _⟩
  case round =>
    obtain ⟨k, hr, hk, rfl, rfl, s0, s1, hd⟩ := hrel
    have HR := Lib.hid hr
    clear hr
    by_cases hlt : k < n
    · obtain ⟨ad, rfl, had, c0, c1, c2, c3⟩ := (h3.below hd).at_ hlt
      obtain ⟨⟨y0, y1⟩, ⟨q0, q1⟩⟩ := HF.out k hlt
      have HS := Lib.hid (costTo_succ xs fl k)
      obtain ⟨m0, m1⟩ := mul_bd y0 y1 q0 q1
      generalize xs.getD k default = x at *
      obtain ⟨f, t, r, q⟩ := x
      have ka := Blk.new wr 80 #[.int .i64 f, .int .i64 t, .int .i64 r, .int .i64 q]
      have hd2 := hd.alloc hd.size (.cells #[.int .i64 f, .int .i64 t, .int .i64 r, .int .i64 q] 80)
      obtain ⟨bd, rfl, _, hcl⟩ := (hy3.below hd2).at_ hlt
      generalize fl.getD k 0 = y at *
      generalize costTo xs fl k = s at *
      have m0' : -1000000000 ≤ y * q := m0
      have m1' : y * q ≤ 1000000000 := m1
      have s3 := ka.cell 3
      have hsz := ka.lt
      clear m0 m1 ka hd
      go_wp2_with fail
      generalize wr.alloc (.cells #[.int .i64 f, .int .i64 t, .int .i64 r, .int .i64 q] 80) = W1 at *
      go_quiet (fail)
      go_wp2
      go_roundg (n - (k + 1))
      case measure => rw [HR.out]; omega
      case rel => exact ⟨k + 1, rfl, by omega, by go_num, by rw [HS.out], by rw [HS.out]; show _ ≤ s + y * q; omega, by rw [HS.out]; show s + y * q ≤ _; omega, below_drewN hd2 _⟩
    · have e : k = n := by omega
      subst e
      go_wp2
      go_ret
      exact ⟨rfl, below_ext hW hW.size hd⟩

set_option maxRecDepth 100000 in
set_option maxHeartbeats 1600000 in
theorem l03Out_any (g : Nat) (nodes : Int) (A : Option Addr) (n c : Nat) (xs : List ArcR) (B : Option Addr) (d : Nat) (fl : List Int) (node : Int) (w : World) (hb : Blk w g 26 #[.int .i64 nodes, .slice A n c]) (h : ArcsAt w A n xs) (hn : n ≤ 48) (hy : IntsAt w B n fl)
    (hf : ∀ k, k < n → 0 ≤ fl.getD k 0 ∧ fl.getD k 0 ≤ 1000000) :
    Calls Try.prog 53 #[.pointer (some ⟨g, 0, none⟩), .slice B n d, .int .i64 node] w fun e w' => e = .returned (.int .i64 (outTo xs fl node n)) ∧ w = w' := by
  have HF := Lib.hid hf
  have HBD := Lib.hid (outTo_bd (xs := xs) node hf)
  have p1 := hb.cell 1
  clear hf
  go_enter Try.func53, Try.ntmps53
  go_wp2
  go_loop [7, 11] (fun sv i => ∃ (k : Nat), k ≤ n ∧ i = .int .i64 k ∧ sv = .int .i64 (outTo xs fl node k)) (fun _ i => n - (intOf i).toNat)
  case atStart => exact ⟨0, by omega, rfl, rfl⟩
  case round =>
    obtain ⟨k, hk, rfl, rfl⟩ := hrel
    obtain ⟨s0, s1⟩ := HBD.out k hk
    by_cases hlt : k < n
    · obtain ⟨ad, rfl, had, c0, c1, c2, c3⟩ := h.at_ hlt
      obtain ⟨bd, rfl, _, hcl⟩ := hy.at_ hlt
      obtain ⟨y0, y1⟩ := HF.out k hlt
      have HS := Lib.hid (outTo_succ xs fl node k)
      generalize xs.getD k default = x at *
      generalize fl.getD k 0 = y at *
      generalize outTo xs fl node k = s at *
      obtain ⟨f, t, r, q⟩ := x
      by_cases h1 : f = node
      · have h1b : (f == node) = true := by rw [beq_iff_eq]; exact h1
        by_cases h2 : t = node
        · have h2b : (t == node) = true := by rw [beq_iff_eq]; exact h2
          have HE := Lib.hid (show outTo xs fl node (k + 1) = s by rw [HS.out]; simp [h1, h2])
          clear h1 h2
          go_wp2
          go_round
          case rel => exact ⟨k + 1, by omega, by go_num, by rw [HE.out]⟩
          case measure => simp [intOf]; omega
        · have h2b : (t == node) = false := by rw [beq_eq_false_iff_ne]; exact h2
          have HE := Lib.hid (show outTo xs fl node (k + 1) = s + y by rw [HS.out]; simp [h1, h2])
          clear h1 h2
          go_wp2
          go_round
          case rel => exact ⟨k + 1, by omega, by go_num, by rw [HE.out]⟩
          case measure => simp [intOf]; omega
      · have h1b : (f == node) = false := by rw [beq_eq_false_iff_ne]; exact h1
        by_cases h2 : t = node
        · have h2b : (t == node) = true := by rw [beq_iff_eq]; exact h2
          have HE := Lib.hid (show outTo xs fl node (k + 1) = s - y by rw [HS.out]; simp [h1, h2])
          clear h1 h2
          go_wp2
          go_round
          case rel => exact ⟨k + 1, by omega, by go_num, by rw [HE.out]⟩
          case measure => simp [intOf]; omega
        · have h2b : (t == node) = false := by rw [beq_eq_false_iff_ne]; exact h2
          have HE := Lib.hid (show outTo xs fl node (k + 1) = s by rw [HS.out]; simp [h1, h2])
          clear h1 h2
          go_wp2
          go_round
          case rel => exact ⟨k + 1, by omega, by go_num, by rw [HE.out]⟩
          case measure => simp [intOf]; omega
    · have e : k = n := by omega
      subst e
      go_wp2
      go_ret
      exact ⟨rfl, rfl⟩

set_option maxRecDepth 100000 in
set_option maxHeartbeats 1600000 in
theorem netOut_any (nodes : Int) (A : Option Addr) (n c : Nat) (xs : List ArcR) (B : Option Addr) (d : Nat) (fl : List Int) (node : Int) (w : World) (h : ArcsAt w A n xs) (hn : n ≤ 48) (hy : IntsAt w B n fl)
    (hf : ∀ k, k < n → 0 ≤ fl.getD k 0 ∧ fl.getD k 0 ≤ 1000000) :
    Calls Try.prog 57 #[.agg #[.int .i64 nodes, .slice A n c], .slice B n d, .int .i64 node] w (RetV (.int .i64 (outTo xs fl node n)) w) := by
  have HF := Lib.hid hf
  have HBD := Lib.hid (outTo_bd (xs := xs) node hf)
  have hW : Below w.heap.size w (w.alloc (.cells #[.int .i64 nodes, .slice A n c] 26)) := (Below.refl _ _).alloc (Nat.le_refl _) _
  have h3 := h.alloc (.cells #[.int .i64 nodes, .slice A n c] 26)
  have hy3 := hy.alloc (.cells #[.int .i64 nodes, .slice A n c] 26)
  clear hf h hy
  go_enter Try.func57, Try.ntmps57
  go_wp2_with fail
  generalize w.alloc (.cells #[.int .i64 nodes, .slice A n c] 26) = W at *
  go_loopg [7, 13] n (fun r sv i wr => ∃ (k : Nat), r = n - k ∧ k ≤ n ∧ i = .int .i64 k ∧ sv = .int .i64 (outTo xs fl node k) ∧ Below W.heap.size W wr)
  case atStart => exact ⟨0, by omega, by omega, rfl, rfl, Below.refl _ _⟩
  case round =>
    obtain ⟨k, hr, hk, rfl, rfl, hd⟩ := hrel
    have HR := Lib.hid hr
    clear hr
    obtain ⟨s0, s1⟩ := HBD.out k hk
    by_cases hlt : k < n
    · obtain ⟨ad, rfl, had, c0, c1, c2, c3⟩ := (h3.below hd).at_ hlt
      obtain ⟨y0, y1⟩ := HF.out k hlt
      have HS := Lib.hid (outTo_succ xs fl node k)
      generalize xs.getD k default = x at *
      obtain ⟨f, t, r, q⟩ := x
      have ka := Blk.new wr 80 #[.int .i64 f, .int .i64 t, .int .i64 r, .int .i64 q]
      have hd2 := hd.alloc hd.size (.cells #[.int .i64 f, .int .i64 t, .int .i64 r, .int .i64 q] 80)
      obtain ⟨bd, rfl, _, hcl⟩ := (hy3.below hd2).at_ hlt
      generalize fl.getD k 0 = y at *
      generalize outTo xs fl node k = s at *
      have e0 := ka.cell 0
      have e1 := ka.cell 1
      have hsz := ka.lt
      clear ka hd
      by_cases h1 : f = node
      · have h1b : (f == node) = true := by rw [beq_iff_eq]; exact h1
        by_cases h2 : t = node
        · have h2b : (t == node) = true := by rw [beq_iff_eq]; exact h2
          have HE := Lib.hid (show outTo xs fl node (k + 1) = s by rw [HS.out]; simp [h1, h2])
          clear h1 h2
          go_wp2
          go_roundg (n - (k + 1))
          case measure => rw [HR.out]; omega
          case rel => exact ⟨k + 1, rfl, by omega, by go_num, by rw [HE.out], hd2⟩
        · have h2b : (t == node) = false := by rw [beq_eq_false_iff_ne]; exact h2
          have HE := Lib.hid (show outTo xs fl node (k + 1) = s + y by rw [HS.out]; simp [h1, h2])
          clear h1 h2
          go_wp2
          go_roundg (n - (k + 1))
          case measure => rw [HR.out]; omega
          case rel => exact ⟨k + 1, rfl, by omega, by go_num, by rw [HE.out], hd2⟩
      · have h1b : (f == node) = false := by rw [beq_eq_false_iff_ne]; exact h1
        by_cases h2 : t = node
        · have h2b : (t == node) = true := by rw [beq_iff_eq]; exact h2
          have HE := Lib.hid (show outTo xs fl node (k + 1) = s - y by rw [HS.out]; simp [h1, h2])
          clear h1 h2
          go_wp2
          go_roundg (n - (k + 1))
          case measure => rw [HR.out]; omega
          case rel => exact ⟨k + 1, rfl, by omega, by go_num, by rw [HE.out], hd2⟩
        · have h2b : (t == node) = false := by rw [beq_eq_false_iff_ne]; exact h2
          have HE := Lib.hid (show outTo xs fl node (k + 1) = s by rw [HS.out]; simp [h1, h2])
          clear h1 h2
          go_wp2
          go_roundg (n - (k + 1))
          case measure => rw [HR.out]; omega
          case rel => exact ⟨k + 1, rfl, by omega, by go_num, by rw [HE.out], hd2⟩
    · have e : k = n := by omega
      subst e
      go_wp2
      go_ret
      exact ⟨rfl, below_ext hW hW.size hd⟩
end Go.Proofs.Ytnljfhmdjhppmaa
