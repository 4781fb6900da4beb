/- Best halves, in plain lists; the sums of all sets. -/
import Derived.Test.YthhkgeeomhhegaaAppend
import Derived.Test.YthhkgeeomhhegaaSizes
namespace Go.Proofs.Ythhkgeeomhhegaa
open Go.RowKit

theorem pow_bd2 (n : Nat) (h2 : n ≤ 62) : (1 : Int) ≤ 2 ^ n ∧ (2 : Int) ^ n ≤ 4611686018427387904 := by
  have h := Nat.pow_le_pow_right (n := 2) (by omega) h2
  have h' : (2 : Int) ^ n ≤ 2 ^ 62 := by exact_mod_cast h
  have h0 : (0 : Int) < 2 ^ n := Int.pow_pos (by decide)
  constructor <;> omega


def sumTo (zs : List Int) (m j : Nat) : Int := (List.range j).foldl (fun h i => if m.testBit i then h + zs.getD i 0 else h) 0
def sumD (zs : List Int) (D : List Int) : Int := D.foldl (fun h i => h + zs.getD i.toNat 0) 0
theorem sumTo_succ (zs : List Int) (m j : Nat) : sumTo zs m (j + 1) = if m.testBit j then sumTo zs m j + zs.getD j 0 else sumTo zs m j := by
  unfold sumTo
  rw [List.range_succ, List.foldl_append]; rfl
theorem sumD_snoc (zs : List Int) (D : List Int) (j : Nat) (hj : j < D.length) : sumD zs (D.take (j + 1)) = sumD zs (D.take j) + zs.getD (D.getD j 0).toNat 0 := by
  rw [List.take_succ_eq_append_getElem hj, sumD, List.foldl_append, sumD]
  simp [List.getD, List.getElem?_eq_getElem hj]
theorem sumTo_bd (zs : List Int) (m : Nat) (hz : ∀ k, k < zs.length → 1 ≤ zs.getD k 0 ∧ zs.getD k 0 ≤ 1000) : ∀ j, j ≤ zs.length → 0 ≤ sumTo zs m j ∧ sumTo zs m j ≤ 1000 * j
  | 0, _ => by simp [sumTo]
  | j + 1, h => by
    have ih := sumTo_bd zs m hz j (by omega)
    have := hz j (by omega)
    rw [sumTo_succ]
    split <;> omega

/-- the sums of the first K sets -/
def sumsL (zs : List Int) (K : Nat) : List Int := (List.range K).map fun m => sumTo zs m zs.length
theorem sumsL_len (zs : List Int) (K : Nat) : (sumsL zs K).length = K := by simp [sumsL]
theorem sumsL_get (zs : List Int) (K m : Nat) (h : m < K) : (sumsL zs K).getD m 0 = sumTo zs m zs.length := by simp [sumsL, List.getD, h]
theorem sumsL_snoc (zs : List Int) (K : Nat) : sumsL zs (K + 1) = sumsL zs K ++ [sumTo zs K zs.length] := by simp [sumsL, List.range_succ]

def sumL (zs : List Int) : Int := zs.foldl (· + ·) 0
theorem sumL_snoc (zs : List Int) (j : Nat) (hj : j < zs.length) : sumL (zs.take (j + 1)) = sumL (zs.take j) + zs.getD j 0 := by
  rw [List.take_succ_eq_append_getElem hj, sumL, List.foldl_append, sumL]
  simp [List.getD, List.getElem?_eq_getElem hj]
theorem sumTo_full (zs : List Int) (n : Nat) (hn : zs.length = n) : ∀ j, j ≤ n → sumTo zs (2 ^ n - 1) j = sumL (zs.take j)
  | 0, _ => by simp [sumTo, sumL]
  | j + 1, h => by
    rw [sumTo_succ, Nat.testBit_two_pow_sub_one, sumTo_full zs n hn j (by omega), sumL_snoc zs j (by omega)]
    simp [show j < n by omega]

/-- the difference of a half and the others -/
def farOf (all s : Int) : Int := max (all - 2 * s) (2 * s - all)
/-- the best half among the sets 0, 2, 4 .. (k of them), and its difference -/
def halfTo (zs : List Int) (all : Int) : Nat → Nat × Int
  | 0 => (0, all)
  | k + 1 => if farOf all (sumTo zs (2 * k) zs.length) < (halfTo zs all k).2 then (2 * k, farOf all (sumTo zs (2 * k) zs.length)) else halfTo zs all k
theorem halfTo_lt (zs : List Int) (all : Int) : ∀ k, (halfTo zs all k).1 ≤ 2 * k
  | 0 => by simp [halfTo]
  | k + 1 => by
    have := halfTo_lt zs all k
    unfold halfTo
    split
    · show 2 * k ≤ _; omega
    · omega
theorem halfTo_bd (zs : List Int) (all : Int) (h0 : 0 ≤ all) : ∀ k, 0 ≤ (halfTo zs all k).2 ∧ (halfTo zs all k).2 ≤ all
  | 0 => by simp [halfTo]; exact h0
  | k + 1 => by
    have := halfTo_bd zs all h0 k
    unfold halfTo
    split
    · rename_i h
      refine ⟨?_, by show farOf _ _ ≤ _; omega⟩
      show 0 ≤ farOf _ _
      unfold farOf; omega
    · exact this
def halfOf (zs : List Int) : Nat × Int := halfTo zs (sumL zs) (2 ^ (zs.length - 1))
def halvesV (zs : List Int) : List Int := if sizesB zs = true then digitsOf (halfOf zs).1 else []
def halvesL (zs : List Int) : Int := if sizesB zs = true then (halfOf zs).2 else 0
theorem halvesV_no {zs : List Int} (h : sizesB zs = false) : halvesV zs = [] := by unfold halvesV; rw [if_neg (by rw [h]; decide)]
theorem halvesL_no {zs : List Int} (h : sizesB zs = false) : halvesL zs = 0 := by unfold halvesL; rw [if_neg (by rw [h]; decide)]
theorem halvesV_yes {zs : List Int} (h : sizesB zs = true) : halvesV zs = digitsOf (halfOf zs).1 := by unfold halvesV; rw [if_pos h]
theorem halvesL_yes {zs : List Int} (h : sizesB zs = true) : halvesL zs = (halfOf zs).2 := by unfold halvesL; rw [if_pos h]
theorem halvesV_len (zs : List Int) : (halvesV zs).length ≤ 1048576 := by
  unfold halvesV
  split
  · exact Nat.le_trans (digitsTo_len _ 64) (by omega)
  · simp
theorem sumD_eq (zs : List Int) (m : Nat) (hm : m < 2 ^ zs.length) (hl : zs.length ≤ 64) : sumD zs (digitsOf m) = sumTo zs m zs.length := by
  rw [digitsOf_eq m zs.length hm hl, sumD, digitsTo, List.foldl_map, List.foldl_filter, sumTo]
  rfl
theorem halfTo_yes {zs : List Int} {all x : Int} {k : Nat} (h1 : farOf all (sumTo zs (2 * k) zs.length) = x) (h2 : x < (halfTo zs all k).2) : halfTo zs all (k + 1) = (2 * k, x) := by
  rw [halfTo, h1, if_pos h2]
theorem halfTo_no {zs : List Int} {all x : Int} {k : Nat} (h1 : farOf all (sumTo zs (2 * k) zs.length) = x) (h2 : ¬ x < (halfTo zs all k).2) : halfTo zs all (k + 1) = halfTo zs all k := by
  rw [halfTo, h1, if_neg h2]

set_option maxHeartbeats 800000 in
theorem l04Sums_any (A : Option Addr) (n c : Nat) (zs : List Int) (w : World) (h : IntsAt w A n zs) (hn : n ≤ 16) (hz : ∀ k, k < zs.length → 1 ≤ zs.getD k 0 ∧ zs.getD k 0 ≤ 1000) :
    Calls Try.prog 35 #[.slice A n c] w (RetI 2 (sumsL zs (2 ^ n)) w) := by
  have HL := Lib.hid h.len
  have HZ := Lib.hid hz
  clear hz
  have hpn := pow_bd2 n (by omega)
  have HP := Lib.hid (show ((2 ^ n : Nat) : Int) = (2 : Int) ^ n by exact_mod_cast rfl)
  have hp16 : (2 : Int) ^ n ≤ 65536 := by
    have := Nat.pow_le_pow_right (n := 2) (by omega) hn
    rw [← HP.out]; omega
  have he : OwnI 2 w.heap.size (w.alloc (.cells #[] 2)) (some ⟨w.heap.size, 0, none⟩) 0 0 [] := World.ownsRow_lit (e := 2) (base := w.heap.size) (size := 1) w #[] 0 (Nat.le_refl _) (Nat.zero_le _) rfl
  have hW : Below w.heap.size w (w.alloc (.cells #[] 2)) := (Below.refl _ _).alloc (Nat.le_refl _) _
  go_enter Try.func35, Try.ntmps35
  go_wp2
  generalize w.alloc (.cells #[] 2) = w0 at *
  go_loopg [3, 4] (2 ^ n) (fun r v i wr => ∃ (k : Nat) (B : Option Addr) (d : Nat), r = 2 ^ n - k ∧ k ≤ 2 ^ n ∧ i = .int .i64 k ∧ v = .slice B k d ∧ OwnI 2 w.heap.size wr B k d (sumsL zs k) ∧ Below w.heap.size w wr)
  case atStart => exact ⟨0, _, 0, rfl, Nat.zero_le _, rfl, rfl, he, hW⟩
  case round =>
    clear he hW
    obtain ⟨k, B, d, hr, hk, rfl, rfl, hown, hb⟩ := hrel
    have HR := Lib.hid hr
    clear hr
    by_cases hlt : k < 2 ^ n
    · have hlt' : (k : Int) < (2 : Int) ^ n := by rw [← HP.out]; omega
      have hk16 : (k : Int) ≤ 65536 := by omega
      have h1 := h.below hb
      have HS := Lib.hid (sumsL_snoc zs k)
      go_wp2
      go_loop [5, 6] (fun s j => ∃ q : Nat, q ≤ n ∧ j = .int .i64 q ∧ s = .int .i64 (sumTo zs k q)) (fun _ j => n - (intOf j).toNat)
      case atStart => exact ⟨0, by omega, rfl, rfl⟩
      case round =>
        obtain ⟨q, hq, rfl, rfl⟩ := hrel
        by_cases hql : q < n
        · obtain ⟨ad, rfl, _, hcell⟩ := h1.at_ hql
          have hbt := bit_test k q (by omega)
          have hts := sumTo_succ zs k q
          obtain ⟨s0, s1⟩ := sumTo_bd zs k HZ.out q (by rw [HL.out]; omega)
          obtain ⟨x0, x1⟩ := HZ.out q (by rw [HL.out]; exact hql)
          generalize zs.getD q 0 = x at *
          generalize sumTo zs k q = s at *
          cases hb2 : k.testBit q
          · rw [hb2] at hbt hts
            have HTS := Lib.hid hts
            clear hts
            go_wp2
            go_round
            case rel => exact ⟨q + 1, by omega, by go_num, by rw [HTS.out]; rfl⟩
            case measure => simp [intOf]; omega
          · rw [hb2] at hbt hts
            have HTS := Lib.hid hts
            clear hts
            go_wp2
            go_round
            case rel => exact ⟨q + 1, by omega, by go_num, by rw [HTS.out]; rfl⟩
            case measure => simp [intOf]; omega
        · have e : q = n := by omega
          subst e
          have hsz := hb.size
          go_wp2_with (at_builtin; refine wp_append_int wr _ rfl _ _ _ rfl 2 w.heap.size Try.underlying22 info64 B k d _ rfl hown rfl (by omega) hsz ?_; intro g c1 w1 o1 u1 b1 _)
          go_roundg (2 ^ q - (k + 1))
          case measure => rw [HR.out]; omega
          case rel => exact ⟨k + 1, _, _, rfl, by omega, by go_num, rfl, by rw [HS.out, HL.out]; exact o1, hb.trans b1⟩
    · have hge : ¬ (k : Int) < (2 : Int) ^ n := by rw [← HP.out]; omega
      have e : k = 2 ^ n := by omega
      subst e
      go_wp2
      go_ret
      exact ⟨B, _, d, rfl, hown, hb⟩
end Go.Proofs.Ythhkgeeomhhegaa
