/- Bits as hexadecimal texts: what the program writes and reads (plain), and the program's BitsOf, FromBits, hexOf. -/
import Derived.Test.YtnjipckpkcandaaDoorFlt
import Derived.Test.YtnjipckpkcandaaDoorCirJ
import Derived.Test.YtnjipckpkcandaaDoorCirS
import Derived.Test.YtnjipckpkcandaaDoorAppend
import Derived.Test.YtnjipckpkcandaaDoorStrs
namespace Go.Proofs.YtnjipckpkcandaaDoor
open Go.RowKit
def hexD (d : Nat) : UInt8 := [48, 49, 50, 51, 52, 53, 54, 55, 56, 57, 97, 98, 99, 100, 101, 102].getD d 0
def hexAt (b j : Nat) : UInt8 := hexD (b / 16 ^ (7 - j) % 16)
theorem digit_lt (n : Nat) : n % 16 < 16 := Nat.mod_lt _ (by decide)
theorem and15 (n : Nat) (h : n < 9223372036854775808) : bits .and .i64 (n : Int) 15 = ((n % 16 : Nat) : Int) := by
  rw [show (15 : Int) = ((15 : Nat) : Int) from rfl, i64_and_nat n 15 h (by decide)]
  rw [show n &&& 15 = n % 16 from Nat.and_two_pow_sub_one_eq_mod n 4]
theorem or16 (V d : Nat) (hV : V < 268435456) (hd : d < 16) : bits .or .i64 ((V : Int) * 16) (d : Int) = ((V * 16 + d : Nat) : Int) := by
  rw [show (V : Int) * 16 = ((V * 16 : Nat) : Int) by omega, i64_or_nat _ _ (by omega) (by omega)]
  have h := Nat.shiftLeft_add_eq_or_of_lt (a := V) (i := 4) (b := d) hd
  rw [Nat.shiftLeft_eq] at h
  rw [← h]
theorem pow_sh {j : Nat} (h : j < 8) : 2 ^ (28 - 4 * j) = 16 ^ (7 - j) := by
  rw [show (16 : Nat) = 2 ^ 4 from rfl, ← Nat.pow_mul]; congr 1; omega
theorem hexD_cut (d : Nat) (h : d < 16) : (⟨#[48, 49, 50, 51, 52, 53, 54, 55, 56, 57, 97, 98, 99, 100, 101, 102]⟩ : ByteArray).extract d (d + 1) = ⟨#[hexD d]⟩ := by
  have : ∀ d, d < 16 → (⟨#[48, 49, 50, 51, 52, 53, 54, 55, 56, 57, 97, 98, 99, 100, 101, 102]⟩ : ByteArray).extract d (d + 1) = ⟨#[hexD d]⟩ := by decide
  exact this d h
theorem bytes_add (a b : List UInt8) : (⟨a.toArray⟩ : ByteArray) ++ ⟨b.toArray⟩ = ⟨(a ++ b).toArray⟩ := by
  apply ByteArray.ext
  simp
/-- the first j digits -/
def hexL (b j : Nat) : List UInt8 := (List.range j).map (hexAt b)
def hexS (b : Nat) : ByteArray := ⟨(hexL b 8).toArray⟩
theorem implBits_any (x : Nat) (hx : x < 4294967296) (w : World) : Calls Tryd.prog 20 #[.float .f32 x] w fun e w' => e = .returned (.int .i64 (bitsB x : Nat)) ∧ w = w' := by
  have h1 := fun (b : Nat) (w : World) => run_f32bitsC b w
  cases hn : nanK .f32 x
  · have d1 : (FloatKind.f32.format.order x x != some .eq) = false := by rw [order_selfN, hn]
    have e1 : bitsB x = x := by unfold bitsB; rw [if_neg (by rw [hn]; decide)]
    rw [e1]
    clear e1 hn
    go_enter Tryd.func20, Tryd.ntmps20
    go_wp2_with fail
    go_ret
    exact ⟨rfl, rfl⟩
  · have d1 : (FloatKind.f32.format.order x x != some .eq) = true := by rw [order_selfN, hn]
    have e1 : bitsB x = 2143289344 := by unfold bitsB; rw [if_pos hn]
    rw [e1]
    clear e1 hn
    go_enter Tryd.func20, Tryd.ntmps20
    go_wp2_with fail
    go_ret
    exact ⟨rfl, rfl⟩
theorem bitsB_lt {x : Nat} (h : x < 4294967296) : bitsB x < 4294967296 := by unfold bitsB; split <;> omega
theorem run_f32frombitsC (n : Int) (w : World) : (callFunc 45 #[.int .u32 n]).run Tryd.prog w = .ok (.value (.float .f32 n.toNat)) w := by
  rw [run_callFunc_extern Tryd.func45 (e := Extern.MathFloatBits.float32frombits) (by kernel_rfl) (by kernel_rfl) (by kernel_rfl) (by kernel_rfl)]
  rfl
theorem implFromBits_any (n : Nat) (hn : n < 4294967296) (w : World) : Calls Tryd.prog 19 #[.int .i64 (n : Int)] w fun e w' => e = .returned (.tuple #[.float .f32 n, .bool true]) ∧ w = w' := by
  have h1 := fun (b : Int) (w : World) => run_f32frombitsC b w
  go_enter Tryd.func19, Tryd.ntmps19
  go_wp2_with (go_at_call 44; refine (within_any _ _ _ _).mono ?_; rw [show inB (n : Int) 0 4294967295 = true by simp [inB]; omega]; rintro e w1 ⟨rfl, rfl⟩)
  go_ret2
  exact ⟨rfl, rfl⟩
set_option maxRecDepth 100000 in
theorem hexOf_any (x : Nat) (hx : x < 4294967296) (w : World) : Calls Tryd.prog 37 #[.float .f32 x] w fun e w' => e = .returned (.string (hexS (bitsB x))) ∧ w = w' := by
  have HB := Lib.hid (implBits_any x hx w)
  have hb := bitsB_lt hx
  generalize bitsB x = B at *
  go_enter Tryd.func37, Tryd.ntmps37
  go_wp2_with fail
  refine HB.out.mono ?_
  rintro e w1 ⟨rfl, rfl⟩
  go_wp2_with fail
  go_loopg [3, 5, 6] 8 (fun rr ov sv _ wi => ∃ (j : Nat), rr = 8 - j ∧ j ≤ 8 ∧ ov = .string ⟨(hexL B j).toArray⟩ ∧ sv = .int .i64 (28 - 4 * (j : Int)) ∧ wi = w)
  case atStart => exact ⟨0, rfl, Nat.zero_le _, rfl, rfl, rfl⟩
  case round =>
    obtain ⟨j, hr, hj, rfl, rfl, rfl⟩ := hrel
    have HR := Lib.hid hr
    clear hr
    by_cases h8 : j = 8
    · subst h8
      go_wp2_with fail
      go_ret
      exact ⟨rfl, rfl⟩
    · obtain ⟨sh, hsh⟩ : ∃ sh : Nat, sh = 28 - 4 * j := ⟨_, rfl⟩
      obtain ⟨d, hd⟩ : ∃ d : Nat, d = B / 16 ^ (7 - j) % 16 := ⟨_, rfl⟩
      have hd16 : d < 16 := by rw [hd]; exact digit_lt _
      have e1 : (28 : Int) - 4 * (j : Int) = (sh : Int) := by omega
      have e2 : sh ≤ 28 := by omega
      have e3 : bits .and .i64 ((B : Int) / 2 ^ sh) 15 = (d : Int) := by
        rw [div_pow_cast, and15 _ (Nat.lt_of_le_of_lt (Nat.div_le_self _ _) (by omega)), hsh, pow_sh (by omega), hd]
      have e4 : hexL B (j + 1) = hexL B j ++ [hexD d] := by
        unfold hexL
        rw [List.range_succ, List.map_append, hd]; rfl
      have s1 : (⟨(hexL B j).toArray⟩ : ByteArray).size = j := by show (hexL B j).toArray.size = j; unfold hexL; simp
      have s2 : ((⟨#[48, 49, 50, 51, 52, 53, 54, 55, 56, 57, 97, 98, 99, 100, 101, 102]⟩ : ByteArray).extract d (d + 1)).size = 1 := by rw [hexD_cut d hd16]; rfl
      have HSH := Lib.hid hsh
      have H4 := Lib.hid e4
      have H5 := Lib.hid (hexD_cut d hd16)
      rw [e1]
      clear e1 hsh hd e4
      go_wp2_with fail
      go_roundg (8 - (j + 1))
      case measure => rw [HR.out]; omega
      case rel => exact ⟨j + 1, rfl, by omega, by rw [H4.out, H5.out]; show Value.string (_ ++ (⟨[hexD d].toArray⟩ : ByteArray)) = _; rw [bytes_add], by have := HSH.out; go_num, rfl⟩
/-- the digit of a byte, 16 for none -/
theorem hexD_at (d : Nat) (h : d < 16) : Lib.indexByte [48, 49, 50, 51, 52, 53, 54, 55, 56, 57, 97, 98, 99, 100, 101, 102] (hexD d) = (d : Int) := by
  have : ∀ d, d < 16 → Lib.indexByte [48, 49, 50, 51, 52, 53, 54, 55, 56, 57, 97, 98, 99, 100, 101, 102] (hexD d) = (d : Int) := by decide
  exact this d h
theorem hexS_size (b : Nat) : (hexS b).size = 8 := rfl
/-- what j digits stand for -/
def hexV (b j : Nat) : Nat := b / 16 ^ (8 - j)
theorem hexV_next {b j : Nat} (h : j < 8) : hexV b (j + 1) = hexV b j * 16 + b / 16 ^ (7 - j) % 16 := by
  unfold hexV
  rw [show 8 - j = (8 - (j + 1)) + 1 by omega, Nat.pow_succ, ← Nat.div_div_eq_div_mul, show 8 - (j + 1) = 7 - j by omega]
  omega
theorem hexV_lt {b j : Nat} (h : b < 4294967296) (hj : j ≤ 8) : hexV b j < 16 ^ j := by
  unfold hexV
  rw [Nat.div_lt_iff_lt_mul (Nat.pow_pos (by decide)), ← Nat.pow_add, show j + (8 - j) = 8 by omega]
  exact h
set_option maxRecDepth 100000 in
theorem fromHex_any (b : Nat) (hb : b < 4294967296) (hq : bitsB b = b) (w : World) : Calls Tryd.prog 40 #[.string (hexS b)] w fun e w' => e = .returned (.tuple #[.float .f32 b, .bool true]) ∧ w = w' := by
  have hsz : (hexS b).size = 8 := hexS_size b
  have hat : ∀ j, j < 8 → (hexS b).data.toList[j]? = some (hexAt b j) := by
    intro j hj
    show (hexL b 8)[j]? = _
    unfold hexL
    rw [List.getElem?_map, List.getElem?_range hj]; rfl
  have HAT := Lib.hid hat
  clear hat
  obtain ⟨s, hs⟩ : ∃ s, s = hexS b := ⟨_, rfl⟩
  have HS := Lib.hid hs
  rw [← hs] at HAT hsz ⊢
  clear hs
  go_enter Tryd.func40, Tryd.ntmps40
  go_wp2_with fail
  go_loopg [4, 5, 6] 8 (fun rr bv iv _ wi => ∃ (j : Nat), rr = 8 - j ∧ j ≤ 8 ∧ bv = .int .i64 (hexV b j : Nat) ∧ iv = .int .i64 (j : Int) ∧ wi = w)
  case atStart => exact ⟨0, rfl, Nat.zero_le _, by unfold hexV; rw [show b / 16 ^ (8 - 0) = 0 from Nat.div_eq_of_lt hb]; rfl, rfl, rfl⟩
  case round =>
    obtain ⟨j, hr, hj, rfl, rfl, rfl⟩ := hrel
    have HR := Lib.hid hr
    clear hr
    by_cases h8 : j = 8
    · subst h8
      have hv : hexV b 8 = b := by unfold hexV; rw [show 8 - 8 = 0 from rfl, Nat.pow_zero, Nat.div_one]
      rw [hv]
      clear hv
      go_wp2_with fail
      refine (implFromBits_any b hb _).mono ?_
      rintro e w1 ⟨rfl, rfl⟩
      go_wp2_with fail
      refine (hexOf_any b hb _).mono ?_
      rw [hq, ← HS.out]
      rintro e w1 ⟨rfl, rfl⟩
      go_wp2_with fail
      go_ret2
      exact ⟨by simp, rfl⟩
    · have hjl : j < 8 := by omega
      have hlt : j < s.size := by omega
      obtain ⟨d, hd⟩ : ∃ d : Nat, d = b / 16 ^ (7 - j) % 16 := ⟨_, rfl⟩
      have hd16 : d < 16 := by rw [hd]; exact digit_lt _
      have hsj : s[j].toNat = (hexD d).toNat := by
        have h1 := HAT.out j hjl
        have h2 : s.data.toList[j]? = some s[j] := by
          rw [Array.getElem?_toList]
          exact Array.getElem?_eq_getElem _
        rw [h2] at h1
        injection h1 with h1
        rw [h1, hd]; rfl
      have hu : (((hexD d).toNat : Int).toNat.toUInt8) = hexD d := by rw [Int.toNat_natCast]; exact UInt8.ofNat_toNat
      have HN := Lib.hid (hexV_next (b := b) hjl)
      rw [← hd] at HN
      have hvl := hexV_lt hb hj
      have hv8 : hexV b j < 268435456 := by
        have : (16 : Nat) ^ j ≤ 16 ^ 7 := Nat.pow_le_pow_right (by decide) (by omega)
        omega
      have HD := Lib.hid (show Lib.indexByte (⟨#[48, 49, 50, 51, 52, 53, 54, 55, 56, 57, 97, 98, 99, 100, 101, 102]⟩ : ByteArray).data.toList (hexD d) = (d : Int) from hexD_at d hd16)
      have HU := Lib.hid hu
      clear hd hvl hu
      generalize hexV b j = V at *
      go_wp2_with fail
      refine (indexByte_any _ _ _).mono ?_
      rw [HU.out, HD.out]
      rintro e w1 ⟨rfl, rfl⟩
      go_wp2_with fail
      go_roundg (8 - (j + 1))
      case measure => rw [HR.out]; omega
      case rel => exact ⟨j + 1, rfl, by omega, by rw [or16 V d hv8 hd16, HN.out], by go_num, rfl⟩
end Go.Proofs.YtnjipckpkcandaaDoor
