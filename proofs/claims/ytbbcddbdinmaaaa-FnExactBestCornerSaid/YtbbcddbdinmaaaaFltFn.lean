/- Floats: the contracts of small functions: finite numbers, lists of them, copies, what the laws hold against each other. -/
import Derived.Test.YtbbcddbdinmaaaaFltMem
import Derived.Test.YtbbcddbdinmaaaaLaw
import Derived.Test.YtbbcddbdinmaaaaMark
import Derived.Deep.RegionHeld3
namespace Go.Proofs.Ytbbcddbdinmaaaa
open Go.RowKit

/-- a number is finite: what is taken from itself is zero then alone -/
def finO (x : Option Nat) : Bool := ford .f32 (fop .sub .f32 x x) (some 0) == some .eq
theorem abs0 : absK .f32 0 = some 0 := by decide
theorem abs0d : absK .f64 0 = some 0 := by decide
theorem finO_nan : finO none = false := rfl
def allFin (bs : List Nat) : Bool := bs.all fun b => finO (absK .f32 b)
theorem infoF : (Try.prog.info? 34).map (fun i => (i.zero, i.size, i.bytes)) = some (some (.float .f32 0), 1, 4) := by kernel_rfl

theorem run_store_f (w : World) (a : Addr) (k : FloatKind) (b : Nat) (m : Mode) : (store a (.float k b) m).run Try.prog w = stored Try.prog w a (.float k b) m := run_store _ w a _ m rfl
theorem isFinite_any (b : Nat) (w : World) :
    Calls Try.prog 67 #[.float .f32 b] w fun e w' => e = .returned (.bool (finO (absK .f32 b))) ∧ Drew w w' := by
  go_enter Try.func67, Try.ntmps67
  go_wp2_with (refine wp_fop _ rfl .sub _ _ _ _ rfl rfl .f32 b b rfl rfl ?_; intro r w1 hr _ hd)
  go_ret
  exact ⟨ret_bool (by rw [ford_abs, hr, abs0]; rfl), hd⟩
theorem l01Finite_any (b : Nat) (w : World) :
    Calls Try.prog 64 #[.float .f32 b] w fun e w' => e = .returned (.bool (finO (absK .f32 b))) ∧ Drew w w' := by
  go_enter Try.func64, Try.ntmps64
  go_wp2_with (refine wp_fop _ rfl .sub _ _ _ _ rfl rfl .f32 b b rfl rfl ?_; intro r w1 hr _ hd)
  go_ret
  exact ⟨ret_bool (by rw [ford_abs, hr, abs0]; rfl), hd⟩
theorem areFinite_any (A : Option Addr) (n c : Nat) (bs : List Nat) (w : World) (h : FltsAt w A n bs) (hl : n ≤ maxLen) :
    Calls Try.prog 84 #[.slice A n c] w fun e w' => e = .returned (.bool (allFin bs)) ∧ Drew w w' := by
  have HL := Lib.hid h.len
  have hl2 : n ≤ 9223372036854775807 := hl
  clear hl
  go_enter Try.func84, Try.ntmps84
  go_wp2_with fail
  go_loopg [7] n (fun r iv wi => ∃ k : Nat, r = n - k ∧ k ≤ n ∧ iv = .int .i64 k ∧ Hid ((bs.take k).all (fun b => finO (absK .f32 b)) = true) ∧ Drew w wi)
  case atStart => exact ⟨0, rfl, Nat.zero_le _, rfl, Lib.hid (by simp), Drew.refl _⟩
  case round =>
    obtain ⟨k, hr, hk, rfl, hall, q, rfl⟩ := hrel
    have HR := Lib.hid hr
    clear hr
    have h2 := h.drewN q
    have hd2 : Drew w (w.drewN q) := ⟨q, rfl⟩
    generalize w.drewN q = W at *
    by_cases hlt : k < n
    · obtain ⟨ad, rfl, _, hcell⟩ := h2.at_ hlt
      have hs := all_take_succ (fun b => finO (absK .f32 b)) bs k 0 (by rw [HL.out]; exact hlt)
      have hf := all_false_of (fun b => finO (absK .f32 b)) bs k 0 (by rw [HL.out]; exact hlt)
      generalize hx : bs.getD k 0 = x at *
      have HS := Lib.hid hs
      have HF := Lib.hid hf
      have HX := Lib.hid hx
      clear hs hf hx
      cases hb : finO (absK .f32 x)
      · go_wp2_with fail
        refine (isFinite_any x _).mono ?_
        rw [hb]
        rintro e w1 ⟨rfl, hd3⟩
        go_wp2_with fail
        go_ret
        exact ⟨ret_bool (HF.out hb).symm, hd2.trans hd3⟩
      · go_wp2_with fail
        refine (isFinite_any x _).mono ?_
        rw [hb]
        rintro e w1 ⟨rfl, hd3⟩
        go_wp2_with fail
        go_roundg (n - (k + 1))
        case measure => rw [HR.out]; omega
        case rel => exact ⟨k + 1, rfl, by omega, by go_num, Lib.hid (by rw [HS.out, hall.out, hb]; rfl), hd2.trans hd3⟩
    · go_wp2_with fail
      go_ret
      exact ⟨ret_bool (by have := hall.out; rw [List.take_of_length_le (by rw [HL.out]; omega)] at this; exact this.symm), hd2⟩
theorem l02Finite_any (A : Option Addr) (n c : Nat) (bs : List Nat) (w : World) (h : FltsAt w A n bs) (hl : n ≤ maxLen) :
    Calls Try.prog 86 #[.slice A n c] w fun e w' => e = .returned (.bool (allFin bs)) ∧ Drew w w' := by
  have HL := Lib.hid h.len
  have hl2 : n ≤ 9223372036854775807 := hl
  clear hl
  go_enter Try.func86, Try.ntmps86
  go_wp2_with fail
  go_loopg [3] n (fun r iv wi => ∃ k : Nat, r = n - k ∧ k ≤ n ∧ iv = .int .i64 k ∧ Hid ((bs.take k).all (fun b => finO (absK .f32 b)) = true) ∧ Drew w wi)
  case atStart => exact ⟨0, rfl, Nat.zero_le _, rfl, Lib.hid (by simp), Drew.refl _⟩
  case round =>
    obtain ⟨k, hr, hk, rfl, hall, q, rfl⟩ := hrel
    have HR := Lib.hid hr
    clear hr
    have h2 := h.drewN q
    have hd2 : Drew w (w.drewN q) := ⟨q, rfl⟩
    generalize w.drewN q = W at *
    by_cases hlt : k < n
    · obtain ⟨ad, rfl, _, hcell⟩ := h2.at_ hlt
      have hs := all_take_succ (fun b => finO (absK .f32 b)) bs k 0 (by rw [HL.out]; exact hlt)
      have hf := all_false_of (fun b => finO (absK .f32 b)) bs k 0 (by rw [HL.out]; exact hlt)
      generalize hx : bs.getD k 0 = x at *
      have HS := Lib.hid hs
      have HF := Lib.hid hf
      have HX := Lib.hid hx
      clear hs hf hx
      cases hb : finO (absK .f32 x)
      · go_wp2_with fail
        refine (l01Finite_any x _).mono ?_
        rw [hb]
        rintro e w1 ⟨rfl, hd3⟩
        go_wp2_with fail
        go_ret
        exact ⟨ret_bool (HF.out hb).symm, hd2.trans hd3⟩
      · go_wp2_with fail
        refine (l01Finite_any x _).mono ?_
        rw [hb]
        rintro e w1 ⟨rfl, hd3⟩
        go_wp2_with fail
        go_roundg (n - (k + 1))
        case measure => rw [HR.out]; omega
        case rel => exact ⟨k + 1, rfl, by omega, by go_num, Lib.hid (by rw [HS.out, hall.out, hb]; rfl), hd2.trans hd3⟩
    · go_wp2_with fail
      go_ret
      exact ⟨ret_bool (by have := hall.out; rw [List.take_of_length_le (by rw [HL.out]; omega)] at this; exact this.symm), hd2⟩
/-- a number is finite and at least 0 -/
def leastO (x : Option Nat) : Bool := finO x && (ford .f32 x (some 0) == some .gt || ford .f32 x (some 0) == some .eq)
theorem l02Least_any (b : Nat) (w : World) :
    Calls Try.prog 50 #[.float .f32 b] w fun e w' => e = .returned (.bool (leastO (absK .f32 b))) ∧ Drew w w' := by
  have HO := Lib.hid (show (FloatKind.f32.format.order b 0) = ford .f32 (absK .f32 b) (some 0) by rw [ford_abs, abs0])
  cases hb : finO (absK .f32 b)
  · have HB := Lib.hid (show leastO (absK .f32 b) = false by unfold leastO; rw [hb]; rfl)
    go_enter Try.func50, Try.ntmps50
    go_wp2_with fail
    refine (l01Finite_any b _).mono ?_
    rw [hb]
    rintro e w1 ⟨rfl, hd⟩
    go_wp2_with fail
    go_ret
    exact ⟨ret_bool HB.out.symm, hd⟩
  · have HB := Lib.hid (show leastO (absK .f32 b) = _ by unfold leastO; rw [hb, Bool.true_and])
    go_enter Try.func50, Try.ntmps50
    go_wp2_with fail
    refine (l01Finite_any b _).mono ?_
    rw [hb]
    rintro e w1 ⟨rfl, hd⟩
    go_wp2_with fail
    go_ret
    exact ⟨ret_bool (by rw [HB.out, HO.out]), hd⟩
theorem isNear_any (b : Nat) (w : World) :
    Calls Try.prog 53 #[.float .f32 b] w fun e w' => e = .returned (.bool (leastO (absK .f32 b))) ∧ Drew w w' := by
  have HO := Lib.hid (show (FloatKind.f32.format.order b 0) = ford .f32 (absK .f32 b) (some 0) by rw [ford_abs, abs0])
  cases hb : finO (absK .f32 b)
  · have HB := Lib.hid (show leastO (absK .f32 b) = false by unfold leastO; rw [hb]; rfl)
    go_enter Try.func53, Try.ntmps53
    go_wp2_with fail
    refine (isFinite_any b _).mono ?_
    rw [hb]
    rintro e w1 ⟨rfl, hd⟩
    go_wp2_with fail
    go_ret
    exact ⟨ret_bool HB.out.symm, hd⟩
  · have HB := Lib.hid (show leastO (absK .f32 b) = _ by unfold leastO; rw [hb, Bool.true_and])
    go_enter Try.func53, Try.ntmps53
    go_wp2_with fail
    refine (isFinite_any b _).mono ?_
    rw [hb]
    rintro e w1 ⟨rfl, hd⟩
    go_wp2_with fail
    go_ret
    exact ⟨ret_bool (by rw [HB.out, HO.out]), hd⟩
/-- The call hands back a slice of its own that holds these floats, and leaves what was there. -/
def RetF (T : Nat) (bs : List Nat) (w : World) (e : Ending) (w' : World) : Prop :=
  ∃ (A : Option Addr) (c : Nat), e = .returned (.slice A bs.length c) ∧ OwnF T w.heap.size w' A bs.length c bs ∧ Below w.heap.size w w'
theorem take_rep_setF (zs : List Nat) (k n : Nat) (x : Nat) (hn : zs.length = n) (hk : k < n) :
    (zs.take k ++ List.replicate (n - k) x).set k (zs.getD k 0) = zs.take (k + 1) ++ List.replicate (n - (k + 1)) x := by
  apply List.ext_getElem?
  intro j
  have hl : (zs.take k).length = k := by simp; omega
  rw [List.getElem?_set]
  simp only [List.length_append, List.length_replicate, hl]
  by_cases h1 : k = j
  · subst h1
    rw [if_pos rfl, if_pos (by omega), List.getElem?_append_left (by simp; omega), List.getElem?_take, if_pos (by omega)]
    simp [List.getD, List.getElem?_eq_getElem (show k < zs.length by omega)]
  · rw [if_neg h1]
    by_cases h2 : j < k
    · rw [List.getElem?_append_left (by omega), List.getElem?_append_left (by simp; omega)]
      simp [List.getElem?_take, h2, Nat.lt_succ_of_lt h2]
    · rw [List.getElem?_append_right (by omega), List.getElem?_append_right (by simp; omega)]
      have hl' : (zs.take (k+1)).length = k + 1 := by simp; omega
      rw [hl, hl', List.getElem?_replicate, List.getElem?_replicate]
      by_cases h3 : j < n
      · rw [if_pos (by omega), if_pos (by omega)]
      · rw [if_neg (by omega), if_neg (by omega)]
theorem toFloat32S_len (A : Option Addr) (n c : Nat) (bs : List Nat) (w : World) (h : FltsAt w A n bs) (hl : n ≤ 1048576) :
    Calls Try.prog 39 #[.slice A n c] w fun e w' => ∃ (A' : Option Addr) (c' : Nat), e = .returned (.slice A' n c') ∧ OwnF 34 w.heap.size w' A' n c' bs ∧ Below w.heap.size w w' := by
  have HL := Lib.hid h.len
  go_enter Try.func39, Try.ntmps39
  go_wp2_with (at_make; refine wp_make_flts _ rfl _ _ 22 rfl 34 Try.underlying22 infoF .i64 .i64 _ _ n rfl rfl rfl rfl (by omega) ?_; intro w2 gB oB bB)
  go_loopg [4] n (fun r i wr => ∃ k : Nat, r = n - k ∧ k ≤ n ∧ i = .int .i64 k ∧ OwnF 34 w.heap.size wr (some ⟨gB, 0, none⟩) n n (bs.take k ++ List.replicate (n - k) 0) ∧ Below w.heap.size w wr)
  case atStart => exact ⟨0, by omega, by omega, rfl, by simpa using oB, bB⟩
  case round =>
    obtain ⟨k, hr, hk, rfl, hown, hb⟩ := hrel
    have HR := Lib.hid hr
    clear hr oB bB
    by_cases hlt : k < n
    · obtain ⟨ad, rfl, had, hcell⟩ := (h.below hb).at_ hlt
      have hfree := hown.free k
      have hc0 := hown.cell hlt
      have HS := Lib.hid (take_rep_setF bs k n 0 HL.out hlt)
      have hset := hown.set k (bs.getD k 0)
      have hgB := (hown.lt rfl).1
      rw [HS.out] at hset
      generalize hx : bs.getD k 0 = x at *
      have HX := Lib.hid hx
      clear hx
      generalize hy : (List.take k bs ++ List.replicate (n - k) 0).getD k 0 = y at *
      clear hy hown
      have hst := run_store_f
      go_wp2_with fail
      go_roundg (n - (k + 1))
      case measure => rw [HR.out]; omega
      case rel => exact ⟨k + 1, rfl, by omega, by go_num, hset, hb.setCell (p := ⟨gB, k, none⟩) hgB _⟩
    · go_wp2_with fail
      go_ret
      have e : k = n := by omega
      subst e
      refine ⟨_, _, rfl, ?_, hb⟩
      rw [List.take_of_length_le (by rw [HL.out]; exact Nat.le_refl _)] at hown
      simpa using hown
theorem copyNumbers_any (A : Option Addr) (n c : Nat) (bs : List Nat) (w : World) (h : FltsAt w A n bs) (hn : n ≤ 1048576) :
    Calls Try.prog 54 #[.slice A n c] w fun e w' => ∃ (A' : Option Addr) (c' : Nat), e = .returned (.slice A' n c') ∧ OwnF 34 w.heap.size w' A' n c' bs ∧ Below w.heap.size w w' := by
  have he : OwnF 34 w.heap.size (w.alloc (.cells #[] 34)) (some ⟨w.heap.size, 0, none⟩) 0 0 [] := World.ownsRow_lit (e := 34) (base := w.heap.size) (size := 1) w #[] 0 (Nat.le_refl _) (Nat.zero_le _) rfl
  have hW : Below w.heap.size w (w.alloc (.cells #[] 34)) := (Below.refl _ _).alloc (Nat.le_refl _) _
  go_enter Try.func54, Try.ntmps54
  go_wp2_with (at_builtin; refine wp_append_flts _ rfl _ _ _ rfl 34 w.heap.size Try.underlying22 infoF _ 0 0 _ rfl he A n c bs rfl (h.alloc _) (by omega) hW.size ?_; intro A' c' w' o1 u1 b1 _; simp only [Nat.zero_add, List.nil_append] at o1)
  go_ret
  exact ⟨A', c', rfl, o1, hW.trans b1⟩
end Go.Proofs.Ytbbcddbdinmaaaa
