/- Contracts of the laws' own helpers on slices of ints, and of the smallest functions. -/
import Derived.Test.YtnjipckpkcandaaMem
namespace Go.Proofs.Ytnjipckpkcandaa
open Go.RowKit

theorem info64 : (Try.prog.info? 2).map (fun i => (i.zero, i.size, i.bytes)) = some (some (.int .i64 0), 1, 8) := by kernel_rfl

theorem l00In_any (n lo hi : Int) (w : World) :
    Calls Try.prog 44 #[.int .i64 n, .int .i64 lo, .int .i64 hi] w fun e w' => e = .returned (.bool (inB n lo hi)) ∧ w = w' := by
  go_enter Try.func44, Try.ntmps44
  go_wp2
  all_goals go_ret
  all_goals (simp [inB]; try omega)
theorem within_any (n lo hi : Int) (w : World) :
    Calls Try.prog 33 #[.int .i64 n, .int .i64 lo, .int .i64 hi] w fun e w' => e = .returned (.bool (inB n lo hi)) ∧ w = w' := by
  go_enter Try.func33, Try.ntmps33
  go_wp2
  all_goals go_ret
  all_goals (simp [inB]; try omega)
theorem size_any (n : Int) (w : World) :
    Calls Try.prog 34 #[.int .i64 n] w fun e w' => e = .returned (.int .i64 n) ∧ w = w' := by
  go_enter Try.func34, Try.ntmps34
  go_wp2
  go_ret
  simp
theorem allWithin_any (A : Option Addr) (n c : Nat) (zs : List Int) (lo hi : Int) (w : World) (h : IntsAt w A n zs) (hl : n ≤ 1048576) :
    Calls Try.prog 35 #[.slice A n c, .int .i64 lo, .int .i64 hi] w fun e w' => e = .returned (.bool (zs.all fun n => inB n lo hi)) ∧ w = w' := by
  have HL := Lib.hid h.len
  go_enter Try.func35, Try.ntmps35
  go_wp2
  go_loop [11] (fun i => ∃ k : Nat, k ≤ n ∧ i = .int .i64 k ∧ Hid ((zs.take k).all (fun n => inB n lo hi) = true))
                 (fun i => n - (intOf i).toNat)
  case atStart => exact ⟨0, Nat.zero_le _, rfl, Lib.hid (by simp)⟩
  case round =>
    obtain ⟨k, hk, rfl, hall⟩ := hrel
    by_cases hlt : k < n
    · obtain ⟨ad, rfl, _, hcell⟩ := h.at_ hlt
      have hs := all_take_succ (fun n => inB n lo hi) zs k 0 (by rw [HL.out]; exact hlt)
      have hf := all_false_of (fun n => inB n lo hi) zs k 0 (by rw [HL.out]; exact hlt)
      generalize hx : zs.getD k 0 = x at *
      have HS := Lib.hid hs
      have HF := Lib.hid hf
      have HX := Lib.hid hx
      clear hs hf hx
      cases hb : inB x lo hi
      · go_wp2_with (go_at_call 33; refine (within_any _ _ _ _).mono ?_; rintro e w' ⟨rfl, rfl⟩)
        go_ret
        exact ⟨ret_bool (HF.out hb).symm, rfl⟩
      · go_wp2_with (go_at_call 33; refine (within_any _ _ _ _).mono ?_; rintro e w' ⟨rfl, rfl⟩)
        go_round
        case rel => exact ⟨k + 1, by omega, by go_num, Lib.hid (by rw [HS.out, hall.out, hb]; rfl)⟩
        case measure => simp [intOf]; omega
    · go_wp2
      go_ret
      exact ⟨ret_bool (by have := hall.out; rw [List.take_of_length_le (by rw [HL.out]; omega)] at this; exact this.symm), rfl⟩

/-- The call hands back a slice of its own that holds these ints, and leaves what was there. -/
def RetI (T : Nat) (zs : List Int) (w : World) (e : Ending) (w' : World) : Prop :=
  ∃ (A : Option Addr) (n c : Nat), e = .returned (.slice A n c) ∧ OwnI T w.heap.size w' A n c zs ∧ Below w.heap.size w w'

theorem toInt64S_any (A : Option Addr) (n c : Nat) (zs : List Int) (w : World) (h : IntsAt w A n zs) (hl : n ≤ 1048576) :
    Calls Try.prog 16 #[.slice A n c] w (RetI 2 zs w) := by
  have HL := Lib.hid h.len
  have hmk := fun W => run_make_row' (P := Try.prog) 36 2 _ 8 Try.underlying36 info64 rfl .i64 .i64 n (by omega) (by omega) W
  go_enter Try.func16, Try.ntmps16
  go_wp2
  go_loopg [4] n (fun r i wr => ∃ k : Nat, r = n - k ∧ k ≤ n ∧ i = .int .i64 k ∧ OwnI 2 w.heap.size wr (some ⟨w.heap.size, 0, none⟩) n n (zs.take k ++ List.replicate (n - k) 0) ∧ Below w.heap.size w wr)
  case atStart => exact ⟨0, by omega, by omega, rfl, by simpa using OwnI.made _ _ w n (Nat.le_refl _) (by simp [maxLen]; omega), (Below.refl _ _).alloc (Nat.le_refl _) _⟩
  case round =>
    obtain ⟨k, hr, hk, rfl, hown, hb⟩ := hrel
    have HR := Lib.hid hr
    clear hr hmk
    by_cases hlt : k < n
    · obtain ⟨ad, rfl, had, hcell⟩ := (h.below hb).at_ hlt
      have hfree := hown.free k
      have hc0 := hown.cell hlt
      have HS := Lib.hid (take_rep_set zs k n 0 HL.out hlt)
      have hset := hown.set k (zs.getD k 0)
      rw [HS.out] at hset
      generalize hx : zs.getD k 0 = x at *
      have HX := Lib.hid hx
      clear hx
      generalize hy : (List.take k zs ++ List.replicate (n - k) 0).getD k 0 = y at *
      clear hy hown
      go_wp2
      go_roundg (n - (k + 1))
      case measure => rw [HR.out]; omega
      case rel => exact ⟨k + 1, rfl, by omega, by go_num, hset, hb.setCell (Nat.le_refl _) _⟩
    · go_wp2
      go_ret
      refine ⟨_, _, _, rfl, ?_, hb⟩
      have e : k = n := by omega
      subst e
      rw [List.take_of_length_le (by rw [HL.out]; exact Nat.le_refl _)] at hown
      simpa using hown

theorem eq_of_getD {xs ys : List Int} {n : Nat} (hx : xs.length = n) (hy : ys.length = n) (h : ∀ k, k < n → xs.getD k 0 = ys.getD k 0) : xs = ys := by
  apply List.ext_getElem?
  intro i
  by_cases hi : i < n
  · have := h i hi
    rw [List.getElem?_eq_getElem (by omega), List.getElem?_eq_getElem (by omega)]
    simpa [List.getD, List.getElem?_eq_getElem (show i < xs.length by omega), List.getElem?_eq_getElem (show i < ys.length by omega)] using this
  · rw [List.getElem?_eq_none (by omega), List.getElem?_eq_none (by omega)]

theorem eqInt64S_any (A B : Option Addr) (n c m d : Nat) (xs ys : List Int) (w : World) (hx : IntsAt w A n xs) (hy : IntsAt w B m ys) (hn0 : n ≤ maxLen) :
    Calls Try.prog 18 #[.slice A n c, .slice B m d] w fun e w' => e = .returned (.bool (decide (xs = ys))) ∧ ∃ q, w' = w.drewN q := by
  have HX := Lib.hid hx.len
  have HY := Lib.hid hy.len
  have hn : n ≤ 9223372036854775807 := hn0
  clear hn0
  by_cases hnm : n = m
  · subst hnm
    go_enter Try.func18, Try.ntmps18
    go_wp2
    go_loopw [5] (fun i wr => ∃ (k q : Nat), k ≤ n ∧ i = .int .i64 k ∧ (∃ W, W = w.drewN q ∧ wr = W) ∧ Hid (∀ j, j < k → xs.getD j 0 = ys.getD j 0)) (fun i _ => n - (intOf i).toNat)
    case atStart => exact ⟨0, 0, by omega, rfl, ⟨_, rfl, rfl⟩, Lib.hid (fun j hj => by omega)⟩
    case round =>
      obtain ⟨k, q, hk, rfl, ⟨_, rfl, rfl⟩, hall⟩ := hrel
      by_cases hlt : k < n
      · obtain ⟨ad, rfl, had, hcx⟩ := hx.at_ hlt
        obtain ⟨bd, rfl, hbd, hcy⟩ := hy.at_ hlt
        clear had hbd
        generalize gx : xs.getD k 0 = x at *
        generalize gy : ys.getD k 0 = y at *
        have GX := Lib.hid gx
        have GY := Lib.hid gy
        clear gx gy
        by_cases he : x = y
        · subst he
          go_wp2
          go_quiet (fail)
          go_wp2
          go_roundw
          case rel =>
            refine ⟨k + 1, _, by omega, by go_num, ⟨_, rfl, rfl⟩, Lib.hid fun j hj => ?_⟩
            by_cases hjk : j = k
            · subst hjk; rw [GX.out, GY.out]
            · exact hall.out j (by omega)
          case measure => simp [intOf]; omega
        · have HE := Lib.hid he
          have he' : (x != y) = true := by simpa using he
          have he2 : decide (x = y) = false := by simpa using he
          go_wp2
          go_quiet (fail)
          go_wp2
          go_ret
          refine ⟨ret_bool ?_, _, World.drewN_drewN _ _ _⟩
          symm
          rw [decide_eq_false_iff_not]
          intro h
          exact HE.out (by rw [← GX.out, ← GY.out, h])
      · go_wp2
        go_ret
        refine ⟨ret_bool ?_, _, rfl⟩
        symm
        rw [decide_eq_true_iff]
        exact eq_of_getD HX.out HY.out fun j hj => hall.out j (by omega)
  · have h' : ((n : Int) != (m : Int)) = true := by simp; omega
    go_enter Try.func18, Try.ntmps18
    go_wp2
    go_ret
    refine ⟨ret_bool ?_, 0, rfl⟩
    symm
    rw [decide_eq_false_iff_not]
    rintro rfl
    exact hnm (HX.out.symm.trans HY.out)
end Go.Proofs.Ytnjipckpkcandaa
