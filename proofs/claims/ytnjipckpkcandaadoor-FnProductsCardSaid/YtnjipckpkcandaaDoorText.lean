/- Complex numbers as texts: the plain text, ComplexText. -/
import Derived.Test.YtnjipckpkcandaaDoorDraw2
import Derived.Test.YtnjipckpkcandaaDoorStrs
namespace Go.Proofs.YtnjipckpkcandaaDoor
open Go.RowKit
def wordL (z : Nat × Nat) : List UInt8 := hexL (bitsB z.1) 8 ++ hexL (bitsB z.2) 8
def wordS (z : Nat × Nat) : ByteArray := ⟨(wordL z).toArray⟩
def noneS : ByteArray := ⟨#[110, 111, 110, 101]⟩
def textB (zs : List (Nat × Nat)) : ByteArray := match zs with | [] => noneS | _ => ⟨(Lib.join (zs.map wordL) [44]).toArray⟩
theorem hexL_len (b j : Nat) : (hexL b j).length = j := by unfold hexL; simp
theorem wordL_len (z : Nat × Nat) : (wordL z).length = 16 := by unfold wordL; rw [List.length_append, hexL_len, hexL_len]
theorem infoSt : (Tryd.prog.info? 9).map (fun i => (i.zero, i.size, i.bytes)) = some (some (.string ByteArray.empty), 1, 16) := by kernel_rfl
theorem joinL_len (ws : List (List UInt8)) (h : ∀ x ∈ ws, x.length = 16) : (Lib.join ws [44]).length ≤ 17 * ws.length := by
  cases ws with
  | nil => simp [Lib.join_nil]
  | cons x r =>
    have := Lib.join_length x r [44]
    rw [this]
    have h2 : Lib.lens (x :: r) = 16 * (r.length + 1) := by
      have : ∀ l : List (List UInt8), (∀ x ∈ l, x.length = 16) → Lib.lens l = 16 * l.length := by
        intro l
        induction l with
        | nil => intro _; rfl
        | cons a t ih =>
          intro h
          have h3 := ih (fun x hx => h x (List.mem_cons_of_mem _ hx))
          have h4 := h a (List.mem_cons_self ..)
          unfold Lib.lens at h3 ⊢
          simp [h4, h3]; omega
      have := this (x :: r) h
      rw [this]; rfl
    rw [h2]
    simp
    omega
theorem joined_any (W : Option Addr) (n c base : Nat) (zs : List (Nat × Nat)) (w : World) (h : OwnC 9 base 1 w W n c ((zs.map wordS).map Value.string)) (hn : n ≤ 1000) (hz : zs.length = n) :
    Calls Tryd.prog 38 #[.slice W n c] w fun e w' => e = .returned (.string (textB zs)) ∧ Below w.heap.size w w' := by
  rcases h.form with ⟨rfl, rfl, rfl⟩ | ⟨g, rfl, _, hg, hnc, hcm⟩
  · have : zs = [] := List.eq_nil_of_length_eq_zero hz
    subst this
    go_enter Tryd.func38, Tryd.ntmps38
    go_wp2_with fail
    go_ret
    exact ⟨rfl, Below.refl _ _⟩
  · by_cases h0 : n = 0
    · subst h0
      have : zs = [] := List.eq_nil_of_length_eq_zero hz
      subst this
      go_enter Tryd.func38, Tryd.ntmps38
      go_wp2_with fail
      go_ret
      exact ⟨rfl, Below.refl _ _⟩
    · have hlen : ((zs.map wordS).map (·.data.toList)) = zs.map wordL := by rw [List.map_map]; rfl
      have hcells : ∀ (j : Nat) x, (zs.map wordS)[j]? = some x → w.cell? ⟨g, 0 + j, none⟩ = some (.string x) := by
        intro j x hj
        have hjl : j < (zs.map wordS).length := by
          rcases Nat.lt_or_ge j (zs.map wordS).length with h1 | h1
          · exact h1
          · rw [List.getElem?_eq_none h1] at hj; cases hj
        rw [Nat.zero_add, h.cell (by rw [List.length_map, hz] at hjl; omega), List.getElem?_map, hj]
        rfl
      have hb := joinL_len (zs.map wordL) (by intro x hx; obtain ⟨z, _, rfl⟩ := List.mem_map.1 hx; exact wordL_len z)
      rw [List.length_map, hz] at hb
      have J := join_any g 0 c (zs.map wordS) ⟨#[44]⟩ w hcells hg (by rw [List.length_map]; omega) (by rw [List.length_map]; omega) (by rw [hlen]; show (Lib.join (zs.map wordL) [44]).length ≤ _; omega)
      rw [hlen, List.length_map, hz] at J
      have HJ := Lib.hid J
      clear J hcells hlen hb
      have HT := Lib.hid (show (⟨(Lib.join (zs.map wordL) [44]).toArray⟩ : ByteArray) = textB zs by cases zs with
        | nil => exfalso; apply h0; rw [← hz]; rfl
        | cons a t => rfl)
      go_enter Tryd.func38, Tryd.ntmps38
      go_wp2_with fail
      refine HJ.out.mono ?_
      rintro e w1 ⟨rfl, hb⟩
      go_wp2_with fail
      go_ret
      exact ⟨by rw [← HT.out]; rfl, hb⟩
theorem areNumbers_any (n : Nat) (hn : n ≤ 200) (w : World) : Calls Tryd.prog 36 #[.int .i64 (n : Int)] w fun e w' => e = .returned (.bool true) ∧ w = w' := by
  go_enter Tryd.func36, Tryd.ntmps36
  go_wp2_with fail
  go_ret
  exact ⟨ret_bool (decide_eq_true (by omega)), rfl⟩
set_option maxRecDepth 100000 in
set_option maxHeartbeats 1600000 in
theorem complexText_any (S : Option Addr) (n c base : Nat) (zs : List (Nat × Nat)) (w : World) (h : OwnC 24 base 1 w S n c (zs.map cplx)) (hf : Fit32 zs) (hn : n ≤ 200) :
    Calls Tryd.prog 16 #[.slice S n c] w fun e w' => e = .returned (.tuple #[.string (textB zs), .bool true]) ∧ Below w.heap.size w w' := by
  have hz : zs.length = n := by have := OwnC.len h; rw [List.length_map] at this; omega
  have HZ := Lib.hid hz
  have HF := Lib.hid hf
  clear hz hf
  go_enter Tryd.func16, Tryd.ntmps16
  go_wp2_with fail
  refine (areNumbers_any n hn _).mono ?_
  rintro e w1 ⟨rfl, rfl⟩
  go_wp2_with fail
  go_loopg [4, 6, 13] n (fun r wv _ iv wr => ∃ (j : Nat) (W : Option Addr) (wc : Nat), r = n - j ∧ j ≤ n ∧ iv = .int .i64 (j : Int) ∧ wv = .slice W j wc ∧ OwnC 9 w.heap.size 1 wr W j wc (((zs.take j).map wordS).map Value.string) ∧ Below w.heap.size w wr)
  case atStart => exact ⟨0, none, 0, rfl, Nat.zero_le _, rfl, rfl, OwnC.nil_ _ _ _ _, Below.refl _ _⟩
  case round =>
    obtain ⟨j, W, wc, hr, hj, rfl, rfl, hown, hb⟩ := hrel
    have HR := Lib.hid hr
    clear hr
    by_cases hlt : j < n
    · have hs := OwnC.below h hb
      obtain ⟨g, rfl, _, hg, hnc, hcm⟩ := hs.pos (by omega)
      have hjz : j < zs.length := by rw [HZ.out]; exact hlt
      have hcell := hs.cell (j := j) (by omega)
      rw [List.getElem?_map, List.getElem?_eq_getElem hjz] at hcell
      have htake : zs.take (j + 1) = zs.take j ++ [zs[j]] := List.take_succ_eq_append_getElem hjz
      have hfit := HF.out zs[j] (List.getElem_mem _)
      have HT := Lib.hid htake
      clear htake
      generalize zs[j] = z at *
      obtain ⟨a, b⟩ := z
      replace hcell : wr.cell? ⟨g, j, none⟩ = some (.complex .f32 a b) := hcell
      have hA := fun W => Lib.hid (hexOf_any a hfit.1 W)
      have hB := fun W => Lib.hid (hexOf_any b hfit.2 W)
      have s1 : (hexS (bitsB a)).size = 8 := hexS_size _
      have s2 : (hexS (bitsB b)).size = 8 := hexS_size _
      have HW := Lib.hid (show hexS (bitsB a) ++ hexS (bitsB b) = wordS (a, b) from bytes_add _ _)
      have hwz := hb.size
      go_wp2_with fail
      refine (hA _).out.mono ?_
      rintro e w2 ⟨rfl, rfl⟩
      go_wp2_with fail
      refine (hB _).out.mono ?_
      rintro e w2 ⟨rfl, rfl⟩
      go_wp2_with (at_builtin; refine wp_append_val wr (.string _) rfl rfl _ _ _ rfl 9 w.heap.size Tryd.underlying62 _ 16 infoSt rfl (by decide) _ _ _ _ rfl hown rfl (by omega) hwz ?_; intro g5 c5 w5 o5 u5 b5 hg5)
      go_roundg (n - (j + 1))
      case measure => rw [HR.out]; omega
      case rel =>
        refine ⟨j + 1, _, _, rfl, by omega, by go_num, rfl, ?_, hb.trans b5⟩
        rw [HT.out, List.map_append, List.map_append]
        rw [HW.out] at o5
        exact o5
    · obtain rfl : n = j := by omega
      have hfull : zs.take n = zs := List.take_of_length_le (by rw [HZ.out]; exact Nat.le_refl _)
      rw [hfull] at hown
      clear hfull
      have J := fun W2 => Lib.hid (joined_any W n wc w.heap.size zs W2)
      have HO := Lib.hid hown
      clear hown
      go_wp2_with fail
      refine ((J _).out HO.out (by omega) HZ.out).mono ?_
      rintro e w2 ⟨rfl, hb2⟩
      go_wp2_with fail
      go_ret2
      exact ⟨rfl, ext_trans hb hb2⟩
end Go.Proofs.YtnjipckpkcandaaDoor
