/- Two lists of complex numbers with the same canonical bits are the same. -/
import Derived.Test.YtnjipckpkcandaaDoorText2
namespace Go.Proofs.YtnjipckpkcandaaDoor
open Go.RowKit
theorem specSameC_q (p q : Nat × Nat) (b1 : p.1 < 4294967296) (b2 : p.2 < 4294967296) (b3 : q.1 < 4294967296) (b4 : q.2 < 4294967296) (h1 : bitsB p.1 = bitsB q.1) (h2 : bitsB p.2 = bitsB q.2) (w : World) (m : Nat) :
    Calls Tryd.prog 49 #[.complex .f32 p.1 p.2, .complex .f32 q.1 q.2] (w.drewN m) fun e w'' => e = .returned (.bool true) ∧ ∃ m, w'' = w.drewN m :=
  (specSameC_any p q b1 b2 b3 b4 h1 h2 _).mono fun _ _ ⟨h, h2⟩ => ⟨h, m, h2.symm⟩
set_option maxHeartbeats 1000000 in
theorem b10Same_any (A B : Option Addr) (n c d ba bb : Nat) (zs : List (Nat × Nat)) (w : World) (hx : OwnC 24 ba 1 w A n c ((zs.map canon).map cplx)) (hy : OwnC 24 bb 1 w B n d (zs.map cplx)) (hf : Fit32 zs) (hn : n ≤ 200) :
    Calls Tryd.prog 22 #[.slice A n c, .slice B n d] w fun e w' => e = .returned (.bool true) ∧ Drew w w' := by
  have hz : zs.length = n := by have := OwnC.len hy; rw [List.length_map] at this; omega
  have HZ := Lib.hid hz
  have HF := Lib.hid hf
  clear hz hf
  go_enter Tryd.func22, Tryd.ntmps22
  go_wp2_with fail
  go_loopg [5, 13] n (fun r _ iv wi => ∃ k : Nat, r = n - k ∧ k ≤ n ∧ iv = .int .i64 k ∧ Drew w wi)
  case atStart => exact ⟨0, rfl, Nat.zero_le _, rfl, Drew.refl _⟩
  case round =>
    obtain ⟨k, hr, hk, rfl, q, rfl⟩ := hrel
    have HR := Lib.hid hr
    clear hr
    have hx2 := hx.drewN q
    have hy2 := hy.drewN q
    have hd2 : Drew w (w.drewN q) := ⟨q, rfl⟩
    generalize w.drewN q = W at *
    by_cases hlt : k < n
    · have hlt' : (k : Int) < (n : Int) := by omega
      obtain ⟨g, rfl, _, hg, _, _⟩ := hx2.pos (by omega)
      obtain ⟨f, rfl, _, hf2, _, _⟩ := hy2.pos (by omega)
      have hkz : k < zs.length := by rw [HZ.out]; exact hlt
      have c1 := hx2.cell (j := k) (by omega)
      have c2 := hy2.cell (j := k) (by omega)
      rw [List.getElem?_map, List.getElem?_map, List.getElem?_eq_getElem hkz] at c1
      rw [List.getElem?_map, List.getElem?_eq_getElem hkz] at c2
      have hfit := HF.out zs[k] (List.getElem_mem _)
      generalize zs[k] = z at *
      have SQ := Lib.hid (fun m => specSameC_q (canon z) z (bitsB_lt hfit.1) (bitsB_lt hfit.2) hfit.1 hfit.2 (bitsB_bitsB _) (bitsB_bitsB _) W m)
      replace c1 : W.cell? ⟨g, k, none⟩ = some (.complex .f32 (canon z).1 (canon z).2) := c1
      replace c2 : W.cell? ⟨f, k, none⟩ = some (.complex .f32 z.1 z.2) := c2
      generalize canon z = z2 at *
      obtain ⟨a, b⟩ := z
      obtain ⟨a2, b2⟩ := z2
      dsimp only at c1 c2
      clear hx2 hy2 hfit
      go_wp2_with fail
      go_quiet ((go_at_call 49; exact SQ.out _))
      go_wp2_with fail
      go_roundg (n - (k + 1))
      case measure => rw [HR.out]; omega
      case rel => exact ⟨k + 1, rfl, by omega, by go_num, hd2.step _⟩
    · go_wp2_with fail
      go_ret
      exact ⟨rfl, hd2⟩
end Go.Proofs.YtnjipckpkcandaaDoor
