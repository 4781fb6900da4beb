/- The reference's gains and plans. -/
import Derived.Test.YtbbcddbdinmaaaaCorP
import Derived.Test.YtbbcddbdinmaaaaRowsF
import Derived.StillTailTactics
namespace Go.Proofs.Ytbbcddbdinmaaaa
open Go.RowKit

theorem l02Fit_any (gr V : Nat) (A : Option Addr) (n c : Nat) (ns : List Nat) (B : Option Addr) (m d : Nat) (bs : List Nat) (G : Option Addr) (p g : Nat) (gs : List Nat) (X : Option Addr) (cx : Nat) (xs : List Nat) (w : World) (KX : Blk w gr 43 #[.int .i64 V, .slice A n c, .slice B m d, .slice G p g])
    (hN : FltsAt w A n ns) (hB : FltsAt w B m bs) (hG : FltsAt w G p gs) (hX : FltsAt w X V xs) (hn : n ≤ maxLen) (hm : m ≤ maxLen) (hp : p ≤ maxLen) (hrb : rowsB V ns bs gs = true) (hV : V ≤ 8) :
    Calls Try.prog 93 #[.pointer (some ⟨gr, 0, none⟩), .slice X V cx] w fun e w' => e = .returned (.bool (allFin xs)) ∧ Drew w w' := by
  have HIS := Lib.hid (l02Is_any gr V A n c ns B m d bs G p g gs w KX hN hB hG hn hm hp)
  rw [hrb] at HIS
  have HKX := Lib.hid KX
  have HX := Lib.hid hX
  have HFI := Lib.hid (fun (w : World) h => l02Finite_any X V cx xs w h (by unfold maxLen; omega))
  have d1 : ((V : Int) == (V : Int)) = true := by simp
  clear KX hN hB hG hX hrb
  go_enter Try.func93, Try.ntmps93
  go_wp2_with fail
  refine HIS.out.mono ?_
  rintro e w1 ⟨rfl, dr⟩
  have p0 := (HKX.out.ext dr.below).cell 0
  go_wp2_with fail
  refine (HFI.out _ (HX.out.drewTo dr)).mono ?_
  rintro e w2 ⟨rfl, dr2⟩
  go_wp2_with fail
  go_ret
  exact ⟨rfl, dr.trans dr2⟩
theorem l02Number_any (r : Nat) (w : World) :
    Calls Try.prog 94 #[.float .f32 r] w fun e w' => e = .returned (.tuple #[.float .f32 (if finO (absK .f32 r) = true then r else 0), .bool (finO (absK .f32 r))]) ∧ Drew w w' := by
  have HFI := Lib.hid (l01Finite_any r w)
  cases hf : finO (absK .f32 r)
  · rw [hf] at HFI
    go_enter Try.func94, Try.ntmps94
    go_wp2_with fail
    refine HFI.out.mono ?_
    rintro e w1 ⟨rfl, dr⟩
    go_wp2_with fail
    go_ret2
    exact ⟨rfl, dr⟩
  · rw [hf] at HFI
    go_enter Try.func94, Try.ntmps94
    go_wp2_with fail
    refine HFI.out.mono ?_
    rintro e w1 ⟨rfl, dr⟩
    go_wp2_with fail
    go_ret2
    exact ⟨rfl, dr⟩
set_option maxRecDepth 100000 in
set_option maxHeartbeats 1000000 in
theorem specGainOf_any (V : Nat) (A : Option Addr) (n c : Nat) (ns : List Nat) (B : Option Addr) (m d : Nat) (bs : List Nat) (G : Option Addr) (p g : Nat) (gs : List Nat) (X : Option Addr) (cx : Nat) (xs : List Nat) (w : World)
    (hN : FltsAt w A n ns) (hB : FltsAt w B m bs) (hG : FltsAt w G p gs) (hX : FltsAt w X V xs) (hn : n ≤ maxLen) (hm : m ≤ maxLen) (hp : p ≤ maxLen) (hrb : rowsB V ns bs gs = true) (hV : V ≤ 8) (hpV : p = V) :
    Calls Try.prog 73 #[.agg #[.int .i64 V, .slice A n c, .slice B m d, .slice G p g], .slice X V cx] w (RetV (.tuple #[.float .f32 ((gainO gs xs).getD 0), .bool (gainO gs xs).isSome]) w) := by
  have hW : Below w.heap.size w (w.alloc (.cells #[.int .i64 V, .slice A n c, .slice B m d, .slice G p g] 43)) := (Below.refl _ _).alloc (Nat.le_refl _) _
  have KX := Lib.hid (Blk.new w 43 #[.int .i64 V, .slice A n c, .slice B m d, .slice G p g])
  have HFT := Lib.hid (fun (w' : World) KX hN hB hG hX => l02Fit_any w.heap.size V A n c ns B m d bs G p g gs X cx xs w' KX hN hB hG hX hn hm hp hrb hV)
  have HDT := Lib.hid (fun (w : World) hG hX => l02Dot_any G p g gs X V cx xs w hG hX (by omega) (by omega))
  have HNU := Lib.hid (fun r (w : World) => l02Number_any r w)
  have HN := Lib.hid (hN.below hW)
  have HB := Lib.hid (hB.below hW)
  have HG := Lib.hid (hG.below hW)
  have HX := Lib.hid (hX.below hW)
  obtain ⟨o, ho⟩ : ∃ o, o = gainO gs xs := ⟨_, rfl⟩
  have HO := Lib.hid ho
  rw [← ho]
  clear hN hB hG hX hrb hpV ho
  go_enter Try.func73, Try.ntmps73
  go_wp2_with fail
  generalize w.alloc (.cells #[.int .i64 V, .slice A n c, .slice B m d, .slice G p g] 43) = W at *
  refine (HFT.out _ KX.out HN.out HB.out HG.out HX.out).mono ?_
  cases hf : allFin xs
  · have HF := Lib.hid (show o = none by rw [HO.out]; exact gainO_no1 hf)
    rintro e w2 ⟨rfl, dr⟩
    have hW2 := below_ext hW hW.size dr.below
    go_wp2_with fail
    go_ret2
    rw [HF.out]
    exact ⟨rfl, hW2⟩
  · rintro e w2 ⟨rfl, dr⟩
    have hW2 := below_ext hW hW.size dr.below
    have p3 := (KX.out.ext dr.below).cell 3
    have G2 := Lib.hid (HG.out.drewTo dr)
    have X2 := Lib.hid (HX.out.drewTo dr)
    go_wp2_with fail
    refine (HDT.out _ G2.out X2.out).mono ?_
    rintro e w3 ⟨r, rfl, hr, dr3⟩
    have hW3 := below_ext hW2 hW2.size dr3.below
    have HR := Lib.hid hr
    clear hr dr3 p3
    go_wp2_with fail
    refine (HNU.out r _).mono ?_
    cases hz : finO (absK .f32 r)
    · have HF := Lib.hid (show o = none by rw [HO.out]; exact gainO_no2 (by rw [← HR.out]; exact hz))
      rintro e w4 ⟨rfl, dr4⟩
      have hW4 := below_ext hW3 hW3.size dr4.below
      go_wp2_with fail
      go_ret2
      rw [HF.out]
      exact ⟨rfl, hW4⟩
    · have HF := Lib.hid (show o = some r by rw [HO.out]; exact gainO_yes hf HR.out hz)
      rintro e w4 ⟨rfl, dr4⟩
      have hW4 := below_ext hW3 hW3.size dr4.below
      go_wp2_with fail
      go_ret2
      rw [HF.out]
      exact ⟨rfl, hW4⟩
set_option maxRecDepth 100000 in
set_option maxHeartbeats 1000000 in
theorem l02Row_any (gr V m : Nat) (ad : Addr) (n c : Nat) (B : Option Addr) (mb d : Nat) (G : Option Addr) (p g : Nat) (i : Nat) (w : World) (KX : Blk w gr 43 #[.int .i64 V, .slice (some ad) n c, .slice B mb d, .slice G p g]) (hV : 1 ≤ V ∧ V ≤ 8) (hm : m ≤ 8) (hi : i < m) (hn : n = V * m) (hc : n ≤ c ∧ c ≤ maxLen) :
    Calls Try.prog 102 #[.pointer (some ⟨gr, 0, none⟩), .int .i64 i] w fun e w' => ∃ c', e = .returned (.slice (some (ad.add (i * V))) V c') ∧ Drew w w' := by
  have hle : i * V + V ≤ n := by
    rw [hn, Nat.mul_comm V m, ← Nat.succ_mul]
    exact Nat.mul_le_mul_right V hi
  have hn64 : n ≤ 64 := by rw [hn]; exact Nat.mul_le_mul hV.2 hm
  obtain ⟨hc1, hc2⟩ := hc
  have hc3 : c ≤ 9223372036854775807 := hc2
  obtain ⟨P, hP⟩ : ∃ P : Nat, i * V = P := ⟨_, rfl⟩
  obtain ⟨R, hR⟩ : ∃ R : Nat, P + V = R := ⟨_, rfl⟩
  have hm1 : (i : Int) * (V : Int) = (P : Int) := by rw [← hP]; push_cast; rfl
  have hm2 : ((i : Int) + 1) * (V : Int) = (R : Int) := by rw [Int.add_mul, hm1, Int.one_mul]; omega
  have hw1 : IntKind.i64.wrap (P : Int) = (P : Int) := IntWalk.i64_in _ (by omega)
  have hw2 : IntKind.i64.wrap (R : Int) = (R : Int) := IntWalk.i64_in _ (by omega)
  have hw3 : IntKind.i64.wrap ((i : Int) + 1) = (i : Int) + 1 := IntWalk.i64_in _ (by omega)
  rw [hP] at hle ⊢
  have hPR : P ≤ R := by omega
  have hPRs : P < R := by omega
  have hRc : R ≤ c := by omega
  have HRP := Lib.hid (show R - P = V by omega)
  have hPRi : (P : Int) ≤ (R : Int) := by omega
  have hRci : (R : Int) ≤ (c : Int) := by omega
  have hP0 : (0 : Int) ≤ (P : Int) := by omega
  have p0 := KX.cell 0
  have p1 := KX.cell 1
  clear hn hP hR hle KX
  go_enter Try.func102, Try.ntmps102
  go_wp2_with fail
  go_quiet (fail)
  all_goals first | (exfalso; omega) | skip
  go_wp2_with fail
  go_ret
  exact ⟨c - P, by show Ending.returned (Value.slice (some (ad.add P)) (R - P) (c - P)) = _; rw [HRP.out], (Drew.refl _).step _⟩
end Go.Proofs.Ytbbcddbdinmaaaa
