/- The program's gains and plans. -/
import Derived.Test.YtbbcddbdinmaaaaCorP
import Derived.Test.YtbbcddbdinmaaaaRowsF
import Derived.Test.YtbbcddbdinmaaaaTabZ
namespace Go.Proofs.Ytbbcddbdinmaaaa
open Go.RowKit

theorem isX_any (V : Nat) (A : Option Addr) (n c : Nat) (B : Option Addr) (m d : Nat) (G : Option Addr) (p g : Nat) (X : Option Addr) (cx : Nat) (xs : List Nat) (w : World) (hX : FltsAt w X V xs) (hV : V ≤ 8) :
    Calls Try.prog 98 #[.agg #[.int .i64 V, .slice A n c, .slice B m d, .slice G p g], .slice X V cx] w (RetV (.bool (allFin xs)) w) := by
  have hW : Below w.heap.size w (w.alloc (.cells #[.int .i64 V, .slice A n c, .slice B m d, .slice G p g] 43)) := (Below.refl _ _).alloc (Nat.le_refl _) _
  have KX := Lib.hid (Blk.new w 43 #[.int .i64 V, .slice A n c, .slice B m d, .slice G p g])
  have HX := Lib.hid (hX.below hW)
  clear hX
  have d1 : ((V : Int) == (V : Int)) = true := by simp
  go_enter Try.func98, Try.ntmps98
  go_wp2_with fail
  generalize w.alloc (.cells #[.int .i64 V, .slice A n c, .slice B m d, .slice G p g] 43) = W at *
  have p0 := KX.out.cell 0
  have QN := Lib.hid (fun q => quiet_drew (areFinite_any X V cx xs (W.drewN q) (HX.out.drewN q) (by unfold maxLen; omega)))
  go_quiet ((first | (go_at_call 82; exact size_qF _ _ _) | (go_at_call 84; exact QN.out _)))
  go_wp2_with fail
  go_ret
  exact ⟨rfl, below_drewN hW _⟩
set_option maxRecDepth 100000 in
set_option maxHeartbeats 1000000 in
theorem implGainOf_any (V : Nat) (A : Option Addr) (n c : Nat) (ns : List Nat) (B : Option Addr) (m d : Nat) (bs : List Nat) (G : Option Addr) (p g : Nat) (gs : List Nat) (X : Option Addr) (cx : Nat) (xs : List Nat) (w : World)
    (hN : FltsAt w A n ns) (hB : FltsAt w B m bs) (hG : FltsAt w G p gs) (hX : FltsAt w X V xs) (hn : n ≤ maxLen) (hm : m ≤ maxLen) (hp : p ≤ maxLen) (hrb : rowsB V ns bs gs = true) (hV : V ≤ 8) (hpV : p = V) :
    Calls Try.prog 78 #[.agg #[.int .i64 V, .slice A n c, .slice B m d, .slice G p g], .slice X V cx] w (RetV (.tuple #[.float .f32 ((gainO gs xs).getD 0), .bool (gainO gs xs).isSome]) w) := by
  have hW : Below w.heap.size w (w.alloc (.cells #[.int .i64 V, .slice A n c, .slice B m d, .slice G p g] 43)) := (Below.refl _ _).alloc (Nat.le_refl _) _
  have KX := Lib.hid (Blk.new w 43 #[.int .i64 V, .slice A n c, .slice B m d, .slice G p g])
  have HVR := Lib.hid (fun (w : World) hN hB hG => validRows_r V A n c ns B m d bs G p g gs w hN hB hG hn hm hp)
  rw [hrb] at HVR
  have HIX := Lib.hid (fun (w : World) hX => isX_any V A n c B m d G p g X cx xs w hX hV)
  have HDT := Lib.hid (fun (w : World) hG hX => dot_any G p g gs X V cx xs w hG hX (by omega) (by omega))
  have HFI := Lib.hid (fun b (w : World) => isFinite_any b w)
  have HN := Lib.hid (hN.below hW)
  have HB := Lib.hid (hB.below hW)
  have HG := Lib.hid (hG.below hW)
  have HX := Lib.hid (hX.below hW)
  obtain ⟨o, ho⟩ : ∃ o, o = gainO gs xs := ⟨_, rfl⟩
  have HO := Lib.hid ho
  rw [← ho]
  clear hN hB hG hX hrb hpV ho
  have HPV := Lib.hid hp
  go_enter Try.func78, Try.ntmps78
  go_wp2_with fail
  generalize w.alloc (.cells #[.int .i64 V, .slice A n c, .slice B m d, .slice G p g] 43) = W at *
  have p0 := KX.out.cell 0
  have p1 := KX.out.cell 1
  have p2 := KX.out.cell 2
  have p3 := KX.out.cell 3
  go_wp2_with fail
  refine (HVR.out _ HN.out HB.out HG.out).mono ?_
  rintro e w1 ⟨rfl, b1⟩
  have K1 := Lib.hid (KX.out.ext b1)
  have hW1 := below_ext hW hW.size b1
  have G1 := Lib.hid (HG.out.below b1)
  have X1 := Lib.hid (HX.out.below b1)
  clear p0 p1 p2 p3 b1 HN HB HG HX KX
  have p0 := K1.out.cell 0
  have p1 := K1.out.cell 1
  have p2 := K1.out.cell 2
  have p3 := K1.out.cell 3
  go_wp2_with fail
  refine (HIX.out _ X1.out).mono ?_
  cases hf : allFin xs
  · have HF := Lib.hid (show o = none by rw [HO.out]; exact gainO_no1 hf)
    rintro e w2 ⟨rfl, b2⟩
    have hW2 := below_ext hW1 hW1.size b2
    clear p0 p1 p2 p3
    go_wp2_with fail
    go_ret2
    rw [HF.out]
    exact ⟨rfl, hW2⟩
  · rintro e w2 ⟨rfl, b2⟩
    have hW2 := below_ext hW1 hW1.size b2
    have K2 := Lib.hid (K1.out.ext b2)
    have G2 := Lib.hid (G1.out.below b2)
    have X2 := Lib.hid (X1.out.below b2)
    clear p0 p1 p2 p3 b2 G1 X1 K1
    have p3 := K2.out.cell 3
    go_wp2_with fail
    refine (HDT.out _ G2.out X2.out).mono ?_
    rintro e w3 ⟨r, rfl, hr, dr⟩
    have hW3 := below_ext hW2 hW2.size dr.below
    have HR := Lib.hid hr
    clear hr dr p3
    go_wp2_with fail
    refine (HFI.out r _).mono ?_
    cases hz : finO (absK .f32 r)
    · have HF := Lib.hid (show o = none by rw [HO.out]; exact gainO_no2 (by rw [← HR.out]; exact hz))
      rintro e w4 ⟨rfl, dr4⟩
      have hW4 := below_ext hW3 hW3.size dr4.below
      go_wp2_with fail
      go_ret2
      rw [HF.out]
      exact ⟨rfl, hW4⟩
    · have HF := Lib.hid (show o = some r by rw [HO.out]; exact gainO_yes hf HR.out hz)
      rintro e w4 ⟨rfl, dr4⟩
      have hW4 := below_ext hW3 hW3.size dr4.below
      go_wp2_with fail
      go_ret2
      rw [HF.out]
      exact ⟨rfl, hW4⟩
set_option maxRecDepth 100000 in
set_option maxHeartbeats 1000000 in
theorem areAtLeast_any (A : Option Addr) (n c : Nat) (zs : List Nat) (near : Nat) (w : World) (hA : FltsAt w A n zs) (hn : n ≤ 1048576) :
    Calls Try.prog 101 #[.slice A n c, .float .f32 near] w fun e w' => e = .returned (.bool (zs.all (fun b => geO near (absK .f32 b)))) ∧ Drew w w' := by
  have HL := Lib.hid hA.len
  have HA := Lib.hid hA
  have hneg := fun (w : World) (b : Nat) => run_neg_f (P := Try.prog) w b
  clear hA
  go_enter Try.func101, Try.ntmps101
  go_wp2_with fail
  go_loopg [9] n (fun rr iv wi => ∃ k : Nat, rr = n - k ∧ k ≤ n ∧ iv = .int .i64 k ∧ Hid ((zs.take k).all (fun b => geO near (absK .f32 b)) = true) ∧ Drew w wi)
  case atStart => exact ⟨0, rfl, Nat.zero_le _, rfl, Lib.hid (by simp), Drew.refl _⟩
  case round =>
    obtain ⟨k, hr, hk, rfl, hall, hd⟩ := hrel
    have HRK := Lib.hid hr
    have HA1 := Lib.hid (HA.out.drewTo hd)
    have HD := Lib.hid hd
    clear hr hd
    by_cases hlt : k < n
    · have hlt' : (k : Int) < (n : Int) := by omega
      obtain ⟨ad, rfl, _, c1⟩ := HA1.out.at_ hlt
      have HS := Lib.hid (all_take_succ (fun b => geO near (absK .f32 b)) zs k 0 (by rw [HL.out]; exact hlt))
      have HF := Lib.hid (all_false_of (fun b => geO near (absK .f32 b)) zs k 0 (by rw [HL.out]; exact hlt))
      generalize zs.getD k 0 = x at *
      have HG := Lib.hid (show geO near (absK .f32 x) = !(FloatKind.f32.format.order x (Op.negFloat .f32 near) == some .lt) by unfold geO; rw [← ford_abs])
      cases hz : (FloatKind.f32.format.order x (Op.negFloat .f32 near) == some .lt)
      · go_wp2_with fail
        go_roundg (n - (k + 1))
        case measure => rw [HRK.out]; omega
        case rel => exact ⟨k + 1, rfl, by omega, by go_num, Lib.hid (by rw [HS.out, hall.out, HG.out, hz]; rfl), HD.out⟩
      · go_wp2_with fail
        go_ret
        exact ⟨ret_bool (HF.out (by rw [HG.out, hz]; rfl)).symm, HD.out⟩
    · go_wp2_with fail
      go_ret
      exact ⟨ret_bool (by have := hall.out; rw [List.take_of_length_le (by rw [HL.out]; omega)] at this; exact this.symm), HD.out⟩
end Go.Proofs.Ytbbcddbdinmaaaa
