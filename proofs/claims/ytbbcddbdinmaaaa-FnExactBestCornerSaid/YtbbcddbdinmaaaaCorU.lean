/- The reference's plans. -/
import Derived.Test.YtbbcddbdinmaaaaCorT
namespace Go.Proofs.Ytbbcddbdinmaaaa
open Go.RowKit

theorem fin_getD {xs : List Nat} (h : allFin xs = true) {k : Nat} (hk : k < xs.length) : finO (absK .f32 (xs.getD k 0)) = true := by
  unfold allFin at h
  rw [List.all_eq_true] at h
  exact h _ (by simp [List.getD, List.getElem?_eq_getElem hk])
set_option maxRecDepth 100000 in
set_option maxHeartbeats 1000000 in
theorem specIsPlan_any (V : Nat) (ad : Addr) (n c : Nat) (ns : List Nat) (B : Option Addr) (m d : Nat) (bs : List Nat) (G : Option Addr) (p g : Nat) (gs : List Nat) (X : Option Addr) (cx : Nat) (xs : List Nat) (near : Nat) (w : World)
    (hN : FltsAt w (some ad) n ns) (hB : FltsAt w B m bs) (hG : FltsAt w G p gs) (hX : FltsAt w X V xs) (hn : n ≤ maxLen) (hm : m ≤ maxLen) (hp : p ≤ maxLen) (hrb : rowsB V ns bs gs = true) (hV : 1 ≤ V ∧ V ≤ 8) (hm8 : m ≤ 8) (hnV : n = V * m) (hc : n ≤ c ∧ c ≤ maxLen) (hnear : leastO (absK .f32 near) = true) :
    Calls Try.prog 74 #[.agg #[.int .i64 V, .slice (some ad) n c, .slice B m d, .slice G p g], .slice X V cx, .float .f32 near] w (RetV (.bool (planO V m ns bs xs near)) w) := by
  have hW : Below w.heap.size w (w.alloc (.cells #[.int .i64 V, .slice (some ad) n c, .slice B m d, .slice G p g] 43)) := (Below.refl _ _).alloc (Nat.le_refl _) _
  have KX := Lib.hid (Blk.new w 43 #[.int .i64 V, .slice (some ad) n c, .slice B m d, .slice G p g])
  have HLO := Lib.hid (fun (w : World) hN hB hG hX => specLeftOf_any V ad n c ns B m d bs G p g gs X cx xs w hN hB hG hX hn hm hp hrb hV hm8 hnV hc)
  have HNE := Lib.hid (fun (w : World) => l02Least_any near w)
  rw [hnear] at HNE
  have HNF := Lib.hid (least_fin hnear)
  have HLX := Lib.hid hX.len
  have HN := Lib.hid (hN.below hW)
  have HB := Lib.hid (hB.below hW)
  have HG := Lib.hid (hG.below hW)
  have HX := Lib.hid (hX.below hW)
  have HPL := Lib.hid (show planO V m ns bs xs near = (leftB V m ns bs xs && (xs.all (fun b => geO near (absK .f32 b)) && (leftL V m ns bs xs m).all (geO near))) from rfl)
  obtain ⟨o, ho⟩ : ∃ x, x = planO V m ns bs xs near := ⟨_, rfl⟩
  rw [← ho] at HPL
  rw [← ho]
  have hneg := fun (w : World) (b : Nat) => run_neg_f (P := Try.prog) w b
  clear hN hB hG hX hrb hnV hc ho hnear
  go_enter Try.func74, Try.ntmps74
  go_wp2_with fail
  generalize w.alloc (.cells #[.int .i64 V, .slice (some ad) n c, .slice B m d, .slice G p g] 43) = W at *
  have p0 := KX.out.cell 0
  have p1 := KX.out.cell 1
  have p2 := KX.out.cell 2
  have p3 := KX.out.cell 3
  go_wp2_with fail
  refine (HLO.out _ HN.out HB.out HG.out HX.out).mono ?_
  rintro e w1 ⟨A', n', c', zs, rfl, o1, hz, hn8, b1⟩
  have hW1 := below_ext hW hW.size b1
  have X1 := Lib.hid (HX.out.below b1)
  have O1 := Lib.hid o1.flts
  have HZ := Lib.hid hz
  clear p0 p1 p2 p3 b1 o1 hz HN HB HG HX KX
  cases hlb : leftB V m ns bs xs
  · have HF := Lib.hid (show o = false by rw [HPL.out, hlb]; rfl)
    go_wp2_with fail
    go_ret
    exact ⟨ret_bool HF.out.symm, hW1⟩
  · have HZE := Lib.hid (HZ.out hlb)
    have HP2 := Lib.hid (show o = (xs.all (fun b => geO near (absK .f32 b)) && zs.all (fun b => geO near (absK .f32 b))) by rw [HPL.out, hlb, Bool.true_and, allGe_map HZE.out])
    have HFX := Lib.hid (show allFin xs = true by unfold leftB at hlb; rw [Bool.and_eq_true] at hlb; exact hlb.1)
    have HFZ := Lib.hid (show allFin zs = true by unfold leftB at hlb; rw [Bool.and_eq_true] at hlb; rw [allFin_map HZE.out]; exact hlb.2)
    clear hlb
    have HLZ := Lib.hid O1.out.len
    go_wp2_with fail
    refine (HNE.out _).mono ?_
    rintro e w2 ⟨rfl, dr2⟩
    have X2 := Lib.hid (X1.out.below dr2.below)
    have O2 := Lib.hid (O1.out.below dr2.below)
    have hW2 := below_ext hW1 hW1.size dr2.below
    clear dr2 X1 O1 hW1
    go_wp2_with fail
    go_loop [9] (fun iv => ∃ k : Nat, k ≤ V ∧ iv = .int .i64 k ∧ Hid ((xs.take k).all (fun b => geO near (absK .f32 b)) = true)) (fun iv => V - (intOf iv).toNat)
    case atStart => exact ⟨0, Nat.zero_le _, rfl, Lib.hid (by simp)⟩
    case round =>
      obtain ⟨k, hk, rfl, hall⟩ := hrel
      by_cases hlt : k < V
      · have hlt' : (k : Int) < (V : Int) := by omega
        obtain ⟨xd, rfl, _, c1⟩ := X2.out.at_ hlt
        have HS := Lib.hid (all_take_succ (fun b => geO near (absK .f32 b)) xs k 0 (by rw [HLX.out]; exact hlt))
        have HF := Lib.hid (all_false_of (fun b => geO near (absK .f32 b)) xs k 0 (by rw [HLX.out]; exact hlt))
        have HG := Lib.hid (ge_iff (fin_getD HFX.out (by rw [HLX.out]; exact hlt)) HNF.out)
        generalize xs.getD k 0 = x at *
        cases hz : (FloatKind.f32.format.order x (Op.negFloat .f32 near) == some .gt || FloatKind.f32.format.order x (Op.negFloat .f32 near) == some .eq)
        · have HFF := Lib.hid (show o = false by rw [HP2.out, HF.out (by rw [HG.out, hz])]; rfl)
          go_wp2_with fail
          go_ret
          exact ⟨ret_bool HFF.out.symm, hW2⟩
        · go_wp2_with fail
          go_round
          case rel => exact ⟨k + 1, by omega, by go_num, Lib.hid (by rw [HS.out, hall.out, HG.out, hz]; rfl)⟩
          case measure => simp [intOf]; omega
      · have HAX := Lib.hid (show xs.all (fun b => geO near (absK .f32 b)) = true by have h9 := hall.out; rw [List.take_of_length_le (by rw [HLX.out]; omega)] at h9; exact h9)
        have HP3 := Lib.hid (show o = zs.all (fun b => geO near (absK .f32 b)) by rw [HP2.out, HAX.out, Bool.true_and])
        go_wp2_with fail
        go_loop [10] (fun iv => ∃ k : Nat, k ≤ n' ∧ iv = .int .i64 k ∧ Hid ((zs.take k).all (fun b => geO near (absK .f32 b)) = true)) (fun iv => n' - (intOf iv).toNat)
        case atStart => exact ⟨0, Nat.zero_le _, rfl, Lib.hid (by simp)⟩
        case round =>
          obtain ⟨j, hj, rfl, hall2⟩ := hrel
          by_cases hlt2 : j < n'
          · have hlt3 : (j : Int) < (n' : Int) := by omega
            obtain ⟨zd, rfl, _, c1⟩ := O2.out.at_ hlt2
            have HS := Lib.hid (all_take_succ (fun b => geO near (absK .f32 b)) zs j 0 (by rw [HLZ.out]; exact hlt2))
            have HF := Lib.hid (all_false_of (fun b => geO near (absK .f32 b)) zs j 0 (by rw [HLZ.out]; exact hlt2))
            have HG := Lib.hid (ge_iff (fin_getD HFZ.out (by rw [HLZ.out]; exact hlt2)) HNF.out)
            generalize zs.getD j 0 = x at *
            cases hz : (FloatKind.f32.format.order x (Op.negFloat .f32 near) == some .gt || FloatKind.f32.format.order x (Op.negFloat .f32 near) == some .eq)
            · have HFF := Lib.hid (show o = false by rw [HP3.out, HF.out (by rw [HG.out, hz])])
              go_wp2_with fail
              go_ret
              exact ⟨ret_bool HFF.out.symm, hW2⟩
            · go_wp2_with fail
              go_round
              case rel => exact ⟨j + 1, by omega, by go_num, Lib.hid (by rw [HS.out, hall2.out, HG.out, hz]; rfl)⟩
              case measure => simp [intOf]; omega
          · have HFF := Lib.hid (show o = true by rw [HP3.out]; have h9 := hall2.out; rw [List.take_of_length_le (by rw [HLZ.out]; omega)] at h9; exact h9)
            go_wp2_with fail
            go_ret
            exact ⟨ret_bool HFF.out.symm, hW2⟩
end Go.Proofs.Ytbbcddbdinmaaaa
