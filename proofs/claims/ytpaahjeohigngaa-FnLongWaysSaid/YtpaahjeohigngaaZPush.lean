/- Flows let along a way: the walks. -/
import Derived.Test.YtpaahjeohigngaaJ4
import Derived.StillTailTactics
namespace Go.Proofs.Ytpaahjeohigngaa
open Go.RowKit

theorem by_bd (l : LinkR) {x : Int} (h0 : 0 ≤ x) (h1 : x ≤ 1000000) : -1000000 ≤ l.by_ * x ∧ l.by_ * x ≤ 1000000 := by
  unfold LinkR.by_
  split <;> omega
theorem last_link {T base g N : Nat} {w : World} {ls : List LinkR} {by_ : List Int} {l : LinkR} {at_ : Nat} {k : Nat} (h : OwnC T base 6 w (some ⟨g, 0, none⟩) N N (flatV (lastC ls) by_)) (hl : by_.length = N) (hv : at_ < N) (hk : by_.getD at_ 0 = k) (hkl : ls.getD k default = l) :
    w.cell? ⟨g, at_ * 6, none⟩ = some (.int .i64 l.arc) ∧ w.cell? ⟨g, at_ * 6 + 1, none⟩ = some (.int .i64 l.by_) ∧ w.cell? ⟨g, at_ * 6 + 2, none⟩ = some (.int .i64 l.fr) ∧ w.cell? ⟨g, at_ * 6 + 3, none⟩ = some (.int .i64 l.to_) ∧ w.cell? ⟨g, at_ * 6 + 4, none⟩ = some (.int .i64 l.room) := by
  have e : lastC ls (by_.getD at_ 0) = LinkR.cells l := by unfold lastC; rw [hk, if_neg (by omega), Int.toNat_natCast, hkl]
  have key : ∀ i, i < 6 → w.cell? ⟨g, at_ * 6 + i, none⟩ = (LinkR.cells l)[i]? := fun i hi => by
    rw [OwnC.cell h (by omega), flatV_get (lastC ls) 6 (lastC_len ls) 0 by_ at_ i (by omega) hi, e]
  exact ⟨key 0 (by omega), key 1 (by omega), key 2 (by omega), key 3 (by omega), key 4 (by omega)⟩

set_option maxRecDepth 100000 in
set_option maxHeartbeats 3200000 in
theorem push_any (base base2 : Nat) (A : Option Addr) (n c : Nat) (fl : List Int) (g1 N : Nat) (ls : List LinkR) (by_ : List Int) (F t : Nat) (ws : List LinkR) (most : Int) (w : World)
    (hfl : OwnI 2 base w A n c fl) (hn : n ≤ 48) (hl : OwnC 59 base2 6 w (some ⟨g1, 0, none⟩) N N (flatV (lastC ls) by_)) (hbl : by_.length = N) (hN : N ≤ 16) (hsep : ∀ ad, A = some ad → ad.block ≠ g1)
    (hF : F < N) (hp : Path ls by_ N F ws t) (hrm : ∀ l ∈ ws, 1 ≤ l.room ∧ l.room ≤ 1000000) (hm : 0 ≤ most) (hm2 : most ≤ 1000000000000000) (hok : PushOk n (amtOf ws most) ws fl) (ha : amtOf ws most ≤ 1000000) (ht : t < N) :
    Calls Try.prog 54 #[.slice A n c, .slice (some ⟨g1, 0, none⟩) N N, .int .i64 F, .int .i64 t, .int .i64 most] w fun e w' => e = .returned (.int .i64 (amtOf ws most)) ∧ OwnI 2 base w' A n c (pushAll ws (amtOf ws most) fl) ∧ Upd (blk A) w w' := by
  have HP := Lib.hid hp
  have HRM := Lib.hid hrm
  have HOK := Lib.hid hok
  have HBL := Lib.hid hbl
  have HSEP := Lib.hid hsep
  have ha0 : 0 ≤ amtOf ws most := amtOf_ge ws most hm fun l hl => by have := hrm l hl; omega
  clear hp hrm hok hbl hsep
  go_enter Try.func54, Try.ntmps54
  go_wp2_with fail
  go_loopg [4, 11] ws.length (fun r mv nv wr => ∃ (v : List LinkR) (at_ : Nat) (m : Int), r = v.length ∧ at_ < N ∧ nv = .int .i64 at_ ∧ mv = .int .i64 m ∧ m ≤ 1000000000000000 ∧ -1000 ≤ m ∧ wr = w ∧ Hid (Path ls by_ N F v at_ ∧ amtOf v m = amtOf ws most ∧ ∀ l ∈ v, 1 ≤ l.room ∧ l.room ≤ 1000000))
  case atStart => exact ⟨ws, t, most, rfl, ht, rfl, rfl, hm2, by omega, rfl, Lib.hid ⟨HP.out, rfl, HRM.out⟩⟩
  case round =>
    obtain ⟨v, at_, m, hr, hat, rfl, rfl, m1, m0, rfl, hv⟩ := hrel
    have HR := Lib.hid hr
    clear hr
    cases v with
    | cons l v =>
      have hv2 := hv.out
      rw [Path] at hv2
      obtain ⟨⟨p1, _, ⟨k, p3, p4, p5⟩, p6⟩, p7, p8⟩ := hv2
      rw [Int.toNat_natCast] at p3
      obtain ⟨c0, c1, c2, c3, c4⟩ := last_link hl HBL.out hat p3 p5
      have hrm := p8 l (by simp)
      have hfr : 0 ≤ l.fr ∧ l.fr < N := by
        cases v with
        | nil => rw [Path] at p6; omega
        | cons l2 v => rw [Path] at p6; exact p6.2.1
      have HP6 := Lib.hid p6
      have HP7 := Lib.hid p7
      have HP8 := Lib.hid (fun l' (hl' : l' ∈ v) => p8 l' (by simp [hl']))
      have hne : ((at_ : Int) != (F : Int)) = true := by rw [bne_iff_ne]; exact p1
      clear p1 p3 p4 p5 p6 p7 p8
      obtain ⟨la, lb, lf, lt, lr, lc⟩ := l
      have hfr' : 0 ≤ lf := hfr.1
      have hfr2 : lf < N := hfr.2
      obtain ⟨f', rfl⟩ := Int.eq_ofNat_of_zero_le hfr'
      have hr1 : 1 ≤ lr := hrm.1
      have hr2 : lr ≤ 1000000 := hrm.2
      clear hfr hrm
      by_cases hmin : lr < m
      · have hmm : min m lr = lr := by omega
        have HP9 := Lib.hid (show amtOf v lr = amtOf ws most by rw [← HP7.out, amtOf]; show _ = amtOf v (min m lr); rw [hmm])
        go_wp2_with fail
        go_roundg v.length
        case measure => rw [HR.out]; simp
        case rel => exact ⟨v, f', lr, rfl, by omega, rfl, rfl, by omega, by omega, rfl, Lib.hid ⟨HP6.out, HP9.out, HP8.out⟩⟩
      · have hmm : min m lr = m := by omega
        have HP9 := Lib.hid (show amtOf v m = amtOf ws most by rw [← HP7.out, amtOf]; show _ = amtOf v (min m lr); rw [hmm])
        go_wp2_with fail
        go_roundg v.length
        case measure => rw [HR.out]; simp
        case rel => exact ⟨v, f', m, rfl, by omega, rfl, rfl, by omega, by omega, rfl, Lib.hid ⟨HP6.out, HP9.out, HP8.out⟩⟩
    | nil =>
      have e : (at_ : Int) = F := by have := hv.out.1; rwa [Path] at this
      have hx : m = amtOf ws most := hv.out.2.1
      subst hx
      have e2 : F = at_ := by omega
      subst e2
      clear e
      generalize hX : amtOf ws most = x at *
      have HX := Lib.hid hX
      clear hX
      go_wp2_with fail
      obtain ⟨wo, rfl⟩ : ∃ wo : World, wo = wr := ⟨_, rfl⟩
      clear hv
      go_loopg [12] ws.length (fun r nv wi => ∃ (v : List LinkR) (fl' : List Int) (at_ : Nat), r = v.length ∧ at_ < N ∧ nv = .int .i64 at_ ∧ OwnI 2 base wi A n c fl' ∧ Upd (blk A) wo wi ∧ Hid (Path ls by_ N F v at_ ∧ PushOk n x v fl' ∧ pushAll v x fl' = pushAll ws x fl))
      case atStart => exact ⟨ws, fl, t, rfl, ht, rfl, hfl, Upd.refl _ _, Lib.hid ⟨HP.out, HOK.out, rfl⟩⟩
      case round =>
        obtain ⟨v, fl', at_, hr, hat, rfl, o, hu, hv⟩ := hrel
        have HR := Lib.hid hr
        clear hr
        cases v with
        | cons l v =>
          have hv2 := hv.out
          rw [Path, PushOk, pushAll] at hv2
          obtain ⟨⟨p1, _, ⟨k, p3, p4, p5⟩, p6⟩, ⟨q1, q2, q3⟩, p7⟩ := hv2
          rw [Int.toNat_natCast] at p3
          have hl2 := OwnC.upd hl hu (fun ad h1 h2 => by
            injection h1 with h1
            subst h1
            obtain ⟨bd, h3, h4⟩ := h2
            exact HSEP.out bd h3 h4)
          obtain ⟨c0, c1, c2, c3, c4⟩ := last_link hl2 HBL.out hat p3 p5
          have hbd := by_bd l ha0 ha
          have hfr : 0 ≤ l.fr ∧ l.fr < N := by
            cases v with
            | nil => rw [Path] at p6; omega
            | cons l2 v => rw [Path] at p6; exact p6.2.1
          have HP6 := Lib.hid p6
          have HQ3 := Lib.hid q3
          have HP7 := Lib.hid p7
          have hne : ((at_ : Int) != (F : Int)) = true := by rw [bne_iff_ne]; exact p1
          obtain ⟨gA, rfl, hgA, _, _, _⟩ := OwnI.pos o (show 0 < n by omega)
          have hsep := HSEP.out ⟨gA, 0, none⟩ rfl
          have cf := OwnI.cell o q1
          have ff := OwnI.free o l.arc
          have o2 := OwnI.set (OwnI.drew o) l.arc (fl'.getD l.arc 0 + l.by_ * x)
          have HPO := Lib.hid (show fl'.set l.arc (fl'.getD l.arc 0 + l.by_ * x) = pushOne fl' l x from rfl)
          have hu2 := Upd.setCell (Upd.drew hu) (p := ⟨gA, l.arc, none⟩) (.inl ⟨_, rfl, rfl⟩) (.int .i64 (fl'.getD l.arc 0 + l.by_ * x))
          have hl3 := OwnC.far (OwnC.drew hl2) (p := ⟨gA, l.arc, none⟩) (fun ad ha => by injection ha with ha; subst ha; exact fun e => hsep e.symm) (.int .i64 (fl'.getD l.arc 0 + l.by_ * x))
          have d2 := (last_link hl3 HBL.out hat p3 p5).2.2.1
          clear p1 p3 p4 p5 p6 p7 q3 hl2 hl3 o
          generalize fl'.getD l.arc 0 = y at *
          generalize l.by_ = lby at *
          generalize hlf : l.fr = lf at *
          generalize l.arc = la at *
          have hfr' : 0 ≤ lf := hfr.1
          obtain ⟨f', rfl⟩ := Int.eq_ofNat_of_zero_le hfr'
          have hfr2 : f' < N := by have := hfr.2; omega
          obtain ⟨b1, b2⟩ := hbd
          have v1 : IntKind.i64.wrap (lby * x) = lby * x := IntWalk.i64_in _ (by omega)
          have v2 : IntKind.i64.wrap (y + lby * x) = y + lby * x := IntWalk.i64_in _ (by omega)
          have v3 : (0 : Int) ≤ at_ := by omega
          have v4 : (at_ : Int) < (N : Int) := by omega
          have v5 : (la : Int) < (n : Int) := by omega
          have v6 : (0 : Int) ≤ la := by omega
          clear hlf hfr
          go_wp2_with fail
          refine wp_region_still_tail 17 (by kernel_rfl) (by kernel_rfl) ?_
          change wpStill _ _ wr.drew (fun a' => wpList _ _ _ _ a' wr.drew) _ _
          simp only [List.take_succ_cons, List.take_zero, List.drop_succ_cons, List.drop_zero]
          repeat still_step
          refine wpStill_nil ?_
          go_wp2_with fail
          go_roundg v.length
          case measure => rw [HR.out]; simp
          case rel => exact ⟨v, _, f', rfl, by omega, rfl, o2, hu2, Lib.hid ⟨HP6.out, by rw [HPO.out]; exact HQ3.out, by rw [HPO.out]; exact HP7.out⟩⟩
        | nil =>
          have e : (at_ : Int) = F := by have := hv.out.1; rwa [Path] at this
          have hx := Lib.hid (show fl' = pushAll ws x fl from hv.out.2.2)
          have e2 : F = at_ := by omega
          subst e2
          clear e hv
          go_wp2_with fail
          go_ret
          exact ⟨ret_int HX.out.symm, by rw [HX.out, ← hx.out]; exact o, hu⟩
end Go.Proofs.Ytpaahjeohigngaa
