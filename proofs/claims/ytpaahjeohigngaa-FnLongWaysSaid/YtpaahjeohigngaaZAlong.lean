/- Flows let along a way by the reference: the walk. -/
import Derived.Test.YtpaahjeohigngaaZPush
namespace Go.Proofs.Ytpaahjeohigngaa
open Go.RowKit

theorem l00MinP_any (a b : Int) (w : World) : Calls Try.prog 47 #[.int .i64 a, .int .i64 b] w fun e w' => e = .returned (.int .i64 (min a b)) ∧ w = w' := by
  by_cases h : a < b
  · have hm : min a b = a := by omega
    have HM := Lib.hid hm
    clear hm
    go_enter Try.func47, Try.ntmps47
    go_wp2
    go_ret
    exact ⟨ret_int HM.out.symm, rfl⟩
  · have hm : min a b = b := by omega
    have HM := Lib.hid hm
    clear hm
    go_enter Try.func47, Try.ntmps47
    go_wp2
    go_ret
    exact ⟨ret_int HM.out.symm, rfl⟩

set_option maxRecDepth 100000 in
set_option maxHeartbeats 3200000 in
theorem l03Along_any (base base2 base3 : Nat) (A : Option Addr) (n c : Nat) (fl : List Int) (L : Option Addr) (lm lq : Nat) (gB cB N : Nat) (ls : List LinkR) (by_ : List Int) (F t : Nat) (ws : List LinkR) (most : Int) (w : World)
    (hfl : OwnI 2 base w A n c fl) (hn : n ≤ 48) (hl : OwnC 98 base2 6 w L lm lq (flatV LinkR.cellsS ls)) (hlm : ls.length = lm) (hlm2 : lm ≤ 96) (hby : OwnI 3 base3 w (some ⟨gB, 0, none⟩) N cB by_) (hN : N ≤ 16)
    (hsep : ∀ ad, A = some ad → ad.block ≠ gB) (hsep2 : ∀ ad bd, A = some ad → L = some bd → ad.block ≠ bd.block)
    (hF : F < N) (hp : Path ls by_ N F ws t) (hrm : ∀ l ∈ ws, 1 ≤ l.room ∧ l.room ≤ 1000000) (hm : 0 ≤ most) (hm2 : most ≤ 1000000000000000) (hok : PushOk n (amtOf ws most) ws fl) (ha : amtOf ws most ≤ 1000000) (ht : t < N) :
    Calls Try.prog 57 #[.slice A n c, .slice L lm lq, .slice (some ⟨gB, 0, none⟩) N cB, .int .i64 F, .int .i64 t, .int .i64 most] w fun e w' => e = .returned (.int .i64 (amtOf ws most)) ∧ OwnI 2 base w' A n c (pushAll ws (amtOf ws most) fl) ∧ Upd (blk A) w w' := by
  have HP := Lib.hid hp
  have HRM := Lib.hid hrm
  have HOK := Lib.hid hok
  have HLM := Lib.hid hlm
  have HSEP := Lib.hid hsep
  have HSEP2 := Lib.hid hsep2
  have ha0 : 0 ≤ amtOf ws most := amtOf_ge ws most hm fun l hl => by have := hrm l hl; omega
  clear hp hrm hok hlm hsep hsep2
  go_enter Try.func57, Try.ntmps57
  go_wp2_with fail
  go_loopg [5, 13] ws.length (fun r mv nv wr => ∃ (v : List LinkR) (at_ : Nat) (m : Int), r = v.length ∧ at_ < N ∧ nv = .int .i64 at_ ∧ mv = .int .i64 m ∧ m ≤ 1000000000000000 ∧ -1000 ≤ m ∧ wr = w ∧ Hid (Path ls by_ N F v at_ ∧ amtOf v m = amtOf ws most ∧ ∀ l ∈ v, 1 ≤ l.room ∧ l.room ≤ 1000000))
  case atStart => exact ⟨ws, t, most, rfl, ht, rfl, rfl, hm2, by omega, rfl, Lib.hid ⟨HP.out, rfl, HRM.out⟩⟩
  case round =>
    obtain ⟨v, at_, m, hr, hat, rfl, rfl, m1, m0, rfl, hv⟩ := hrel
    have HR := Lib.hid hr
    clear hr
    cases v with
    | cons l v =>
      have hv2 := hv.out
      rw [Path] at hv2
      obtain ⟨⟨p1, _, ⟨k, p3, p4, p5⟩, p6⟩, p7, p8⟩ := hv2
      rw [Int.toNat_natCast] at p3
      rw [HLM.out] at p4
      have cb := OwnI.cell hby hat
      rw [p3] at cb
      obtain ⟨gL, rfl, _, _, _, _⟩ := OwnC.pos hl (by omega)
      obtain ⟨c0, c1, c2, c3, c4, c5⟩ := left_cells hl p4
      rw [p5] at c0 c2
      have hrm := p8 l (by simp)
      have hfr : 0 ≤ l.fr ∧ l.fr < N := by
        cases v with
        | nil => rw [Path] at p6; omega
        | cons l2 v => rw [Path] at p6; exact p6.2.1
      have HP6 := Lib.hid p6
      have HP7 := Lib.hid p7
      have HP8 := Lib.hid (fun l' (hl' : l' ∈ v) => p8 l' (by simp [hl']))
      have hne : ((at_ : Int) != (F : Int)) = true := by rw [bne_iff_ne]; exact p1
      clear p1 p3 p5 p6 p7 p8 c1 c3 c4 c5
      obtain ⟨la, lb, lf, lt, lr, lc⟩ := l
      have hfr' : 0 ≤ lf := hfr.1
      have hfr2 : lf < N := hfr.2
      obtain ⟨f', rfl⟩ := Int.eq_ofNat_of_zero_le hfr'
      have hr1 : 1 ≤ lr := hrm.1
      have hr2 : lr ≤ 1000000 := hrm.2
      clear hfr hrm
      have HP9 := Lib.hid (show amtOf v (min m lr) = amtOf ws most from HP7.out)
      have hb1 : min m lr ≤ 1000000000000000 := by omega
      have hb2 : -1000 ≤ min m lr := by omega
      go_wp2_with fail
      refine (l00MinP_any _ _ _).mono ?_
      generalize min m lr = m2 at *
      rintro e w' ⟨rfl, rfl⟩
      go_wp2_with fail
      go_roundg v.length
      case measure => rw [HR.out]; simp
      case rel => exact ⟨v, f', m2, rfl, by omega, rfl, rfl, hb1, hb2, rfl, Lib.hid ⟨HP6.out, HP9.out, HP8.out⟩⟩
    | nil =>
      have e : (at_ : Int) = F := by have := hv.out.1; rwa [Path] at this
      have hx : m = amtOf ws most := hv.out.2.1
      subst hx
      have e2 : F = at_ := by omega
      subst e2
      clear e
      generalize hX : amtOf ws most = x at *
      have HX := Lib.hid hX
      clear hX
      go_wp2_with fail
      obtain ⟨wo, rfl⟩ : ∃ wo : World, wo = wr := ⟨_, rfl⟩
      clear hv
      go_loopg [14] ws.length (fun r nv wi => ∃ (v : List LinkR) (fl' : List Int) (at_ : Nat), r = v.length ∧ at_ < N ∧ nv = .int .i64 at_ ∧ OwnI 2 base wi A n c fl' ∧ Upd (blk A) wo wi ∧ Hid (Path ls by_ N F v at_ ∧ PushOk n x v fl' ∧ pushAll v x fl' = pushAll ws x fl))
      case atStart => exact ⟨ws, fl, t, rfl, ht, rfl, hfl, Upd.refl _ _, Lib.hid ⟨HP.out, HOK.out, rfl⟩⟩
      case round =>
        obtain ⟨v, fl', at_, hr, hat, rfl, o, hu, hv⟩ := hrel
        have HR := Lib.hid hr
        clear hr
        cases v with
        | cons l v =>
          have hv2 := hv.out
          rw [Path, PushOk, pushAll] at hv2
          obtain ⟨⟨p1, _, ⟨k, p3, p4, p5⟩, p6⟩, ⟨q1, q2, q3⟩, p7⟩ := hv2
          rw [Int.toNat_natCast] at p3
          rw [HLM.out] at p4
          have hl2 := OwnC.upd hl hu (fun ad h1 h2 => by
            obtain ⟨bd, h3, h4⟩ := h2
            exact HSEP2.out bd ad h3 h1 h4)
          have hby2 := OwnI.upd hby hu (fun ad h1 h2 => by
            injection h1 with h1
            subst h1
            obtain ⟨bd, h3, h4⟩ := h2
            exact HSEP.out bd h3 h4)
          have cb := OwnI.cell hby2 hat
          rw [p3] at cb
          obtain ⟨gL, rfl, _, _, _, _⟩ := OwnC.pos hl2 (by omega)
          obtain ⟨c0, c1, c2, c3, c4, c5⟩ := left_cells hl2 p4
          rw [p5] at c0 c4 c5
          have hfr : 0 ≤ l.fr ∧ l.fr < N := by
            cases v with
            | nil => rw [Path] at p6; omega
            | cons l2 v => rw [Path] at p6; exact p6.2.1
          have HP6 := Lib.hid p6
          have hne : ((at_ : Int) != (F : Int)) = true := by rw [bne_iff_ne]; exact p1
          obtain ⟨gA, rfl, hgA, _, _, _⟩ := OwnI.pos o (show 0 < n by omega)
          have hsep := HSEP.out ⟨gA, 0, none⟩ rfl
          have hsep2 := HSEP2.out ⟨gA, 0, none⟩ ⟨gL, 0, none⟩ rfl rfl
          have hsep' : gA ≠ gB := hsep
          have hsep2' : gA ≠ gL := hsep2
          have cf := OwnI.cell o q1
          have ff := OwnI.free o l.arc
          have o2 := OwnI.set o l.arc (fl'.getD l.arc 0 + l.by_ * x)
          have hu2 := Upd.setCell hu (p := ⟨gA, l.arc, none⟩) (.inl ⟨_, rfl, rfl⟩) (.int .i64 (fl'.getD l.arc 0 + l.by_ * x))
          have hl3 := OwnC.far hl2 (p := ⟨gA, l.arc, none⟩) (fun ad ha => by injection ha with ha; subst ha; exact fun e => hsep2' e.symm) (.int .i64 (fl'.getD l.arc 0 + l.by_ * x))
          have hb3 := OwnI.far hby2 (p := ⟨gA, l.arc, none⟩) (fun ad ha => by injection ha with ha; subst ha; exact fun e => hsep' e.symm) (.int .i64 (fl'.getD l.arc 0 + l.by_ * x))
          have d0 := (left_cells hl3 p4).1
          rw [p5] at d0
          have db := OwnI.cell hb3 hat
          rw [p3] at db
          have HQ3 := Lib.hid (show PushOk n x v (fl'.set l.arc (fl'.getD l.arc 0 + l.by_ * x)) from q3)
          have HP7 := Lib.hid (show pushAll v x (fl'.set l.arc (fl'.getD l.arc 0 + l.by_ * x)) = pushAll ws x fl from p7)
          clear p1 p3 p5 p6 p7 q3 hl2 hl3 o hby2 hb3 c1 c2 c3 hsep hsep2
          cases hlb : l.back
          · have hby1 : l.by_ * x = x := by unfold LinkR.by_; rw [hlb]; simp
            rw [hby1] at o2 hu2 HQ3 HP7 d0 db
            rw [hlb] at c5
            generalize fl'.getD l.arc 0 = y at *
            generalize hlf : l.fr = lf at *
            generalize l.arc = la at *
            have hfr' : 0 ≤ lf := hfr.1
            obtain ⟨f', rfl⟩ := Int.eq_ofNat_of_zero_le hfr'
            have hfr2 : f' < N := by have := hfr.2; omega
            have v5 : (la : Int) < (n : Int) := by omega
            clear hlf hfr hlb hby1
            go_wp2_with fail
            go_roundg v.length
            case measure => rw [HR.out]; simp
            case rel => exact ⟨v, _, f', rfl, by omega, rfl, o2, hu2, Lib.hid ⟨HP6.out, HQ3.out, HP7.out⟩⟩
          · have hby1 : l.by_ * x = -x := by unfold LinkR.by_; rw [hlb]; simp
            have hby2 : fl'.getD l.arc 0 + l.by_ * x = fl'.getD l.arc 0 - x := by rw [hby1]; omega
            rw [hby2] at o2 hu2 HQ3 HP7 d0 db
            rw [hlb] at c5
            generalize fl'.getD l.arc 0 = y at *
            generalize hlf : l.fr = lf at *
            generalize l.arc = la at *
            have hfr' : 0 ≤ lf := hfr.1
            obtain ⟨f', rfl⟩ := Int.eq_ofNat_of_zero_le hfr'
            have hfr2 : f' < N := by have := hfr.2; omega
            have v5 : (la : Int) < (n : Int) := by omega
            clear hlf hfr hlb hby1 hby2
            go_wp2_with fail
            go_roundg v.length
            case measure => rw [HR.out]; simp
            case rel => exact ⟨v, _, f', rfl, by omega, rfl, o2, hu2, Lib.hid ⟨HP6.out, HQ3.out, HP7.out⟩⟩
        | nil =>
          have e : (at_ : Int) = F := by have := hv.out.1; rwa [Path] at this
          have hx := Lib.hid (show fl' = pushAll ws x fl from hv.out.2.2)
          have e2 : F = at_ := by omega
          subst e2
          clear e hv
          go_wp2_with fail
          go_ret
          exact ⟨ret_int HX.out.symm, by rw [HX.out, ← hx.out]; exact o, hu⟩
end Go.Proofs.Ytpaahjeohigngaa
