/- The search for a right thing: the walks. -/
import Derived.Test.YtfoelpmglmaamaaMatchPlain
import Derived.Test.YtfoelpmglmaamaaAppend
namespace Go.Proofs.Ytfoelpmglmaamaa
open Go.RowKit

theorem boolsM_get {ks : List Bool} {v N : Nat} (hl : ks.length = N) (h : v < N) : (ks.map Value.bool)[v]? = some (.bool (ks.getD v false)) := by
  simp [List.getD, List.getElem?_eq_getElem (show v < ks.length by omega)]
theorem count_set {ks : List Bool} {y : Nat} (h : y < ks.length) (hk : ks.getD y false = false) : (ks.set y true).count false + 1 = ks.count false := by
  induction ks generalizing y with
  | nil => simp at h
  | cons k ks ih =>
    cases y with
    | zero =>
      simp [List.getD] at hk
      subst hk
      simp
    | succ y =>
      have := ih (y := y) (by simpa using h) (by simpa [List.getD] using hk)
      simp only [List.set_cons_succ, List.count_cons]
      omega
/-- what a state of the search keeps -/
structure SIn (l r : Nat) (s : MatS) : Prop where
  rl : s.R.length = r
  kl : s.K.length = r
  ll : s.L.length = l
  hr : ∀ y, y < r → s.R.getD y 0 < l
theorem SIn.look {l r y : Nat} {s : MatS} (h : SIn l r s) : SIn l r (s.look y) := ⟨h.rl, by unfold MatS.look; simp [h.kl], h.ll, h.hr⟩
theorem SIn.give {l r y : Nat} {x : Int} {s : MatS} (h : SIn l r s) (hx : x < l) (hy : y < r) : SIn l r (s.give x y) := by
  refine ⟨by unfold MatS.give; simp [h.rl], h.kl, by unfold MatS.give; simp [h.ll], fun z hz => ?_⟩
  show (s.R.set y x).getD z 0 < l
  rw [gI_set _ _ _ _ (by rw [h.rl]; exact hy)]
  split
  · exact hx
  · exact h.hr z hz
theorem look_count {l r y : Nat} {s : MatS} (h : SIn l r s) (hy : y < r) (hk : s.K.getD y false = false) : (s.look y).K.count false + 1 = s.K.count false := count_set (by rw [h.kl]; exact hy) hk
theorem loop_in {ps : List Int} {m l r : Nat} (hps : PairsOk ps m l r) {rec_ : Int → MatS → Bool × MatS}
    (hrec : ∀ (o : Int) (s : MatS), o < l → SIn l r s → SIn l r (rec_ o s).2 ∧ (rec_ o s).2.K.count false ≤ s.K.count false) (x : Int) (hx : x < l) :
    ∀ (c j : Nat) (s : MatS), j + c ≤ m → SIn l r s → SIn l r (findLoop rec_ ps x c j s).2 ∧ (findLoop rec_ ps x c j s).2.K.count false ≤ s.K.count false
  | 0, j, s, _, h => ⟨h, Nat.le_refl _⟩
  | c + 1, j, s, hj, h => by
    obtain ⟨⟨_, _⟩, b0, b1⟩ := hps j (by omega)
    have hy : pY ps j < r := by unfold pY; omega
    rw [findLoop]
    by_cases h1 : skipB ps x j s = true
    · rw [if_pos h1]
      exact loop_in hps hrec x hx c (j + 1) s (by omega) h
    · rw [if_neg h1]
      have hKy : s.K.getD (pY ps j) false = false := by
        unfold skipB at h1
        rw [Bool.or_eq_true] at h1
        cases hK : s.K.getD (pY ps j) false
        · rfl
        · exact absurd (.inr hK) h1
      have hc := look_count h hy hKy
      by_cases h2 : s.R.getD (pY ps j) 0 < 0
      · rw [if_pos h2]
        exact ⟨h.look.give hx hy, by show (s.look _).K.count false ≤ _; omega⟩
      · rw [if_neg h2]
        obtain ⟨r1, r2⟩ := hrec (s.R.getD (pY ps j) 0) (s.look (pY ps j)) (h.hr _ hy) h.look
        split
        · exact ⟨r1.give hx hy, by show (rec_ _ _).2.K.count false ≤ _; omega⟩
        · obtain ⟨i1, i2⟩ := loop_in hps hrec x hx c (j + 1) _ (by omega) r1
          exact ⟨i1, by omega⟩
theorem find_in {ps : List Int} {m l r : Nat} (hps : PairsOk ps m l r) : ∀ (f : Nat) (x : Int) (s : MatS), x < l → SIn l r s → SIn l r (findF ps m f x s).2 ∧ (findF ps m f x s).2.K.count false ≤ s.K.count false
  | 0, x, s, _, h => ⟨h, Nat.le_refl _⟩
  | f + 1, x, s, hx, h => loop_in hps (fun o t ho ht => find_in hps f o t ho ht) x hx m 0 s (by omega) h
theorem skip_b {ps : List Int} {x : Int} {j : Nat} {s : MatS} : skipB ps x j s = false ↔ pX ps j = x ∧ s.K.getD (pY ps j) false = false := by
  unfold skipB
  rw [Bool.or_eq_false_iff, decide_eq_false_iff_not, Decidable.not_not]
section steps
variable {rec_ : Int → MatS → Bool × MatS} {ps : List Int} {x : Int} {m j : Nat} {s : MatS}
theorem step_skip (hj : j < m) (h : skipB ps x j s = true) : findLoop rec_ ps x (m - j) j s = findLoop rec_ ps x (m - (j + 1)) (j + 1) s := by
  rw [show m - j = m - (j + 1) + 1 by omega, findLoop, if_pos h]
theorem step_free (hj : j < m) (h : skipB ps x j s = false) (h2 : s.R.getD (pY ps j) 0 < 0) : findLoop rec_ ps x (m - j) j s = (true, (s.look (pY ps j)).give x (pY ps j)) := by
  rw [show m - j = m - (j + 1) + 1 by omega, findLoop, if_neg (by rw [h]; decide), if_pos h2]
theorem step_yes (hj : j < m) (h : skipB ps x j s = false) (h2 : ¬ s.R.getD (pY ps j) 0 < 0) (h3 : (rec_ (s.R.getD (pY ps j) 0) (s.look (pY ps j))).1 = true) :
    findLoop rec_ ps x (m - j) j s = (true, (rec_ (s.R.getD (pY ps j) 0) (s.look (pY ps j))).2.give x (pY ps j)) := by
  rw [show m - j = m - (j + 1) + 1 by omega, findLoop, if_neg (by rw [h]; decide), if_neg h2, if_pos h3]
theorem step_no (hj : j < m) (h : skipB ps x j s = false) (h2 : ¬ s.R.getD (pY ps j) 0 < 0) (h3 : (rec_ (s.R.getD (pY ps j) 0) (s.look (pY ps j))).1 = false) :
    findLoop rec_ ps x (m - j) j s = findLoop rec_ ps x (m - (j + 1)) (j + 1) (rec_ (s.R.getD (pY ps j) 0) (s.look (pY ps j))).2 := by
  rw [show m - j = m - (j + 1) + 1 by omega, findLoop, if_neg (by rw [h]; decide), if_neg h2, if_neg (by rw [h3]; decide)]
end steps
def two (a b : Nat) (x : Nat) : Prop := x = a ∨ x = b

set_option maxRecDepth 100000 in
set_option maxHeartbeats 3200000 in
theorem finds_any (A : Option Addr) (n c m l r : Nat) (ps : List Int) (base base2 gR gK : Nat) (hn : n = 2 * m) (hm : m ≤ 48) (hps : PairsOk ps m l r) (hr : r ≤ 16) (hne : gR ≠ gK) (hsR : 0 < n → ∀ ad, A = some ad → ad.block ≠ gR) (hsK : 0 < n → ∀ ad, A = some ad → ad.block ≠ gK) :
    ∀ (f : Nat) (x : Int) (s : MatS) (w : World), x < l → SIn l r s → s.K.count false < f → IntsAt w A n ps → OwnI 2 base w (some ⟨gR, 0, none⟩) r r s.R → OwnC 4 base2 1 w (some ⟨gK, 0, none⟩) r r (s.K.map Value.bool) →
    Calls Try.prog 37 #[.slice A n c, .int .i64 x, .slice (some ⟨gR, 0, none⟩) r r, .slice (some ⟨gK, 0, none⟩) r r] w fun e w' => e = .returned (.bool (findF ps m f x s).1) ∧ OwnI 2 base w' (some ⟨gR, 0, none⟩) r r (findF ps m f x s).2.R ∧ OwnC 4 base2 1 w' (some ⟨gK, 0, none⟩) r r ((findF ps m f x s).2.K.map Value.bool) ∧ Upd (two gR gK) w w' := by
  have HSR := Lib.hid hsR
  have HSK := Lib.hid hsK
  have HPS := Lib.hid hps
  have HN := Lib.hid hn
  clear hsR hsK hps hn
  intro f
  induction f with
  | zero => intro x s w _ _ h; omega
  | succ f ih =>
    intro x s w hx hs hf hp oR oK
    have IH := Lib.hid ih
    have HS := Lib.hid hs
    have HXL := Lib.hid hx
    have HF := Lib.hid hf
    have HFL := Lib.hid (show findF ps m (f + 1) x s = findLoop (findF ps m f) ps x (m - 0) 0 s from rfl)
    clear ih hs hf hx
    go_enter Try.func37, Try.ntmps37
    go_wp2_with fail
    go_loopg [9] m (fun rr iv wi => ∃ (j i : Nat) (t : MatS), rr = m - j ∧ j ≤ m ∧ iv = .int .i64 i ∧ OwnI 2 base wi (some ⟨gR, 0, none⟩) r r t.R ∧ OwnC 4 base2 1 wi (some ⟨gK, 0, none⟩) r r (t.K.map Value.bool) ∧ Upd (two gR gK) w wi ∧ Hid (i = 2 * j ∧ SIn l r t ∧ t.K.count false ≤ s.K.count false ∧ findF ps m (f + 1) x s = findLoop (findF ps m f) ps x (m - j) j t))
    case atStart => exact ⟨0, 0, s, rfl, by omega, rfl, oR, oK, Upd.refl _ _, Lib.hid ⟨rfl, HS.out, Nat.le_refl _, HFL.out⟩⟩
    case round =>
      clear oR oK HFL HS
      obtain ⟨j, i, t, hr0, hj, rfl, oR, oK, hu, HH⟩ := hrel
      have HR := Lib.hid hr0
      clear hr0
      have hij : i = 2 * j := HH.out.1
      have hnm : n = 2 * m := HN.out
      have hn96 : n ≤ 96 := by omega
      by_cases hlt : j < m
      · have hin : i + 1 < n := by omega
        have hp2 := hp.upd hu (fun ad ha => by rintro (e | e); exact HSR.out (by omega) ad ha e; exact HSK.out (by omega) ad ha e)
        obtain ⟨ad, hA, had, c1⟩ := hp2.at_ (k := i) (by omega)
        subst hA
        obtain ⟨ad2, hA2, _, c2⟩ := hp2.at_ (k := i + 1) hin
        injection hA2 with hA2
        subst hA2
        have c3 : wr.cell? ⟨ad.block, ad.off + (i + 1), none⟩ = some (.int .i64 (ps.getD (i + 1) 0)) := c2
        clear c2
        obtain ⟨⟨a0, a1⟩, b0, b1⟩ := HPS.out j hlt
        rw [← hij] at a0 a1 b0 b1
        have HPX := Lib.hid (show pX ps j = ps.getD i 0 by unfold pX; rw [hij])
        have HPY := Lib.hid (show pY ps j = (ps.getD (i + 1) 0).toNat by unfold pY; rw [hij])
        obtain ⟨-, ht0, hct, hl0⟩ := HH.out
        have HT := Lib.hid ht0
        have HL := Lib.hid hl0
        clear ht0 hl0
        have HIJ := Lib.hid hij
        clear hij hnm HH
        generalize ps.getD i 0 = px at *
        generalize ps.getD (i + 1) 0 = py at *
        obtain ⟨y, rfl⟩ := Int.eq_ofNat_of_zero_le b0
        rw [Int.toNat_natCast] at HPY
        have hy : y < r := by omega
        have ck := OwnC.cell oK (j := y) (by omega)
        rw [boolsM_get HT.out.kl hy] at ck
        have cr := OwnI.cell oR hy
        have hro := HT.out.hr y hy
        have v1 : (i : Int) + 1 < (n : Int) := by omega
        have v2 : (y : Int) < (r : Int) := by omega
        have v3 : 0 ≤ (y : Int) := by omega
        have hgKr := (OwnC.lt oK rfl).2
        by_cases h1 : px = x
        · have HPX2 := Lib.hid (HPX.out.trans h1)
          clear HPX
          subst px
          have d1 : (x != x) = false := by simp
          cases hK : t.K.getD y false
          · rw [hK] at ck
            have HSB := Lib.hid (show skipB ps x j t = false from skip_b.2 ⟨HPX2.out, by rw [HPY.out]; exact hK⟩)
            have hcnt := look_count HT.out hy hK
            clear hK
            have fK := OwnC.free oK y
            have oK2 := OwnC.set oK y (.bool true)
            rw [← List.map_set] at oK2
            have oR2 := OwnI.far oR (p := ⟨gK, y, none⟩) (fun ad ha => by injection ha with ha; subst ha; exact hne) (.bool true)
            have hu2 := hu.setCell (p := ⟨gK, y, none⟩) (.inl (.inr rfl)) (.bool true)
            have cr2 := OwnI.cell oR2 hy
            have fR2 := OwnI.free oR2 y
            have hp3 := hp.upd hu2 (fun ad ha => by rintro (e | e); exact HSR.out (by omega) ad ha e; exact HSK.out (by omega) ad ha e)
            have HRO := Lib.hid (show t.R.getD y 0 = t.R.getD y 0 from rfl)
            have HST := Lib.hid (fun h2 => HL.out.trans (step_free hlt HSB.out (by rw [HPY.out]; exact h2)))
            have HSN := Lib.hid (fun h2 h3 => HL.out.trans (step_no hlt HSB.out (by rw [HPY.out]; exact h2) (by rw [HPY.out]; exact h3)))
            have HSY := Lib.hid (fun h2 h3 => HL.out.trans (step_yes hlt HSB.out (by rw [HPY.out]; exact h2) (by rw [HPY.out]; exact h3)))
            rw [HPY.out] at HST HSN HSY
            generalize ho : t.R.getD y 0 = o at *
            clear ho HRO
            by_cases h2 : o < 0
            · have HE := Lib.hid (HST.out h2)
              have oR3 := OwnI.set oR2 y x
              have oK3 := OwnC.far oK2 (p := ⟨gR, y, none⟩) (fun ad ha => by injection ha with ha; subst ha; exact fun e => hne e.symm) (.int .i64 x)
              have hu3 := hu2.setCell (p := ⟨gR, y, none⟩) (.inl (.inl rfl)) (.int .i64 x)
              clear hp hp2 hp3 oR oK hu oR2 oK2 hu2
              go_wp2_with fail
              go_ret
              rw [HE.out]
              exact ⟨rfl, oR3, oK3, hu3⟩
            · have HF2 := Lib.hid (show (t.look y).K.count false < f by have := HF.out; omega)
              have HOR := Lib.hid oR2
              have HOK := Lib.hid oK2
              have HU2 := Lib.hid hu2
              have HP3 := Lib.hid hp3
              clear hp2 hp3 oR oK hu oR2 oK2 hu2
              go_wp2_with fail
              refine (IH.out o (t.look y) _ hro HT.out.look HF2.out HP3.out HOR.out HOK.out).mono ?_
              rintro e w2 ⟨rfl, oR4, oK4, u4⟩
              have hu4 := HU2.out.trans u4
              have HFI := Lib.hid (find_in HPS.out f o (t.look y) hro HT.out.look)
              clear HOR HOK HU2 u4 HF2 cr2 fR2 ck cr fK
              cases hb : (findF ps m f o (t.look y)).1
              · have HE := Lib.hid (HSN.out h2 hb)
                have hcc := HFI.out.2
                clear hb
                generalize findF ps m f o (t.look y) = q at *
                go_wp2_with fail
                go_roundg (m - (j + 1))
                case measure => rw [HR.out]; omega
                case rel => exact ⟨j + 1, i + 2, q.2, rfl, by omega, by go_num, oR4, oK4, hu4, Lib.hid ⟨by rw [HIJ.out]; omega, HFI.out.1, by omega, HE.out⟩⟩
              · have HE := Lib.hid (HSY.out h2 hb)
                clear hb
                generalize findF ps m f o (t.look y) = q at *
                have fR4 := OwnI.free oR4 y
                have cr4 := OwnI.cell oR4 hy
                have oR5 := OwnI.set oR4 y x
                have oK5 := OwnC.far oK4 (p := ⟨gR, y, none⟩) (fun ad ha => by injection ha with ha; subst ha; exact fun e => hne e.symm) (.int .i64 x)
                have hu5 := hu4.setCell (p := ⟨gR, y, none⟩) (.inl (.inl rfl)) (.int .i64 x)
                clear oR4 oK4 hu4
                go_wp2_with fail
                go_ret
                rw [HE.out]
                exact ⟨rfl, oR5, oK5, hu5⟩
          · rw [hK] at ck
            have HE := Lib.hid (HL.out.trans (step_skip hlt (by unfold skipB; rw [HPY.out, hK]; simp)))
            clear hK
            go_wp2_with fail
            go_roundg (m - (j + 1))
            case measure => rw [HR.out]; omega
            case rel => exact ⟨j + 1, i + 2, t, rfl, by omega, by go_num, oR, oK, hu, Lib.hid ⟨by rw [HIJ.out]; omega, HT.out, hct, HE.out⟩⟩
        · have d1 : (px != x) = true := by simpa using h1
          have HE := Lib.hid (HL.out.trans (step_skip hlt (by unfold skipB; rw [HPX.out]; simp [h1])))
          clear h1
          go_wp2_with fail
          go_roundg (m - (j + 1))
          case measure => rw [HR.out]; omega
          case rel => exact ⟨j + 1, i + 2, t, rfl, by omega, by go_num, oR, oK, hu, Lib.hid ⟨by rw [HIJ.out]; omega, HT.out, hct, HE.out⟩⟩
      · have e : m = j := by omega
        subst e
        have HE := Lib.hid (show findF ps m (f + 1) x s = (false, t) from HH.out.2.2.2.trans (by rw [Nat.sub_self]; rfl))
        have hin : ¬ (i : Int) < (n : Int) := by omega
        clear hij hnm HH
        go_wp2_with fail
        go_ret
        rw [HE.out]
        exact ⟨rfl, oR, oK, hu⟩
def three3 (a b c : Nat) (x : Nat) : Prop := x = a ∨ x = b ∨ x = c
theorem give_L (s : MatS) (x y : Nat) : (s.give (x : Int) y).L = s.L.set x (y : Int) := rfl
set_option maxRecDepth 100000 in
set_option maxHeartbeats 3200000 in
theorem l03Find_any (A : Option Addr) (n c m l r : Nat) (ps : List Int) (base base2 gL cL gR cR gK : Nat) (hn : n = 2 * m) (hm : m ≤ 48) (hps : PairsOk ps m l r) (hr : r ≤ 16) (hne : gR ≠ gK) (hLR : gL ≠ gR) (hLK : gL ≠ gK) (hsR : 0 < n → ∀ ad, A = some ad → ad.block ≠ gR) (hsK : 0 < n → ∀ ad, A = some ad → ad.block ≠ gK) (hsL : 0 < n → ∀ ad, A = some ad → ad.block ≠ gL) :
    ∀ (f : Nat) (x : Nat) (s : MatS) (w : World), (x : Int) < l → SIn l r s → s.K.count false < f → IntsAt w A n ps → OwnI 2 base w (some ⟨gR, 0, none⟩) r cR s.R → OwnI 2 base w (some ⟨gL, 0, none⟩) l cL s.L → OwnC 4 base2 1 w (some ⟨gK, 0, none⟩) r r (s.K.map Value.bool) →
    Calls Try.prog 39 #[.int .i64 x, .slice A n c, .slice (some ⟨gL, 0, none⟩) l cL, .slice (some ⟨gR, 0, none⟩) r cR, .slice (some ⟨gK, 0, none⟩) r r] w fun e w' => e = .returned (.bool (findF ps m f x s).1) ∧ OwnI 2 base w' (some ⟨gR, 0, none⟩) r cR (findF ps m f x s).2.R ∧ OwnI 2 base w' (some ⟨gL, 0, none⟩) l cL (findF ps m f x s).2.L ∧ OwnC 4 base2 1 w' (some ⟨gK, 0, none⟩) r r ((findF ps m f x s).2.K.map Value.bool) ∧ Upd (three3 gL gR gK) w w' := by
  have HSR := Lib.hid hsR
  have HSK := Lib.hid hsK
  have HSL := Lib.hid hsL
  have HPS := Lib.hid hps
  have HN := Lib.hid hn
  clear hsR hsK hsL hps hn
  intro f
  induction f with
  | zero => intro x s w _ _ h; omega
  | succ f ih =>
    intro x s w hx hs hf hp oR oL oK
    have IH := Lib.hid ih
    have HS := Lib.hid hs
    have HXL := Lib.hid hx
    have HF := Lib.hid hf
    have HFL := Lib.hid (show findF ps m (f + 1) x s = findLoop (findF ps m f) ps x (m - 0) 0 s from rfl)
    clear ih hs hf hx
    go_enter Try.func39, Try.ntmps39
    go_wp2_with fail
    go_loopg [11] m (fun rr iv wi => ∃ (j i : Nat) (t : MatS), rr = m - j ∧ j ≤ m ∧ iv = .int .i64 i ∧ OwnI 2 base wi (some ⟨gR, 0, none⟩) r cR t.R ∧ OwnI 2 base wi (some ⟨gL, 0, none⟩) l cL t.L ∧ OwnC 4 base2 1 wi (some ⟨gK, 0, none⟩) r r (t.K.map Value.bool) ∧ Upd (three3 gL gR gK) w wi ∧ Hid (i = 2 * j ∧ SIn l r t ∧ t.K.count false ≤ s.K.count false ∧ findF ps m (f + 1) x s = findLoop (findF ps m f) ps x (m - j) j t))
    case atStart => exact ⟨0, 0, s, rfl, by omega, rfl, oR, oL, oK, Upd.refl _ _, Lib.hid ⟨rfl, HS.out, Nat.le_refl _, HFL.out⟩⟩
    case round =>
      clear oR oL oK HFL HS
      obtain ⟨j, i, t, hr0, hj, rfl, oR, oL, oK, hu, HH⟩ := hrel
      have HR := Lib.hid hr0
      clear hr0
      have hij : i = 2 * j := HH.out.1
      have hnm : n = 2 * m := HN.out
      have hn96 : n ≤ 96 := by omega
      by_cases hlt : j < m
      · have hin : i + 1 < n := by omega
        have hp2 := hp.upd hu (fun ad ha => by rintro (e | e | e); exact HSL.out (by omega) ad ha e; exact HSR.out (by omega) ad ha e; exact HSK.out (by omega) ad ha e)
        obtain ⟨ad, hA, had, c1⟩ := hp2.at_ (k := i) (by omega)
        subst hA
        obtain ⟨ad2, hA2, _, c2⟩ := hp2.at_ (k := i + 1) hin
        injection hA2 with hA2
        subst hA2
        have c3 : wr.cell? ⟨ad.block, ad.off + (i + 1), none⟩ = some (.int .i64 (ps.getD (i + 1) 0)) := c2
        clear c2
        obtain ⟨⟨a0, a1⟩, b0, b1⟩ := HPS.out j hlt
        rw [← hij] at a0 a1 b0 b1
        have HPX := Lib.hid (show pX ps j = ps.getD i 0 by unfold pX; rw [hij])
        have HPY := Lib.hid (show pY ps j = (ps.getD (i + 1) 0).toNat by unfold pY; rw [hij])
        obtain ⟨-, ht0, hct, hl0⟩ := HH.out
        have HT := Lib.hid ht0
        have HL := Lib.hid hl0
        clear ht0 hl0
        have HIJ := Lib.hid hij
        clear hij hnm HH
        generalize ps.getD i 0 = px at *
        generalize ps.getD (i + 1) 0 = py at *
        obtain ⟨y, rfl⟩ := Int.eq_ofNat_of_zero_le b0
        rw [Int.toNat_natCast] at HPY
        have hy : y < r := by omega
        have ck := OwnC.cell oK (j := y) (by omega)
        rw [boolsM_get HT.out.kl hy] at ck
        have cr := OwnI.cell oR hy
        have hro := HT.out.hr y hy
        have v1 : (i : Int) + 1 < (n : Int) := by omega
        have v2 : (y : Int) < (r : Int) := by omega
        have v3 : 0 ≤ (y : Int) := by omega
        have hgKr := (OwnC.lt oK rfl).2
        have hxN : x < l := by have := HXL.out; omega
        have v4 : (x : Int) < (l : Int) := by omega
        have v5 : 0 ≤ (x : Int) := by omega
        by_cases h1 : px = (x : Int)
        · have HPX2 := Lib.hid (HPX.out.trans h1)
          clear HPX
          subst h1
          have d1 : ((x : Int) != (x : Int)) = false := by simp
          cases hK : t.K.getD y false
          · rw [hK] at ck
            have HSB := Lib.hid (show skipB ps (x : Int) j t = false from skip_b.2 ⟨HPX2.out, by rw [HPY.out]; exact hK⟩)
            have hcnt := look_count HT.out hy hK
            clear hK
            have fK := OwnC.free oK y
            have oK2 := OwnC.set oK y (.bool true)
            rw [← List.map_set] at oK2
            have oR2 := OwnI.far oR (p := ⟨gK, y, none⟩) (fun ad ha => by injection ha with ha; subst ha; exact hne) (.bool true)
            have hu2 := hu.setCell (p := ⟨gK, y, none⟩) (.inl (.inr (.inr rfl))) (.bool true)
            have oL2 := OwnI.far oL (p := ⟨gK, y, none⟩) (fun ad ha => by injection ha with ha; subst ha; exact hLK) (.bool true)
            have cr2 := OwnI.cell oR2 hy
            have fR2 := OwnI.free oR2 y
            have hp3 := hp.upd hu2 (fun ad ha => by rintro (e | e | e); exact HSL.out (by omega) ad ha e; exact HSR.out (by omega) ad ha e; exact HSK.out (by omega) ad ha e)
            have HRO := Lib.hid (show t.R.getD y 0 = t.R.getD y 0 from rfl)
            have HST := Lib.hid (fun h2 => HL.out.trans (step_free hlt HSB.out (by rw [HPY.out]; exact h2)))
            have HSN := Lib.hid (fun h2 h3 => HL.out.trans (step_no hlt HSB.out (by rw [HPY.out]; exact h2) (by rw [HPY.out]; exact h3)))
            have HSY := Lib.hid (fun h2 h3 => HL.out.trans (step_yes hlt HSB.out (by rw [HPY.out]; exact h2) (by rw [HPY.out]; exact h3)))
            rw [HPY.out] at HST HSN HSY
            generalize ho : t.R.getD y 0 = o at *
            clear ho HRO
            by_cases h2 : o < 0
            · have HE := Lib.hid (HST.out h2)
              have oR3 := OwnI.set oR2 y (x : Int)
              have oL3 := OwnI.far oL2 (p := ⟨gR, y, none⟩) (fun ad ha => by injection ha with ha; subst ha; exact hLR) (.int .i64 x)
              have cL3 := OwnI.cell oL3 hxN
              have fL3 := OwnI.free oL3 x
              have oL5 := OwnI.set oL3 x (y : Int)
              have oR5 := OwnI.far oR3 (p := ⟨gL, x, none⟩) (fun ad ha => by injection ha with ha; subst ha; exact fun e => hLR e.symm) (.int .i64 y)
              have oK3 := OwnC.far oK2 (p := ⟨gR, y, none⟩) (fun ad ha => by injection ha with ha; subst ha; exact fun e => hne e.symm) (.int .i64 x)
              have oK5 := OwnC.far oK3 (p := ⟨gL, x, none⟩) (fun ad ha => by injection ha with ha; subst ha; exact fun e => hLK e.symm) (.int .i64 y)
              have hu3 := (hu2.setCell (p := ⟨gR, y, none⟩) (.inl (.inr (.inl rfl))) (.int .i64 x)).setCell (p := ⟨gL, x, none⟩) (.inl (.inl rfl)) (.int .i64 y)
              clear hp hp2 hp3 oR oK oL hu oR2 oK2 oL2 hu2 oR3 oL3 oK3
              go_wp2_with fail
              go_ret
              rw [HE.out]
              exact ⟨rfl, oR5, by rw [give_L]; exact oL5, oK5, hu3⟩
            · have HF2 := Lib.hid (show (t.look y).K.count false < f by have := HF.out; omega)
              have HOR := Lib.hid oR2
              have HOK := Lib.hid oK2
              have HOL := Lib.hid oL2
              have HU2 := Lib.hid hu2
              have HP3 := Lib.hid hp3
              clear hp2 hp3 oR oK oL hu oR2 oK2 oL2 hu2
              obtain ⟨o, rfl⟩ := Int.eq_ofNat_of_zero_le (show 0 ≤ o by omega)
              go_wp2_with fail
              refine (IH.out o (t.look y) _ hro HT.out.look HF2.out HP3.out HOR.out HOL.out HOK.out).mono ?_
              rintro e w2 ⟨rfl, oR4, oL4, oK4, u4⟩
              have hu4 := HU2.out.trans u4
              have HFI := Lib.hid (find_in HPS.out f o (t.look y) hro HT.out.look)
              clear HOR HOK HOL HU2 u4 HF2 cr2 fR2 ck cr fK
              cases hb : (findF ps m f (o : Int) (t.look y)).1
              · have HE := Lib.hid (HSN.out h2 hb)
                have hcc := HFI.out.2
                clear hb
                generalize findF ps m f (o : Int) (t.look y) = q at *
                go_wp2_with fail
                go_roundg (m - (j + 1))
                case measure => rw [HR.out]; omega
                case rel => exact ⟨j + 1, i + 2, q.2, rfl, by omega, by go_num, oR4, oL4, oK4, hu4, Lib.hid ⟨by rw [HIJ.out]; omega, HFI.out.1, by omega, HE.out⟩⟩
              · have HE := Lib.hid (HSY.out h2 hb)
                clear hb
                generalize findF ps m f (o : Int) (t.look y) = q at *
                have fR4 := OwnI.free oR4 y
                have cr4 := OwnI.cell oR4 hy
                have oR3 := OwnI.set oR4 y (x : Int)
                have oL3 := OwnI.far oL4 (p := ⟨gR, y, none⟩) (fun ad ha => by injection ha with ha; subst ha; exact hLR) (.int .i64 x)
                have cL3 := OwnI.cell oL3 hxN
                have fL3 := OwnI.free oL3 x
                have oL5 := OwnI.set oL3 x (y : Int)
                have oR5 := OwnI.far oR3 (p := ⟨gL, x, none⟩) (fun ad ha => by injection ha with ha; subst ha; exact fun e => hLR e.symm) (.int .i64 y)
                have oK3 := OwnC.far oK4 (p := ⟨gR, y, none⟩) (fun ad ha => by injection ha with ha; subst ha; exact fun e => hne e.symm) (.int .i64 x)
                have oK5 := OwnC.far oK3 (p := ⟨gL, x, none⟩) (fun ad ha => by injection ha with ha; subst ha; exact fun e => hLK e.symm) (.int .i64 y)
                have hu5 := (hu4.setCell (p := ⟨gR, y, none⟩) (.inl (.inr (.inl rfl))) (.int .i64 x)).setCell (p := ⟨gL, x, none⟩) (.inl (.inl rfl)) (.int .i64 y)
                clear oR4 oK4 oL4 hu4 oR3 oL3 oK3
                go_wp2_with fail
                go_ret
                rw [HE.out]
                exact ⟨rfl, oR5, by rw [give_L]; exact oL5, oK5, hu5⟩
          · rw [hK] at ck
            have HE := Lib.hid (HL.out.trans (step_skip hlt (by unfold skipB; rw [HPY.out, hK]; simp)))
            clear hK
            go_wp2_with fail
            go_roundg (m - (j + 1))
            case measure => rw [HR.out]; omega
            case rel => exact ⟨j + 1, i + 2, t, rfl, by omega, by go_num, oR, oL, oK, hu, Lib.hid ⟨by rw [HIJ.out]; omega, HT.out, hct, HE.out⟩⟩
        · have d1 : (px != (x : Int)) = true := by simpa using h1
          have HE := Lib.hid (HL.out.trans (step_skip hlt (by unfold skipB; rw [HPX.out]; simp [h1])))
          clear h1
          go_wp2_with fail
          go_roundg (m - (j + 1))
          case measure => rw [HR.out]; omega
          case rel => exact ⟨j + 1, i + 2, t, rfl, by omega, by go_num, oR, oL, oK, hu, Lib.hid ⟨by rw [HIJ.out]; omega, HT.out, hct, HE.out⟩⟩
      · have e : m = j := by omega
        subst e
        have HE := Lib.hid (show findF ps m (f + 1) x s = (false, t) from HH.out.2.2.2.trans (by rw [Nat.sub_self]; rfl))
        have hin : ¬ (i : Int) < (n : Int) := by omega
        clear hij hnm HH
        go_wp2_with fail
        go_ret
        rw [HE.out]
        exact ⟨rfl, oR, oL, oK, hu⟩
end Go.Proofs.Ytfoelpmglmaamaa
