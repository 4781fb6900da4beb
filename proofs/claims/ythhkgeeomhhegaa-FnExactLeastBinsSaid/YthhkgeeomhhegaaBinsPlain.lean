/- The least number of bins, in plain lists: all ways to put things into bins; the least over all parts of a set. -/
import Derived.Test.YthhkgeeomhhegaaHalvesPlain
import Derived.Test.YthhkgeeomhhegaaMix
namespace Go.Proofs.Ythhkgeeomhhegaa
open Go.RowKit

/-- the sum of the sizes of the things below i in class c -/
def clsS (zs : List Int) (f : Nat → Nat) (c : Nat) : Nat → Int
  | 0 => 0
  | i + 1 => if f i = c then clsS zs f c i + zs.getD i 0 else clsS zs f c i
def Asg (zs : List Int) (room : Int) (k : Nat) (f : Nat → Nat) : Prop := (∀ i, i < zs.length → f i < k) ∧ ∀ c, c < k → clsS zs f c zs.length ≤ room
theorem clsS_congr {zs : List Int} {f g : Nat → Nat} {c : Nat} : ∀ i, (∀ j, j < i → f j = g j) → clsS zs f c i = clsS zs g c i
  | 0, _ => rfl
  | i + 1, h => by
    unfold clsS
    rw [clsS_congr i (fun j hj => h j (by omega)), h i (by omega)]
theorem clsS_zero {zs : List Int} {f : Nat → Nat} {c : Nat} : ∀ i, (∀ j, j < i → f j ≠ c) → clsS zs f c i = 0
  | 0, _ => rfl
  | i + 1, h => by
    unfold clsS
    rw [if_neg (h i (by omega))]
    exact clsS_zero i (fun j hj => h j (by omega))
theorem clsS_mono {zs : List Int} {f : Nat → Nat} {c : Nat} (hz : ∀ j, j < zs.length → 0 ≤ zs.getD j 0) : ∀ d i, i + d ≤ zs.length → clsS zs f c i ≤ clsS zs f c (i + d)
  | 0, _, _ => Int.le_refl _
  | d + 1, i, h => by
    have ih := clsS_mono (f := f) (c := c) hz d i (by omega)
    have h2 := hz (i + d) (by omega)
    rw [show i + (d + 1) = (i + d) + 1 from rfl, clsS]
    split <;> omega

/-- the program: the least over the first k bins -/
def fwTo (F : List Int → Int) (bs : List Int) (x init : Int) : Nat → Int
  | 0 => init
  | k + 1 => if x ≤ bs.getD k 0 then min (fwTo F bs x init k) (F (bs.set k (bs.getD k 0 - x))) else fwTo F bs x init k
/-- the program, with f things left -/
def fwF (zs : List Int) (room : Int) : Nat → List Int → Int
  | 0, bs => (bs.length : Int)
  | f + 1, bs => fwTo (fwF zs room f) bs (zs.getD (zs.length - (f + 1)) 0) (fwF zs room f (bs ++ [room - zs.getD (zs.length - (f + 1)) 0])) bs.length
theorem fwTo_init {F : List Int → Int} {bs : List Int} {x init : Int} : ∀ k, fwTo F bs x init k ≤ init
  | 0 => Int.le_refl _
  | k + 1 => by
    have := fwTo_init (F := F) (bs := bs) (x := x) (init := init) k
    unfold fwTo
    split <;> omega
theorem fwTo_at {F : List Int → Int} {bs : List Int} {x init : Int} : ∀ k j, j < k → x ≤ bs.getD j 0 → fwTo F bs x init k ≤ F (bs.set j (bs.getD j 0 - x))
  | 0, j, h, _ => by omega
  | k + 1, j, h, hx => by
    unfold fwTo
    by_cases e : j = k
    · subst e
      rw [if_pos hx]; omega
    · have := fwTo_at (F := F) (init := init) k j (by omega) hx
      split <;> omega
theorem fwTo_met {F : List Int → Int} {bs : List Int} {x init : Int} : ∀ k, fwTo F bs x init k = init ∨ ∃ j, j < k ∧ x ≤ bs.getD j 0 ∧ fwTo F bs x init k = F (bs.set j (bs.getD j 0 - x))
  | 0 => .inl rfl
  | k + 1 => by
    have ih := fwTo_met (F := F) (bs := bs) (x := x) (init := init) k
    unfold fwTo
    split
    · rename_i hx
      by_cases hle : fwTo F bs x init k ≤ F (bs.set k (bs.getD k 0 - x))
      · rw [Int.min_eq_left hle]
        rcases ih with h | ⟨j, h1, h2, h3⟩
        · exact .inl h
        · exact .inr ⟨j, by omega, h2, h3⟩
      · rw [Int.min_eq_right (by omega)]
        exact .inr ⟨k, by omega, hx, rfl⟩
    · rcases ih with h | ⟨j, h1, h2, h3⟩
      · exact .inl h
      · exact .inr ⟨j, by omega, h2, h3⟩
def StOk (zs : List Int) (room : Int) (bs : List Int) (g : Nat → Nat) (i : Nat) : Prop :=
  (∀ j, j < i → g j < bs.length) ∧ ∀ c, c < bs.length → bs.getD c 0 = room - clsS zs g c i ∧ 0 ≤ bs.getD c 0
def updN (g : Nat → Nat) (i c : Nat) : Nat → Nat := fun j => if j = i then c else g j
theorem updN_lt {g : Nat → Nat} {i c j : Nat} (h : j < i) : updN g i c j = g j := by unfold updN; rw [if_neg (by omega)]
theorem updN_at (g : Nat → Nat) (i c : Nat) : updN g i c i = c := by unfold updN; rw [if_pos rfl]
theorem clsS_upd (zs : List Int) (g : Nat → Nat) (i c d : Nat) : clsS zs (updN g i c) d (i + 1) = if c = d then clsS zs g d i + zs.getD i 0 else clsS zs g d i := by
  rw [clsS, updN_at, clsS_congr (f := updN g i c) (g := g) i (fun j hj => updN_lt hj)]
/-- what the program finds is a way to put the things into bins -/
theorem fw_sound {zs : List Int} {room : Int} (hf : ∀ j, j < zs.length → zs.getD j 0 ≤ room) : ∀ (f : Nat) (bs : List Int) (g : Nat → Nat), f ≤ zs.length → StOk zs room bs g (zs.length - f) → ∃ (k : Nat) (g' : Nat → Nat), fwF zs room f bs = (k : Int) ∧ Asg zs room k g'
  | 0, bs, g, _, h => by
    refine ⟨bs.length, g, rfl, h.1, fun c hc => ?_⟩
    have := h.2 c hc
    rw [Nat.sub_zero] at this
    omega
  | f + 1, bs, g, hn, h => by
    obtain ⟨i, hi⟩ : ∃ i, i = zs.length - (f + 1) := ⟨_, rfl⟩
    rw [← hi] at h
    have hi2 : zs.length - f = i + 1 := by omega
    have hx := hf i (by omega)
    unfold fwF
    rw [← hi]
    rcases fwTo_met (F := fwF zs room f) (bs := bs) (x := zs.getD i 0) (init := fwF zs room f (bs ++ [room - zs.getD i 0])) bs.length with e | ⟨j, h1, h2, e⟩
    · rw [e]
      refine fw_sound hf f _ (updN g i bs.length) (by omega) ?_
      rw [hi2]
      refine ⟨fun j hj => ?_, fun c hc => ?_⟩
      · rw [List.length_append, List.length_singleton]
        by_cases e2 : j = i
        · subst e2; rw [updN_at]; omega
        · rw [updN_lt (by omega)]; have := h.1 j (by omega); omega
      · rw [List.length_append, List.length_singleton] at hc
        rw [clsS_upd]
        by_cases e2 : c < bs.length
        · rw [if_neg (by omega), show (bs ++ [room - zs.getD i 0]).getD c 0 = bs.getD c 0 by simp only [List.getD]; rw [List.getElem?_append_left e2]]
          exact h.2 c e2
        · have e3 : c = bs.length := by omega
          subst e3
          rw [if_pos rfl, clsS_zero i (fun j hj => by have := h.1 j hj; omega), show (bs ++ [room - zs.getD i 0]).getD bs.length 0 = room - zs.getD i 0 by simp [List.getD]]
          omega
    · rw [e]
      refine fw_sound hf f _ (updN g i j) (by omega) ?_
      rw [hi2]
      refine ⟨fun j2 hj => ?_, fun c hc => ?_⟩
      · rw [List.length_set]
        by_cases e2 : j2 = i
        · subst e2; rw [updN_at]; exact h1
        · rw [updN_lt (by omega)]; exact h.1 j2 (by omega)
      · rw [List.length_set] at hc
        rw [clsS_upd, getD_set h1]
        have h3 := h.2 c hc
        by_cases e2 : c = j
        · subst e2; rw [if_pos rfl, if_pos rfl]; omega
        · rw [if_neg e2, if_neg (fun e => e2 e.symm)]; exact h3
theorem nodup_le : ∀ (k : Nat) (l : List Nat), l.Nodup → (∀ x ∈ l, x < k) → l.length ≤ k
  | 0, l, _, h => by
    cases l with
    | nil => exact Nat.le_refl _
    | cons a t => have := h a (by simp); omega
  | k + 1, l, hd, h => by
    have h1 := nodup_le k (l.erase k) (hd.erase k) (fun x hx => by
      have h2 := h x (List.mem_of_mem_erase hx)
      have h3 : x ≠ k := fun e => by subst e; exact (List.Nodup.not_mem_erase hd) hx
      omega)
    by_cases hm : k ∈ l
    · rw [List.length_erase_of_mem hm] at h1
      omega
    · rw [List.erase_of_not_mem hm] at h1
      omega
/-- the program finds no more bins than any way takes -/
theorem fw_least {zs : List Int} {room : Int} (hz : ∀ j, j < zs.length → 0 ≤ zs.getD j 0) {k : Nat} {g : Nat → Nat} (ha : Asg zs room k g) : ∀ (f : Nat) (bs : List Int) (sg : List Nat), f ≤ zs.length → sg.length = bs.length → sg.Nodup → (∀ c ∈ sg, c < k) → (∀ j, j < zs.length - f → g j ∈ sg) → (∀ j, j < bs.length → bs.getD j 0 = room - clsS zs g (sg.getD j 0) (zs.length - f)) → fwF zs room f bs ≤ k
  | 0, bs, sg, _, hl, hd, hk, _, _ => by
    have := nodup_le k sg hd hk
    unfold fwF
    omega
  | f + 1, bs, sg, hn, hl, hd, hk, hm, hb => by
    obtain ⟨i, hi⟩ : ∃ i, i = zs.length - (f + 1) := ⟨_, rfl⟩
    rw [← hi] at hm hb
    have hi2 : zs.length - f = i + 1 := by omega
    have hc := ha.1 i (by omega)
    have hle : clsS zs g (g i) (i + 1) ≤ room := by
      have h1 := clsS_mono (f := g) (c := g i) hz (zs.length - (i + 1)) (i + 1) (by omega)
      rw [show i + 1 + (zs.length - (i + 1)) = zs.length by omega] at h1
      have := ha.2 (g i) hc
      omega
    have hcl : clsS zs g (g i) (i + 1) = clsS zs g (g i) i + zs.getD i 0 := by rw [clsS, if_pos rfl]
    unfold fwF
    rw [← hi]
    by_cases hin : g i ∈ sg
    · obtain ⟨j, hj, hjv⟩ := List.getElem_of_mem hin
      have hjs : sg.getD j 0 = g i := by simp [List.getD, List.getElem?_eq_getElem hj, hjv]
      have hbj := hb j (by omega)
      rw [hjs] at hbj
      refine Int.le_trans (fwTo_at bs.length j (by omega) (by omega)) ?_
      refine fw_least hz ha f _ sg (by omega) (by rw [List.length_set]; exact hl) hd hk (fun j2 hj2 => ?_) (fun j2 hj2 => ?_)
      · rw [hi2] at hj2
        by_cases e : j2 = i
        · subst e; exact hin
        · exact hm j2 (by omega)
      · rw [List.length_set] at hj2
        rw [hi2, getD_set (show j < bs.length by omega)]
        by_cases e : j2 = j
        · subst e; rw [if_pos rfl, hjs, hcl, hbj]; omega
        · rw [if_neg e, hb j2 hj2, clsS, if_neg]
          intro e2
          have h5 : sg[j2]'(by omega) = sg[j] := by
            have : sg.getD j2 0 = sg[j2]'(by omega) := by simp [List.getD, List.getElem?_eq_getElem (show j2 < sg.length by omega)]
            rw [← this, ← e2, hjv]
          have hp := List.pairwise_iff_getElem.1 hd
          rcases Nat.lt_or_gt_of_ne e with h6 | h6
          · exact hp j2 j (by omega) hj h6 h5
          · exact hp j j2 hj (by omega) h6 h5.symm
    · refine Int.le_trans (fwTo_init bs.length) ?_
      refine fw_least hz ha f _ (sg ++ [g i]) (by omega) (by simp [hl]) ?_ (fun c hcm => ?_) (fun j2 hj2 => ?_) (fun j2 hj2 => ?_)
      · rw [List.nodup_append]
        exact ⟨hd, by simp, fun a ha2 b hb2 => by
          rw [List.mem_singleton] at hb2
          subst hb2
          exact fun e => hin (e ▸ ha2)⟩
      · rw [List.mem_append, List.mem_singleton] at hcm
        rcases hcm with h | h
        · exact hk c h
        · subst h; exact hc
      · rw [hi2] at hj2
        rw [List.mem_append, List.mem_singleton]
        by_cases e : j2 = i
        · subst e; exact .inr rfl
        · exact .inl (hm j2 (by omega))
      · rw [List.length_append, List.length_singleton] at hj2
        rw [hi2]
        by_cases e : j2 < bs.length
        · have e1 : (bs ++ [room - zs.getD i 0]).getD j2 0 = bs.getD j2 0 := by simp only [List.getD]; rw [List.getElem?_append_left e]
          have e2 : (sg ++ [g i]).getD j2 0 = sg.getD j2 0 := by simp only [List.getD]; rw [List.getElem?_append_left (by omega)]
          rw [e1, e2, hb j2 e, clsS, if_neg]
          intro e3
          apply hin
          rw [e3]
          simp only [List.getD, List.getElem?_eq_getElem (show j2 < sg.length by omega), Option.getD_some]
          exact List.getElem_mem _
        · have e1 : j2 = bs.length := by omega
          subst e1
          have e2 : (bs ++ [room - zs.getD i 0]).getD bs.length 0 = room - zs.getD i 0 := by simp [List.getD]
          have e3 : (sg ++ [g i]).getD bs.length 0 = g i := by rw [← hl]; simp [List.getD]
          rw [e2, e3, hcl, clsS_zero i (fun j hj e4 => hin (by rw [← e4]; exact hm j hj))]
          omega
/-- with no bin yet -/
theorem fw_all {zs : List Int} {room : Int} (hz : ∀ j, j < zs.length → 0 ≤ zs.getD j 0) (hf : ∀ j, j < zs.length → zs.getD j 0 ≤ room) : ∃ (k : Nat) (g : Nat → Nat), fwF zs room zs.length [] = (k : Int) ∧ Asg zs room k g ∧ ∀ (k2 : Nat) (g2 : Nat → Nat), Asg zs room k2 g2 → k ≤ k2 := by
  obtain ⟨k, g, e, ha⟩ := fw_sound hf zs.length [] (fun _ => 0) (Nat.le_refl _) ⟨fun j hj => by omega, fun c hc => by simp at hc⟩
  refine ⟨k, g, e, ha, fun k2 g2 h2 => ?_⟩
  have := fw_least hz h2 zs.length [] [] (Nat.le_refl _) rfl List.nodup_nil (fun c hc => by simp at hc) (fun j hj => by omega) (fun j hj => by simp at hj)
  omega

/-! the reference -/
def subP (p m : Nat) : Prop := p &&& m = p
theorem and_half (a b : Nat) : (a &&& b) / 2 = a / 2 &&& b / 2 := Nat.and_div_two
theorem and_low (a b : Nat) : (a &&& b) % 2 = (a % 2) * (b % 2) := by
  have h := @Nat.and_mod_two_pow a b 1
  rw [Nat.pow_one] at h
  rw [h]
  rcases Nat.mod_two_eq_zero_or_one a with h1 | h1 <;> rcases Nat.mod_two_eq_zero_or_one b with h2 | h2 <;> rw [h1, h2] <;> rfl
theorem sub_half {p m : Nat} (h : subP p m) : subP (p / 2) (m / 2) ∧ p % 2 ≤ m % 2 := by
  unfold subP at h ⊢
  refine ⟨by rw [← and_half, h], ?_⟩
  have h1 := and_low p m
  rw [h] at h1
  rcases Nat.mod_two_eq_zero_or_one p with h2 | h2 <;> rcases Nat.mod_two_eq_zero_or_one m with h3 | h3 <;> rw [h2, h3] at h1 <;> omega
/-- no part of a set lies between one part and the next one below -/
theorem sub_next : ∀ (b p s m : Nat), p < 2 ^ b → subP p m → subP s m → s < p → s ≤ (p - 1) &&& m
  | 0, p, s, m, hb, _, _, h => by rw [Nat.pow_zero] at hb; omega
  | b + 1, p, s, m, hb, hp, hs, h => by
    obtain ⟨hp1, hp2⟩ := sub_half hp
    obtain ⟨hs1, hs2⟩ := sub_half hs
    rw [Nat.pow_succ] at hb
    have e1 := and_half (p - 1) m
    have e2 := and_low (p - 1) m
    by_cases hpar : p % 2 = 1
    · rw [show (p - 1) / 2 = p / 2 by omega, hp1] at e1
      rw [show (p - 1) % 2 = 0 by omega, Nat.zero_mul] at e2
      omega
    · have ih := sub_next b (p / 2) (s / 2) (m / 2) (by omega) hp1 hs1 (by omega)
      rw [show (p - 1) / 2 = p / 2 - 1 by omega] at e1
      rw [show (p - 1) % 2 = 1 by omega, Nat.one_mul] at e2
      omega
/-- the least over the parts of a set from one on -/
def lbP (zs : List Int) (room : Int) (V : Nat → Int) (m : Nat) : Nat → Nat → Int → Int
  | 0, _, acc => acc
  | f + 1, p, acc => if p = 0 then acc else lbP zs room V m f ((p - 1) &&& m) (if sumTo zs p zs.length ≤ room then min acc (V (m ^^^ p) + 1) else acc)
theorem lbP_le {zs : List Int} {room : Int} {V : Nat → Int} {m : Nat} : ∀ f p acc, lbP zs room V m f p acc ≤ acc
  | 0, _, _ => Int.le_refl _
  | f + 1, p, acc => by
    unfold lbP
    split
    · exact Int.le_refl _
    · refine Int.le_trans (lbP_le f _ _) ?_
      split <;> omega
theorem lbP_at {zs : List Int} {room : Int} {V : Nat → Int} {m s : Nat} (hs : subP s m) (h0 : 0 < s) (hf : sumTo zs s zs.length ≤ room) : ∀ f p acc, p ≤ f → subP p m → s ≤ p → lbP zs room V m f p acc ≤ V (m ^^^ s) + 1
  | 0, p, acc, h1, _, h2 => by omega
  | f + 1, p, acc, h1, hp, h2 => by
    unfold lbP
    rw [if_neg (by omega)]
    by_cases e : s = p
    · subst e
      rw [if_pos hf]
      exact Int.le_trans (lbP_le f _ _) (by omega)
    · have h3 := sub_next p p s m Nat.lt_two_pow_self hp hs (by omega)
      have h4 : (p - 1) &&& m ≤ p - 1 := Nat.and_le_left
      exact lbP_at hs h0 hf f _ _ (by omega) (by unfold subP; rw [Nat.and_assoc, Nat.and_self]) h3
theorem lbP_met {zs : List Int} {room : Int} {V : Nat → Int} {m : Nat} : ∀ f p acc, subP p m → lbP zs room V m f p acc = acc ∨ ∃ s, subP s m ∧ 0 < s ∧ sumTo zs s zs.length ≤ room ∧ lbP zs room V m f p acc = V (m ^^^ s) + 1
  | 0, _, _, _ => .inl rfl
  | f + 1, p, acc, hp => by
    unfold lbP
    by_cases h0 : p = 0
    · rw [if_pos h0]; exact .inl rfl
    · rw [if_neg h0]
      rcases lbP_met (zs := zs) (room := room) (V := V) f ((p - 1) &&& m) (if sumTo zs p zs.length ≤ room then min acc (V (m ^^^ p) + 1) else acc) (by unfold subP; rw [Nat.and_assoc, Nat.and_self]) with h | h
      · rw [h]
        by_cases hr : sumTo zs p zs.length ≤ room
        · rw [if_pos hr]
          by_cases hle : acc ≤ V (m ^^^ p) + 1
          · exact .inl (Int.min_eq_left hle)
          · exact .inr ⟨p, hp, by omega, hr, Int.min_eq_right (by omega)⟩
        · rw [if_neg hr]; exact .inl rfl
      · exact .inr h
def lbNew (zs : List Int) (room : Int) (V : List Int) (m : Nat) : Int := if m = 0 then 0 else lbP zs room (fun q => V.getD q 0) m m m (zs.length : Int)
def lbTo (zs : List Int) (room : Int) : Nat → List Int
  | 0 => []
  | m + 1 => lbTo zs room m ++ [lbNew zs room (lbTo zs room m) m]
theorem lbTo_len (zs : List Int) (room : Int) : ∀ m, (lbTo zs room m).length = m
  | 0 => rfl
  | m + 1 => by rw [lbTo, List.length_append, lbTo_len zs room m]; rfl
def lbAt (zs : List Int) (room : Int) (m : Nat) : Int := lbNew zs room (lbTo zs room m) m
theorem lbTo_get {zs : List Int} {room : Int} {i : Nat} : ∀ M, i < M → (lbTo zs room M).getD i 0 = lbAt zs room i
  | 0, h => by omega
  | M + 1, h => by
    rw [lbTo]
    by_cases e : i = M
    · subst e
      simp only [List.getD]
      rw [List.getElem?_append_right (by rw [lbTo_len]; exact Nat.le_refl _), lbTo_len, Nat.sub_self]
      rfl
    · rw [show (lbTo zs room M ++ [lbNew zs room (lbTo zs room M) M]).getD i 0 = (lbTo zs room M).getD i 0 by simp only [List.getD]; rw [List.getElem?_append_left (by rw [lbTo_len]; omega)]]
      exact lbTo_get M (by omega)
/-- the sum of a class of a set -/
def sumC (zs : List Int) (f : Nat → Nat) (c m : Nat) : Nat → Int
  | 0 => 0
  | i + 1 => if (m.testBit i && decide (f i = c)) = true then sumC zs f c m i + zs.getD i 0 else sumC zs f c m i
def AsgM (zs : List Int) (room : Int) (k : Nat) (f : Nat → Nat) (m : Nat) : Prop := (∀ i, i < zs.length → m.testBit i = true → f i < k) ∧ ∀ c, c < k → sumC zs f c m zs.length ≤ room
/-- a class of a set, as a set -/
def clsN (f : Nat → Nat) (c m : Nat) : Nat → Nat
  | 0 => 0
  | i + 1 => if (m.testBit i && decide (f i = c)) = true then clsN f c m i ||| 2 ^ i else clsN f c m i
theorem clsN_bit (f : Nat → Nat) (c m j : Nat) : ∀ n, (clsN f c m n).testBit j = (decide (j < n) && (m.testBit j && decide (f j = c)))
  | 0 => by simp [clsN]
  | n + 1 => by
    have ih := clsN_bit f c m j n
    unfold clsN
    by_cases e : j = n
    · subst e
      split
      · rename_i h
        rw [Nat.testBit_or, Nat.testBit_two_pow_self, h]; simp
      · rename_i h
        rw [ih, Bool.eq_false_iff.2 h]; simp
    · have e2 : decide (j < n + 1) = decide (j < n) := by rw [decide_eq_decide]; omega
      rw [e2]
      split
      · rw [Nat.testBit_or, Nat.testBit_two_pow, ih, decide_eq_false (show ¬ n = j from fun h => e h.symm)]; simp
      · exact ih
theorem sumTo_congr {zs : List Int} {a b : Nat} : ∀ j, (∀ i, i < j → a.testBit i = b.testBit i) → sumTo zs a j = sumTo zs b j
  | 0, _ => rfl
  | j + 1, h => by rw [sumTo_succ, sumTo_succ, sumTo_congr j (fun i hi => h i (by omega)), h j (by omega)]
theorem sumC_to {zs : List Int} {f : Nat → Nat} {c m s : Nat} : ∀ j, (∀ i, i < j → s.testBit i = (m.testBit i && decide (f i = c))) → sumC zs f c m j = sumTo zs s j
  | 0, _ => rfl
  | j + 1, h => by rw [sumTo_succ, sumC, sumC_to j (fun i hi => h i (by omega)), h j (by omega)]
theorem sumC_congr {zs : List Int} {f g : Nat → Nat} {c m q : Nat} : ∀ j, (∀ i, i < j → (m.testBit i && decide (f i = c)) = (q.testBit i && decide (g i = c))) → sumC zs f c m j = sumC zs g c q j
  | 0, _ => rfl
  | j + 1, h => by rw [sumC, sumC, sumC_congr j (fun i hi => h i (by omega)), h j (by omega)]
theorem sub_bit {s m i : Nat} (h : subP s m) (hb : s.testBit i = true) : m.testBit i = true := by
  unfold subP at h
  rw [← h, Nat.testBit_and] at hb
  simp only [Bool.and_eq_true] at hb
  exact hb.2
theorem subP_of {s m : Nat} (h : ∀ i, s.testBit i = true → m.testBit i = true) : subP s m := by
  unfold subP
  apply Nat.eq_of_testBit_eq
  intro i
  rw [Nat.testBit_and]
  cases hb : s.testBit i
  · rfl
  · rw [h i hb]; rfl
theorem xor_sub : ∀ (b s m : Nat), m < 2 ^ b → subP s m → (m ^^^ s) + s = m
  | 0, s, m, h, hs => by
    rw [Nat.pow_zero] at h
    have h1 : s ≤ m := by unfold subP at hs; rw [← hs]; exact Nat.and_le_right
    have e1 : m = 0 := by omega
    have e2 : s = 0 := by omega
    subst e1 e2; rfl
  | b + 1, s, m, h, hs => by
    rw [Nat.pow_succ] at h
    obtain ⟨h1, h2⟩ := sub_half hs
    have ih := xor_sub b (s / 2) (m / 2) (by omega) h1
    have e1 : (m ^^^ s) / 2 = m / 2 ^^^ s / 2 := Nat.xor_div_two
    have e2 : (m ^^^ s) % 2 = (m % 2 + s % 2) % 2 := by
      have h3 := @Nat.xor_mod_two_pow m s 1
      rw [Nat.pow_one] at h3
      rw [h3]
      rcases Nat.mod_two_eq_zero_or_one m with h4 | h4 <;> rcases Nat.mod_two_eq_zero_or_one s with h5 | h5 <;> rw [h4, h5] <;> rfl
    omega
theorem xor_lt {s m : Nat} (hs : subP s m) (h0 : 0 < s) : m ^^^ s < m := by
  have := xor_sub m s m Nat.lt_two_pow_self hs
  omega
theorem xor_bit {s m i : Nat} (hs : subP s m) : (m ^^^ s).testBit i = (m.testBit i && !s.testBit i) := by
  rw [Nat.testBit_xor]
  cases hb : s.testBit i
  · simp
  · rw [sub_bit hs hb]; rfl
theorem lbAt_pos {zs : List Int} {room : Int} {m : Nat} (h : 0 < m) : lbAt zs room m = lbP zs room (fun q => (lbTo zs room m).getD q 0) m m m (zs.length : Int) := by
  unfold lbAt lbNew
  rw [if_neg (by omega)]
/-- no way takes fewer classes than the reference finds -/
theorem lb_least {zs : List Int} {room : Int} {f : Nat → Nat} : ∀ (k m : Nat), m < 2 ^ zs.length → AsgM zs room k f m → lbAt zs room m ≤ k
  | 0, m, hm, h => by
    have e : m = 0 := by
      apply Nat.eq_of_testBit_eq
      intro i
      rw [Nat.zero_testBit]
      by_cases hi : i < zs.length
      · cases hb : m.testBit i
        · rfl
        · have := h.1 i hi hb; omega
      · exact Nat.testBit_lt_two_pow (Nat.lt_of_lt_of_le hm (Nat.pow_le_pow_right (by omega) (by omega)))
    subst e
    exact Int.le_refl _
  | k + 1, m, hm, h => by
    obtain ⟨s, hs⟩ : ∃ s, s = clsN f k m zs.length := ⟨_, rfl⟩
    have hbit : ∀ i, i < zs.length → s.testBit i = (m.testBit i && decide (f i = k)) := fun i hi => by rw [hs, clsN_bit, decide_eq_true hi, Bool.true_and]
    have hsub : subP s m := subP_of fun i hb => by
      rw [hs, clsN_bit] at hb
      simp only [Bool.and_eq_true] at hb
      exact hb.2.1
    have hsum : sumTo zs s zs.length ≤ room := by rw [← sumC_to zs.length hbit]; exact h.2 k (by omega)
    have hx : AsgM zs room k f (m ^^^ s) := by
      refine ⟨fun i hi hb => ?_, fun c hc => ?_⟩
      · rw [xor_bit hsub, hbit i hi] at hb
        simp only [Bool.and_eq_true, Bool.not_eq_true', Bool.and_eq_false_iff, decide_eq_false_iff_not] at hb
        have h1 := h.1 i hi hb.1
        rcases hb.2 with h2 | h2
        · rw [hb.1] at h2; cases h2
        · omega
      · rw [sumC_congr (g := f) (q := m) zs.length (fun i hi => ?_)]
        · exact h.2 c (by omega)
        · rw [xor_bit hsub, hbit i hi]
          by_cases e : f i = c
          · rw [decide_eq_true e, decide_eq_false (show ¬ f i = k by omega)]; simp
          · rw [decide_eq_false e]; simp
    by_cases h0 : s = 0
    · have ih := lb_least k (m ^^^ s) (by rw [h0, Nat.xor_zero]; exact hm) hx
      rw [h0, Nat.xor_zero] at ih
      omega
    · have hlt := xor_lt hsub (by omega)
      have ih := lb_least k (m ^^^ s) (by omega) hx
      have h1 := lbP_at (zs := zs) (room := room) (V := fun q => (lbTo zs room m).getD q 0) hsub (by omega) hsum m m (zs.length : Int) (Nat.le_refl _) (by unfold subP; rw [Nat.and_self]) (by have h9 := hsub; unfold subP at h9; rw [← h9]; exact Nat.and_le_right)
      rw [lbAt_pos (by omega)]
      rw [lbTo_get m hlt] at h1
      omega
theorem sumTo_one {zs : List Int} {s c : Nat} {room : Int} (hr : 0 ≤ room) (hc : zs.getD c 0 ≤ room) (h : ∀ i, s.testBit i = true → i = c) : ∀ j, sumTo zs s j ≤ room ∧ (j ≤ c → sumTo zs s j = 0)
  | 0 => ⟨hr, fun _ => rfl⟩
  | j + 1 => by
    have ih := sumTo_one hr hc h j
    rw [sumTo_succ]
    split
    · rename_i hb
      have e := h j hb
      subst e
      rw [ih.2 (Nat.le_refl _)]
      exact ⟨by omega, fun h => by omega⟩
    · exact ⟨ih.1, fun h => ih.2 (by omega)⟩
/-- what the reference finds is a way -/
theorem lb_sound {zs : List Int} {room : Int} (hr : 0 ≤ room) (hf : ∀ j, j < zs.length → zs.getD j 0 ≤ room) : ∀ (b m : Nat), m ≤ b → ∃ (k : Nat) (f : Nat → Nat), lbAt zs room m = (k : Int) ∧ AsgM zs room k f m
  | b, m, hb => by
    by_cases h0 : m = 0
    · subst h0
      exact ⟨0, fun _ => 0, rfl, (fun i _ h => by rw [Nat.zero_testBit] at h; cases h), (fun c hc => by omega)⟩
    · cases b with
      | zero => omega
      | succ b =>
        rw [lbAt_pos (by omega)]
        rcases lbP_met (zs := zs) (room := room) (V := fun q => (lbTo zs room m).getD q 0) m m (zs.length : Int) (by unfold subP; rw [Nat.and_self]) with e | ⟨s, hs, hs0, hsum, e⟩
        · refine ⟨zs.length, fun i => i, e, fun i hi _ => hi, fun c hc => ?_⟩
          rw [sumC_to (s := clsN (fun i => i) c m zs.length) zs.length (fun i hi => by rw [clsN_bit, decide_eq_true hi, Bool.true_and])]
          exact (sumTo_one hr (hf c hc) (fun i hi => by
            rw [clsN_bit] at hi
            simp only [Bool.and_eq_true, decide_eq_true_eq] at hi
            exact hi.2.2) zs.length).1
        · have hlt := xor_lt hs hs0
          obtain ⟨k, f, e2, ha⟩ := lb_sound hr hf b (m ^^^ s) (by omega)
          rw [lbTo_get m hlt, e2] at e
          refine ⟨k + 1, fun i => if s.testBit i = true then k else f i, by rw [e]; omega, fun i hi hbi => ?_, fun c hc => ?_⟩
          · show (if s.testBit i = true then k else f i) < k + 1
            cases hsb : s.testBit i
            · have := ha.1 i hi (by rw [xor_bit hs, hbi, hsb]; rfl)
              simp; omega
            · simp
          · by_cases ec : c = k
            · subst ec
              rw [sumC_to (s := s) zs.length (fun i hi => ?_)]
              · exact hsum
              · show s.testBit i = (m.testBit i && decide ((if s.testBit i = true then c else f i) = c))
                cases hsb : s.testBit i
                · cases hmb : m.testBit i
                  · rfl
                  · have := ha.1 i hi (by rw [xor_bit hs, hmb, hsb]; rfl)
                    simp; omega
                · rw [sub_bit hs hsb]; simp
            · rw [sumC_congr (g := f) (q := m ^^^ s) zs.length (fun i hi => ?_)]
              · exact ha.2 c (by omega)
              · show (m.testBit i && decide ((if s.testBit i = true then k else f i) = c)) = _
                rw [xor_bit hs]
                cases hsb : s.testBit i
                · simp
                · rw [if_pos rfl, decide_eq_false (show ¬ k = c by omega)]; simp
/-- both find the same number -/
theorem bins_same {zs : List Int} {room : Int} (hr : 0 ≤ room) (hz : ∀ j, j < zs.length → 0 ≤ zs.getD j 0) (hf : ∀ j, j < zs.length → zs.getD j 0 ≤ room) : lbAt zs room (2 ^ zs.length - 1) = fwF zs room zs.length [] := by
  have hfull : ∀ (k : Nat) (f : Nat → Nat), AsgM zs room k f (2 ^ zs.length - 1) ↔ Asg zs room k f := by
    intro k f
    have hb : ∀ i, i < zs.length → (2 ^ zs.length - 1).testBit i = true := fun i hi => by rw [Nat.testBit_two_pow_sub_one]; exact decide_eq_true hi
    have hs : ∀ c j, j ≤ zs.length → sumC zs f c (2 ^ zs.length - 1) j = clsS zs f c j := by
      intro c j
      induction j with
      | zero => intro _; rfl
      | succ j ih =>
        intro hj
        rw [sumC, clsS, ih (by omega), hb j (by omega)]
        by_cases e : f j = c
        · rw [if_pos e, if_pos (by rw [decide_eq_true e]; rfl)]
        · rw [if_neg e, if_neg (by rw [decide_eq_false e]; decide)]
    constructor
    · intro h
      exact ⟨fun i hi => h.1 i hi (hb i hi), fun c hc => by rw [← hs c _ (Nat.le_refl _)]; exact h.2 c hc⟩
    · intro h
      exact ⟨fun i hi _ => h.1 i hi, fun c hc => by rw [hs c _ (Nat.le_refl _)]; exact h.2 c hc⟩
  obtain ⟨k, g, e, ha, hmin⟩ := fw_all hz hf
  obtain ⟨k2, g2, e2, ha2⟩ := lb_sound hr hf (2 ^ zs.length - 1) (2 ^ zs.length - 1) (Nat.le_refl _)
  have h1 := hmin k2 g2 ((hfull k2 g2).1 ha2)
  have h2 := lb_least k (2 ^ zs.length - 1) (by have := Nat.two_pow_pos zs.length; omega) ((hfull k g).2 ha)
  omega
end Go.Proofs.Ythhkgeeomhhegaa
