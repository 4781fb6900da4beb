/- Operations on floats, reckoned with plain numbers (the kernel is quicker at them), and that they are the model's. -/
import Derived.Laws.FloatArith
import Derived.Test.YtnjipckpkcandaaDoorMem
namespace Go.Proofs.YtnjipckpkcandaaDoor
namespace Fst
/-- a number is reckoned once, then handed on -/
def force {a : Type} (x : Nat) (f : Nat → a) : a := Nat.rec (motive := fun _ => a) (f 0) (fun n _ => f (Nat.succ n)) x
theorem force_eq {a : Type} (x : Nat) (f : Nat → a) : force x f = f x := by cases x <;> rfl
def lgS (k p : Nat) (x acc : Nat) (f : Nat → Nat → Nat) : Nat := force x fun x => force acc fun acc => cond (Nat.ble p x) (f (Nat.div x p) (Nat.add acc k)) (f x acc)
def lg (x : Nat) : Nat := lgS 128 340282366920938463463374607431768211456 x 0 fun x a => lgS 64 18446744073709551616 x a fun x a => lgS 32 4294967296 x a fun x a => lgS 16 65536 x a fun x a => lgS 8 256 x a fun x a => lgS 4 16 x a fun x a => lgS 2 4 x a fun x a => lgS 1 2 x a fun _ a => a
theorem lgS_ok {k x0 x acc : Nat} {f : Nat → Nat → Nat} (hx : x ≠ 0) (h0 : x0.log2 = acc + x.log2) (hlt : x < 2 ^ (2 * k)) (hf : ∀ y b, y ≠ 0 → x0.log2 = b + y.log2 → y < 2 ^ k → f y b = x0.log2) : lgS k (2 ^ k) x acc f = x0.log2 := by
  unfold lgS
  rw [force_eq, force_eq]
  by_cases h : 2 ^ k ≤ x
  · have : Nat.ble (2 ^ k) x = true := by rw [Nat.ble_eq]; exact h
    rw [this]
    show f (x / 2 ^ k) (acc + k) = _
    have hp := Nat.two_pow_pos k
    have hd : x / 2 ^ k ≠ 0 := fun e => by
      have := Nat.div_eq_zero_iff.1 e
      omega
    refine hf _ _ hd ?_ (by rw [Nat.div_lt_iff_lt_mul hp, ← Nat.pow_add, show k + k = 2 * k by omega]; exact hlt)
    have hl : (x / 2 ^ k).log2 = x.log2 - k := by
      rw [Nat.log2_eq_iff hd]
      have h1 := (Nat.log2_eq_iff hx (k := x.log2)).1 rfl
      have hkl : k ≤ x.log2 := (Nat.le_log2 hx).2 h
      constructor
      · rw [Nat.le_div_iff_mul_le hp, ← Nat.pow_add, show x.log2 - k + k = x.log2 by omega]; exact h1.1
      · rw [Nat.div_lt_iff_lt_mul hp, ← Nat.pow_add, show x.log2 - k + 1 + k = x.log2 + 1 by omega]; exact h1.2
    have hkl : k ≤ x.log2 := (Nat.le_log2 hx).2 h
    rw [hl]; omega
  · have : Nat.ble (2 ^ k) x = false := by
      cases hb : Nat.ble (2 ^ k) x
      · rfl
      · rw [Nat.ble_eq] at hb; exact absurd hb h
    rw [this]
    exact hf _ _ hx h0 (by omega)
theorem lg_eq {x : Nat} (hx : x ≠ 0) (hlt : x < 2 ^ 256) : lg x = x.log2 := by
  unfold lg
  refine lgS_ok (k := 128) hx (by omega) (by exact hlt) fun y b h1 h2 h3 => ?_
  refine lgS_ok (k := 64) h1 h2 h3 fun y b h1 h2 h3 => ?_
  refine lgS_ok (k := 32) h1 h2 h3 fun y b h1 h2 h3 => ?_
  refine lgS_ok (k := 16) h1 h2 h3 fun y b h1 h2 h3 => ?_
  refine lgS_ok (k := 8) h1 h2 h3 fun y b h1 h2 h3 => ?_
  refine lgS_ok (k := 4) h1 h2 h3 fun y b h1 h2 h3 => ?_
  refine lgS_ok (k := 2) h1 h2 h3 fun y b h1 h2 h3 => ?_
  refine lgS_ok (k := 1) h1 h2 h3 fun y b h1 h2 h3 => ?_
  have : y = 1 := by omega
  subst this
  rw [h2]; rfl
def lgG (x : Nat) : Nat := cond (Nat.ble 115792089237316195423570985008687907853269984665640564039457584007913129639936 x) (Nat.log2 x) (lg x)
theorem lgG_eq {x : Nat} (hx : x ≠ 0) : lgG x = x.log2 := by
  unfold lgG
  cases h : Nat.ble 115792089237316195423570985008687907853269984665640564039457584007913129639936 x
  · refine lg_eq hx ?_
    have : ¬ 2 ^ 256 ≤ x := fun hh => by
      have : Nat.ble 115792089237316195423570985008687907853269984665640564039457584007913129639936 x = true := by rw [Nat.ble_eq]; exact hh
      rw [h] at this; cases this
    omega
  · rfl
def roundG (low rest gap : Nat) : Nat := force low fun low => force (Nat.mul 2 rest) fun rest => cond (Nat.blt gap rest) (Nat.succ low) (cond (Nat.beq gap rest) (Nat.add low (Nat.mod low 2)) low)
/-- the rung nearest to mag * 2 ^ (P - 3000) -/
def nearG (fb lpo bin inf mag P : Nat) : Nat := force mag fun mag => force P fun P =>
  cond (Nat.beq mag 0) 0 (
  force (lgG mag) fun l => force (Nat.sub (Nat.add P l) fb) fun l0 => force (cond (Nat.ble l0 lpo) lpo l0) fun last =>
  force (cond (Nat.ble last P) (Nat.add (Nat.mul (Nat.sub last lpo) bin) (Nat.mul mag (Nat.pow 2 (Nat.sub P last))))
    (force (Nat.pow 2 (cond (Nat.ble (Nat.sub last P) (Nat.add l 2)) (Nat.sub last P) (Nat.add l 2))) fun gap => Nat.add (Nat.mul (Nat.sub last lpo) bin) (roundG (Nat.div mag gap) (Nat.mod mag gap) gap))) fun r => cond (Nat.ble r inf) r inf)
theorem roundG_eq (low rest gap : Nat) : roundG low rest gap = low + (decide (gap < 2 * rest) || (gap == 2 * rest && low % 2 == 1)).toNat := by
  unfold roundG
  rw [force_eq, force_eq]
  show cond (Nat.blt gap (2 * rest)) (low + 1) (cond (Nat.beq gap (2 * rest)) (low + low % 2) low) = _
  by_cases h : gap < 2 * rest
  · have h1 : Nat.blt gap (2 * rest) = true := by unfold Nat.blt; rw [Nat.ble_eq]; exact h
    rw [h1, decide_eq_true h]; rfl
  · have h1 : Nat.blt gap (2 * rest) = false := by
      cases hb : Nat.blt gap (2 * rest)
      · rfl
      · unfold Nat.blt at hb; rw [Nat.ble_eq] at hb; exact absurd hb h
    rw [h1, decide_eq_false h]
    by_cases e : gap = 2 * rest
    · have h2 : Nat.beq gap (2 * rest) = true := by rw [e]; exact Nat.beq_refl _
      rw [h2]
      have h3 : (gap == 2 * rest) = true := by rw [e]; simp
      rw [h3]
      show low + low % 2 = low + (low % 2 == 1).toNat
      rcases Nat.mod_two_eq_zero_or_one low with h4 | h4 <;> rw [h4] <;> rfl
    · have h2 : Nat.beq gap (2 * rest) = false := by
        cases hb : Nat.beq gap (2 * rest)
        · rfl
        · exact absurd (Nat.eq_of_beq_eq_true hb) e
      have h3 : (gap == 2 * rest) = false := by simp [e]
      rw [h2, h3]; rfl
open Ieee
theorem ble_t {a b : Nat} (h : a ≤ b) : Nat.ble a b = true := by rw [Nat.ble_eq]; exact h
theorem ble_f {a b : Nat} (h : ¬ a ≤ b) : Nat.ble a b = false := by
  cases hb : Nat.ble a b
  · rfl
  · rw [Nat.ble_eq] at hb; exact absurd hb h
theorem near_eq {f : Format} {fb lpo bin inf : Nat} (h1 : f.fractionBits = fb) (h2 : f.leastPlace = (lpo : Int) - 3000) (h3 : f.binade = bin) (h4 : f.infRung = inf) (neg : Bool) (mag P : Nat) (hP : fb ≤ P) :
    f.nearest neg mag ((P : Int) - 3000) = f.word neg (nearG fb lpo bin inf mag P) := by
  subst h1 h3 h4
  unfold Format.nearest nearG
  rw [force_eq, force_eq]
  by_cases h0 : mag = 0
  · rw [if_pos h0, h0]; rfl
  · rw [if_neg h0]
    have hb0 : Nat.beq mag 0 = false := by
      cases hb : Nat.beq mag 0
      · rfl
      · exact absurd (Nat.eq_of_beq_eq_true hb) h0
    rw [hb0, force_eq, force_eq, force_eq, force_eq, lgG_eq h0, h2]
    show f.word neg _ = f.word neg (cond (Nat.ble _ f.infRung) _ f.infRung)
    generalize hl : mag.log2 = l
    have hlast : max ((P : Int) - 3000 + (l : Int) - (f.fractionBits : Int)) ((lpo : Int) - 3000) = ((cond (Nat.ble (P + l - f.fractionBits) lpo) lpo (P + l - f.fractionBits) : Nat) : Int) - 3000 := by
      by_cases h : P + l - f.fractionBits ≤ lpo
      · rw [ble_t h]; show _ = ((lpo : Nat) : Int) - 3000; omega
      · rw [ble_f h]; show _ = ((P + l - f.fractionBits : Nat) : Int) - 3000; omega
    rw [hlast]
    show f.word neg _ = f.word neg (cond (Nat.ble (cond (Nat.ble (cond (Nat.ble (P + l - f.fractionBits) lpo) lpo (P + l - f.fractionBits)) P) _ _) f.infRung) _ f.infRung)
    generalize (cond (Nat.ble (P + l - f.fractionBits) lpo) lpo (P + l - f.fractionBits)) = last
    have e1 : ((last : Int) - 3000 - ((lpo : Int) - 3000)).toNat = last - lpo := by omega
    have e2 : ((P : Int) - 3000 - ((last : Int) - 3000)).toNat = P - last := by omega
    have e3 : ((last : Int) - 3000 - ((P : Int) - 3000)).toNat = last - P := by omega
    rw [e1, e2, e3]
    have hk : Toward.even.cut neg (mag <<< (P - last)) (last - P) = cond (Nat.ble last P) (mag * 2 ^ (P - last)) (roundG (mag / 2 ^ (cond (Nat.ble (last - P) (l + 2)) (last - P) (l + 2))) (mag % 2 ^ (cond (Nat.ble (last - P) (l + 2)) (last - P) (l + 2))) (2 ^ (cond (Nat.ble (last - P) (l + 2)) (last - P) (l + 2)))) := by
      by_cases h : last ≤ P
      · rw [ble_t h, show last - P = 0 by omega]
        unfold Toward.cut
        rw [Nat.zero_min, Nat.shiftLeft_eq, Nat.shiftLeft_eq]
        simp [Nat.mod_one]
      · rw [ble_f h, show P - last = 0 by omega]
        unfold Toward.cut
        rw [Nat.shiftLeft_zero, hl]
        have hm : min (last - P) (l + 2) = cond (Nat.ble (last - P) (l + 2)) (last - P) (l + 2) := by
          by_cases h9 : last - P ≤ l + 2
          · rw [ble_t h9, Nat.min_eq_left h9]; rfl
          · rw [ble_f h9, Nat.min_eq_right (by omega)]; rfl
        rw [hm, Nat.shiftLeft_eq, Nat.one_mul, roundG_eq]
        rfl
    rw [hk]
    have hmin : ∀ r : Nat, min r f.infRung = cond (Nat.ble r f.infRung) r f.infRung := fun r => by
      by_cases h9 : r ≤ f.infRung
      · rw [ble_t h9, Nat.min_eq_left h9]; rfl
      · rw [ble_f h9, Nat.min_eq_right (by omega)]; rfl
    rw [hmin]
    cases Nat.ble last P
    · simp only [force_eq]; rfl
    · rfl
/-- what a format's words are made of, as plain numbers -/
structure Fm where
  fb : Nat
  lpo : Nat
  bin : Nat
  inf : Nat
  sw : Nat
structure FmOk (f : Format) (c : Fm) : Prop where
  h1 : f.fractionBits = c.fb
  h2 : f.leastPlace = (c.lpo : Int) - 3000
  h3 : f.binade = c.bin
  h4 : f.infRung = c.inf
  h5 : f.signWeight = c.sw
  h6 : 3000 + c.fb ≤ 2 * c.lpo
  h7 : c.fb ≤ 52
  h8 : c.inf ≤ 2047 * c.bin
  h9 : 0 < c.bin
  h10 : c.lpo ≤ 3000
def negG (c : Fm) (w : Nat) : Bool := Nat.beq (Nat.mod (Nat.div w c.sw) 2) 1
def magG (c : Fm) (w : Nat) : Nat := force (Nat.mod w c.sw) fun r => cond (Nat.blt r c.bin) r (Nat.add c.bin (Nat.mod r c.bin))
def plcG (c : Fm) (w : Nat) : Nat := force (Nat.mod w c.sw) fun r => cond (Nat.blt r c.bin) c.lpo (Nat.add c.lpo (Nat.sub (Nat.div r c.bin) 1))
def finG (c : Fm) (w : Nat) : Bool := Nat.blt (Nat.mod w c.sw) c.inf
def wordG (c : Fm) (neg : Bool) (r : Nat) : Nat := cond neg (Nat.add c.sw r) r
theorem blt_iff {a b : Nat} : Nat.blt a b = true ↔ a < b := by unfold Nat.blt; rw [Nat.ble_eq]; exact Iff.rfl
theorem blt_t {a b : Nat} (h : a < b) : Nat.blt a b = true := blt_iff.2 h
theorem blt_f {a b : Nat} (h : ¬ a < b) : Nat.blt a b = false := by
  cases hb : Nat.blt a b
  · rfl
  · exact absurd (blt_iff.1 hb) h
theorem beq_is (a b : Nat) : Nat.beq a b = (a == b) := by
  by_cases h : a = b
  · subst h; rw [Nat.beq_refl]; simp
  · have : (a == b) = false := by simp [h]
    rw [this]
    cases hb : Nat.beq a b
    · rfl
    · exact absurd (Nat.eq_of_beq_eq_true hb) h
theorem word_eq {f : Format} {c : Fm} (h : FmOk f c) (neg : Bool) (r : Nat) : f.word neg r = wordG c neg r := by
  unfold Format.word wordG
  rw [h.h5]
  cases neg <;> rfl
theorem read_eq {f : Format} {c : Fm} (h : FmOk f c) {w : Nat} (hw : finG c w = true) : f.read w = .number (negG c w) (magG c w) ((plcG c w : Int) - 3000) := by
  have hw := blt_iff.1 hw
  unfold Format.read
  rw [h.h5, h.h3, h.h4, h.h2]
  unfold negG magG plcG
  rw [force_eq, force_eq, beq_is]
  show (if w % c.sw < c.bin then _ else _) = Datum.number (w / c.sw % 2 == 1) (cond (Nat.blt (w % c.sw) c.bin) (w % c.sw) (c.bin + w % c.sw % c.bin)) (((cond (Nat.blt (w % c.sw) c.bin) c.lpo (c.lpo + (w % c.sw / c.bin - 1)) : Nat) : Int) - 3000)
  have hw : w % c.sw < c.inf := hw
  by_cases h1 : w % c.sw < c.bin
  · rw [if_pos h1, blt_t h1]; rfl
  · rw [if_neg h1, blt_f h1, if_pos hw]
    show Datum.number _ _ _ = Datum.number _ _ (((c.lpo + (w % c.sw / c.bin - 1) : Nat) : Int) - 3000)
    congr 1
    omega
theorem plcG_bd {f : Format} {c : Fm} (h : FmOk f c) {w : Nat} (hw : finG c w = true) : c.lpo ≤ plcG c w ∧ plcG c w ≤ c.lpo + 2046 := by
  have hw := blt_iff.1 hw
  unfold plcG
  rw [force_eq]
  have hw : w % c.sw < c.inf := hw
  show c.lpo ≤ cond (Nat.blt (w % c.sw) c.bin) c.lpo (c.lpo + (w % c.sw / c.bin - 1)) ∧ cond (Nat.blt (w % c.sw) c.bin) c.lpo (c.lpo + (w % c.sw / c.bin - 1)) ≤ _
  cases Nat.blt (w % c.sw) c.bin
  · show c.lpo ≤ c.lpo + (w % c.sw / c.bin - 1) ∧ c.lpo + (w % c.sw / c.bin - 1) ≤ _
    have h8 := h.h8
    have : w % c.sw / c.bin < 2047 := by rw [Nat.div_lt_iff_lt_mul h.h9]; omega
    omega
  · exact ⟨Nat.le_refl _, Nat.le_add_right _ _⟩
def putG (c : Fm) (neg : Bool) (mag P : Nat) : Nat := wordG c neg (nearG c.fb c.lpo c.bin c.inf mag P)
theorem write_eq {f : Format} {c : Fm} (h : FmOk f c) (neg : Bool) (mag P : Nat) (hP : c.fb ≤ P) {p : Int} (hp : p = (P : Int) - 3000) : f.write (.number neg mag p) = putG c neg mag P := by
  show f.nearest neg mag p = _
  rw [hp, near_eq h.h1 h.h2 h.h3 h.h4 neg mag P hP]
  exact word_eq h _ _
def mulG (c : Fm) (x y : Nat) : Nat := putG c (negG c x ^^ negG c y) (Nat.mul (magG c x) (magG c y)) (Nat.sub (Nat.add (plcG c x) (plcG c y)) 3000)
theorem mulG_eq {f : Format} {c : Fm} (h : FmOk f c) {x y : Nat} (hx : finG c x = true) (hy : finG c y = true) : f.mul x y = some (mulG c x y) := by
  obtain ⟨p1, p2⟩ := plcG_bd h hx
  obtain ⟨q1, q2⟩ := plcG_bd h hy
  have h6 := h.h6
  unfold Format.mul
  rw [read_eq h hx, read_eq h hy]
  show some (f.write (.number _ (magG c x * magG c y) _)) = _
  rw [write_eq h _ _ (plcG c x + plcG c y - 3000) (by omega) (by omega)]
  rfl
/-- a sum of two signed magnitudes -/
def sumG (c : Fm) (s : Bool) (m P : Nat) (t : Bool) (n Q : Nat) : Nat := force m fun m => force n fun n => force P fun P => force Q fun Q => force (cond (Nat.ble P Q) P Q) fun B =>
  force (Nat.mul m (Nat.pow 2 (Nat.sub P B))) fun a => force (Nat.mul n (Nat.pow 2 (Nat.sub Q B))) fun b =>
  cond (s == t) (putG c s (Nat.add a b) B) (cond (Nat.beq a b) (putG c false 0 B) (cond (Nat.blt b a) (putG c s (Nat.sub a b) B) (putG c t (Nat.sub b a) B)))
theorem sumG_eq {f : Format} {c : Fm} (h : FmOk f c) (s : Bool) (m P : Nat) (t : Bool) (n Q : Nat) (hP : c.fb ≤ P) (hQ : c.fb ≤ Q) : ((Datum.number s m ((P : Int) - 3000)).sum (.number t n ((Q : Int) - 3000))).map f.write = some (sumG c s m P t n Q) := by
  unfold sumG
  simp only [force_eq]
  have hB : min ((P : Int) - 3000) ((Q : Int) - 3000) = ((cond (Nat.ble P Q) P Q : Nat) : Int) - 3000 := by
    by_cases h9 : P ≤ Q
    · rw [ble_t h9]; show _ = (P : Int) - 3000; omega
    · rw [ble_f h9]; show _ = (Q : Int) - 3000; omega
  have hfB : c.fb ≤ cond (Nat.ble P Q) P Q := by cases Nat.ble P Q <;> assumption
  show some (f.write (.number (if (signed s m ((P : Int) - 3000 - min ((P : Int) - 3000) ((Q : Int) - 3000)).toNat + signed t n ((Q : Int) - 3000 - min ((P : Int) - 3000) ((Q : Int) - 3000)).toNat) = 0 then s && t else decide ((signed s m ((P : Int) - 3000 - min ((P : Int) - 3000) ((Q : Int) - 3000)).toNat + signed t n ((Q : Int) - 3000 - min ((P : Int) - 3000) ((Q : Int) - 3000)).toNat) < 0)) (signed s m ((P : Int) - 3000 - min ((P : Int) - 3000) ((Q : Int) - 3000)).toNat + signed t n ((Q : Int) - 3000 - min ((P : Int) - 3000) ((Q : Int) - 3000)).toNat).natAbs (min ((P : Int) - 3000) ((Q : Int) - 3000)))) = _
  rw [hB]
  generalize cond (Nat.ble P Q) P Q = B at *
  have e1 : ((P : Int) - 3000 - ((B : Int) - 3000)).toNat = P - B := by omega
  have e2 : ((Q : Int) - 3000 - ((B : Int) - 3000)).toNat = Q - B := by omega
  rw [e1, e2, write_eq h _ _ B hfB rfl]
  unfold signed
  rw [Nat.shiftLeft_eq, Nat.shiftLeft_eq]
  show some (putG c _ _ B) = some (cond (s == t) (putG c s (m * 2 ^ (P - B) + n * 2 ^ (Q - B)) B) (cond (Nat.beq (m * 2 ^ (P - B)) (n * 2 ^ (Q - B))) (putG c false 0 B) (cond (Nat.blt (n * 2 ^ (Q - B)) (m * 2 ^ (P - B))) (putG c s (m * 2 ^ (P - B) - n * 2 ^ (Q - B)) B) (putG c t (n * 2 ^ (Q - B) - m * 2 ^ (P - B)) B))))
  generalize m * 2 ^ (P - B) = a
  generalize n * 2 ^ (Q - B) = b
  have hg : ∀ (u v : Bool) (x y : Nat), u = v → x = y → some (putG c u x B) = some (putG c v y B) := fun u v x y h1 h2 => by rw [h1, h2]
  cases s <;> cases t
  · show some (putG c (if (a : Int) + (b : Int) = 0 then false else decide ((a : Int) + (b : Int) < 0)) ((a : Int) + (b : Int)).natAbs B) = some (putG c false (a + b) B)
    refine hg _ _ _ _ ?_ (by omega)
    split
    · rfl
    · exact decide_eq_false (by omega)
  · show some (putG c (if (a : Int) + -(b : Int) = 0 then false else decide ((a : Int) + -(b : Int) < 0)) ((a : Int) + -(b : Int)).natAbs B) = some (cond (Nat.beq a b) (putG c false 0 B) (cond (Nat.blt b a) (putG c false (a - b) B) (putG c true (b - a) B)))
    rw [beq_is]
    by_cases e : a = b
    · have : (a == b) = true := by simp [e]
      rw [this]; exact hg _ _ _ _ (if_pos (by omega)) (by omega)
    · have : (a == b) = false := by simp [e]
      rw [this]
      by_cases e2 : b < a
      · rw [blt_t e2]; exact hg _ _ _ _ ((if_neg (by omega)).trans (decide_eq_false (by omega))) (by omega)
      · rw [blt_f e2]; exact hg _ _ _ _ ((if_neg (by omega)).trans (decide_eq_true (by omega))) (by omega)
  · show some (putG c (if -(a : Int) + (b : Int) = 0 then false else decide (-(a : Int) + (b : Int) < 0)) (-(a : Int) + (b : Int)).natAbs B) = some (cond (Nat.beq a b) (putG c false 0 B) (cond (Nat.blt b a) (putG c true (a - b) B) (putG c false (b - a) B)))
    rw [beq_is]
    by_cases e : a = b
    · have : (a == b) = true := by simp [e]
      rw [this]; exact hg _ _ _ _ (if_pos (by omega)) (by omega)
    · have : (a == b) = false := by simp [e]
      rw [this]
      by_cases e2 : b < a
      · rw [blt_t e2]; exact hg _ _ _ _ ((if_neg (by omega)).trans (decide_eq_true (by omega))) (by omega)
      · rw [blt_f e2]; exact hg _ _ _ _ ((if_neg (by omega)).trans (decide_eq_false (by omega))) (by omega)
  · show some (putG c (if -(a : Int) + -(b : Int) = 0 then true else decide (-(a : Int) + -(b : Int) < 0)) (-(a : Int) + -(b : Int)).natAbs B) = some (putG c true (a + b) B)
    refine hg _ _ _ _ ?_ (by omega)
    split
    · rfl
    · exact decide_eq_true (by omega)
theorem near_scale (f : Format) (neg : Bool) (m k : Nat) (p : Int) (hm : m ≠ 0) (hl : m.log2 ≤ f.fractionBits) (hp : f.leastPlace ≤ p + k) :
    f.nearest neg (m * 2 ^ k) p = f.nearest neg m (p + k) := by
  have hk := Nat.two_pow_pos k
  have hmk : m * 2 ^ k ≠ 0 := Nat.mul_ne_zero hm (by omega)
  have hlog : (m * 2 ^ k).log2 = m.log2 + k := by
    rw [Nat.log2_eq_iff hmk]
    have h1 := (Nat.log2_eq_iff hm (k := m.log2)).1 rfl
    constructor
    · rw [Nat.pow_add]; exact Nat.mul_le_mul_right _ h1.1
    · rw [show m.log2 + k + 1 = (m.log2 + 1) + k by omega, Nat.pow_add]; exact Nat.mul_lt_mul_of_pos_right h1.2 hk
  unfold Format.nearest
  rw [if_neg hmk, if_neg hm, hlog]
  have el : p + ((m.log2 + k : Nat) : Int) - (f.fractionBits : Int) = p + k + (m.log2 : Int) - f.fractionBits := by omega
  rw [el]
  generalize hla : max (p + k + (m.log2 : Int) - f.fractionBits) f.leastPlace = last
  have hle : last ≤ p + k := by omega
  have key : Toward.even.cut neg ((m * 2 ^ k) <<< (p - last).toNat) (last - p).toNat = Toward.even.cut neg (m <<< (p + k - last).toNat) (last - (p + k)).toNat := by
    have hz : (last - (p + k)).toNat = 0 := by omega
    rw [hz]
    have c0 : ∀ x : Nat, Toward.even.cut neg x 0 = x := fun x => by
      unfold Toward.cut
      simp [Nat.mod_one]
    rw [c0, Nat.shiftLeft_eq, Nat.shiftLeft_eq]
    by_cases h : last ≤ p
    · have : (last - p).toNat = 0 := by omega
      rw [this, c0, Nat.mul_assoc, ← Nat.pow_add]
      congr 2; omega
    · have h0 : (p - last).toNat = 0 := by omega
      rw [h0, Nat.pow_zero, Nat.mul_one]
      generalize hd : (last - p).toNat = d
      have hdk : d ≤ k := by omega
      have : (p + k - last).toNat = k - d := by omega
      rw [this]
      unfold Toward.cut
      have hmin : min d ((m * 2 ^ k).log2 + 2) = d := by rw [hlog]; omega
      have hs : m * 2 ^ k = m * 2 ^ (k - d) * 2 ^ d := by rw [Nat.mul_assoc, ← Nat.pow_add, show k - d + d = k by omega]
      have hpd := Nat.two_pow_pos d
      rw [hmin, Nat.shiftLeft_eq, Nat.one_mul, hs]
      show m * 2 ^ (k - d) * 2 ^ d / 2 ^ d + (decide (2 ^ d < 2 * (m * 2 ^ (k - d) * 2 ^ d % 2 ^ d)) || (2 ^ d == 2 * (m * 2 ^ (k - d) * 2 ^ d % 2 ^ d) && _)).toNat = _
      rw [Nat.mul_div_cancel _ hpd, Nat.mul_mod_left, Nat.mul_zero, show decide (2 ^ d < 0) = false from decide_eq_false (by omega), show (2 ^ d == 0) = false by rw [beq_eq_false_iff_ne]; omega]
      rfl
  show f.word neg (min (_ + Toward.even.cut neg ((m * 2 ^ k) <<< (p - last).toNat) (last - p).toNat) f.infRung) = _
  rw [key]
theorem putG_scale {f : Format} {c : Fm} (h : FmOk f c) (neg : Bool) {n k B : Nat} (hn : n ≠ 0) (hl : n.log2 ≤ c.fb) (hB : c.fb ≤ B) (hp : c.lpo ≤ B + k) : putG c neg (n * 2 ^ k) B = putG c neg n (B + k) := by
  have h1 := h.h1
  have h2 := h.h2
  rw [← write_eq h neg (n * 2 ^ k) B hB rfl, ← write_eq h neg n (B + k) (by omega) rfl]
  show f.nearest neg (n * 2 ^ k) _ = f.nearest neg n _
  rw [near_scale f neg n k _ hn (by omega) (by omega)]
  congr 1; omega
def tinyG (c : Fm) (n : Nat) : Bool := cond (Nat.beq n 0) false (Nat.ble (lgG n) c.fb)
theorem tinyG_is {c : Fm} {n : Nat} (h : tinyG c n = true) : n ≠ 0 ∧ n.log2 ≤ c.fb := by
  unfold tinyG at h
  cases hb : Nat.beq n 0
  · rw [hb] at h
    have hn : n ≠ 0 := fun e => by rw [e] at hb; cases hb
    have h : Nat.ble (lgG n) c.fb = true := h
    rw [lgG_eq hn, Nat.ble_eq] at h
    exact ⟨hn, h⟩
  · rw [hb] at h; cases h
/-- a sum; nothing is shifted for a nought's sake -/
def sumZ (c : Fm) (s : Bool) (m P : Nat) (t : Bool) (n Q : Nat) : Nat := force m fun m => force n fun n => force P fun P => force Q fun Q =>
  cond (Nat.beq m 0) (cond (tinyG c n) (putG c t n Q) (sumG c s m P t n Q)) (cond (Nat.beq n 0) (cond (tinyG c m) (putG c s m P) (sumG c s m P t n Q)) (sumG c s m P t n Q))
theorem sumZ_eq {f : Format} {c : Fm} (h : FmOk f c) (s : Bool) (m P : Nat) (t : Bool) (n Q : Nat) (hP : c.fb ≤ P) (hQ : c.fb ≤ Q) (lP : c.lpo ≤ P) (lQ : c.lpo ≤ Q) : sumZ c s m P t n Q = sumG c s m P t n Q := by
  unfold sumZ
  simp only [force_eq]
  have hB : ∀ B, B = cond (Nat.ble P Q) P Q → c.fb ≤ B ∧ B ≤ P ∧ B ≤ Q := fun B e => by
    rw [e]
    by_cases h9 : P ≤ Q
    · rw [ble_t h9]; exact ⟨hP, Nat.le_refl _, h9⟩
    · rw [ble_f h9]; exact ⟨hQ, by show Q ≤ P; omega, Nat.le_refl _⟩
  cases hm : Nat.beq m 0
  · cases hn : Nat.beq n 0
    · rfl
    · have hn0 := Nat.eq_of_beq_eq_true hn
      cases ht : tinyG c m
      · rfl
      · obtain ⟨m0, hl⟩ := tinyG_is ht
        unfold sumG
        simp only [force_eq]
        generalize hBe : cond (Nat.ble P Q) P Q = B
        obtain ⟨b1, b2, b3⟩ := hB B hBe.symm
        have hp := Nat.two_pow_pos (P - B)
        have hpos : 0 < m * 2 ^ (P - B) := Nat.mul_pos (by omega) hp
        have e : putG c s (m * 2 ^ (P - B)) B = putG c s m P := by
          rw [putG_scale h s m0 hl b1 (by omega)]; congr 1; omega
        show putG c s m P = cond (s == t) (putG c s (m * 2 ^ (P - B) + n * 2 ^ (Q - B)) B) (cond (Nat.beq (m * 2 ^ (P - B)) (n * 2 ^ (Q - B))) (putG c false 0 B) (cond (Nat.blt (n * 2 ^ (Q - B)) (m * 2 ^ (P - B))) (putG c s (m * 2 ^ (P - B) - n * 2 ^ (Q - B)) B) (putG c t (n * 2 ^ (Q - B) - m * 2 ^ (P - B)) B)))
        rw [hn0, Nat.zero_mul, blt_t hpos, Nat.add_zero, Nat.sub_zero, e]
        have hz : Nat.beq (m * 2 ^ (P - B)) 0 = false := by
          cases hb : Nat.beq (m * 2 ^ (P - B)) 0
          · rfl
          · have := Nat.eq_of_beq_eq_true hb; omega
        rw [hz]
        cases s == t <;> rfl
  · have hm0 := Nat.eq_of_beq_eq_true hm
    cases ht : tinyG c n
    · rfl
    · obtain ⟨n0, hl⟩ := tinyG_is ht
      unfold sumG
      simp only [force_eq]
      generalize hBe : cond (Nat.ble P Q) P Q = B
      obtain ⟨b1, b2, b3⟩ := hB B hBe.symm
      have hp := Nat.two_pow_pos (Q - B)
      have hpos : 0 < n * 2 ^ (Q - B) := Nat.mul_pos (by omega) hp
      have e : putG c t (n * 2 ^ (Q - B)) B = putG c t n Q := by
        rw [putG_scale h t n0 hl b1 (by omega)]; congr 1; omega
      show putG c t n Q = cond (s == t) (putG c s (m * 2 ^ (P - B) + n * 2 ^ (Q - B)) B) (cond (Nat.beq (m * 2 ^ (P - B)) (n * 2 ^ (Q - B))) (putG c false 0 B) (cond (Nat.blt (n * 2 ^ (Q - B)) (m * 2 ^ (P - B))) (putG c s (m * 2 ^ (P - B) - n * 2 ^ (Q - B)) B) (putG c t (n * 2 ^ (Q - B) - m * 2 ^ (P - B)) B)))
      rw [hm0, Nat.zero_mul, Nat.zero_add, Nat.sub_zero, blt_f (by omega), e]
      have hz : Nat.beq 0 (n * 2 ^ (Q - B)) = false := by
        cases hb : Nat.beq 0 (n * 2 ^ (Q - B))
        · rfl
        · have := Nat.eq_of_beq_eq_true hb; omega
      rw [hz]
      cases hst : s == t
      · rfl
      · have : s = t := by simpa using hst
        rw [this, e]; rfl
def addG (c : Fm) (x y : Nat) : Nat := sumZ c (negG c x) (magG c x) (plcG c x) (negG c y) (magG c y) (plcG c y)
def subG (c : Fm) (x y : Nat) : Nat := sumZ c (negG c x) (magG c x) (plcG c x) (!negG c y) (magG c y) (plcG c y)
theorem addG_eq {f : Format} {c : Fm} (h : FmOk f c) {x y : Nat} (hx : finG c x = true) (hy : finG c y = true) : f.add x y = some (addG c x y) := by
  obtain ⟨p1, p2⟩ := plcG_bd h hx
  obtain ⟨q1, q2⟩ := plcG_bd h hy
  have h6 := h.h6
  have h7 := h.h7
  unfold Format.add addG
  rw [read_eq h hx, read_eq h hy, sumZ_eq h _ _ _ _ _ _ (by omega) (by omega) p1 q1]
  exact sumG_eq h _ _ _ _ _ _ (by omega) (by omega)
theorem subG_eq {f : Format} {c : Fm} (h : FmOk f c) {x y : Nat} (hx : finG c x = true) (hy : finG c y = true) : f.sub x y = some (subG c x y) := by
  obtain ⟨p1, p2⟩ := plcG_bd h hx
  obtain ⟨q1, q2⟩ := plcG_bd h hy
  have h6 := h.h6
  have h7 := h.h7
  unfold Format.sub subG
  rw [read_eq h hx, read_eq h hy, sumZ_eq h _ _ _ _ _ _ (by omega) (by omega) p1 q1]
  exact sumG_eq h _ _ _ _ _ _ (by omega) (by omega)
/-- a quotient by a magnitude that is not nought -/
def divG (c : Fm) (x y : Nat) : Nat := force (magG c x) fun m => force (magG c y) fun n => force (Nat.sub (Nat.add (Nat.add c.fb 2) (lgG n)) (cond (Nat.beq m 0) 0 (lgG m))) fun more => force (Nat.mul m (Nat.pow 2 more)) fun d =>
  putG c (negG c x ^^ negG c y) (Nat.add (Nat.mul 2 (Nat.div d n)) (cond (Nat.beq (Nat.mod d n) 0) 0 1)) (Nat.sub (Nat.sub (Nat.add (plcG c x) 3000) (plcG c y)) (Nat.succ more))
theorem divG_eq {f : Format} {c : Fm} (h : FmOk f c) {x y : Nat} (hx : finG c x = true) (hy : finG c y = true) (hn : magG c y ≠ 0) (hbig : (magG c y).log2 ≤ 60) : f.div x y = some (divG c x y) := by
  obtain ⟨p1, p2⟩ := plcG_bd h hx
  obtain ⟨q1, q2⟩ := plcG_bd h hy
  have h6 := h.h6
  have h7 := h.h7
  have h10 := h.h10
  unfold Format.div
  rw [read_eq h hx, read_eq h hy, h.h1]
  unfold divG
  simp only [force_eq]
  rw [lgG_eq hn]
  have hm : cond (Nat.beq (magG c x) 0) 0 (lgG (magG c x)) = (magG c x).log2 := by
    rw [beq_is]
    by_cases e : magG c x = 0
    · rw [e]; rfl
    · have : (magG c x == 0) = false := by simp [e]
      rw [this]; exact lgG_eq e
  rw [hm]
  show Option.map f.write (if magG c y = 0 then (if magG c x = 0 then none else some (.infinity (negG c x ^^ negG c y))) else some (.number (negG c x ^^ negG c y) (2 * (magG c x <<< (c.fb + 2 + (magG c y).log2 - (magG c x).log2) / magG c y) + (magG c x <<< (c.fb + 2 + (magG c y).log2 - (magG c x).log2) % magG c y != 0).toNat) ((plcG c x : Int) - 3000 - ((plcG c y : Int) - 3000) - ((c.fb + 2 + (magG c y).log2 - (magG c x).log2 : Nat) : Int) - 1))) = _
  rw [if_neg hn]
  show some (f.write _) = _
  generalize hmo : c.fb + 2 + (magG c y).log2 - (magG c x).log2 = more
  rw [Nat.shiftLeft_eq, write_eq h _ _ (plcG c x + 3000 - plcG c y - (more + 1)) (by omega) (by omega)]
  show some (putG c _ _ _) = some (putG c _ (2 * (magG c x * 2 ^ (c.fb + 2 + (magG c y).log2 - (magG c x).log2) / magG c y) + cond (Nat.beq (magG c x * 2 ^ (c.fb + 2 + (magG c y).log2 - (magG c x).log2) % magG c y) 0) 0 1) (plcG c x + 3000 - plcG c y - (c.fb + 2 + (magG c y).log2 - (magG c x).log2 + 1)))
  rw [hmo, beq_is]
  congr 2
  cases hz : (magG c x * 2 ^ more % magG c y == 0)
  · have : (magG c x * 2 ^ more % magG c y != 0) = true := by unfold bne; rw [hz]; rfl
    rw [this]; rfl
  · have : (magG c x * 2 ^ more % magG c y != 0) = false := by unfold bne; rw [hz]; rfl
    rw [this]; rfl
def c64 : Fm := ⟨52, 1926, 4503599627370496, 9218868437227405312, 9223372036854775808⟩
def c32 : Fm := ⟨23, 2851, 8388608, 2139095040, 2147483648⟩
theorem ok64 : FmOk double c64 := ⟨rfl, rfl, by decide +kernel, by decide +kernel, by decide +kernel, by decide, by decide, by decide, by decide, by decide⟩
theorem ok32 : FmOk single c32 := ⟨rfl, rfl, by decide +kernel, by decide +kernel, by decide +kernel, by decide, by decide, by decide, by decide, by decide⟩
def okDiv (c : Fm) (y : Nat) : Bool := force (magG c y) fun n => cond (Nat.beq n 0) false (Nat.ble (lgG n) 60)
def mulF (f : Format) (c : Fm) (x y : Nat) : Option Nat := cond (finG c x) (cond (finG c y) (force (mulG c x y) some) (f.mul x y)) (f.mul x y)
def addF (f : Format) (c : Fm) (x y : Nat) : Option Nat := cond (finG c x) (cond (finG c y) (force (addG c x y) some) (f.add x y)) (f.add x y)
def subF (f : Format) (c : Fm) (x y : Nat) : Option Nat := cond (finG c x) (cond (finG c y) (force (subG c x y) some) (f.sub x y)) (f.sub x y)
def divF (f : Format) (c : Fm) (x y : Nat) : Option Nat := cond (finG c x) (cond (finG c y) (cond (okDiv c y) (force (divG c x y) some) (f.div x y)) (f.div x y)) (f.div x y)
theorem mulF_eq {f : Format} {c : Fm} (h : FmOk f c) (x y : Nat) : mulF f c x y = f.mul x y := by
  unfold mulF
  cases hx : finG c x
  · rfl
  · cases hy : finG c y
    · rfl
    · show force (mulG c x y) some = _
      rw [force_eq]; exact (mulG_eq h hx hy).symm
theorem addF_eq {f : Format} {c : Fm} (h : FmOk f c) (x y : Nat) : addF f c x y = f.add x y := by
  unfold addF
  cases hx : finG c x
  · rfl
  · cases hy : finG c y
    · rfl
    · show force (addG c x y) some = _
      rw [force_eq]; exact (addG_eq h hx hy).symm
theorem subF_eq {f : Format} {c : Fm} (h : FmOk f c) (x y : Nat) : subF f c x y = f.sub x y := by
  unfold subF
  cases hx : finG c x
  · rfl
  · cases hy : finG c y
    · rfl
    · show force (subG c x y) some = _
      rw [force_eq]; exact (subG_eq h hx hy).symm
theorem divF_eq {f : Format} {c : Fm} (h : FmOk f c) (x y : Nat) : divF f c x y = f.div x y := by
  unfold divF
  cases hx : finG c x
  · rfl
  · cases hy : finG c y
    · rfl
    · cases hd : okDiv c y
      · rfl
      · unfold okDiv at hd
        rw [force_eq, beq_is] at hd
        by_cases e : magG c y = 0
        · rw [e] at hd; cases hd
        · have e2 : (magG c y == 0) = false := by simp [e]
          rw [e2] at hd
          have hd : Nat.ble (lgG (magG c y)) 60 = true := hd
          rw [Nat.ble_eq, lgG_eq e] at hd
          show force (divG c x y) some = _
          rw [force_eq]; exact (divG_eq h hx hy e hd).symm
/-- to another format, and back -/
def toF (c d : Fm) (x : Nat) : Nat := putG d (negG c x) (magG c x) (plcG c x)
theorem toF_eq {f g : Format} {c d : Fm} (h : FmOk f c) (k : FmOk g d) {x : Nat} (hx : finG c x = true) : g.write (f.read x) = toF c d x := by
  obtain ⟨p1, p2⟩ := plcG_bd h hx
  have h6 := h.h6
  have k7 := k.h7
  rw [read_eq h hx, write_eq k _ _ (plcG c x) (by omega) rfl]
  rfl
end Fst
theorem fb_mul64 (x y : Nat) : floatBits .mul .f64 x y = Fst.mulF Ieee.double Fst.c64 x y := (Fst.mulF_eq Fst.ok64 x y).symm
theorem fb_add64 (x y : Nat) : floatBits .add .f64 x y = Fst.addF Ieee.double Fst.c64 x y := (Fst.addF_eq Fst.ok64 x y).symm
theorem fb_sub64 (x y : Nat) : floatBits .sub .f64 x y = Fst.subF Ieee.double Fst.c64 x y := (Fst.subF_eq Fst.ok64 x y).symm
theorem fb_quo64 (x y : Nat) : floatBits .quo .f64 x y = Fst.divF Ieee.double Fst.c64 x y := (Fst.divF_eq Fst.ok64 x y).symm
theorem fb_mul32 (x y : Nat) : floatBits .mul .f32 x y = Fst.mulF Ieee.single Fst.c32 x y := (Fst.mulF_eq Fst.ok32 x y).symm
theorem fb_add32 (x y : Nat) : floatBits .add .f32 x y = Fst.addF Ieee.single Fst.c32 x y := (Fst.addF_eq Fst.ok32 x y).symm
theorem fb_sub32 (x y : Nat) : floatBits .sub .f32 x y = Fst.subF Ieee.single Fst.c32 x y := (Fst.subF_eq Fst.ok32 x y).symm
theorem fb_quo32 (x y : Nat) : floatBits .quo .f32 x y = Fst.divF Ieee.single Fst.c32 x y := (Fst.divF_eq Fst.ok32 x y).symm
/-- a conversion between the two kinds -/
def Fst.toO (s : FloatKind) (c d : Fst.Fm) (k : FloatKind) (x : Nat) : Option Nat := cond (Fst.finG c x) (Fst.force (Fst.toF c d x) fun r => cond (Fst.finG d r) (some r) (floatToFloatBits s x k)) (floatToFloatBits s x k)
theorem toO_eq {s k : FloatKind} {c d : Fst.Fm} (hne : s ≠ k) (h : Fst.FmOk s.format c) (g : Fst.FmOk k.format d) (x : Nat) : floatToFloatBits s x k = Fst.toO s c d k x := by
  unfold Fst.toO
  rw [Fst.force_eq]
  cases hx : Fst.finG c x
  · rfl
  · cases hy : Fst.finG d (Fst.toF c d x)
    · rfl
    · show _ = some (Fst.toF c d x)
      have h1 := Fst.read_eq h hx
      have h2 := Fst.toF_eq h g hx
      have h3 := Fst.read_eq g hy
      unfold floatToFloatBits
      rw [if_neg hne]
      have e1 : s.decode x = s.format.read x := rfl
      rw [e1, h1]
      rw [h1] at h2
      show (if (k.format.read (k.format.write (.number (Fst.negG c x) (Fst.magG c x) ((Fst.plcG c x : Int) - 3000)))).isInfinity = true then none else some (k.format.write (.number (Fst.negG c x) (Fst.magG c x) ((Fst.plcG c x : Int) - 3000)))) = _
      rw [h2, h3]
      rfl
theorem ff_6432 (x : Nat) : floatToFloatBits .f64 x .f32 = Fst.toO .f64 Fst.c64 Fst.c32 .f32 x := toO_eq (s := .f64) (k := .f32) (by decide) Fst.ok64 Fst.ok32 x
theorem ff_3264 (x : Nat) : floatToFloatBits .f32 x .f64 = Fst.toO .f32 Fst.c32 Fst.c64 .f64 x := toO_eq (s := .f32) (k := .f64) (by decide) Fst.ok32 Fst.ok64 x
end Go.Proofs.YtnjipckpkcandaaDoor
