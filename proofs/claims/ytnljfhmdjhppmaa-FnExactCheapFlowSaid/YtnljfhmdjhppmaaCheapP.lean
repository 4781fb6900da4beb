/- The cheapest flow, in plain lists. -/
import Derived.Test.YtnljfhmdjhppmaaFlagBF3
namespace Go.Proofs.Ytnljfhmdjhppmaa
open Go.RowKit

theorem linksOf_mem {i : Nat} {a : ArcR} {y : Int} {l : LinkR} : l ∈ linksOf i a y ↔ (y < a.room ∧ l = ⟨i, false, a.fr, a.to_, a.room - y, a.cost⟩) ∨ (0 < y ∧ l = ⟨i, true, a.to_, a.fr, y, -a.cost⟩) := by
  unfold linksOf
  rw [List.mem_append]
  constructor
  · rintro (h | h)
    · split at h
      · rename_i hlt; simp only [List.mem_singleton] at h; exact .inl ⟨hlt, h⟩
      · simp at h
    · split at h
      · rename_i hlt; simp only [List.mem_singleton] at h; exact .inr ⟨hlt, h⟩
      · simp at h
  · rintro (⟨h, rfl⟩ | ⟨h, rfl⟩)
    · left; rw [if_pos h]; simp
    · right; rw [if_pos h]; simp
theorem linksTo_mem {xs : List ArcR} {fl : List Int} {n : Nat} {l : LinkR} : l ∈ linksTo xs fl n ↔ ∃ i, i < n ∧ l ∈ linksOf i (xs.getD i default) (fl.getD i 0) := by
  unfold linksTo
  rw [List.mem_flatMap]
  constructor
  · rintro ⟨i, h1, h2⟩; exact ⟨i, List.mem_range.1 h1, h2⟩
  · rintro ⟨i, h1, h2⟩; exact ⟨i, List.mem_range.2 h1, h2⟩
theorem push_far (x : Int) : ∀ (ws : List LinkR) (fl : List Int) (i : Nat), (∀ l ∈ ws, l.arc ≠ i) → (pushAll ws x fl).getD i 0 = fl.getD i 0
  | [], _, _, _ => rfl
  | l :: ws, fl, i, h => by
    rw [pushAll, push_far x ws _ i fun l' hl' => h l' (by simp [hl'])]
    have := h l (by simp)
    unfold pushOne
    simp [List.getD, List.getElem?_set_ne this]
theorem push_on (x : Int) : ∀ (ws : List LinkR) (fl : List Int), ws.Pairwise (fun l1 l2 => l1.arc ≠ l2.arc) → ∀ l ∈ ws, l.arc < fl.length → (pushAll ws x fl).getD l.arc 0 = fl.getD l.arc 0 + l.by_ * x
  | [], _, _, l, hl => nomatch hl
  | l0 :: ws, fl, hp, l, hl => by
    intro hlen
    have hp' := List.pairwise_cons.1 hp
    rw [pushAll]
    rcases List.mem_cons.1 hl with e | e
    · subst e
      rw [push_far x ws _ _ (fun l' hl' => (hp'.1 l' hl').symm)]
      unfold pushOne
      rw [getD_set' _ _ _ _ hlen, if_pos rfl]
    · rw [push_on x ws _ hp'.2 l e (by rw [pushOne_len]; exact hlen)]
      have := hp'.1 l e
      unfold pushOne
      have e2 : (fl.set l0.arc (fl.getD l0.arc 0 + l0.by_ * x)).getD l.arc 0 = fl.getD l.arc 0 := by simp [List.getD, List.getElem?_set_ne this]
      rw [e2]
/-- the left over arcs behind a flow along a way -/
theorem push_links {xs : List ArcR} {fl : List Int} {n : Nat} (hlen : fl.length = n) {ws : List LinkR} (hp : ws.Pairwise (fun l1 l2 => l1.arc ≠ l2.arc)) (hw : ∀ l ∈ ws, l ∈ linksTo xs fl n) {x : Int} (hx : 0 ≤ x) :
    ∀ l' ∈ linksTo xs (pushAll ws x fl) n, (∃ l ∈ linksTo xs fl n, l'.fr = l.fr ∧ l'.to_ = l.to_ ∧ l'.cost = l.cost) ∨ (∃ l ∈ ws, l'.fr = l.to_ ∧ l'.to_ = l.fr ∧ l'.cost = -l.cost) := by
  intro l' hl'
  obtain ⟨i, hi, hm⟩ := linksTo_mem.1 hl'
  by_cases hex : ∃ l ∈ ws, l.arc = i
  · obtain ⟨l, hl, rfl⟩ := hex
    have hon := push_on x ws fl hp l hl (by omega)
    rw [hon] at hm
    obtain ⟨k, hk, hlm⟩ := linksTo_mem.1 (hw l hl)
    rcases linksOf_mem.1 hlm with ⟨h1, h2⟩ | ⟨h1, h2⟩
    · have ek : l.arc = k := by rw [h2]
      have eb : l.by_ = 1 := by rw [h2]; rfl
      rw [eb, ek] at hm
      rcases linksOf_mem.1 hm with ⟨g1, g2⟩ | ⟨g1, g2⟩
      · exact .inl ⟨l, hw l hl, by rw [g2, h2], by rw [g2, h2], by rw [g2, h2]⟩
      · exact .inr ⟨l, hl, by rw [g2, h2], by rw [g2, h2], by rw [g2, h2]⟩
    · have ek : l.arc = k := by rw [h2]
      have eb : l.by_ = -1 := by rw [h2]; rfl
      rw [eb, ek] at hm
      rcases linksOf_mem.1 hm with ⟨g1, g2⟩ | ⟨g1, g2⟩
      · refine .inr ⟨l, hl, by rw [g2, h2], by rw [g2, h2], ?_⟩
        rw [g2, h2]
        show (xs.getD k default).cost = - -(xs.getD k default).cost
        omega
      · exact .inl ⟨l, hw l hl, by rw [g2, h2], by rw [g2, h2], by rw [g2, h2]⟩
  · have hfar := push_far x ws fl i fun l hl e => hex ⟨l, hl, e⟩
    rw [hfar] at hm
    exact .inl ⟨l', linksTo_mem.2 ⟨i, hi, hm⟩, rfl, rfl, rfl⟩
theorem links_ne {N n : Nat} {xs : List ArcR} {fl : List Int} (hv : validB N xs = true) (hn : n ≤ xs.length) : ∀ k, k < (linksTo xs fl n).length → ((linksTo xs fl n).getD k default).fr ≠ ((linksTo xs fl n).getD k default).to_ := by
  intro k hk
  obtain ⟨_, _, _, hb⟩ := valid_bd hv
  obtain ⟨i, hi, hm⟩ := linksTo_mem.1 (getDL_mem (d := default) hk)
  have hne := (hb i (by omega)).2.2.1
  rcases linksOf_mem.1 hm with ⟨_, h2⟩ | ⟨_, h2⟩ <;> rw [h2]
  · exact hne
  · exact fun e => hne e.symm

/-- the state of a source's rounds -/
def bfS (xs : List ArcR) (fl : List Int) (n N F : Nat) : LeastS := leastR (linksTo xs fl n) (srcS N F) (N - 1)
structure CheapOk (xs : List ArcR) (N F t n : Nat) (fl : List Int) (a : Int) : Prop extends FlowOk xs N F t n fl a where
  fits : ∃ π, Fits (linksTo xs fl n) π
theorem cheap_step {xs : List ArcR} {N F t n : Nat} {fl : List Int} {a : Int} (hv : validB N xs = true) (hn : xs.length = n) (hF : F < N) (ht : t < N) (hne : t ≠ F) (h : CheapOk xs N F t n fl a) (hk : (bfS xs fl n N F).k.getD t false = true) :
    ∃ ws, wayB (linksTo xs fl n) (bfS xs fl n N F).b F N t = ws ∧ Path (linksTo xs fl n) (bfS xs fl n N F).b N F ws t ∧ (∃ l ws', ws = l :: ws') ∧ (∀ l ∈ ws, 1 ≤ l.room ∧ l.room ≤ 1000000) ∧
      ∀ x, 0 ≤ x → (∀ l ∈ ws, x ≤ l.room) → PushOk n x ws fl ∧ CheapOk xs N F t n (pushAll ws x fl) (a + x) := by
  subst hn
  obtain ⟨π, hπ⟩ := h.fits
  have hls := linksTo_ok (nodes := N) fl rfl hv xs.length (Nat.le_refl _)
  have hlne := links_ne (fl := fl) hv (Nat.le_refl xs.length)
  have hfl := fl_r hls hlne hπ hF (N - 1)
  have hset := settled hls hlne hπ hF
  obtain ⟨p, hb⟩ := back_way hls hlne hπ hF hfl ht hk
  have hP := back_path hls hfl p t hb
  have hp0 : 0 < p := by
    rcases Nat.eq_zero_or_pos p with e | e
    · subst e
      exact absurd hb.end_ hne
    · exact e
  obtain ⟨_, _, _, hbd⟩ := valid_bd hv
  have hrm : ∀ k, k < xs.length → 0 ≤ (xs.getD k default).room ∧ (xs.getD k default).room ≤ 1000000 := fun k hk => (hbd k hk).2.2.2.1
  generalize hws : wsR (linksTo xs fl xs.length) (tR (linksTo xs fl xs.length) (srcS N F) N (N - 1)) p t = ws at *
  have hmem : ∀ l ∈ ws, l ∈ linksTo xs fl xs.length := fun l hl => by
    rw [← hws] at hl
    obtain ⟨_, _, _, h4, _⟩ := back_mem hfl hb hl
    exact h4
  have his : ∀ l ∈ ws, LinkIs xs fl xs.length l := fun l hl => linksTo_is xs fl xs.length l (hmem l hl)
  have hlen : ws.length = p := by rw [← hws, wsR_len]
  have hpw : ws.Pairwise (fun l1 l2 => l1.arc ≠ l2.arc) := by
    rw [List.pairwise_iff_getElem]
    intro i k hi hk2 hik e
    have ei : ws[i] = lk (linksTo xs fl xs.length) (tR (linksTo xs fl xs.length) (srcS N F) N (N - 1)) (pF (linksTo xs fl xs.length) (tR (linksTo xs fl xs.length) (srcS N F) N (N - 1)) t i) := by
      have := wsR_at (linksTo xs fl xs.length) (tR (linksTo xs fl xs.length) (srcS N F) N (N - 1)) p t i (by omega)
      rw [hws] at this
      simpa [List.getD, List.getElem?_eq_getElem hi] using this
    have ek : ws[k] = lk (linksTo xs fl xs.length) (tR (linksTo xs fl xs.length) (srcS N F) N (N - 1)) (pF (linksTo xs fl xs.length) (tR (linksTo xs fl xs.length) (srcS N F) N (N - 1)) t k) := by
      have := wsR_at (linksTo xs fl xs.length) (tR (linksTo xs fl xs.length) (srcS N F) N (N - 1)) p t k (by omega)
      rw [hws] at this
      simpa [List.getD, List.getElem?_eq_getElem hk2] using this
    obtain ⟨i1, i2⟩ := hb.in_ i (by omega)
    obtain ⟨k1, k2⟩ := hb.in_ k (by omega)
    obtain ⟨wi1, wi2, _⟩ := hfl.W _ i1 i2
    obtain ⟨wk1, wk2, _⟩ := hfl.W _ k1 k2
    have fi : (ws[i]).fr.toNat = pF (linksTo xs fl xs.length) (tR (linksTo xs fl xs.length) (srcS N F) N (N - 1)) t (i + 1) := by rw [ei]; rfl
    have fk : (ws[k]).fr.toNat = pF (linksTo xs fl xs.length) (tR (linksTo xs fl xs.length) (srcS N F) N (N - 1)) t (k + 1) := by rw [ek]; rfl
    rw [← ei] at wi2
    rw [← ek] at wk2
    have d1 := back_differ hls hlne hπ hfl hb hik (by omega)
    have d2 := back_differ hls hlne hπ hfl hb (show i < k + 1 by omega) (by omega)
    obtain ⟨_, _, a⟩ := his _ (List.getElem_mem hi)
    obtain ⟨_, _, b⟩ := his _ (List.getElem_mem hk2)
    rw [e] at a
    rcases a with ⟨_, a1, a2, _⟩ | ⟨_, a1, a2, _⟩ <;> rcases b with ⟨_, b1, b2, _⟩ | ⟨_, b1, b2, _⟩
    · exact d1 (by omega)
    · exact d2 (by rw [← fk]; omega)
    · exact d2 (by rw [← fk]; omega)
    · exact d1 (by omega)
  refine ⟨ws, wayB_path N ws t hP (by rw [hlen]; exact hb.le), hP, ?_, fun l hl => ?_, fun x hx hx2 => ?_⟩
  · cases hws2 : ws with
    | nil => rw [hws2] at hlen; simp at hlen; omega
    | cons l ws' => exact ⟨l, ws', rfl⟩
  · obtain ⟨a1, a2, a3⟩ := his l hl
    have := hrm l.arc a1
    have := h.inn.2 l.arc a1
    rcases a3 with ⟨_, _, _, e⟩ | ⟨_, _, _, e⟩ <;> omega
  · obtain ⟨p1, p2, p3⟩ := push_inv hrm x hx ws fl h.inn (fun l hl => ⟨his l hl, rfl, hx2 l hl⟩) hpw
    have hto : ∀ v : Nat, v < N → ∀ k : Nat, (bfS xs fl xs.length N F).b.getD v 0 = k → True := fun _ _ _ _ => trivial
    have hnet : ∀ node : Int, netX x node ws = (if (F : Int) = node then x else 0) - (if (t : Int) = node then x else 0) := by
      intro node
      have key : ∀ q v, BackOk (linksTo xs fl xs.length) N F (tR (linksTo xs fl xs.length) (srcS N F) N (N - 1)) v q → netX x node (wsR (linksTo xs fl xs.length) (tR (linksTo xs fl xs.length) (srcS N F) N (N - 1)) q v) = (if (F : Int) = node then x else 0) - (if (v : Int) = node then x else 0) := by
        intro q
        induction q with
        | zero =>
          intro v hb
          have := hb.end_
          rw [pF] at this
          rw [wsR, netX, this]; omega
        | succ q ih =>
          intro v hb
          obtain ⟨i1, i2⟩ := hb.in_ 0 (by omega)
          obtain ⟨w1, w2, _⟩ := hfl.W v i1 i2
          have hfr := (hls _ w1).1
          have ih := ih (lk (linksTo xs fl xs.length) (tR (linksTo xs fl xs.length) (srcS N F) N (N - 1)) v).fr.toNat ⟨by rw [← pF_shift]; exact hb.end_, by have := hb.le; omega, fun i hi => by rw [← pF_shift]; exact hb.off (i + 1) (by omega), fun i hi => by rw [← pF_shift]; exact hb.in_ (i + 1) (by omega)⟩
          have e : (((lk (linksTo xs fl xs.length) (tR (linksTo xs fl xs.length) (srcS N F) N (N - 1)) v).fr.toNat : Nat) : Int) = (lk (linksTo xs fl xs.length) (tR (linksTo xs fl xs.length) (srcS N F) N (N - 1)) v).fr := by unfold lk; omega
          rw [e] at ih
          rw [wsR, netX, ih, w2]
          omega
      rw [← hws]
      exact key p t hb
    refine ⟨p1, ⟨⟨p2, ?_, by have := h.ge; omega, fun v hvN hvF hvt => ?_⟩, ?_⟩⟩
    · rw [p3, hnet, if_pos rfl, if_neg (by omega), h.amt]; omega
    · rw [p3, hnet, if_neg (by omega), if_neg (by omega), h.bal v hvN hvF hvt]; rfl
    · refine fits_next hls hπ hfl hset hb ?_
      rw [hws]
      exact push_links h.inn.1 hpw hmem hx
/-- a flow is as great as the room of a set that no left over arc leaves -/
theorem closed_cut {xs : List ArcR} {N F t : Nat} {fl : List Int} {a : Int} (hv : validB N xs = true) (hF : F < N) (h : FlowOk xs N F t xs.length fl a) {R : Nat → Bool} (hcl : ∀ l ∈ linksTo xs fl xs.length, R l.fr.toNat = true → R l.to_.toNat = true) (h1 : R F = true) (h2 : R t = false) : a = sumI (roomI xs R) xs.length := by
  have e := cross_eq fl R xs.length (valid_ends hv)
  rw [sum_bal (g := fun v => outTo xs fl (v : Int) xs.length) hF h1 (fun v hvN hvF hr => h.bal v hvN hvF (fun e => by subst e; rw [h2] at hr; cases hr))] at e
  rw [h.amt, e]
  refine sumI_congr _ fun i hi => ?_
  have hfi := h.inn.2 i hi
  unfold crossI roomI
  cases ha : R (xs.getD i default).fr.toNat <;> cases hb : R (xs.getD i default).to_.toNat
  · simp
  · have : fl.getD i 0 = 0 := by
      rcases Int.lt_or_le 0 (fl.getD i 0) with hlt | hge
      · exfalso
        have := hcl _ (linksTo_mem.2 ⟨i, hi, linksOf_mem.2 (.inr ⟨hlt, rfl⟩)⟩) hb
        have this : R (xs.getD i default).fr.toNat = true := this
        rw [ha] at this; cases this
      · omega
    rw [this]; simp
  · have : fl.getD i 0 = (xs.getD i default).room := by
      rcases Int.lt_or_le (fl.getD i 0) (xs.getD i default).room with hlt | hge
      · exfalso
        have := hcl _ (linksTo_mem.2 ⟨i, hi, linksOf_mem.2 (.inl ⟨hlt, rfl⟩)⟩) ha
        have this : R (xs.getD i default).to_.toNat = true := this
        rw [hb] at this; cases this
      · omega
    rw [this]; simp
  · simp
/-- where the target is not reached the flow is a greatest one -/
theorem cheap_stuck {xs : List ArcR} {N F t : Nat} {fl : List Int} {a : Int} (hv : validB N xs = true) (hF : F < N) (h : CheapOk xs N F t xs.length fl a) (hk : (bfS xs fl xs.length N F).k.getD t false = false) : ∃ R : Nat → Bool, R F = true ∧ R t = false ∧ a = sumI (roomI xs R) xs.length := by
  obtain ⟨π, hπ⟩ := h.fits
  have hls := linksTo_ok (nodes := N) fl rfl hv xs.length (Nat.le_refl _)
  have hlne := links_ne (fl := fl) hv (Nat.le_refl xs.length)
  have hfl := fl_r hls hlne hπ hF (N - 1)
  have hset := settled hls hlne hπ hF
  have hcl : ∀ l ∈ linksTo xs fl xs.length, (bfS xs fl xs.length N F).k.getD l.fr.toNat false = true → (bfS xs fl xs.length N F).k.getD l.to_.toNat false = true := by
    intro l hl hfr
    obtain ⟨k, hk, he⟩ := List.mem_iff_getElem.1 hl
    have e4 : (linksTo xs fl xs.length).getD k default = l := by simp [List.getD, List.getElem?_eq_getElem hk, he]
    have h1 := hset k hk
    rw [e4, go_iff] at h1
    cases hto : (bfS xs fl xs.length N F).k.getD l.to_.toNat false
    · exact absurd ⟨hfr, .inl hto⟩ h1
    · rfl
  have hRF : (bfS xs fl xs.length N F).k.getD F false = true := (hfl.known F hF).2 (.inl rfl)
  obtain ⟨R, hR⟩ : ∃ R : Nat → Bool, ∀ v, R v = (bfS xs fl xs.length N F).k.getD v false := ⟨_, fun _ => rfl⟩
  have hcl : ∀ l ∈ linksTo xs fl xs.length, R l.fr.toNat = true → R l.to_.toNat = true := fun l hl hh => by rw [hR] at hh ⊢; exact hcl l hl hh
  have hRF : R F = true := by rw [hR]; exact hRF
  have hRt : R t = false := by rw [hR]; exact hk
  exact ⟨R, hRF, hRt, closed_cut hv hF h.toFlowOk hcl hRF hRt⟩
end Go.Proofs.Ytnljfhmdjhppmaa
