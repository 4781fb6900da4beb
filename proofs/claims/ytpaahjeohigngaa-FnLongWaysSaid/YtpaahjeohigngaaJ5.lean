/- Joined texts: TreePlain, GreatP, TreeP, FlowsQ, Longs, LongFacts. -/
import Derived.Test.YtpaahjeohigngaaZGreat2
import Derived.Test.YtpaahjeohigngaaJ4
import Derived.Test.YtpaahjeohigngaaZCut
import Derived.Test.YtpaahjeohigngaaZLeast
import Derived.Test.YtpaahjeohigngaaZCutOf
import Derived.Test.YtpaahjeohigngaaJ3
namespace Go.Proofs.Ytpaahjeohigngaa
open Go.RowKit

def revA (a : ArcR) : ArcR := ⟨a.to_, a.fr, a.room, a.cost⟩
/-- each arc both ways -/
def bothL (xs : List ArcR) : List ArcR := xs.flatMap fun a => [a, revA a]
theorem bothL_len (xs : List ArcR) : (bothL xs).length = 2 * xs.length := by
  induction xs with
  | nil => rfl
  | cons x xs ih => simp only [bothL, List.flatMap_cons, List.length_append, List.length_cons, List.length_nil] at *; omega
theorem bothL_take {xs : List ArcR} {n k : Nat} (hl : xs.length = n) (hk : k < n) : bothL (xs.take (k + 1)) = bothL (xs.take k) ++ [xs.getD k default, revA (xs.getD k default)] := by
  have e : xs.getD k default = xs[k]'(by omega) := by simp [List.getD, List.getElem?_eq_getElem (show k < xs.length by omega)]
  rw [e, List.take_succ_eq_append_getElem (by omega)]
  unfold bothL
  rw [List.flatMap_append]
  rfl
theorem both_valid {nodes : Int} {xs : List ArcR} (h : validB nodes xs = true) (hl : xs.length ≤ 24) : validB nodes (bothL xs) = true := by
  unfold validB at h ⊢
  simp only [Bool.and_eq_true, decide_eq_true_eq, List.all_eq_true] at h ⊢
  obtain ⟨h1, _, h3⟩ := h
  refine ⟨h1, by rw [bothL_len]; omega, fun a ha => ?_⟩
  simp only [bothL, List.mem_flatMap, List.mem_cons, List.not_mem_nil, or_false] at ha
  obtain ⟨x, hx, rfl | rfl⟩ := ha
  · exact h3 _ hx
  · have := h3 x hx
    simp only [arcOkB, revA, Bool.and_eq_true, decide_eq_true_eq] at this ⊢
    exact ⟨this.2.1, this.1, decide_eq_true fun e => this.2.2.1 e.symm, this.2.2.2⟩
/-- the parents behind the first j of the nodes behind i -/
def parTo (par by_ : List Int) (i : Nat) (p : Int) : Nat → List Int
  | 0 => par
  | j + 1 => if (parTo par by_ i p j).getD (i + 1 + j) 0 = p ∧ by_.getD (i + 1 + j) 0 ≠ -2 then (parTo par by_ i p j).set (i + 1 + j) i else parTo par by_ i p j
def treeBy (xs2 : List ArcR) (N i : Nat) (p : Int) : List Int := reachL (linksTo xs2 (greatL xs2 N i p.toNat).1 xs2.length) N i
/-- parents and weights behind the first i nodes -/
def treeTo (xs2 : List ArcR) (N : Nat) : Nat → List Int × List Int
  | 0 => (List.replicate N 0, List.replicate N 0)
  | i + 1 => (parTo (treeTo xs2 N i).1 (treeBy xs2 N (i + 1) ((treeTo xs2 N i).1.getD (i + 1) 0)) (i + 1) ((treeTo xs2 N i).1.getD (i + 1) 0) (N - 1 - (i + 1)), (treeTo xs2 N i).2.set (i + 1) (greatL xs2 N (i + 1) ((treeTo xs2 N i).1.getD (i + 1) 0).toNat).2)
theorem getD_setT (zs : List Int) (i j : Nat) (x : Int) (h : i < zs.length) : (zs.set i x).getD j 0 = if i = j then x else zs.getD j 0 := by
  simp only [List.getD, List.getElem?_set]
  by_cases e : i = j
  · subst e; simp [h]
  · simp [e]
/-- parents come earlier -/
def ParOk (N : Nat) (par : List Int) : Prop := par.length = N ∧ ∀ k, 1 ≤ k → k < N → 0 ≤ par.getD k 0 ∧ par.getD k 0 < k
theorem parTo_ok {N : Nat} {par by_ : List Int} {i : Nat} {p : Int} (h : ParOk N par) : ∀ j, i + 1 + j ≤ N → ParOk N (parTo par by_ i p j) ∧ ∀ k, k ≤ i → (parTo par by_ i p j).getD k 0 = par.getD k 0
  | 0, _ => ⟨h, fun _ _ => rfl⟩
  | j + 1, hj => by
    obtain ⟨ih, ih2⟩ := parTo_ok (by_ := by_) (i := i) (p := p) h j (by omega)
    rw [parTo]
    split
    · refine ⟨⟨by rw [List.length_set]; exact ih.1, fun k h1 h2 => ?_⟩, fun k hk => ?_⟩
      · rw [getD_setT _ _ k _ (by rw [ih.1]; omega)]
        split
        · omega
        · exact ih.2 k h1 h2
      · rw [getD_setT _ _ k _ (by rw [ih.1]; omega), if_neg (by omega)]
        exact ih2 k hk
    · exact ⟨ih, ih2⟩
theorem treeTo_ok {xs2 : List ArcR} {N : Nat} : ∀ i, i + 1 ≤ N → ParOk N (treeTo xs2 N i).1 ∧ (treeTo xs2 N i).2.length = N
  | 0, _ => by
    refine ⟨⟨by simp [treeTo], fun k h1 h2 => ?_⟩, by simp [treeTo]⟩
    have : (List.replicate N (0 : Int)).getD k 0 = 0 := by simp [List.getD, h2]
    rw [treeTo, this]; omega
  | i + 1, hi => by
    obtain ⟨h1, h2⟩ := treeTo_ok (xs2 := xs2) (N := N) i (by omega)
    rw [treeTo]
    exact ⟨(parTo_ok (i := i + 1) h1 (N - 1 - (i + 1)) (by omega)).1, by rw [List.length_set]; exact h2⟩
theorem hasB_cut {by_ : List Int} {N k : Nat} (hk : k < N) : hasB (cutLTo by_ N) (k : Int) = (by_.getD k 0 != -2) := by
  rw [Bool.eq_iff_iff, hasB_iff]
  unfold cutLTo
  simp only [List.mem_map, List.mem_filter, List.mem_range]
  constructor
  · rintro ⟨v, ⟨_, h2⟩, h3⟩
    have : v = k := by omega
    subst this
    exact h2
  · intro h
    exact ⟨k, ⟨hk, h⟩, rfl⟩
def treeB (nodes : Int) (xs : List ArcR) : Bool := validB nodes xs && decide (xs.length ≤ 24)
def treeV (nodes : Int) (xs : List ArcR) : List Int × List Int := if treeB nodes xs = true then treeTo (bothL xs) nodes.toNat (nodes.toNat - 1) else ([], [])
theorem treeV_no {nodes : Int} {xs : List ArcR} (h : treeB nodes xs = false) : treeV nodes xs = ([], []) := by unfold treeV; rw [if_neg (by rw [h]; decide)]
theorem treeV_yes {nodes : Int} {xs : List ArcR} (h : treeB nodes xs = true) : treeV nodes xs = treeTo (bothL xs) nodes.toNat (nodes.toNat - 1) := by unfold treeV; rw [if_pos h]
theorem treeV_len (nodes : Int) (xs : List ArcR) : (treeV nodes xs).1.length ≤ 1048576 ∧ (treeV nodes xs).2.length ≤ 1048576 := by
  cases h : treeB nodes xs
  · rw [treeV_no h]; simp
  · rw [treeV_yes h]
    unfold treeB at h
    rw [Bool.and_eq_true] at h
    obtain ⟨v0, v1, _⟩ := valid_bd h.1
    obtain ⟨h1, h2⟩ := treeTo_ok (xs2 := bothL xs) (N := nodes.toNat) (nodes.toNat - 1) (by omega)
    rw [h1.1, h2]; omega
end Go.Proofs.Ytpaahjeohigngaa

namespace Go.Proofs.Ytpaahjeohigngaa
open Go.RowKit

/-- a way's links lead to the nodes from which it goes on -/
theorem path_net {ls : List LinkR} {by_ : List Int} {N : Nat} {f : Int} (hto : ∀ v : Nat, v < N → ∀ k : Nat, by_.getD v 0 = k → (ls.getD k default).to_ = (v : Int)) (x node : Int) :
    ∀ (ws : List LinkR) (at_ : Int), Path ls by_ N f ws at_ → netX x node ws = (if f = node then x else 0) - (if at_ = node then x else 0)
  | [], at_, h => by
    rw [Path] at h
    subst h
    rw [netX]; omega
  | l :: ws, at_, h => by
    rw [Path] at h
    obtain ⟨_, ⟨h0, h1⟩, ⟨k, h2, _, h3⟩, h4⟩ := h
    have ht := hto at_.toNat (by omega) k h2
    rw [h3] at ht
    have ih := path_net hto x node ws l.fr h4
    rw [netX, ih, ht, show ((at_.toNat : Nat) : Int) = at_ by omega]
    omega
theorem path_mem {ls : List LinkR} {by_ : List Int} {N : Nat} {f : Int} : ∀ (ws : List LinkR) (at_ : Int), Path ls by_ N f ws at_ → ∀ l ∈ ws, l ∈ ls
  | [], _, _, l, hl => nomatch hl
  | l :: ws, at_, h, l', hl => by
    rw [Path] at h
    obtain ⟨_, _, ⟨k, _, h2, h3⟩, h4⟩ := h
    rcases List.mem_cons.1 hl with e | e
    · subst e; rw [← h3]; exact getDL_mem h2
    · exact path_mem ws l.fr h4 l' e
theorem reach_to {ls : List LinkR} {N f : Nat} (hls : LinksOk ls N) (hf : f < N) (v : Nat) (hv : v < N) (k : Nat) (h : (reachL ls N f).getD v 0 = k) : (ls.getD k default).to_ = (v : Int) := by
  have hok := bfs_ok hls hf N
  obtain ⟨p, hp, hpe⟩ := hok.inq v hv (by show (reachL ls N f).getD v 0 ≠ -2; rw [h]; omega)
  rcases Nat.eq_zero_or_pos p with e | e
  · subst e
    rw [hok.q0] at hpe
    have e2 : f = v := by omega
    subst e2
    have := hok.fby
    have h' : (bfsTo ls N f N).1.getD f 0 = k := h
    omega
  · obtain ⟨k', _, h2, h3, _⟩ := hok.by_ p hp e
    rw [hpe, Int.toNat_natCast] at h2
    have h' : (bfsTo ls N f N).1.getD v 0 = k := h
    have e3 : k' = k := by omega
    subst e3
    rw [h3, hpe]
theorem out_push {xs : List ArcR} {fl0 : List Int} {n : Nat} (x node : Int) : ∀ (ws : List LinkR) (fl : List Int), (∀ l ∈ ws, LinkIs xs fl0 n l) → fl.length = n → outTo xs (pushAll ws x fl) node n = outTo xs fl node n + netX x node ws
  | [], fl, _, _ => by simp [pushAll, netX]
  | l :: ws, fl, h, hl => by
    rw [pushAll, out_push x node ws _ (fun l' hl' => h l' (by simp [hl'])) (by rw [pushOne_len]; exact hl), outTo_one (h l (by simp)) hl, netX]
    omega

/-- what a round of a greatest flow has made -/
structure FlowOk (xs : List ArcR) (N F t n : Nat) (fl : List Int) (a : Int) : Prop where
  inn : FlowIn xs fl n
  amt : a = outTo xs fl F n
  ge : 0 ≤ a
  bal : ∀ v, v < N → v ≠ F → v ≠ t → outTo xs fl (v : Int) n = 0
theorem flow_step {xs : List ArcR} {N F t n : Nat} {fl : List Int} {a : Int} (hv : validB N xs = true) (hn : xs.length = n) (hF : F < N) (ht : t < N) (hne : t ≠ F) (h : FlowOk xs N F t n fl a) (M : Int) (hM : 1 ≤ M)
    (hby : (reachL (linksTo xs fl n) N F).getD t 0 ≠ -2) :
    ∃ ws, wayB (linksTo xs fl n) (reachL (linksTo xs fl n) N F) F N t = ws ∧ FlowOk xs N F t n (pushAll ws (amtOf ws M) fl) (a + amtOf ws M) ∧ 1 ≤ amtOf ws M := by
  obtain ⟨ws, w1, w2, ⟨l0, ws', w3⟩, w4, w5⟩ := aug_ok (nodes := N) rfl hv hn h.inn hF ht hne hby
  have hls := linksTo_ok (nodes := N) fl rfl hv n (by omega)
  obtain ⟨b1, b2⟩ := amtOf_le ws M
  have b3 := amtOf_ge (b := 1) ws M hM (fun l hl => (w4 l hl).1)
  obtain ⟨_, c2, c3, _⟩ := w5 (amtOf ws M) (by omega) b2
  refine ⟨ws, w1, ⟨c2, by rw [c3, h.amt], by have := h.ge; omega, fun v hvN hvF hvt => ?_⟩, b3⟩
  have his : ∀ l ∈ ws, LinkIs xs fl n l := fun l hl => linksTo_is xs fl n l (path_mem ws t w2 l hl)
  rw [out_push _ _ ws fl his h.inn.1, h.bal v hvN hvF hvt, path_net (fun v hv k hk => reach_to hls hF v hv k hk) _ _ ws t w2, if_neg (show ¬ (F : Int) = v by omega), if_neg (show ¬ (t : Int) = v by omega)]
  rfl
/-- a flow along which no more can flow -/
structure MaxOk (xs : List ArcR) (N F t n : Nat) (fl : List Int) (a : Int) : Prop extends FlowOk xs N F t n fl a where
  done : (reachL (linksTo xs fl n) N F).getD t 0 = -2
theorem greatRun_ok {xs : List ArcR} {N F t n : Nat} (hv : validB N xs = true) (hn : xs.length = n) (hF : F < N) (ht : t < N) (hne : t ≠ F) : ∀ (k : Nat) (fl : List Int) (a : Int), FlowOk xs N F t n fl a → 48000001 ≤ (k : Int) + a →
    MaxOk xs N F t n (greatRun xs n N F t k fl a).1 (greatRun xs n N F t k fl a).2
  | 0, fl, a, h, hk => by
    have := out_le hn hv h.inn F
    have := h.amt
    omega
  | k + 1, fl, a, h, hk => by
    by_cases hby : (reachL (linksTo xs fl n) N F).getD t 0 = -2
    · rw [great_end hby]
      exact ⟨h, hby⟩
    · obtain ⟨ws, w1, w2, w3⟩ := flow_step hv hn hF ht hne h 100000000 (by omega) hby
      rw [great_step hby w1]
      exact greatRun_ok hv hn hF ht hne k _ _ w2 (by omega)
theorem great_ok {xs : List ArcR} {N F t : Nat} (hv : validB N xs = true) (hF : F < N) (ht : t < N) (hne : t ≠ F) : MaxOk xs N F t xs.length (greatL xs N F t).1 (greatL xs N F t).2 := by
  unfold greatL
  obtain ⟨_, _, _, hroom⟩ := valid_roomG rfl hv
  exact greatRun_ok hv rfl hF ht hne greatG _ 0 ⟨flow_zero fun k hk => (hroom k hk).1, (out_zero xs _ F _ (Nat.le_refl _)).symm, Int.le_refl _, fun v _ _ _ => out_zero xs _ v _ (Nat.le_refl _)⟩ (by have := greatG_ge; omega)

/-- what is reached by left over arcs -/
def inR (xs : List ArcR) (fl : List Int) (N F : Nat) (v : Nat) : Bool := (reachL (linksTo xs fl xs.length) N F).getD v 0 != -2
theorem links_mem {xs : List ArcR} {fl : List Int} {n i : Nat} (hi : i < n) {l : LinkR} (hl : l ∈ linksOf i (xs.getD i default) (fl.getD i 0)) : l ∈ linksTo xs fl n := by
  unfold linksTo
  exact List.mem_flatMap.2 ⟨i, List.mem_range.2 hi, hl⟩
theorem inR_iff {xs : List ArcR} {fl : List Int} {N F v : Nat} : inR xs fl N F v = true ↔ (reachL (linksTo xs fl xs.length) N F).getD v 0 ≠ -2 := by
  unfold inR; rw [bne_iff_ne]
theorem inR_full {xs : List ArcR} {fl : List Int} {N F i : Nat} (hv : validB N xs = true) (hF : F < N) (hfl : FlowIn xs fl xs.length) (hi : i < xs.length) (h1 : inR xs fl N F (xs.getD i default).fr.toNat = true) (h2 : inR xs fl N F (xs.getD i default).to_.toNat = false) : fl.getD i 0 = (xs.getD i default).room := by
  have hls := linksTo_ok (nodes := N) fl rfl hv xs.length (Nat.le_refl _)
  have hf := hfl.2 i hi
  rcases Int.lt_or_le (fl.getD i 0) (xs.getD i default).room with hlt | hge
  · exfalso
    have hm := links_mem hi (show (⟨i, false, (xs.getD i default).fr, (xs.getD i default).to_, (xs.getD i default).room - fl.getD i 0, (xs.getD i default).cost⟩ : LinkR) ∈ linksOf i (xs.getD i default) (fl.getD i 0) by unfold linksOf; rw [if_pos hlt]; simp)
    have := reach_closed hls hF hm (inR_iff.1 h1)
    rw [← Bool.not_eq_true, inR_iff] at h2
    exact h2 this
  · omega
theorem inR_zero {xs : List ArcR} {fl : List Int} {N F i : Nat} (hv : validB N xs = true) (hF : F < N) (hfl : FlowIn xs fl xs.length) (hi : i < xs.length) (h1 : inR xs fl N F (xs.getD i default).fr.toNat = false) (h2 : inR xs fl N F (xs.getD i default).to_.toNat = true) : fl.getD i 0 = 0 := by
  have hls := linksTo_ok (nodes := N) fl rfl hv xs.length (Nat.le_refl _)
  have hf := hfl.2 i hi
  rcases Int.lt_or_le 0 (fl.getD i 0) with hlt | hge
  · exfalso
    have hm := links_mem hi (show (⟨i, true, (xs.getD i default).to_, (xs.getD i default).fr, fl.getD i 0, -(xs.getD i default).cost⟩ : LinkR) ∈ linksOf i (xs.getD i default) (fl.getD i 0) by unfold linksOf; rw [if_pos hlt]; simp)
    have := reach_closed hls hF hm (inR_iff.1 h2)
    rw [← Bool.not_eq_true, inR_iff] at h1
    exact h1 this
  · omega
/-- the room of a set -/
def roomI (xs : List ArcR) (R : Nat → Bool) (i : Nat) : Int := if R (xs.getD i default).fr.toNat && !R (xs.getD i default).to_.toNat then (xs.getD i default).room else 0
theorem max_cut {xs : List ArcR} {N F t : Nat} {fl : List Int} {a : Int} (hv : validB N xs = true) (hF : F < N) (h : MaxOk xs N F t xs.length fl a) : inR xs fl N F F = true ∧ inR xs fl N F t = false ∧ a = sumI (roomI xs (inR xs fl N F)) xs.length := by
  have hls := linksTo_ok (nodes := N) fl rfl hv xs.length (Nat.le_refl _)
  have h1 : inR xs fl N F F = true := inR_iff.2 (reach_from hls hF)
  have h2 : inR xs fl N F t = false := by unfold inR; rw [h.done]; rfl
  refine ⟨h1, h2, ?_⟩
  have e := cross_eq fl (inR xs fl N F) xs.length (valid_ends hv)
  rw [sum_bal (g := fun v => outTo xs fl (v : Int) xs.length) hF h1 (fun v hvN hvF hr => h.bal v hvN hvF (fun e => by subst e; rw [h2] at hr; cases hr))] at e
  rw [h.amt, e]
  refine sumI_congr _ fun i hi => ?_
  unfold crossI roomI
  cases ha : inR xs fl N F (xs.getD i default).fr.toNat <;> cases hb : inR xs fl N F (xs.getD i default).to_.toNat
  · simp
  · rw [inR_zero hv hF h.inn hi ha hb]; simp
  · rw [inR_full hv hF h.inn hi ha hb]; simp
  · simp
/-- no flow is greater than the room of a set -/
theorem flow_le_cut {xs : List ArcR} {N F t : Nat} {fl : List Int} {a : Int} (hv : validB N xs = true) (hF : F < N) (h : FlowOk xs N F t xs.length fl a) (R : Nat → Bool) (h1 : R F = true) (h2 : R t = false) : a ≤ sumI (roomI xs R) xs.length := by
  have e := cross_eq fl R xs.length (valid_ends hv)
  rw [sum_bal (g := fun v => outTo xs fl (v : Int) xs.length) hF h1 (fun v hvN hvF hr => h.bal v hvN hvF (fun e => by subst e; rw [h2] at hr; cases hr))] at e
  rw [h.amt, e]
  refine sumI_le _ fun i hi => ?_
  have := h.inn.2 i hi
  unfold crossI roomI
  generalize fl.getD i 0 = y at *
  generalize (xs.getD i default).room = r at *
  cases R (xs.getD i default).fr.toNat <;> cases R (xs.getD i default).to_.toNat <;> simp <;> omega

/-- the list of what is reached -/
theorem cutL_mem (by_ : List Int) (N : Nat) (x : Int) : x ∈ cutLTo by_ N ↔ ∃ v : Nat, v < N ∧ by_.getD v 0 ≠ -2 ∧ x = v := by
  unfold cutLTo
  simp only [List.mem_map, List.mem_filter, List.mem_range, bne_iff_ne]
  constructor
  · rintro ⟨v, ⟨h1, h2⟩, rfl⟩; exact ⟨v, h1, h2, rfl⟩
  · rintro ⟨v, h1, h2, rfl⟩; exact ⟨v, ⟨h1, h2⟩, rfl⟩
theorem cutL_has {by_ : List Int} {N : Nat} {x : Int} (h0 : 0 ≤ x) (h1 : x < N) : hasB (cutLTo by_ N) x = (by_.getD x.toNat 0 != -2) := by
  rw [Bool.eq_iff_iff, hasB_iff, cutL_mem, bne_iff_ne]
  constructor
  · rintro ⟨v, _, h3, rfl⟩; exact h3
  · intro h; exact ⟨x.toNat, by omega, h, by omega⟩
theorem cutL_nodes (by_ : List Int) (N : Nat) : nodesB N (cutLTo by_ N) = true := by
  unfold nodesB
  rw [Bool.and_eq_true, List.all_eq_true]
  refine ⟨fun x hx => ?_, ?_⟩
  · obtain ⟨v, h1, _, rfl⟩ := (cutL_mem _ _ _).1 hx
    exact inB_iff.2 ⟨by omega, by omega⟩
  · unfold risesTo
    rw [List.all_eq_true]
    intro i hi
    rw [List.mem_range] at hi
    rw [Bool.or_eq_true, decide_eq_true_iff, decide_eq_true_iff]
    by_cases h0 : i = 0
    · exact .inl h0
    · right
      have hp : (cutLTo by_ N).Pairwise (· < ·) := by
        unfold cutLTo
        rw [List.pairwise_map]
        exact (List.Pairwise.filter _ List.pairwise_lt_range).imp fun h => by omega
      simp only [List.getD, List.getElem?_eq_getElem hi, List.getElem?_eq_getElem (show i - 1 < (cutLTo by_ N).length by omega), Option.getD_some]
      exact List.pairwise_iff_getElem.1 hp (i - 1) i (by omega) hi (by omega)
theorem cut_room {xs : List ArcR} {N F : Nat} {fl : List Int} (hv : validB N xs = true) : ∀ n, n ≤ xs.length → cutTo xs (cutLTo (reachL (linksTo xs fl xs.length) N F) N) n = sumI (roomI xs (inR xs fl N F)) n
  | 0, _ => rfl
  | n + 1, h => by
    obtain ⟨⟨a0, a1⟩, b0, b1⟩ := valid_ends hv n (by omega)
    rw [cutTo_succ, cut_room hv n (by omega), cutL_has a0 a1, cutL_has b0 b1, sumI]; rfl
end Go.Proofs.Ytpaahjeohigngaa

namespace Go.Proofs.Ytpaahjeohigngaa
open Go.RowKit

theorem bothL_get : ∀ (xs : List ArcR) (k : Nat), k < xs.length → (bothL xs).getD (2 * k) default = xs.getD k default ∧ (bothL xs).getD (2 * k + 1) default = revA (xs.getD k default)
  | [], k, h => by simp at h
  | x :: xs, 0, _ => by simp [bothL]
  | x :: xs, k + 1, h => by
    have ih := bothL_get xs k (by simpa using h)
    have e : bothL (x :: xs) = x :: revA x :: bothL xs := by simp [bothL]
    rw [e, show 2 * (k + 1) = (2 * k + 1) + 1 by omega]
    simpa using ih
theorem both_twin (xs : List ArcR) (R : Nat → Bool) : ∀ k, k ≤ xs.length → sumI (roomI (bothL xs) R) (2 * k) = sumI (roomI (bothL xs) (fun v => !R v)) (2 * k)
  | 0, _ => rfl
  | k + 1, h => by
    have ih := both_twin xs R k (by omega)
    obtain ⟨h1, h2⟩ := bothL_get xs k (by omega)
    rw [show 2 * (k + 1) = (2 * k + 1) + 1 by omega, sumI, sumI, sumI, sumI, ih]
    unfold roomI
    rw [h1, h2]
    unfold revA
    generalize xs.getD k default = a
    obtain ⟨af, at_, ar, aq⟩ := a
    show _ + (if R af.toNat && !R at_.toNat then ar else 0) + (if R at_.toNat && !R af.toNat then ar else 0) = _ + (if (!R af.toNat) && !(!R at_.toNat) then ar else 0) + (if (!R at_.toNat) && !(!R af.toNat) then ar else 0)
    cases R af.toNat <;> cases R at_.toNat <;> simp
/-- the least cut of two nodes -/
def lamT (xs : List ArcR) (N u v : Nat) : Int := (greatL xs N u v).2
def cutX (xs : List ArcR) (N u v : Nat) : Nat → Bool := inR xs (greatL xs N u v).1 N u
def roomT (xs : List ArcR) (R : Nat → Bool) : Int := sumI (roomI xs R) xs.length
theorem lam_cut {xs : List ArcR} {N u v : Nat} (hv : validB N xs = true) (hu : u < N) (hw : v < N) (hne : v ≠ u) : cutX xs N u v u = true ∧ cutX xs N u v v = false ∧ lamT xs N u v = roomT xs (cutX xs N u v) := max_cut hv hu (great_ok hv hu hw hne)
theorem lam_le {xs : List ArcR} {N u v : Nat} (hv : validB N (bothL xs) = true) (hu : u < N) (hw : v < N) (R : Nat → Bool) (hR : R u ≠ R v) : lamT (bothL xs) N u v ≤ roomT (bothL xs) R := by
  have hne : v ≠ u := fun e => hR (by rw [e])
  have hok := (great_ok hv hu hw hne).toFlowOk
  cases h : R u
  · have h2 : R v = true := by
      cases h3 : R v
      · exact absurd (h.trans h3.symm) hR
      · rfl
    have := flow_le_cut hv hu hok (fun x => !R x) (by simp [h]) (by simp [h2])
    unfold roomT
    rw [bothL_len, both_twin xs R xs.length (Nat.le_refl _), ← bothL_len]
    exact this
  · have h2 : R v = false := by
      cases h3 : R v
      · rfl
      · exact absurd (h.trans h3.symm) hR
    exact flow_le_cut hv hu hok R h h2

/-- the nodes that led to c when k was parted from them -/
inductive ChainC (X : Nat → Nat → Bool) (p : Nat → Nat) (k : Nat) : Nat → Prop
  | zero : ChainC X p k 0
  | step (c : Nat) : 0 < c → X c k = true → ChainC X p k (p c) → ChainC X p k c
structure TreeOk (N : Nat) (room : (Nat → Bool) → Int) (lam : Nat → Nat → Int) (p : Nat → Nat) (X : Nat → Nat → Bool) : Prop where
  le : ∀ R u v, u < N → v < N → R u ≠ R v → lam u v ≤ room R
  cut : ∀ u v, u < N → v < N → v ≠ u → ∃ R, R u ≠ R v ∧ lam u v = room R
  par : ∀ c, 0 < c → c < N → p c < c
  wt : ∀ c, 0 < c → c < N → X c (p c) = false ∧ lam c (p c) = room (X c)
  own : ∀ c, 0 < c → c < N → X c c = true
  chain : ∀ k, 0 < k → k < N → ChainC X p k (p k)
theorem TreeOk.low {N : Nat} {room : (Nat → Bool) → Int} {lam : Nat → Nat → Int} {p : Nat → Nat} {X : Nat → Nat → Bool} (h : TreeOk N room lam p X) {c : Nat} (h0 : 0 < c) (hc : c < N) : lam c (p c) ≤ lam c 0 ∨ (0 < p c ∧ lam (p c) 0 ≤ lam c 0) := by
  obtain ⟨R, h1, h2⟩ := h.cut c 0 hc (by omega) (by omega)
  have hp := h.par c h0 hc
  by_cases e : R c = R (p c)
  · right
    have hpos : 0 < p c := by
      rcases Nat.eq_zero_or_pos (p c) with e0 | e0
      · rw [e0] at e; exact absurd e h1
      · exact e0
    exact ⟨hpos, by rw [h2]; exact h.le R _ _ (by omega) (by omega) (fun e2 => h1 (e.trans e2))⟩
  · left
    rw [h2]
    exact h.le R _ _ hc (by omega) e
theorem TreeOk.up {N : Nat} {room : (Nat → Bool) → Int} {lam : Nat → Nat → Int} {p : Nat → Nat} {X : Nat → Nat → Bool} (h : TreeOk N room lam p X) {k : Nat} (h0 : 0 < k) (hk : k < N) {c : Nat} (hch : ChainC X p k c) : 0 < c → c < N → lam k 0 ≤ lam c (p c) ∧ lam k 0 ≤ lam c 0 := by
  induction hch with
  | zero => intro h1; omega
  | step c hc0 hX _ ih =>
    intro _ hcN
    have hp := h.par c hc0 hcN
    obtain ⟨w1, w2⟩ := h.wt c hc0 hcN
    have hw : lam k 0 ≤ lam c (p c) := by
      cases e : X c 0
      · rw [w2]
        exact h.le (X c) k 0 hk (by omega) (by rw [hX, e]; decide)
      · have hpos : 0 < p c := by
          rcases Nat.eq_zero_or_pos (p c) with e0 | e0
          · rw [e0, e] at w1; cases w1
          · exact e0
        have h1 := (ih hpos (by omega)).2
        have h2 := h.le (X c) (p c) 0 (by omega) (by omega) (by rw [w1, e]; decide)
        rw [w2]
        omega
    refine ⟨hw, ?_⟩
    rcases h.low hc0 hcN with h1 | ⟨h1, h2⟩
    · omega
    · have := (ih h1 (by omega)).2
      omega
/-- the least weight on the way to the root -/
def minC (p : Nat → Nat) (w : Nat → Int) : Nat → Nat → Int → Int
  | 0, _, l => l
  | f + 1, v, l => if v = 0 then l else minC p w f (p v) (min l (w v))
theorem minC_zero {p : Nat → Nat} {w : Nat → Int} : ∀ f l, minC p w f 0 l = l
  | 0, _ => rfl
  | f + 1, l => by rw [minC, if_pos rfl]
theorem TreeOk.least {N : Nat} {room : (Nat → Bool) → Int} {lam : Nat → Nat → Int} {p : Nat → Nat} {X : Nat → Nat → Bool} (h : TreeOk N room lam p X) : ∀ (f k : Nat) (l : Int), 0 < k → k < N → k ≤ f → minC p (fun c => lam c (p c)) f k l = min l (lam k 0)
  | 0, k, l, h0, hk, hf => by omega
  | f + 1, k, l, h0, hk, hf => by
    have hp := h.par k h0 hk
    have hch := h.chain k h0 hk
    have hself := h.up h0 hk (ChainC.step k h0 (h.own k h0 hk) hch) h0 hk
    rw [minC, if_neg (by omega)]
    rcases Nat.eq_zero_or_pos (p k) with e | e
    · rw [e, minC_zero]
    · rw [TreeOk.least h f (p k) _ e (by omega) (by omega)]
      have h3 := (h.up h0 hk hch e (by omega)).2
      rcases h.low h0 hk with h1 | ⟨h1, h2⟩ <;> omega

theorem parTo_get {N : Nat} {par by_ : List Int} {i : Nat} {p : Int} (hl : par.length = N) : ∀ j, i + 1 + j ≤ N → (parTo par by_ i p j).length = N ∧ ∀ k, k < N → (parTo par by_ i p j).getD k 0 = if i < k ∧ k < i + 1 + j ∧ par.getD k 0 = p ∧ by_.getD k 0 ≠ -2 then (i : Int) else par.getD k 0
  | 0, _ => ⟨hl, fun k _ => by rw [if_neg (by omega)]; rfl⟩
  | j + 1, hj => by
    obtain ⟨ih1, ih2⟩ := parTo_get (by_ := by_) (i := i) (p := p) hl j (by omega)
    have hat := ih2 (i + 1 + j) (by omega)
    rw [if_neg (by omega)] at hat
    rw [parTo, hat]
    by_cases hc : par.getD (i + 1 + j) 0 = p ∧ by_.getD (i + 1 + j) 0 ≠ -2
    · rw [if_pos hc]
      refine ⟨by rw [List.length_set]; exact ih1, fun k hk => ?_⟩
      rw [getD_setT _ _ k _ (by rw [ih1]; omega)]
      by_cases e : i + 1 + j = k
      · subst e
        rw [if_pos rfl, if_pos ⟨by omega, by omega, hc⟩]
      · rw [if_neg e, ih2 k hk]
        by_cases h2 : i < k ∧ k < i + 1 + j ∧ par.getD k 0 = p ∧ by_.getD k 0 ≠ -2
        · rw [if_pos h2, if_pos ⟨h2.1, by omega, h2.2.2⟩]
        · rw [if_neg h2, if_neg (fun h3 => h2 ⟨h3.1, by omega, h3.2.2⟩)]
    · rw [if_neg hc]
      refine ⟨ih1, fun k hk => ?_⟩
      rw [ih2 k hk]
      by_cases h2 : i < k ∧ k < i + 1 + j ∧ par.getD k 0 = p ∧ by_.getD k 0 ≠ -2
      · rw [if_pos h2, if_pos ⟨h2.1, by omega, h2.2.2⟩]
      · rw [if_neg h2, if_neg (fun h3 => h2 ⟨h3.1, by
          have : k ≠ i + 1 + j := fun e => by subst e; exact hc h3.2.2
          omega, h3.2.2⟩)]
/-- parents and weights at the end -/
def parF (xs2 : List ArcR) (N c : Nat) : Nat := ((treeTo xs2 N (N - 1)).1.getD c 0).toNat
theorem tree_stays {xs2 : List ArcR} {N : Nat} {i : Nat} : ∀ d, i + d + 1 ≤ N → ∀ k, k ≤ i + 1 → k < N → (treeTo xs2 N (i + d)).1.getD k 0 = (treeTo xs2 N i).1.getD k 0
  | 0, _, _, _, _ => rfl
  | d + 1, hd, k, hk, hkN => by
    have ih := tree_stays (xs2 := xs2) (i := i) d (by omega) k hk hkN
    have hok := (treeTo_ok (xs2 := xs2) (N := N) (i + d) (by omega)).1
    rw [← Nat.add_assoc, treeTo, (parTo_get hok.1 (N - 1 - (i + d + 1)) (by omega)).2 k hkN, if_neg (by omega), ih]
theorem tree_par {xs2 : List ArcR} {N i c : Nat} (hi : i + 1 ≤ N) (hc : c ≤ i + 1) (hcN : c < N) : (treeTo xs2 N i).1.getD c 0 = (treeTo xs2 N (N - 1)).1.getD c 0 := by
  have := tree_stays (xs2 := xs2) (N := N) (i := i) (N - 1 - i) (by omega) c hc hcN
  rw [show i + (N - 1 - i) = N - 1 by omega] at this
  exact this.symm
theorem tree_wt {xs2 : List ArcR} {N : Nat} : ∀ i, i + 1 ≤ N → ∀ c, 0 < c → c ≤ i → (treeTo xs2 N i).2.getD c 0 = lamT xs2 N c (parF xs2 N c)
  | 0, _, c, h0, hc => by omega
  | i + 1, hi, c, h0, hc => by
    have hl := (treeTo_ok (xs2 := xs2) (N := N) i (by omega)).2
    rw [treeTo]
    show ((treeTo xs2 N i).2.set (i + 1) _).getD c 0 = _
    rw [getD_setT _ _ c _ (by rw [hl]; omega)]
    by_cases e : i + 1 = c
    · subst e
      rw [if_pos rfl, tree_par (by omega) (Nat.le_refl _) (by omega)]; rfl
    · rw [if_neg e]
      exact tree_wt i (by omega) c h0 (by omega)
theorem tree_chain {xs2 : List ArcR} {N : Nat} : ∀ i, i + 1 ≤ N → ∀ k, i < k → k < N → ∃ q : Nat, (treeTo xs2 N i).1.getD k 0 = (q : Int) ∧ q ≤ i ∧ ChainC (fun c => cutX xs2 N c (parF xs2 N c)) (parF xs2 N) k q
  | 0, _, k, _, hk => ⟨0, by simp [treeTo, List.getD, hk], Nat.le_refl _, ChainC.zero⟩
  | i + 1, hi, k, hik, hk => by
    obtain ⟨q, h1, h2, h3⟩ := tree_chain (xs2 := xs2) (N := N) i (by omega) k (by omega) hk
    have hok := (treeTo_ok (xs2 := xs2) (N := N) i (by omega)).1
    have hp := tree_par (xs2 := xs2) (N := N) (i := i) (c := i + 1) (by omega) (Nat.le_refl _) (by omega)
    rw [treeTo]
    show ∃ q : Nat, (parTo _ _ _ _ _).getD k 0 = (q : Int) ∧ _
    rw [(parTo_get hok.1 (N - 1 - (i + 1)) (by omega)).2 k hk]
    by_cases hc : i + 1 < k ∧ k < i + 1 + 1 + (N - 1 - (i + 1)) ∧ (treeTo xs2 N i).1.getD k 0 = (treeTo xs2 N i).1.getD (i + 1) 0 ∧ (treeBy xs2 N (i + 1) ((treeTo xs2 N i).1.getD (i + 1) 0)).getD k 0 ≠ -2
    · rw [if_pos hc]
      obtain ⟨_, _, c1, c2⟩ := hc
      have hq : parF xs2 N (i + 1) = q := by
        unfold parF
        rw [← hp, ← c1, h1, Int.toNat_natCast]
      refine ⟨i + 1, rfl, Nat.le_refl _, ChainC.step _ (by omega) ?_ (by rw [hq]; exact h3)⟩
      show inR _ _ _ _ _ = true
      rw [inR_iff]
      have e : ((treeTo xs2 N i).1.getD (i + 1) 0).toNat = parF xs2 N (i + 1) := by rw [hp]; rfl
      unfold treeBy at c2
      rw [e] at c2
      exact c2
    · rw [if_neg hc]
      exact ⟨q, h1, by omega, h3⟩
theorem tree_ok2 {xs : List ArcR} {N : Nat} (hv : validB N (bothL xs) = true) (hN : 2 ≤ N) : TreeOk N (roomT (bothL xs)) (lamT (bothL xs) N) (parF (bothL xs) N) (fun c => cutX (bothL xs) N c (parF (bothL xs) N c)) := by
  have hok := (treeTo_ok (xs2 := bothL xs) (N := N) (N - 1) (by omega)).1
  have hpar : ∀ c, 0 < c → c < N → parF (bothL xs) N c < c := by
    intro c h0 hc
    have := hok.2 c (by omega) hc
    unfold parF; omega
  refine ⟨fun R u v hu hv2 hR => lam_le hv hu hv2 R hR, fun u v hu hv2 hne => ?_, hpar, fun c h0 hc => ?_, fun c h0 hc => ?_, fun k h0 hk => ?_⟩
  · obtain ⟨h1, h2, h3⟩ := lam_cut hv hu hv2 hne
    exact ⟨_, by rw [h1, h2]; decide, h3⟩
  · have := hpar c h0 hc
    obtain ⟨h1, h2, h3⟩ := lam_cut hv hc (show parF (bothL xs) N c < N by omega) (by omega)
    exact ⟨h2, h3⟩
  · have := hpar c h0 hc
    exact (lam_cut hv hc (show parF (bothL xs) N c < N by omega) (by omega)).1
  · obtain ⟨q, h1, h2, h3⟩ := tree_chain (xs2 := bothL xs) (N := N) (k - 1) (by omega) k (by omega) hk
    have hp := tree_par (xs2 := bothL xs) (N := N) (i := k - 1) (c := k) (by omega) (by omega) hk
    have : parF (bothL xs) N k = q := by
      unfold parF
      rw [← hp, h1, Int.toNat_natCast]
    rw [this]; exact h3
theorem lam_twin {xs : List ArcR} {N u v : Nat} (hv : validB N (bothL xs) = true) (hu : u < N) (hw : v < N) (hne : v ≠ u) : lamT (bothL xs) N u v = lamT (bothL xs) N v u := by
  obtain ⟨a1, a2, a3⟩ := lam_cut hv hu hw hne
  obtain ⟨b1, b2, b3⟩ := lam_cut hv hw hu (fun e => hne e.symm)
  have h1 := lam_le hv hu hw _ (show cutX (bothL xs) N v u u ≠ cutX (bothL xs) N v u v by rw [b1, b2]; decide)
  have h2 := lam_le hv hw hu _ (show cutX (bothL xs) N u v v ≠ cutX (bothL xs) N u v u by rw [a1, a2]; decide)
  omega
end Go.Proofs.Ytpaahjeohigngaa

namespace Go.Proofs.Ytpaahjeohigngaa
open Go.RowKit

theorem ends_yes {N t : Nat} {xs : List ArcR} (hv : validB N xs = true) (ht1 : 1 ≤ t) (ht : t < N) : endsB N xs 0 (t : Int) = true := by
  simp only [endsB, Bool.and_eq_true, decide_eq_true_eq]
  exact ⟨hv, inB_iff.2 ⟨by omega, by omega⟩, inB_iff.2 ⟨by omega, by omega⟩, by omega⟩
theorem great_at {N t : Nat} {xs : List ArcR} (hv : validB N xs = true) (ht1 : 1 ≤ t) (ht : t < N) : greatP N xs 0 (t : Int) = greatL xs N 0 t := by
  rw [greatP_yes (ends_yes hv ht1 ht), Int.toNat_natCast, Int.toNat_natCast]; rfl
theorem flowIn_flowB {N : Nat} {xs : List ArcR} {fl : List Int} (hv : validB N xs = true) (h : FlowIn xs fl xs.length) : flowB N xs fl = true := by
  rw [flowB_yes hv h.1]
  unfold flowOkTo
  rw [List.all_eq_true]
  intro i hi
  rw [List.mem_range] at hi
  have := h.2 i hi
  exact inB_iff.2 this
theorem flowIn_at {N : Nat} {xs : List ArcR} {fl : List Int} (hv : validB N xs = true) (hN : 1 ≤ N) (h : FlowIn xs fl xs.length) : flowAB N xs fl 0 = true := by
  rw [flowAB, flowIn_flowB hv h, Bool.true_and]
  exact inB_iff.2 ⟨by omega, by omega⟩
theorem flow_is {N t : Nat} {xs : List ArcR} {fl : List Int} {a : Int} (hv : validB N xs = true) (ht1 : 1 ≤ t) (ht : t < N) (h : FlowOk xs N 0 t xs.length fl a) : isFlowB N xs fl 0 (t : Int) = true := by
  rw [isFlowB_yes (flowIn_flowB hv h.inn) (inB_iff.2 ⟨by omega, by omega⟩) (inB_iff.2 ⟨by omega, by omega⟩) (by omega), Int.toNat_natCast]
  unfold balTo
  rw [List.all_eq_true]
  intro v hv2
  rw [List.mem_range] at hv2
  simp only [Bool.or_eq_true, decide_eq_true_eq]
  by_cases h0 : v = 0
  · exact .inl (by omega)
  · by_cases h1 : v = t
    · exact .inr (.inl (by omega))
    · exact .inr (.inr (h.bal v hv2 h0 h1))
end Go.Proofs.Ytpaahjeohigngaa

namespace Go.Proofs.Ytpaahjeohigngaa
open Go.RowKit

def costsTo (xs : List ArcR) (k : Nat) : Bool := (List.range k).all fun i => decide (0 ≤ (xs.getD i default).cost)
theorem costsTo_succ (xs : List ArcR) (k : Nat) : costsTo xs (k + 1) = (costsTo xs k && decide (0 ≤ (xs.getD k default).cost)) := by
  unfold costsTo
  rw [List.range_succ, List.all_append]; simp
theorem costsTo_stop {xs : List ArcR} {k : Nat} (h : ¬ 0 ≤ (xs.getD k default).cost) : ∀ d, costsTo xs (k + 1 + d) = false
  | 0 => by rw [Nat.add_zero, costsTo_succ, decide_eq_false h, Bool.and_false]
  | d + 1 => by rw [← Nat.add_assoc, costsTo_succ, costsTo_stop h d, Bool.false_and]
theorem costsTo_at {xs : List ArcR} {n : Nat} (h : costsTo xs n = true) {k : Nat} (hk : k < n) : 0 ≤ (xs.getD k default).cost := by
  unfold costsTo at h
  rw [List.all_eq_true] at h
  exact of_decide_eq_true (h k (List.mem_range.2 hk))
def longsB (nodes : Int) (xs : List ArcR) (f : Int) : Bool := (validB nodes xs && inB f 0 (nodes - 1)) && costsTo xs xs.length
def longsV (nodes : Int) (xs : List ArcR) (f : Int) : List Int := if longsB nodes xs f = true then roundsL xs nodes.toNat f.toNat (nodes.toNat - 1) else []
theorem longsV_no {nodes : Int} {xs : List ArcR} {f : Int} (h : longsB nodes xs f = false) : longsV nodes xs f = [] := by unfold longsV; rw [if_neg (by rw [h]; decide)]
theorem longsV_yes {nodes : Int} {xs : List ArcR} {f : Int} (h : longsB nodes xs f = true) : longsV nodes xs f = roundsL xs nodes.toNat f.toNat (nodes.toNat - 1) := by unfold longsV; rw [if_pos h]
theorem relaxTo_len (xs : List ArcR) (D : List Int) : ∀ k, (relaxTo xs D k).length = D.length
  | 0 => rfl
  | k + 1 => by
    rw [relaxTo]
    split
    · rw [List.length_set, relaxTo_len xs D k]
    · exact relaxTo_len xs D k
theorem roundsL_len (xs : List ArcR) (N f : Nat) : ∀ r, (roundsL xs N f r).length = N
  | 0 => by simp [roundsL]
  | r + 1 => by rw [roundsL, relaxTo_len, roundsL_len xs N f r]
theorem longsV_len (nodes : Int) (xs : List ArcR) (f : Int) : (longsV nodes xs f).length ≤ 1048576 := by
  cases h : longsB nodes xs f
  · rw [longsV_no h]; simp
  · rw [longsV_yes h, roundsL_len]
    unfold longsB at h
    rw [Bool.and_eq_true, Bool.and_eq_true] at h
    have := (valid_bd h.1.1).2.1
    omega
theorem longs_hyps {xs : List ArcR} {N n : Nat} (hn : xs.length = n) (hv : validB N xs = true) (hc : costsTo xs n = true) : (∀ i, i < xs.length → 0 ≤ (xs.getD i default).cost) ∧ (∀ i, i < xs.length → (0 ≤ (xs.getD i default).fr ∧ (xs.getD i default).fr < N) ∧ (0 ≤ (xs.getD i default).to_ ∧ (xs.getD i default).to_ < N)) ∧ LinksOk (longLs xs) N ∧ LinksC (longLs xs) := by
  subst hn
  obtain ⟨_, _, _, hb⟩ := valid_bd hv
  refine ⟨fun i hi => costsTo_at hc hi, fun i hi => ⟨(hb i hi).1, (hb i hi).2.1⟩, fun k hk => ?_, fun k hk => ?_⟩
  · have hk' : k < xs.length := by simpa [longLs] using hk
    rw [longLs_get hk']
    exact ⟨(hb k hk').1, (hb k hk').2.1⟩
  · have hk' : k < xs.length := by simpa [longLs] using hk
    rw [longLs_get hk']
    exact (hb k hk').2.2.2.2
theorem longLs_take {xs : List ArcR} {k n : Nat} (hn : xs.length = n) (hk : k < n) : (longLs xs).take (k + 1) = (longLs xs).take k ++ [longLk (xs.getD k default)] := by
  have hl : k < (longLs xs).length := by simp [longLs]; omega
  rw [List.take_succ_eq_append_getElem hl]
  congr 1
  simp [longLs, List.getD, List.getElem?_eq_getElem (show k < xs.length by omega)]
theorem unTo_zero (s : LeastS) : unTo s 0 = s.d := by
  unfold unTo
  apply List.ext_getElem (by simp)
  intro j h1 h2
  simp [List.getD, List.getElem?_eq_getElem h2]
theorem unTo_get {s : LeastS} {j v : Nat} (hv : v < s.d.length) : (unTo s j).getD v 0 = if v < j ∧ s.k.getD v false = false then -1 else s.d.getD v 0 := by
  unfold unTo
  simp only [List.getD, List.getElem?_map, List.getElem?_range hv, Option.map_some, Option.getD_some]
theorem ext_getD {a b : List Int} {n : Nat} (ha : a.length = n) (hb : b.length = n) (h : ∀ j, j < n → a.getD j 0 = b.getD j 0) : a = b := eq_of_getD ha hb h
theorem unTo_set {s : LeastS} {j : Nat} (hj : j < s.d.length) (hk : s.k.getD j false = false) : (unTo s j).set j (-1) = unTo s (j + 1) := by
  have hl : (unTo s j).length = s.d.length := by simp [unTo]
  refine ext_getD (n := s.d.length) (by simp [unTo]) (by simp [unTo]) fun v hv => ?_
  rw [getD_setL _ _ v _ (by rw [hl]; exact hj), unTo_get hv, unTo_get hv]
  by_cases e : j = v
  · subst e
    rw [if_pos rfl, if_pos ⟨by omega, hk⟩]
  · rw [if_neg e]
    by_cases h2 : v < j
    · by_cases h3 : s.k.getD v false = false
      · rw [if_pos ⟨h2, h3⟩, if_pos ⟨by omega, h3⟩]
      · rw [if_neg (fun h => h3 h.2), if_neg (fun h => h3 h.2)]
    · rw [if_neg (fun h => h2 h.1), if_neg (fun h => h2 (by omega))]
theorem unTo_keep {s : LeastS} {j : Nat} (hk : s.k.getD j false = true) : unTo s (j + 1) = unTo s j := by
  refine ext_getD (n := s.d.length) (by simp [unTo]) (by simp [unTo]) fun v hv => ?_
  rw [unTo_get hv, unTo_get hv]
  by_cases e : v = j
  · subst e
    rw [if_neg (fun h => by rw [hk] at h; exact absurd h.2 (by decide)), if_neg (fun h => by omega)]
  · by_cases h2 : v < j
    · by_cases h3 : s.k.getD v false = false
      · rw [if_pos ⟨by omega, h3⟩, if_pos ⟨h2, h3⟩]
      · rw [if_neg (fun h => h3 h.2), if_neg (fun h => h3 h.2)]
    · rw [if_neg (fun h => by omega), if_neg (fun h => h2 h.1)]
theorem unTo_all {N : Nat} {xs : List ArcR} {f : Nat} {s : LeastS} {D : List Int} (h : RelD N s D) (hs : Sound xs N f D) : unTo s N = D := by
  refine ext_getD (n := N) (by simp [unTo, h.dl]) h.Dl fun v hv => ?_
  rw [unTo_get (by rw [h.dl]; exact hv)]
  have hk := h.k v hv
  by_cases e : 0 ≤ D.getD v 0
  · rw [decide_eq_true e] at hk
    rw [if_neg (fun h2 => by rw [hk] at h2; exact absurd h2.2 (by decide))]
    exact h.d v hv e
  · rw [decide_eq_false e] at hk
    rw [if_pos ⟨hv, hk⟩]
    rcases hs.2 v hv with h1 | ⟨h1, _⟩
    · exact h1.symm
    · exact absurd h1 e
end Go.Proofs.Ytpaahjeohigngaa

namespace Go.Proofs.Ytpaahjeohigngaa
open Go.RowKit

theorem minC_congr {N : Nat} {p : Nat → Nat} {w w' : Nat → Int} (hw : ∀ c, 0 < c → c < N → w c = w' c) (hp : ∀ c, 0 < c → c < N → p c < N) : ∀ (f v : Nat) (l : Int), v < N → minC p w f v l = minC p w' f v l
  | 0, _, _, _ => rfl
  | f + 1, v, l, hv => by
    rw [minC, minC]
    by_cases e : v = 0
    · rw [if_pos e, if_pos e]
    · rw [if_neg e, if_neg e, hw v (by omega) hv, minC_congr hw hp f _ _ (hp v (by omega) hv)]
structure LongFacts (N t : Nat) (xs : List ArcR) (D ps ws : List Int) (am : Int) : Prop where
  longs : longsB N xs 0 = true ∧ longsV N xs 0 = D
  dlen : D.length = N
  d0 : D.getD 0 0 = 0
  dbd : ∀ v, v < N → D.getD v 0 ≤ 16000
  tri : ∀ j, j < xs.length → 0 ≤ D.getD (xs.getD j default).fr.toNat 0 → 0 ≤ D.getD (xs.getD j default).to_.toNat 0 ∧ D.getD (xs.getD j default).to_.toNat 0 ≤ D.getD (xs.getD j default).fr.toNat 0 + (xs.getD j default).cost
  wide : wideB N xs 0 (t : Int) = decide (0 ≤ D.getD t 0)
  way : wideB N xs 0 (t : Int) = true → ∃ c W, WayArcs N t xs (wideV N xs 0 (t : Int)).1 (wideV N xs 0 (t : Int)).2 c W
  tree : treeB N xs = true ∧ (treeV N xs).1 = ps ∧ (treeV N xs).2 = ws
  plen : ps.length = N ∧ ws.length = N
  par : ∀ v, 0 < v → v < N → ∃ q : Nat, ps.getD v 0 = (q : Int) ∧ q < v
  great : endsB N (bothL xs) 0 (t : Int) = true ∧ (greatP N (bothL xs) 0 (t : Int)).2 = am
  least : minC (fun c => (ps.getD c 0).toNat) (fun c => ws.getD c 0) t t 100000000 = am
theorem costs_all {xs : List ArcR} (hc : ∀ i, i < xs.length → 0 ≤ (xs.getD i default).cost) : ∀ n, n ≤ xs.length → costsTo xs n = true
  | 0, _ => rfl
  | n + 1, h => by
    have ih := costs_all hc n (by omega)
    unfold costsTo at ih ⊢
    rw [List.range_succ, List.all_append, ih]
    have h2 := decide_eq_true (hc n (by omega))
    rw [List.all_cons, h2]; rfl
theorem walk_le {xs : List ArcR} (hb : ∀ i, i < xs.length → (xs.getD i default).cost ≤ 1000) : ∀ (p : List Nat) (u v : Int), IsWalk xs u p v → walkCost xs p ≤ 1000 * (p.length : Int)
  | [], _, _, _ => by rw [walkCost]; simp
  | i :: p, u, v, h => by
    rw [IsWalk] at h
    have := walk_le hb p _ v h.2.2
    have := hb i h.1
    rw [walkCost, List.length_cons]; omega
theorem long_facts {N t : Nat} {xs : List ArcR} (hv : validB N xs = true) (hN : 2 ≤ N) (ht1 : 1 ≤ t) (ht : t < N) (hm : xs.length ≤ 24) (hc : ∀ i, i < xs.length → 0 ≤ (xs.getD i default).cost) : ∃ D ps ws am, LongFacts N t xs D ps ws am := by
  have hx := netOkV hv
  obtain ⟨r1, r2, r3, _⟩ := rounds_tri (f := 0) (show 1 ≤ N by omega) hc (fun i hi => ⟨(hx i hi).1, (hx i hi).2.1⟩) (by omega)
  have hLB : longsB N xs 0 = true := by
    unfold longsB
    rw [hv, costs_all hc _ (Nat.le_refl _), Bool.true_and, Bool.and_true]
    exact inB_iff.2 ⟨by omega, by omega⟩
  have hE := ends_yes hv ht1 ht
  have hWB : wideB N xs 0 (t : Int) = decide (0 ≤ (wideR xs N 0 N).W.getD t 0) := by
    unfold wideB
    rw [hE, Bool.true_and, Int.toNat_natCast, Int.toNat_natCast]; rfl
  have hv2 := both_valid hv hm
  have hTB : treeB N xs = true := by unfold treeB; rw [hv, decide_eq_true hm]; rfl
  have hT : treeV N xs = treeTo (bothL xs) N (N - 1) := by rw [treeV_yes hTB, Int.toNat_natCast]
  obtain ⟨o1, o2⟩ := treeTo_ok (xs2 := bothL xs) (N := N) (N - 1) (by omega)
  have hok := tree_ok2 (xs := xs) hv2 hN
  have hG := great_at hv2 ht1 ht
  refine ⟨_, _, _, lamT (bothL xs) N 0 t, ⟨⟨hLB, longsV_yes hLB⟩, ?_, ?_, ?_, ?_, ?_, ?_, ⟨hTB, rfl, rfl⟩, ?_, ?_, ⟨ends_yes hv2 ht1 ht, by rw [hG]; rfl⟩, ?_⟩⟩
  · rw [Int.toNat_natCast]; exact r3
  · rw [Int.toNat_natCast]; exact r2
  · intro v hvN
    rw [Int.toNat_natCast]
    obtain ⟨s1, s2⟩ := rounds_ok (xs := xs) (N := N) (f := 0) hc (fun i hi => ⟨(hx i hi).1, (hx i hi).2.1⟩) (by omega) (N - 1)
    rcases s1.2 v hvN with h3 | ⟨h3, p, hp, _⟩
    · rw [Int.toNat_zero]; omega
    · obtain ⟨q, q1, q2, q3⟩ := walk_short hc (fun i hi => (hx i hi).2.1) (Int.le_refl 0) (show (0 : Int) < N by omega) hp
      have h4 := (s2 v hvN q q1 (by omega)).2
      have h5 := walk_le (fun i hi => ((valid_bd hv).2.2.2 i hi).2.2.2.2.2) q _ _ q1
      have h6 := (valid_bd hv).2.1
      rw [Int.toNat_zero]
      omega
  · rw [Int.toNat_natCast]; exact r1
  · rw [hWB, wide_known hv hN ht hc, Int.toNat_natCast]; rfl
  · intro h
    have h2 := h
    rw [hWB, decide_eq_true_iff] at h2
    have := way_arcs hv hN ht h2
    unfold wideV
    rw [if_pos h, Int.toNat_natCast, Int.toNat_natCast]
    exact this
  · rw [hT]; exact ⟨o1.1, o2⟩
  · intro v h0 h1
    rw [hT]
    have := o1.2 v h0 h1
    exact ⟨_, (Int.toNat_of_nonneg this.1).symm, by omega⟩
  · rw [hT]
    show minC (parF (bothL xs) N) (fun c => (treeTo (bothL xs) N (N - 1)).2.getD c 0) t t 100000000 = _
    rw [minC_congr (N := N) (w' := fun c => lamT (bothL xs) N c (parF (bothL xs) N c)) (fun c h0 h1 => tree_wt (N - 1) (by omega) c h0 (by omega)) (fun c h0 h1 => by have := hok.par c h0 h1; omega) t t _ ht]
    rw [hok.least t t _ (by omega) ht (Nat.le_refl _), lam_twin hv2 ht (show 0 < N by omega) (by omega)]
    have h3 := (great_ok hv2 (show 0 < N by omega) ht (show t ≠ 0 by omega))
    have h4 := out_le rfl hv2 h3.inn 0
    have h5 := h3.amt
    have : lamT (bothL xs) N 0 t ≤ 48000000 := by unfold lamT; rw [h5]; exact h4
    omega
end Go.Proofs.Ytpaahjeohigngaa
