/- Greatest flows are flows, and as great as the room of their cuts: in plain numbers. -/
import Derived.Test.YtnljfhmdjhppmaaNetSum
import Derived.Test.YtnljfhmdjhppmaaGreat2
import Derived.Test.YtnljfhmdjhppmaaCut
namespace Go.Proofs.Ytnljfhmdjhppmaa
open Go.RowKit

/-- a way's links lead to the nodes from which it goes on -/
theorem path_net {ls : List LinkR} {by_ : List Int} {N : Nat} {f : Int} (hto : ∀ v : Nat, v < N → ∀ k : Nat, by_.getD v 0 = k → (ls.getD k default).to_ = (v : Int)) (x node : Int) :
    ∀ (ws : List LinkR) (at_ : Int), Path ls by_ N f ws at_ → netX x node ws = (if f = node then x else 0) - (if at_ = node then x else 0)
  | [], at_, h => by
    rw [Path] at h
    subst h
    rw [netX]; omega
  | l :: ws, at_, h => by
    rw [Path] at h
    obtain ⟨_, ⟨h0, h1⟩, ⟨k, h2, _, h3⟩, h4⟩ := h
    have ht := hto at_.toNat (by omega) k h2
    rw [h3] at ht
    have ih := path_net hto x node ws l.fr h4
    rw [netX, ih, ht, show ((at_.toNat : Nat) : Int) = at_ by omega]
    omega
theorem path_mem {ls : List LinkR} {by_ : List Int} {N : Nat} {f : Int} : ∀ (ws : List LinkR) (at_ : Int), Path ls by_ N f ws at_ → ∀ l ∈ ws, l ∈ ls
  | [], _, _, l, hl => nomatch hl
  | l :: ws, at_, h, l', hl => by
    rw [Path] at h
    obtain ⟨_, _, ⟨k, _, h2, h3⟩, h4⟩ := h
    rcases List.mem_cons.1 hl with e | e
    · subst e; rw [← h3]; exact getDL_mem h2
    · exact path_mem ws l.fr h4 l' e
theorem reach_to {ls : List LinkR} {N f : Nat} (hls : LinksOk ls N) (hf : f < N) (v : Nat) (hv : v < N) (k : Nat) (h : (reachL ls N f).getD v 0 = k) : (ls.getD k default).to_ = (v : Int) := by
  have hok := bfs_ok hls hf N
  obtain ⟨p, hp, hpe⟩ := hok.inq v hv (by show (reachL ls N f).getD v 0 ≠ -2; rw [h]; omega)
  rcases Nat.eq_zero_or_pos p with e | e
  · subst e
    rw [hok.q0] at hpe
    have e2 : f = v := by omega
    subst e2
    have := hok.fby
    have h' : (bfsTo ls N f N).1.getD f 0 = k := h
    omega
  · obtain ⟨k', _, h2, h3, _⟩ := hok.by_ p hp e
    rw [hpe, Int.toNat_natCast] at h2
    have h' : (bfsTo ls N f N).1.getD v 0 = k := h
    have e3 : k' = k := by omega
    subst e3
    rw [h3, hpe]
theorem out_push {xs : List ArcR} {fl0 : List Int} {n : Nat} (x node : Int) : ∀ (ws : List LinkR) (fl : List Int), (∀ l ∈ ws, LinkIs xs fl0 n l) → fl.length = n → outTo xs (pushAll ws x fl) node n = outTo xs fl node n + netX x node ws
  | [], fl, _, _ => by simp [pushAll, netX]
  | l :: ws, fl, h, hl => by
    rw [pushAll, out_push x node ws _ (fun l' hl' => h l' (by simp [hl'])) (by rw [pushOne_len]; exact hl), outTo_one (h l (by simp)) hl, netX]
    omega

/-- what a round of a greatest flow has made -/
structure FlowOk (xs : List ArcR) (N F t n : Nat) (fl : List Int) (a : Int) : Prop where
  inn : FlowIn xs fl n
  amt : a = outTo xs fl F n
  ge : 0 ≤ a
  bal : ∀ v, v < N → v ≠ F → v ≠ t → outTo xs fl (v : Int) n = 0
theorem flow_step {xs : List ArcR} {N F t n : Nat} {fl : List Int} {a : Int} (hv : validB N xs = true) (hn : xs.length = n) (hF : F < N) (ht : t < N) (hne : t ≠ F) (h : FlowOk xs N F t n fl a) (M : Int) (hM : 1 ≤ M)
    (hby : (reachL (linksTo xs fl n) N F).getD t 0 ≠ -2) :
    ∃ ws, wayB (linksTo xs fl n) (reachL (linksTo xs fl n) N F) F N t = ws ∧ FlowOk xs N F t n (pushAll ws (amtOf ws M) fl) (a + amtOf ws M) ∧ 1 ≤ amtOf ws M := by
  obtain ⟨ws, w1, w2, ⟨l0, ws', w3⟩, w4, w5⟩ := aug_ok (nodes := N) rfl hv hn h.inn hF ht hne hby
  have hls := linksTo_ok (nodes := N) fl rfl hv n (by omega)
  obtain ⟨b1, b2⟩ := amtOf_le ws M
  have b3 := amtOf_ge (b := 1) ws M hM (fun l hl => (w4 l hl).1)
  obtain ⟨_, c2, c3, _⟩ := w5 (amtOf ws M) (by omega) b2
  refine ⟨ws, w1, ⟨c2, by rw [c3, h.amt], by have := h.ge; omega, fun v hvN hvF hvt => ?_⟩, b3⟩
  have his : ∀ l ∈ ws, LinkIs xs fl n l := fun l hl => linksTo_is xs fl n l (path_mem ws t w2 l hl)
  rw [out_push _ _ ws fl his h.inn.1, h.bal v hvN hvF hvt, path_net (fun v hv k hk => reach_to hls hF v hv k hk) _ _ ws t w2, if_neg (show ¬ (F : Int) = v by omega), if_neg (show ¬ (t : Int) = v by omega)]
  rfl
/-- a flow along which no more can flow -/
structure MaxOk (xs : List ArcR) (N F t n : Nat) (fl : List Int) (a : Int) : Prop extends FlowOk xs N F t n fl a where
  done : (reachL (linksTo xs fl n) N F).getD t 0 = -2
theorem greatRun_ok {xs : List ArcR} {N F t n : Nat} (hv : validB N xs = true) (hn : xs.length = n) (hF : F < N) (ht : t < N) (hne : t ≠ F) : ∀ (k : Nat) (fl : List Int) (a : Int), FlowOk xs N F t n fl a → 48000001 ≤ (k : Int) + a →
    MaxOk xs N F t n (greatRun xs n N F t k fl a).1 (greatRun xs n N F t k fl a).2
  | 0, fl, a, h, hk => by
    have := out_le hn hv h.inn F
    have := h.amt
    omega
  | k + 1, fl, a, h, hk => by
    by_cases hby : (reachL (linksTo xs fl n) N F).getD t 0 = -2
    · rw [great_end hby]
      exact ⟨h, hby⟩
    · obtain ⟨ws, w1, w2, w3⟩ := flow_step hv hn hF ht hne h 100000000 (by omega) hby
      rw [great_step hby w1]
      exact greatRun_ok hv hn hF ht hne k _ _ w2 (by omega)
theorem great_ok {xs : List ArcR} {N F t : Nat} (hv : validB N xs = true) (hF : F < N) (ht : t < N) (hne : t ≠ F) : MaxOk xs N F t xs.length (greatL xs N F t).1 (greatL xs N F t).2 := by
  unfold greatL
  obtain ⟨_, _, _, hroom⟩ := valid_roomG rfl hv
  exact greatRun_ok hv rfl hF ht hne greatG _ 0 ⟨flow_zero fun k hk => (hroom k hk).1, (out_zero xs _ F _ (Nat.le_refl _)).symm, Int.le_refl _, fun v _ _ _ => out_zero xs _ v _ (Nat.le_refl _)⟩ (by have := greatG_ge; omega)

/-- what is reached by left over arcs -/
def inR (xs : List ArcR) (fl : List Int) (N F : Nat) (v : Nat) : Bool := (reachL (linksTo xs fl xs.length) N F).getD v 0 != -2
theorem links_mem {xs : List ArcR} {fl : List Int} {n i : Nat} (hi : i < n) {l : LinkR} (hl : l ∈ linksOf i (xs.getD i default) (fl.getD i 0)) : l ∈ linksTo xs fl n := by
  unfold linksTo
  exact List.mem_flatMap.2 ⟨i, List.mem_range.2 hi, hl⟩
theorem inR_iff {xs : List ArcR} {fl : List Int} {N F v : Nat} : inR xs fl N F v = true ↔ (reachL (linksTo xs fl xs.length) N F).getD v 0 ≠ -2 := by
  unfold inR; rw [bne_iff_ne]
theorem inR_full {xs : List ArcR} {fl : List Int} {N F i : Nat} (hv : validB N xs = true) (hF : F < N) (hfl : FlowIn xs fl xs.length) (hi : i < xs.length) (h1 : inR xs fl N F (xs.getD i default).fr.toNat = true) (h2 : inR xs fl N F (xs.getD i default).to_.toNat = false) : fl.getD i 0 = (xs.getD i default).room := by
  have hls := linksTo_ok (nodes := N) fl rfl hv xs.length (Nat.le_refl _)
  have hf := hfl.2 i hi
  rcases Int.lt_or_le (fl.getD i 0) (xs.getD i default).room with hlt | hge
  · exfalso
    have hm := links_mem hi (show (⟨i, false, (xs.getD i default).fr, (xs.getD i default).to_, (xs.getD i default).room - fl.getD i 0, (xs.getD i default).cost⟩ : LinkR) ∈ linksOf i (xs.getD i default) (fl.getD i 0) by unfold linksOf; rw [if_pos hlt]; simp)
    have := reach_closed hls hF hm (inR_iff.1 h1)
    rw [← Bool.not_eq_true, inR_iff] at h2
    exact h2 this
  · omega
theorem inR_zero {xs : List ArcR} {fl : List Int} {N F i : Nat} (hv : validB N xs = true) (hF : F < N) (hfl : FlowIn xs fl xs.length) (hi : i < xs.length) (h1 : inR xs fl N F (xs.getD i default).fr.toNat = false) (h2 : inR xs fl N F (xs.getD i default).to_.toNat = true) : fl.getD i 0 = 0 := by
  have hls := linksTo_ok (nodes := N) fl rfl hv xs.length (Nat.le_refl _)
  have hf := hfl.2 i hi
  rcases Int.lt_or_le 0 (fl.getD i 0) with hlt | hge
  · exfalso
    have hm := links_mem hi (show (⟨i, true, (xs.getD i default).to_, (xs.getD i default).fr, fl.getD i 0, -(xs.getD i default).cost⟩ : LinkR) ∈ linksOf i (xs.getD i default) (fl.getD i 0) by unfold linksOf; rw [if_pos hlt]; simp)
    have := reach_closed hls hF hm (inR_iff.1 h2)
    rw [← Bool.not_eq_true, inR_iff] at h1
    exact h1 this
  · omega
/-- the room of a set -/
def roomI (xs : List ArcR) (R : Nat → Bool) (i : Nat) : Int := if R (xs.getD i default).fr.toNat && !R (xs.getD i default).to_.toNat then (xs.getD i default).room else 0
theorem max_cut {xs : List ArcR} {N F t : Nat} {fl : List Int} {a : Int} (hv : validB N xs = true) (hF : F < N) (h : MaxOk xs N F t xs.length fl a) : inR xs fl N F F = true ∧ inR xs fl N F t = false ∧ a = sumI (roomI xs (inR xs fl N F)) xs.length := by
  have hls := linksTo_ok (nodes := N) fl rfl hv xs.length (Nat.le_refl _)
  have h1 : inR xs fl N F F = true := inR_iff.2 (reach_from hls hF)
  have h2 : inR xs fl N F t = false := by unfold inR; rw [h.done]; rfl
  refine ⟨h1, h2, ?_⟩
  have e := cross_eq fl (inR xs fl N F) xs.length (valid_ends hv)
  rw [sum_bal (g := fun v => outTo xs fl (v : Int) xs.length) hF h1 (fun v hvN hvF hr => h.bal v hvN hvF (fun e => by subst e; rw [h2] at hr; cases hr))] at e
  rw [h.amt, e]
  refine sumI_congr _ fun i hi => ?_
  unfold crossI roomI
  cases ha : inR xs fl N F (xs.getD i default).fr.toNat <;> cases hb : inR xs fl N F (xs.getD i default).to_.toNat
  · simp
  · rw [inR_zero hv hF h.inn hi ha hb]; simp
  · rw [inR_full hv hF h.inn hi ha hb]; simp
  · simp
/-- no flow is greater than the room of a set -/
theorem flow_le_cut {xs : List ArcR} {N F t : Nat} {fl : List Int} {a : Int} (hv : validB N xs = true) (hF : F < N) (h : FlowOk xs N F t xs.length fl a) (R : Nat → Bool) (h1 : R F = true) (h2 : R t = false) : a ≤ sumI (roomI xs R) xs.length := by
  have e := cross_eq fl R xs.length (valid_ends hv)
  rw [sum_bal (g := fun v => outTo xs fl (v : Int) xs.length) hF h1 (fun v hvN hvF hr => h.bal v hvN hvF (fun e => by subst e; rw [h2] at hr; cases hr))] at e
  rw [h.amt, e]
  refine sumI_le _ fun i hi => ?_
  have := h.inn.2 i hi
  unfold crossI roomI
  generalize fl.getD i 0 = y at *
  generalize (xs.getD i default).room = r at *
  cases R (xs.getD i default).fr.toNat <;> cases R (xs.getD i default).to_.toNat <;> simp <;> omega

/-- the list of what is reached -/
theorem cutL_mem (by_ : List Int) (N : Nat) (x : Int) : x ∈ cutLTo by_ N ↔ ∃ v : Nat, v < N ∧ by_.getD v 0 ≠ -2 ∧ x = v := by
  unfold cutLTo
  simp only [List.mem_map, List.mem_filter, List.mem_range, bne_iff_ne]
  constructor
  · rintro ⟨v, ⟨h1, h2⟩, rfl⟩; exact ⟨v, h1, h2, rfl⟩
  · rintro ⟨v, h1, h2, rfl⟩; exact ⟨v, ⟨h1, h2⟩, rfl⟩
theorem cutL_has {by_ : List Int} {N : Nat} {x : Int} (h0 : 0 ≤ x) (h1 : x < N) : hasB (cutLTo by_ N) x = (by_.getD x.toNat 0 != -2) := by
  rw [Bool.eq_iff_iff, hasB_iff, cutL_mem, bne_iff_ne]
  constructor
  · rintro ⟨v, _, h3, rfl⟩; exact h3
  · intro h; exact ⟨x.toNat, by omega, h, by omega⟩
theorem cutL_nodes (by_ : List Int) (N : Nat) : nodesB N (cutLTo by_ N) = true := by
  unfold nodesB
  rw [Bool.and_eq_true, List.all_eq_true]
  refine ⟨fun x hx => ?_, ?_⟩
  · obtain ⟨v, h1, _, rfl⟩ := (cutL_mem _ _ _).1 hx
    exact inB_iff.2 ⟨by omega, by omega⟩
  · unfold risesTo
    rw [List.all_eq_true]
    intro i hi
    rw [List.mem_range] at hi
    rw [Bool.or_eq_true, decide_eq_true_iff, decide_eq_true_iff]
    by_cases h0 : i = 0
    · exact .inl h0
    · right
      have hp : (cutLTo by_ N).Pairwise (· < ·) := by
        unfold cutLTo
        rw [List.pairwise_map]
        exact (List.Pairwise.filter _ List.pairwise_lt_range).imp fun h => by omega
      simp only [List.getD, List.getElem?_eq_getElem hi, List.getElem?_eq_getElem (show i - 1 < (cutLTo by_ N).length by omega), Option.getD_some]
      exact List.pairwise_iff_getElem.1 hp (i - 1) i (by omega) hi (by omega)
theorem cut_room {xs : List ArcR} {N F : Nat} {fl : List Int} (hv : validB N xs = true) : ∀ n, n ≤ xs.length → cutTo xs (cutLTo (reachL (linksTo xs fl xs.length) N F) N) n = sumI (roomI xs (inR xs fl N F)) n
  | 0, _ => rfl
  | n + 1, h => by
    obtain ⟨⟨a0, a1⟩, b0, b1⟩ := valid_ends hv n (by omega)
    rw [cutTo_succ, cut_room hv n (by omega), cutL_has a0 a1, cutL_has b0 b1, sumI]; rfl
end Go.Proofs.Ytnljfhmdjhppmaa
