/- Joined texts: GreatP, FlagBF3, CheapP, CheapP2, CheapV, FlowsQ, CheapF. -/
import Derived.Test.YtnljfhmdjhppmaaJ4
import Derived.Test.YtnljfhmdjhppmaaZGreat2
import Derived.Test.YtnljfhmdjhppmaaJ3
import Derived.Test.YtnljfhmdjhppmaaZRoundTop
namespace Go.Proofs.Ytnljfhmdjhppmaa
open Go.RowKit

/-- a way's links lead to the nodes from which it goes on -/
theorem path_net {ls : List LinkR} {by_ : List Int} {N : Nat} {f : Int} (hto : ∀ v : Nat, v < N → ∀ k : Nat, by_.getD v 0 = k → (ls.getD k default).to_ = (v : Int)) (x node : Int) :
    ∀ (ws : List LinkR) (at_ : Int), Path ls by_ N f ws at_ → netX x node ws = (if f = node then x else 0) - (if at_ = node then x else 0)
  | [], at_, h => by
    rw [Path] at h
    subst h
    rw [netX]; omega
  | l :: ws, at_, h => by
    rw [Path] at h
    obtain ⟨_, ⟨h0, h1⟩, ⟨k, h2, _, h3⟩, h4⟩ := h
    have ht := hto at_.toNat (by omega) k h2
    rw [h3] at ht
    have ih := path_net hto x node ws l.fr h4
    rw [netX, ih, ht, show ((at_.toNat : Nat) : Int) = at_ by omega]
    omega
theorem path_mem {ls : List LinkR} {by_ : List Int} {N : Nat} {f : Int} : ∀ (ws : List LinkR) (at_ : Int), Path ls by_ N f ws at_ → ∀ l ∈ ws, l ∈ ls
  | [], _, _, l, hl => nomatch hl
  | l :: ws, at_, h, l', hl => by
    rw [Path] at h
    obtain ⟨_, _, ⟨k, _, h2, h3⟩, h4⟩ := h
    rcases List.mem_cons.1 hl with e | e
    · subst e; rw [← h3]; exact getDL_mem h2
    · exact path_mem ws l.fr h4 l' e
theorem reach_to {ls : List LinkR} {N f : Nat} (hls : LinksOk ls N) (hf : f < N) (v : Nat) (hv : v < N) (k : Nat) (h : (reachL ls N f).getD v 0 = k) : (ls.getD k default).to_ = (v : Int) := by
  have hok := bfs_ok hls hf N
  obtain ⟨p, hp, hpe⟩ := hok.inq v hv (by show (reachL ls N f).getD v 0 ≠ -2; rw [h]; omega)
  rcases Nat.eq_zero_or_pos p with e | e
  · subst e
    rw [hok.q0] at hpe
    have e2 : f = v := by omega
    subst e2
    have := hok.fby
    have h' : (bfsTo ls N f N).1.getD f 0 = k := h
    omega
  · obtain ⟨k', _, h2, h3, _⟩ := hok.by_ p hp e
    rw [hpe, Int.toNat_natCast] at h2
    have h' : (bfsTo ls N f N).1.getD v 0 = k := h
    have e3 : k' = k := by omega
    subst e3
    rw [h3, hpe]
theorem out_push {xs : List ArcR} {fl0 : List Int} {n : Nat} (x node : Int) : ∀ (ws : List LinkR) (fl : List Int), (∀ l ∈ ws, LinkIs xs fl0 n l) → fl.length = n → outTo xs (pushAll ws x fl) node n = outTo xs fl node n + netX x node ws
  | [], fl, _, _ => by simp [pushAll, netX]
  | l :: ws, fl, h, hl => by
    rw [pushAll, out_push x node ws _ (fun l' hl' => h l' (by simp [hl'])) (by rw [pushOne_len]; exact hl), outTo_one (h l (by simp)) hl, netX]
    omega

/-- what a round of a greatest flow has made -/
structure FlowOk (xs : List ArcR) (N F t n : Nat) (fl : List Int) (a : Int) : Prop where
  inn : FlowIn xs fl n
  amt : a = outTo xs fl F n
  ge : 0 ≤ a
  bal : ∀ v, v < N → v ≠ F → v ≠ t → outTo xs fl (v : Int) n = 0
theorem flow_step {xs : List ArcR} {N F t n : Nat} {fl : List Int} {a : Int} (hv : validB N xs = true) (hn : xs.length = n) (hF : F < N) (ht : t < N) (hne : t ≠ F) (h : FlowOk xs N F t n fl a) (M : Int) (hM : 1 ≤ M)
    (hby : (reachL (linksTo xs fl n) N F).getD t 0 ≠ -2) :
    ∃ ws, wayB (linksTo xs fl n) (reachL (linksTo xs fl n) N F) F N t = ws ∧ FlowOk xs N F t n (pushAll ws (amtOf ws M) fl) (a + amtOf ws M) ∧ 1 ≤ amtOf ws M := by
  obtain ⟨ws, w1, w2, ⟨l0, ws', w3⟩, w4, w5⟩ := aug_ok (nodes := N) rfl hv hn h.inn hF ht hne hby
  have hls := linksTo_ok (nodes := N) fl rfl hv n (by omega)
  obtain ⟨b1, b2⟩ := amtOf_le ws M
  have b3 := amtOf_ge (b := 1) ws M hM (fun l hl => (w4 l hl).1)
  obtain ⟨_, c2, c3, _⟩ := w5 (amtOf ws M) (by omega) b2
  refine ⟨ws, w1, ⟨c2, by rw [c3, h.amt], by have := h.ge; omega, fun v hvN hvF hvt => ?_⟩, b3⟩
  have his : ∀ l ∈ ws, LinkIs xs fl n l := fun l hl => linksTo_is xs fl n l (path_mem ws t w2 l hl)
  rw [out_push _ _ ws fl his h.inn.1, h.bal v hvN hvF hvt, path_net (fun v hv k hk => reach_to hls hF v hv k hk) _ _ ws t w2, if_neg (show ¬ (F : Int) = v by omega), if_neg (show ¬ (t : Int) = v by omega)]
  rfl
/-- a flow along which no more can flow -/
structure MaxOk (xs : List ArcR) (N F t n : Nat) (fl : List Int) (a : Int) : Prop extends FlowOk xs N F t n fl a where
  done : (reachL (linksTo xs fl n) N F).getD t 0 = -2
theorem greatRun_ok {xs : List ArcR} {N F t n : Nat} (hv : validB N xs = true) (hn : xs.length = n) (hF : F < N) (ht : t < N) (hne : t ≠ F) : ∀ (k : Nat) (fl : List Int) (a : Int), FlowOk xs N F t n fl a → 48000001 ≤ (k : Int) + a →
    MaxOk xs N F t n (greatRun xs n N F t k fl a).1 (greatRun xs n N F t k fl a).2
  | 0, fl, a, h, hk => by
    have := out_le hn hv h.inn F
    have := h.amt
    omega
  | k + 1, fl, a, h, hk => by
    by_cases hby : (reachL (linksTo xs fl n) N F).getD t 0 = -2
    · rw [great_end hby]
      exact ⟨h, hby⟩
    · obtain ⟨ws, w1, w2, w3⟩ := flow_step hv hn hF ht hne h 100000000 (by omega) hby
      rw [great_step hby w1]
      exact greatRun_ok hv hn hF ht hne k _ _ w2 (by omega)
theorem great_ok {xs : List ArcR} {N F t : Nat} (hv : validB N xs = true) (hF : F < N) (ht : t < N) (hne : t ≠ F) : MaxOk xs N F t xs.length (greatL xs N F t).1 (greatL xs N F t).2 := by
  unfold greatL
  obtain ⟨_, _, _, hroom⟩ := valid_roomG rfl hv
  exact greatRun_ok hv rfl hF ht hne greatG _ 0 ⟨flow_zero fun k hk => (hroom k hk).1, (out_zero xs _ F _ (Nat.le_refl _)).symm, Int.le_refl _, fun v _ _ _ => out_zero xs _ v _ (Nat.le_refl _)⟩ (by have := greatG_ge; omega)

/-- what is reached by left over arcs -/
def inR (xs : List ArcR) (fl : List Int) (N F : Nat) (v : Nat) : Bool := (reachL (linksTo xs fl xs.length) N F).getD v 0 != -2
theorem links_mem {xs : List ArcR} {fl : List Int} {n i : Nat} (hi : i < n) {l : LinkR} (hl : l ∈ linksOf i (xs.getD i default) (fl.getD i 0)) : l ∈ linksTo xs fl n := by
  unfold linksTo
  exact List.mem_flatMap.2 ⟨i, List.mem_range.2 hi, hl⟩
theorem inR_iff {xs : List ArcR} {fl : List Int} {N F v : Nat} : inR xs fl N F v = true ↔ (reachL (linksTo xs fl xs.length) N F).getD v 0 ≠ -2 := by
  unfold inR; rw [bne_iff_ne]
theorem inR_full {xs : List ArcR} {fl : List Int} {N F i : Nat} (hv : validB N xs = true) (hF : F < N) (hfl : FlowIn xs fl xs.length) (hi : i < xs.length) (h1 : inR xs fl N F (xs.getD i default).fr.toNat = true) (h2 : inR xs fl N F (xs.getD i default).to_.toNat = false) : fl.getD i 0 = (xs.getD i default).room := by
  have hls := linksTo_ok (nodes := N) fl rfl hv xs.length (Nat.le_refl _)
  have hf := hfl.2 i hi
  rcases Int.lt_or_le (fl.getD i 0) (xs.getD i default).room with hlt | hge
  · exfalso
    have hm := links_mem hi (show (⟨i, false, (xs.getD i default).fr, (xs.getD i default).to_, (xs.getD i default).room - fl.getD i 0, (xs.getD i default).cost⟩ : LinkR) ∈ linksOf i (xs.getD i default) (fl.getD i 0) by unfold linksOf; rw [if_pos hlt]; simp)
    have := reach_closed hls hF hm (inR_iff.1 h1)
    rw [← Bool.not_eq_true, inR_iff] at h2
    exact h2 this
  · omega
theorem inR_zero {xs : List ArcR} {fl : List Int} {N F i : Nat} (hv : validB N xs = true) (hF : F < N) (hfl : FlowIn xs fl xs.length) (hi : i < xs.length) (h1 : inR xs fl N F (xs.getD i default).fr.toNat = false) (h2 : inR xs fl N F (xs.getD i default).to_.toNat = true) : fl.getD i 0 = 0 := by
  have hls := linksTo_ok (nodes := N) fl rfl hv xs.length (Nat.le_refl _)
  have hf := hfl.2 i hi
  rcases Int.lt_or_le 0 (fl.getD i 0) with hlt | hge
  · exfalso
    have hm := links_mem hi (show (⟨i, true, (xs.getD i default).to_, (xs.getD i default).fr, fl.getD i 0, -(xs.getD i default).cost⟩ : LinkR) ∈ linksOf i (xs.getD i default) (fl.getD i 0) by unfold linksOf; rw [if_pos hlt]; simp)
    have := reach_closed hls hF hm (inR_iff.1 h2)
    rw [← Bool.not_eq_true, inR_iff] at h1
    exact h1 this
  · omega
/-- the room of a set -/
def roomI (xs : List ArcR) (R : Nat → Bool) (i : Nat) : Int := if R (xs.getD i default).fr.toNat && !R (xs.getD i default).to_.toNat then (xs.getD i default).room else 0
theorem max_cut {xs : List ArcR} {N F t : Nat} {fl : List Int} {a : Int} (hv : validB N xs = true) (hF : F < N) (h : MaxOk xs N F t xs.length fl a) : inR xs fl N F F = true ∧ inR xs fl N F t = false ∧ a = sumI (roomI xs (inR xs fl N F)) xs.length := by
  have hls := linksTo_ok (nodes := N) fl rfl hv xs.length (Nat.le_refl _)
  have h1 : inR xs fl N F F = true := inR_iff.2 (reach_from hls hF)
  have h2 : inR xs fl N F t = false := by unfold inR; rw [h.done]; rfl
  refine ⟨h1, h2, ?_⟩
  have e := cross_eq fl (inR xs fl N F) xs.length (valid_ends hv)
  rw [sum_bal (g := fun v => outTo xs fl (v : Int) xs.length) hF h1 (fun v hvN hvF hr => h.bal v hvN hvF (fun e => by subst e; rw [h2] at hr; cases hr))] at e
  rw [h.amt, e]
  refine sumI_congr _ fun i hi => ?_
  unfold crossI roomI
  cases ha : inR xs fl N F (xs.getD i default).fr.toNat <;> cases hb : inR xs fl N F (xs.getD i default).to_.toNat
  · simp
  · rw [inR_zero hv hF h.inn hi ha hb]; simp
  · rw [inR_full hv hF h.inn hi ha hb]; simp
  · simp
/-- no flow is greater than the room of a set -/
theorem flow_le_cut {xs : List ArcR} {N F t : Nat} {fl : List Int} {a : Int} (hv : validB N xs = true) (hF : F < N) (h : FlowOk xs N F t xs.length fl a) (R : Nat → Bool) (h1 : R F = true) (h2 : R t = false) : a ≤ sumI (roomI xs R) xs.length := by
  have e := cross_eq fl R xs.length (valid_ends hv)
  rw [sum_bal (g := fun v => outTo xs fl (v : Int) xs.length) hF h1 (fun v hvN hvF hr => h.bal v hvN hvF (fun e => by subst e; rw [h2] at hr; cases hr))] at e
  rw [h.amt, e]
  refine sumI_le _ fun i hi => ?_
  have := h.inn.2 i hi
  unfold crossI roomI
  generalize fl.getD i 0 = y at *
  generalize (xs.getD i default).room = r at *
  cases R (xs.getD i default).fr.toNat <;> cases R (xs.getD i default).to_.toNat <;> simp <;> omega

/-- the list of what is reached -/
theorem cutL_mem (by_ : List Int) (N : Nat) (x : Int) : x ∈ cutLTo by_ N ↔ ∃ v : Nat, v < N ∧ by_.getD v 0 ≠ -2 ∧ x = v := by
  unfold cutLTo
  simp only [List.mem_map, List.mem_filter, List.mem_range, bne_iff_ne]
  constructor
  · rintro ⟨v, ⟨h1, h2⟩, rfl⟩; exact ⟨v, h1, h2, rfl⟩
  · rintro ⟨v, h1, h2, rfl⟩; exact ⟨v, ⟨h1, h2⟩, rfl⟩
theorem cutL_has {by_ : List Int} {N : Nat} {x : Int} (h0 : 0 ≤ x) (h1 : x < N) : hasB (cutLTo by_ N) x = (by_.getD x.toNat 0 != -2) := by
  rw [Bool.eq_iff_iff, hasB_iff, cutL_mem, bne_iff_ne]
  constructor
  · rintro ⟨v, _, h3, rfl⟩; exact h3
  · intro h; exact ⟨x.toNat, by omega, h, by omega⟩
theorem cutL_nodes (by_ : List Int) (N : Nat) : nodesB N (cutLTo by_ N) = true := by
  unfold nodesB
  rw [Bool.and_eq_true, List.all_eq_true]
  refine ⟨fun x hx => ?_, ?_⟩
  · obtain ⟨v, h1, _, rfl⟩ := (cutL_mem _ _ _).1 hx
    exact inB_iff.2 ⟨by omega, by omega⟩
  · unfold risesTo
    rw [List.all_eq_true]
    intro i hi
    rw [List.mem_range] at hi
    rw [Bool.or_eq_true, decide_eq_true_iff, decide_eq_true_iff]
    by_cases h0 : i = 0
    · exact .inl h0
    · right
      have hp : (cutLTo by_ N).Pairwise (· < ·) := by
        unfold cutLTo
        rw [List.pairwise_map]
        exact (List.Pairwise.filter _ List.pairwise_lt_range).imp fun h => by omega
      simp only [List.getD, List.getElem?_eq_getElem hi, List.getElem?_eq_getElem (show i - 1 < (cutLTo by_ N).length by omega), Option.getD_some]
      exact List.pairwise_iff_getElem.1 hp (i - 1) i (by omega) hi (by omega)
theorem cut_room {xs : List ArcR} {N F : Nat} {fl : List Int} (hv : validB N xs = true) : ∀ n, n ≤ xs.length → cutTo xs (cutLTo (reachL (linksTo xs fl xs.length) N F) N) n = sumI (roomI xs (inR xs fl N F)) n
  | 0, _ => rfl
  | n + 1, h => by
    obtain ⟨⟨a0, a1⟩, b0, b1⟩ := valid_ends hv n (by omega)
    rw [cutTo_succ, cut_room hv n (by omega), cutL_has a0 a1, cutL_has b0 b1, sumI]; rfl
end Go.Proofs.Ytnljfhmdjhppmaa

namespace Go.Proofs.Ytnljfhmdjhppmaa
open Go.RowKit

theorem least_of {P : Nat → Prop} : ∀ (b p : Nat), p ≤ b → P p → ∃ q, q ≤ p ∧ P q ∧ ∀ m, m < q → ¬ P m
  | 0, p, h1, h3 => by
    have : p = 0 := by omega
    subst this
    exact ⟨0, Nat.le_refl _, h3, fun m hm => by omega⟩
  | b + 1, p, h1, h3 => by
    by_cases hex : ∃ m, m < p ∧ P m
    · obtain ⟨m, a, d⟩ := hex
      obtain ⟨q, q2, q3, q4⟩ := least_of b m (by omega) d
      exact ⟨q, by omega, q3, q4⟩
    · exact ⟨p, Nat.le_refl _, h3, fun m hm hP => hex ⟨m, hm, hP⟩⟩
theorem up_bound (g : Nat → Int) : ∀ n, ∃ K : Int, ∀ k, k < n → g k ≤ K
  | 0 => ⟨0, fun k hk => by omega⟩
  | n + 1 => by
    obtain ⟨K, hK⟩ := up_bound g n
    refine ⟨max K (g n), fun k hk => ?_⟩
    by_cases e : k = n
    · subst e; omega
    · have := hK k (by omega); omega
/-- the links of the way back -/
def wsR (ls : List LinkR) (t : List Nat) : Nat → Nat → List LinkR
  | 0, _ => []
  | p + 1, v => lk ls t v :: wsR ls t p (lk ls t v).fr.toNat
theorem wsR_len (ls : List LinkR) (t : List Nat) : ∀ p v, (wsR ls t p v).length = p
  | 0, _ => rfl
  | p + 1, v => by rw [wsR, List.length_cons, wsR_len ls t p]
theorem pF_shift (ls : List LinkR) (t : List Nat) (v i : Nat) : pF ls t v (i + 1) = pF ls t (lk ls t v).fr.toNat i := by
  rw [Nat.add_comm, pF_add]; rfl
theorem wsR_at (ls : List LinkR) (t : List Nat) : ∀ p v i, i < p → (wsR ls t p v).getD i default = lk ls t (pF ls t v i)
  | p + 1, v, 0, _ => rfl
  | p + 1, v, i + 1, hi => by
    rw [wsR, List.getD_cons_succ, wsR_at ls t p _ i (by omega), pF_shift]
section
variable {ls : List LinkR} {N f : Nat} {π : Nat → Int} {s : LeastS} {t : List Nat} {r : Nat}
/-- what a way back is like -/
structure BackOk (ls : List LinkR) (N f : Nat) (t : List Nat) (v p : Nat) : Prop where
  end_ : pF ls t v p = f
  le : p ≤ N
  off : ∀ i, i < p → pF ls t v i ≠ f
  in_ : ∀ i, i < p → pF ls t v i < N ∧ 0 < t.getD (pF ls t v i) 0
theorem back_way (hls : LinksOk ls N) (hne : ∀ k, k < ls.length → (ls.getD k default).fr ≠ (ls.getD k default).to_) (hπ : Fits ls π) (hf : f < N) (h : FlOk ls N f π s t r 0) {v : Nat} (hv : v < N) (hk : s.k.getD v false = true) : ∃ p, BackOk ls N f t v p := by
  have hQ : ∀ i, (∀ m, m < i → pF ls t v m ≠ f) → pF ls t v i < N ∧ s.k.getD (pF ls t v i) false = true := by
    intro i
    induction i with
    | zero => intro _; exact ⟨hv, hk⟩
    | succ i ih =>
      intro hm
      obtain ⟨h1, h2⟩ := ih fun m hm' => hm m (by omega)
      have h0 : 0 < t.getD (pF ls t v i) 0 := by
        rcases (h.known _ h1).1 h2 with e | e
        · exact absurd e (hm i (by omega))
        · exact e
      obtain ⟨p1, _, p3, _⟩ := h.W _ h1 h0
      have hfr := (hls _ p1).1
      exact ⟨by show (lk ls t (pF ls t v i)).fr.toNat < N; unfold lk; omega, p3⟩
  have hex : ∃ i, i ≤ N - 1 ∧ pF ls t v i = f := by
    refine Classical.byContradiction fun hno => ?_
    have hoff : ∀ m, m ≤ N - 1 → pF ls t v m ≠ f := fun m hm e => hno ⟨m, hm, e⟩
    refine too_long hls hne hπ hf h (x := v) fun m hm => ?_
    obtain ⟨h1, h2⟩ := hQ m fun m' hm' => hoff m' (by omega)
    refine ⟨h1, ?_⟩
    rcases (h.known _ h1).1 h2 with e | e
    · exact absurd e (hoff m hm)
    · exact e
  obtain ⟨i, hi, he⟩ := hex
  obtain ⟨p, p1, p2, p3⟩ := least_of (P := fun i => pF ls t v i = f) i i (Nat.le_refl _) he
  refine ⟨p, p2, by omega, p3, fun m hm => ?_⟩
  obtain ⟨h1, h2⟩ := hQ m fun m' hm' => p3 m' (by omega)
  refine ⟨h1, ?_⟩
  rcases (h.known _ h1).1 h2 with e | e
  · exact absurd e (p3 m hm)
  · exact e
theorem back_path (hls : LinksOk ls N) (h : FlOk ls N f π s t r 0) : ∀ p v, BackOk ls N f t v p → Path ls s.b N f (wsR ls t p v) (v : Int)
  | 0, v, hb => by
    have := hb.end_
    rw [pF] at this
    rw [wsR, Path, this]
  | p + 1, v, hb => by
    obtain ⟨i1, i2⟩ := hb.in_ 0 (by omega)
    have i1 : v < N := i1
    have i2 : 0 < t.getD v 0 := i2
    have hvf : v ≠ f := hb.off 0 (by omega)
    obtain ⟨w1, w2, _, w4, _⟩ := h.W v i1 i2
    have hfr := (hls _ w1).1
    rw [wsR, Path]
    refine ⟨by omega, ⟨by omega, by omega⟩, ⟨_, by rw [Int.toNat_natCast]; exact w4, w1, rfl⟩, ?_⟩
    have ih := back_path hls h p (lk ls t v).fr.toNat ⟨by rw [← pF_shift]; exact hb.end_, by have := hb.le; omega, fun i hi => by rw [← pF_shift]; exact hb.off (i + 1) (by omega), fun i hi => by rw [← pF_shift]; exact hb.in_ (i + 1) (by omega)⟩
    have e : (((lk ls t v).fr.toNat : Nat) : Int) = (lk ls t v).fr := by unfold lk; omega
    rw [e] at ih
    exact ih
theorem back_differ (hls : LinksOk ls N) (hne : ∀ k, k < ls.length → (ls.getD k default).fr ≠ (ls.getD k default).to_) (hπ : Fits ls π) (h : FlOk ls N f π s t r 0) {v p : Nat} (hb : BackOk ls N f t v p) {a b : Nat} (hab : a < b) (hbp : b ≤ p) : pF ls t v a ≠ pF ls t v b := by
  intro e
  by_cases hp : b = p
  · subst hp
    rw [hb.end_] at e
    exact hb.off a hab e
  · exact no_repeat hls hne hπ h hab (fun m hm => hb.in_ m (by omega)) e
/-- what the links of the way are -/
theorem back_mem (h : FlOk ls N f π s t r 0) {v p : Nat} (hb : BackOk ls N f t v p) {l : LinkR} (hl : l ∈ wsR ls t p v) : ∃ i, i < p ∧ l = lk ls t (pF ls t v i) ∧ l ∈ ls ∧ l.to_ = pF ls t v i ∧ l.fr.toNat = pF ls t v (i + 1) ∧ s.k.getD l.fr.toNat false = true ∧ s.k.getD l.to_.toNat false = true ∧ s.d.getD l.fr.toNat 0 + l.cost ≤ s.d.getD l.to_.toNat 0 := by
  obtain ⟨i, hi, he⟩ := List.mem_iff_getElem.1 hl
  rw [wsR_len] at hi
  have e : l = lk ls t (pF ls t v i) := by
    rw [← wsR_at ls t p v i hi, ← he]
    simp [List.getD, List.getElem?_eq_getElem (show i < (wsR ls t p v).length by rw [wsR_len]; exact hi)]
  obtain ⟨i1, i2⟩ := hb.in_ i hi
  obtain ⟨w1, w2, w3, _, w5, _⟩ := h.W _ i1 i2
  subst e
  refine ⟨i, hi, rfl, getDL_mem w1, w2, rfl, w3, ?_, ?_⟩
  · rw [w2, Int.toNat_natCast]
    exact (h.known _ i1).2 (.inr i2)
  · rw [w2, Int.toNat_natCast]; exact w5
end
/-- prices that fit behind a flow along the least way -/
theorem fits_next {ls ls' : List LinkR} {N f : Nat} {π : Nat → Int} {s : LeastS} {t : List Nat} {r v p : Nat} (hls : LinksOk ls N) (hπ : Fits ls π) (h : FlOk ls N f π s t r 0) (hset : ∀ k, k < ls.length → ¬ leastGo s (ls.getD k default) = true) (hb : BackOk ls N f t v p)
    (hl : ∀ l' ∈ ls', (∃ l ∈ ls, l'.fr = l.fr ∧ l'.to_ = l.to_ ∧ l'.cost = l.cost) ∨ (∃ l ∈ wsR ls t p v, l'.fr = l.to_ ∧ l'.to_ = l.fr ∧ l'.cost = -l.cost)) : ∃ π', Fits ls' π' := by
  obtain ⟨K, hK⟩ := up_bound (fun k => s.d.getD (ls.getD k default).to_.toNat 0 - (ls.getD k default).cost - π (ls.getD k default).fr.toNat) ls.length
  refine ⟨fun u => if s.k.getD u false = true then s.d.getD u 0 else π u + K, fun k' hk' => ?_⟩
  show (if s.k.getD (ls'.getD k' default).to_.toNat false = true then s.d.getD (ls'.getD k' default).to_.toNat 0 else π (ls'.getD k' default).to_.toNat + K) ≤ (if s.k.getD (ls'.getD k' default).fr.toNat false = true then s.d.getD (ls'.getD k' default).fr.toNat 0 else π (ls'.getD k' default).fr.toNat + K) + (ls'.getD k' default).cost
  rcases hl _ (getDL_mem hk') with ⟨l, hm, e1, e2, e3⟩ | ⟨l, hm, e1, e2, e3⟩
  · obtain ⟨k, hk, he⟩ := List.mem_iff_getElem.1 hm
    have e4 : ls.getD k default = l := by simp [List.getD, List.getElem?_eq_getElem hk, he]
    have h1 := hset k hk
    have h2 := hK k hk
    have h3 := hπ k hk
    simp only [e4] at h2
    rw [e4] at h1 h3
    rw [e1, e2, e3]
    rw [go_iff] at h1
    cases hkf : s.k.getD l.fr.toNat false
    · rw [if_neg (by decide : ¬ false = true)]
      split <;> omega
    · rw [hkf] at h1
      cases hkt : s.k.getD l.to_.toNat false
      · exact absurd ⟨rfl, .inl hkt⟩ h1
      · rw [if_pos rfl, if_pos rfl]
        rcases Int.lt_or_le (s.d.getD l.fr.toNat 0 + l.cost) (s.d.getD l.to_.toNat 0) with g | g
        · exact absurd ⟨rfl, .inr g⟩ h1
        · exact g
  · obtain ⟨i, _, _, _, _, _, g1, g2, g3⟩ := back_mem h hb hm
    rw [e1, e2, e3, g1, g2, if_pos rfl, if_pos rfl]
    omega
end Go.Proofs.Ytnljfhmdjhppmaa

namespace Go.Proofs.Ytnljfhmdjhppmaa
open Go.RowKit

theorem linksOf_mem {i : Nat} {a : ArcR} {y : Int} {l : LinkR} : l ∈ linksOf i a y ↔ (y < a.room ∧ l = ⟨i, false, a.fr, a.to_, a.room - y, a.cost⟩) ∨ (0 < y ∧ l = ⟨i, true, a.to_, a.fr, y, -a.cost⟩) := by
  unfold linksOf
  rw [List.mem_append]
  constructor
  · rintro (h | h)
    · split at h
      · rename_i hlt; simp only [List.mem_singleton] at h; exact .inl ⟨hlt, h⟩
      · simp at h
    · split at h
      · rename_i hlt; simp only [List.mem_singleton] at h; exact .inr ⟨hlt, h⟩
      · simp at h
  · rintro (⟨h, rfl⟩ | ⟨h, rfl⟩)
    · left; rw [if_pos h]; simp
    · right; rw [if_pos h]; simp
theorem linksTo_mem {xs : List ArcR} {fl : List Int} {n : Nat} {l : LinkR} : l ∈ linksTo xs fl n ↔ ∃ i, i < n ∧ l ∈ linksOf i (xs.getD i default) (fl.getD i 0) := by
  unfold linksTo
  rw [List.mem_flatMap]
  constructor
  · rintro ⟨i, h1, h2⟩; exact ⟨i, List.mem_range.1 h1, h2⟩
  · rintro ⟨i, h1, h2⟩; exact ⟨i, List.mem_range.2 h1, h2⟩
theorem push_far (x : Int) : ∀ (ws : List LinkR) (fl : List Int) (i : Nat), (∀ l ∈ ws, l.arc ≠ i) → (pushAll ws x fl).getD i 0 = fl.getD i 0
  | [], _, _, _ => rfl
  | l :: ws, fl, i, h => by
    rw [pushAll, push_far x ws _ i fun l' hl' => h l' (by simp [hl'])]
    have := h l (by simp)
    unfold pushOne
    simp [List.getD, List.getElem?_set_ne this]
theorem push_on (x : Int) : ∀ (ws : List LinkR) (fl : List Int), ws.Pairwise (fun l1 l2 => l1.arc ≠ l2.arc) → ∀ l ∈ ws, l.arc < fl.length → (pushAll ws x fl).getD l.arc 0 = fl.getD l.arc 0 + l.by_ * x
  | [], _, _, l, hl => nomatch hl
  | l0 :: ws, fl, hp, l, hl => by
    intro hlen
    have hp' := List.pairwise_cons.1 hp
    rw [pushAll]
    rcases List.mem_cons.1 hl with e | e
    · subst e
      rw [push_far x ws _ _ (fun l' hl' => (hp'.1 l' hl').symm)]
      unfold pushOne
      rw [getD_set' _ _ _ _ hlen, if_pos rfl]
    · rw [push_on x ws _ hp'.2 l e (by rw [pushOne_len]; exact hlen)]
      have := hp'.1 l e
      unfold pushOne
      have e2 : (fl.set l0.arc (fl.getD l0.arc 0 + l0.by_ * x)).getD l.arc 0 = fl.getD l.arc 0 := by simp [List.getD, List.getElem?_set_ne this]
      rw [e2]
/-- the left over arcs behind a flow along a way -/
theorem push_links {xs : List ArcR} {fl : List Int} {n : Nat} (hlen : fl.length = n) {ws : List LinkR} (hp : ws.Pairwise (fun l1 l2 => l1.arc ≠ l2.arc)) (hw : ∀ l ∈ ws, l ∈ linksTo xs fl n) {x : Int} (hx : 0 ≤ x) :
    ∀ l' ∈ linksTo xs (pushAll ws x fl) n, (∃ l ∈ linksTo xs fl n, l'.fr = l.fr ∧ l'.to_ = l.to_ ∧ l'.cost = l.cost) ∨ (∃ l ∈ ws, l'.fr = l.to_ ∧ l'.to_ = l.fr ∧ l'.cost = -l.cost) := by
  intro l' hl'
  obtain ⟨i, hi, hm⟩ := linksTo_mem.1 hl'
  by_cases hex : ∃ l ∈ ws, l.arc = i
  · obtain ⟨l, hl, rfl⟩ := hex
    have hon := push_on x ws fl hp l hl (by omega)
    rw [hon] at hm
    obtain ⟨k, hk, hlm⟩ := linksTo_mem.1 (hw l hl)
    rcases linksOf_mem.1 hlm with ⟨h1, h2⟩ | ⟨h1, h2⟩
    · have ek : l.arc = k := by rw [h2]
      have eb : l.by_ = 1 := by rw [h2]; rfl
      rw [eb, ek] at hm
      rcases linksOf_mem.1 hm with ⟨g1, g2⟩ | ⟨g1, g2⟩
      · exact .inl ⟨l, hw l hl, by rw [g2, h2], by rw [g2, h2], by rw [g2, h2]⟩
      · exact .inr ⟨l, hl, by rw [g2, h2], by rw [g2, h2], by rw [g2, h2]⟩
    · have ek : l.arc = k := by rw [h2]
      have eb : l.by_ = -1 := by rw [h2]; rfl
      rw [eb, ek] at hm
      rcases linksOf_mem.1 hm with ⟨g1, g2⟩ | ⟨g1, g2⟩
      · refine .inr ⟨l, hl, by rw [g2, h2], by rw [g2, h2], ?_⟩
        rw [g2, h2]
        show (xs.getD k default).cost = - -(xs.getD k default).cost
        omega
      · exact .inl ⟨l, hw l hl, by rw [g2, h2], by rw [g2, h2], by rw [g2, h2]⟩
  · have hfar := push_far x ws fl i fun l hl e => hex ⟨l, hl, e⟩
    rw [hfar] at hm
    exact .inl ⟨l', linksTo_mem.2 ⟨i, hi, hm⟩, rfl, rfl, rfl⟩
theorem links_ne {N n : Nat} {xs : List ArcR} {fl : List Int} (hv : validB N xs = true) (hn : n ≤ xs.length) : ∀ k, k < (linksTo xs fl n).length → ((linksTo xs fl n).getD k default).fr ≠ ((linksTo xs fl n).getD k default).to_ := by
  intro k hk
  obtain ⟨_, _, _, hb⟩ := valid_bd hv
  obtain ⟨i, hi, hm⟩ := linksTo_mem.1 (getDL_mem (d := default) hk)
  have hne := (hb i (by omega)).2.2.1
  rcases linksOf_mem.1 hm with ⟨_, h2⟩ | ⟨_, h2⟩ <;> rw [h2]
  · exact hne
  · exact fun e => hne e.symm

/-- the state of a source's rounds -/
def bfS (xs : List ArcR) (fl : List Int) (n N F : Nat) : LeastS := leastR (linksTo xs fl n) (srcS N F) (N - 1)
structure CheapOk (xs : List ArcR) (N F t n : Nat) (fl : List Int) (a : Int) : Prop extends FlowOk xs N F t n fl a where
  fits : ∃ π, Fits (linksTo xs fl n) π
theorem cheap_step {xs : List ArcR} {N F t n : Nat} {fl : List Int} {a : Int} (hv : validB N xs = true) (hn : xs.length = n) (hF : F < N) (ht : t < N) (hne : t ≠ F) (h : CheapOk xs N F t n fl a) (hk : (bfS xs fl n N F).k.getD t false = true) :
    ∃ ws, wayB (linksTo xs fl n) (bfS xs fl n N F).b F N t = ws ∧ Path (linksTo xs fl n) (bfS xs fl n N F).b N F ws t ∧ (∃ l ws', ws = l :: ws') ∧ (∀ l ∈ ws, 1 ≤ l.room ∧ l.room ≤ 1000000) ∧
      ∀ x, 0 ≤ x → (∀ l ∈ ws, x ≤ l.room) → PushOk n x ws fl ∧ CheapOk xs N F t n (pushAll ws x fl) (a + x) := by
  subst hn
  obtain ⟨π, hπ⟩ := h.fits
  have hls := linksTo_ok (nodes := N) fl rfl hv xs.length (Nat.le_refl _)
  have hlne := links_ne (fl := fl) hv (Nat.le_refl xs.length)
  have hfl := fl_r hls hlne hπ hF (N - 1)
  have hset := settled hls hlne hπ hF
  obtain ⟨p, hb⟩ := back_way hls hlne hπ hF hfl ht hk
  have hP := back_path hls hfl p t hb
  have hp0 : 0 < p := by
    rcases Nat.eq_zero_or_pos p with e | e
    · subst e
      exact absurd hb.end_ hne
    · exact e
  obtain ⟨_, _, _, hbd⟩ := valid_bd hv
  have hrm : ∀ k, k < xs.length → 0 ≤ (xs.getD k default).room ∧ (xs.getD k default).room ≤ 1000000 := fun k hk => (hbd k hk).2.2.2.1
  generalize hws : wsR (linksTo xs fl xs.length) (tR (linksTo xs fl xs.length) (srcS N F) N (N - 1)) p t = ws at *
  have hmem : ∀ l ∈ ws, l ∈ linksTo xs fl xs.length := fun l hl => by
    rw [← hws] at hl
    obtain ⟨_, _, _, h4, _⟩ := back_mem hfl hb hl
    exact h4
  have his : ∀ l ∈ ws, LinkIs xs fl xs.length l := fun l hl => linksTo_is xs fl xs.length l (hmem l hl)
  have hlen : ws.length = p := by rw [← hws, wsR_len]
  have hpw : ws.Pairwise (fun l1 l2 => l1.arc ≠ l2.arc) := by
    rw [List.pairwise_iff_getElem]
    intro i k hi hk2 hik e
    have ei : ws[i] = lk (linksTo xs fl xs.length) (tR (linksTo xs fl xs.length) (srcS N F) N (N - 1)) (pF (linksTo xs fl xs.length) (tR (linksTo xs fl xs.length) (srcS N F) N (N - 1)) t i) := by
      have := wsR_at (linksTo xs fl xs.length) (tR (linksTo xs fl xs.length) (srcS N F) N (N - 1)) p t i (by omega)
      rw [hws] at this
      simpa [List.getD, List.getElem?_eq_getElem hi] using this
    have ek : ws[k] = lk (linksTo xs fl xs.length) (tR (linksTo xs fl xs.length) (srcS N F) N (N - 1)) (pF (linksTo xs fl xs.length) (tR (linksTo xs fl xs.length) (srcS N F) N (N - 1)) t k) := by
      have := wsR_at (linksTo xs fl xs.length) (tR (linksTo xs fl xs.length) (srcS N F) N (N - 1)) p t k (by omega)
      rw [hws] at this
      simpa [List.getD, List.getElem?_eq_getElem hk2] using this
    obtain ⟨i1, i2⟩ := hb.in_ i (by omega)
    obtain ⟨k1, k2⟩ := hb.in_ k (by omega)
    obtain ⟨wi1, wi2, _⟩ := hfl.W _ i1 i2
    obtain ⟨wk1, wk2, _⟩ := hfl.W _ k1 k2
    have fi : (ws[i]).fr.toNat = pF (linksTo xs fl xs.length) (tR (linksTo xs fl xs.length) (srcS N F) N (N - 1)) t (i + 1) := by rw [ei]; rfl
    have fk : (ws[k]).fr.toNat = pF (linksTo xs fl xs.length) (tR (linksTo xs fl xs.length) (srcS N F) N (N - 1)) t (k + 1) := by rw [ek]; rfl
    rw [← ei] at wi2
    rw [← ek] at wk2
    have d1 := back_differ hls hlne hπ hfl hb hik (by omega)
    have d2 := back_differ hls hlne hπ hfl hb (show i < k + 1 by omega) (by omega)
    obtain ⟨_, _, a⟩ := his _ (List.getElem_mem hi)
    obtain ⟨_, _, b⟩ := his _ (List.getElem_mem hk2)
    rw [e] at a
    rcases a with ⟨_, a1, a2, _⟩ | ⟨_, a1, a2, _⟩ <;> rcases b with ⟨_, b1, b2, _⟩ | ⟨_, b1, b2, _⟩
    · exact d1 (by omega)
    · exact d2 (by rw [← fk]; omega)
    · exact d2 (by rw [← fk]; omega)
    · exact d1 (by omega)
  refine ⟨ws, wayB_path N ws t hP (by rw [hlen]; exact hb.le), hP, ?_, fun l hl => ?_, fun x hx hx2 => ?_⟩
  · cases hws2 : ws with
    | nil => rw [hws2] at hlen; simp at hlen; omega
    | cons l ws' => exact ⟨l, ws', rfl⟩
  · obtain ⟨a1, a2, a3⟩ := his l hl
    have := hrm l.arc a1
    have := h.inn.2 l.arc a1
    rcases a3 with ⟨_, _, _, e⟩ | ⟨_, _, _, e⟩ <;> omega
  · obtain ⟨p1, p2, p3⟩ := push_inv hrm x hx ws fl h.inn (fun l hl => ⟨his l hl, rfl, hx2 l hl⟩) hpw
    have hto : ∀ v : Nat, v < N → ∀ k : Nat, (bfS xs fl xs.length N F).b.getD v 0 = k → True := fun _ _ _ _ => trivial
    have hnet : ∀ node : Int, netX x node ws = (if (F : Int) = node then x else 0) - (if (t : Int) = node then x else 0) := by
      intro node
      have key : ∀ q v, BackOk (linksTo xs fl xs.length) N F (tR (linksTo xs fl xs.length) (srcS N F) N (N - 1)) v q → netX x node (wsR (linksTo xs fl xs.length) (tR (linksTo xs fl xs.length) (srcS N F) N (N - 1)) q v) = (if (F : Int) = node then x else 0) - (if (v : Int) = node then x else 0) := by
        intro q
        induction q with
        | zero =>
          intro v hb
          have := hb.end_
          rw [pF] at this
          rw [wsR, netX, this]; omega
        | succ q ih =>
          intro v hb
          obtain ⟨i1, i2⟩ := hb.in_ 0 (by omega)
          obtain ⟨w1, w2, _⟩ := hfl.W v i1 i2
          have hfr := (hls _ w1).1
          have ih := ih (lk (linksTo xs fl xs.length) (tR (linksTo xs fl xs.length) (srcS N F) N (N - 1)) v).fr.toNat ⟨by rw [← pF_shift]; exact hb.end_, by have := hb.le; omega, fun i hi => by rw [← pF_shift]; exact hb.off (i + 1) (by omega), fun i hi => by rw [← pF_shift]; exact hb.in_ (i + 1) (by omega)⟩
          have e : (((lk (linksTo xs fl xs.length) (tR (linksTo xs fl xs.length) (srcS N F) N (N - 1)) v).fr.toNat : Nat) : Int) = (lk (linksTo xs fl xs.length) (tR (linksTo xs fl xs.length) (srcS N F) N (N - 1)) v).fr := by unfold lk; omega
          rw [e] at ih
          rw [wsR, netX, ih, w2]
          omega
      rw [← hws]
      exact key p t hb
    refine ⟨p1, ⟨⟨p2, ?_, by have := h.ge; omega, fun v hvN hvF hvt => ?_⟩, ?_⟩⟩
    · rw [p3, hnet, if_pos rfl, if_neg (by omega), h.amt]; omega
    · rw [p3, hnet, if_neg (by omega), if_neg (by omega), h.bal v hvN hvF hvt]; rfl
    · refine fits_next hls hπ hfl hset hb ?_
      rw [hws]
      exact push_links h.inn.1 hpw hmem hx
/-- a flow is as great as the room of a set that no left over arc leaves -/
theorem closed_cut {xs : List ArcR} {N F t : Nat} {fl : List Int} {a : Int} (hv : validB N xs = true) (hF : F < N) (h : FlowOk xs N F t xs.length fl a) {R : Nat → Bool} (hcl : ∀ l ∈ linksTo xs fl xs.length, R l.fr.toNat = true → R l.to_.toNat = true) (h1 : R F = true) (h2 : R t = false) : a = sumI (roomI xs R) xs.length := by
  have e := cross_eq fl R xs.length (valid_ends hv)
  rw [sum_bal (g := fun v => outTo xs fl (v : Int) xs.length) hF h1 (fun v hvN hvF hr => h.bal v hvN hvF (fun e => by subst e; rw [h2] at hr; cases hr))] at e
  rw [h.amt, e]
  refine sumI_congr _ fun i hi => ?_
  have hfi := h.inn.2 i hi
  unfold crossI roomI
  cases ha : R (xs.getD i default).fr.toNat <;> cases hb : R (xs.getD i default).to_.toNat
  · simp
  · have : fl.getD i 0 = 0 := by
      rcases Int.lt_or_le 0 (fl.getD i 0) with hlt | hge
      · exfalso
        have := hcl _ (linksTo_mem.2 ⟨i, hi, linksOf_mem.2 (.inr ⟨hlt, rfl⟩)⟩) hb
        have this : R (xs.getD i default).fr.toNat = true := this
        rw [ha] at this; cases this
      · omega
    rw [this]; simp
  · have : fl.getD i 0 = (xs.getD i default).room := by
      rcases Int.lt_or_le (fl.getD i 0) (xs.getD i default).room with hlt | hge
      · exfalso
        have := hcl _ (linksTo_mem.2 ⟨i, hi, linksOf_mem.2 (.inl ⟨hlt, rfl⟩)⟩) ha
        have this : R (xs.getD i default).to_.toNat = true := this
        rw [hb] at this; cases this
      · omega
    rw [this]; simp
  · simp
/-- where the target is not reached the flow is a greatest one -/
theorem cheap_stuck {xs : List ArcR} {N F t : Nat} {fl : List Int} {a : Int} (hv : validB N xs = true) (hF : F < N) (h : CheapOk xs N F t xs.length fl a) (hk : (bfS xs fl xs.length N F).k.getD t false = false) : ∃ R : Nat → Bool, R F = true ∧ R t = false ∧ a = sumI (roomI xs R) xs.length := by
  obtain ⟨π, hπ⟩ := h.fits
  have hls := linksTo_ok (nodes := N) fl rfl hv xs.length (Nat.le_refl _)
  have hlne := links_ne (fl := fl) hv (Nat.le_refl xs.length)
  have hfl := fl_r hls hlne hπ hF (N - 1)
  have hset := settled hls hlne hπ hF
  have hcl : ∀ l ∈ linksTo xs fl xs.length, (bfS xs fl xs.length N F).k.getD l.fr.toNat false = true → (bfS xs fl xs.length N F).k.getD l.to_.toNat false = true := by
    intro l hl hfr
    obtain ⟨k, hk, he⟩ := List.mem_iff_getElem.1 hl
    have e4 : (linksTo xs fl xs.length).getD k default = l := by simp [List.getD, List.getElem?_eq_getElem hk, he]
    have h1 := hset k hk
    rw [e4, go_iff] at h1
    cases hto : (bfS xs fl xs.length N F).k.getD l.to_.toNat false
    · exact absurd ⟨hfr, .inl hto⟩ h1
    · rfl
  have hRF : (bfS xs fl xs.length N F).k.getD F false = true := (hfl.known F hF).2 (.inl rfl)
  obtain ⟨R, hR⟩ : ∃ R : Nat → Bool, ∀ v, R v = (bfS xs fl xs.length N F).k.getD v false := ⟨_, fun _ => rfl⟩
  have hcl : ∀ l ∈ linksTo xs fl xs.length, R l.fr.toNat = true → R l.to_.toNat = true := fun l hl hh => by rw [hR] at hh ⊢; exact hcl l hl hh
  have hRF : R F = true := by rw [hR]; exact hRF
  have hRt : R t = false := by rw [hR]; exact hk
  exact ⟨R, hRF, hRt, closed_cut hv hF h.toFlowOk hcl hRF hRt⟩
end Go.Proofs.Ytnljfhmdjhppmaa

namespace Go.Proofs.Ytnljfhmdjhppmaa
open Go.RowKit

/-- the rounds of the cheapest flow: k rounds, m is still to flow -/
def cheapRun (xs : List ArcR) (n N F t : Nat) : Nat → List Int → Int → Option (List Int)
  | 0, fl, _ => some fl
  | k + 1, fl, m => if 0 < m then
      (if (bfS xs fl n N F).k.getD t false = true then cheapRun xs n N F t k (pushAll (wayB (linksTo xs fl n) (bfS xs fl n N F).b F N t) (amtOf (wayB (linksTo xs fl n) (bfS xs fl n N F).b F N t) m) fl) (m - amtOf (wayB (linksTo xs fl n) (bfS xs fl n N F).b F N t) m) else none)
      else some fl
theorem cheap_end {xs : List ArcR} {n N F t k : Nat} {fl : List Int} : cheapRun xs n N F t k fl 0 = some fl := by
  cases k with
  | zero => rfl
  | succ k => rw [cheapRun, if_neg (by omega)]
theorem cheap_none {xs : List ArcR} {n N F t k : Nat} {fl : List Int} {m : Int} (hm : 0 < m) (h : (bfS xs fl n N F).k.getD t false = false) : cheapRun xs n N F t (k + 1) fl m = none := by
  rw [cheapRun, if_pos hm, if_neg (by rw [h]; decide)]
theorem cheap_more {xs : List ArcR} {n N F t k : Nat} {fl : List Int} {m : Int} {ws : List LinkR} (hm : 0 < m) (h : (bfS xs fl n N F).k.getD t false = true) (hw : wayB (linksTo xs fl n) (bfS xs fl n N F).b F N t = ws) : cheapRun xs n N F t (k + 1) fl m = cheapRun xs n N F t k (pushAll ws (amtOf ws m) fl) (m - amtOf ws m) := by
  rw [cheapRun, if_pos hm, if_pos h, hw]
theorem cheap_run_ok {xs : List ArcR} {N F t : Nat} (hv : validB N xs = true) (hF : F < N) (ht : t < N) (hne : t ≠ F) : ∀ (k : Nat) (fl : List Int) (a m : Int), CheapOk xs N F t xs.length fl a → 0 ≤ m → m ≤ k →
    (∀ fl', cheapRun xs xs.length N F t k fl m = some fl' → CheapOk xs N F t xs.length fl' (a + m)) ∧ (cheapRun xs xs.length N F t k fl m = none → ∃ R : Nat → Bool, R F = true ∧ R t = false ∧ sumI (roomI xs R) xs.length < a + m)
  | 0, fl, a, m, h, h0, hk => by
    have : m = 0 := by omega
    subst this
    exact ⟨fun fl' e => by rw [cheapRun] at e; injection e with e; subst e; rw [Int.add_zero]; exact h, fun e => by rw [cheapRun] at e; cases e⟩
  | k + 1, fl, a, m, h, h0, hk => by
    by_cases hm : 0 < m
    · cases hb : (bfS xs fl xs.length N F).k.getD t false
      · rw [cheap_none hm hb]
        refine ⟨(fun fl' e => by cases e), fun _ => ?_⟩
        obtain ⟨R, h1, h2, h3⟩ := cheap_stuck hv hF h hb
        exact ⟨R, h1, h2, by omega⟩
      · obtain ⟨ws, w1, _, ⟨l0, ws', w3⟩, w4, w5⟩ := cheap_step hv rfl hF ht hne h hb
        rw [cheap_more hm hb w1]
        obtain ⟨b1, b2⟩ := amtOf_le ws m
        have b3 := amtOf_ge (b := 1) ws m (by omega) (fun l hl => (w4 l hl).1)
        obtain ⟨_, c2⟩ := w5 (amtOf ws m) (by omega) b2
        obtain ⟨i1, i2⟩ := cheap_run_ok hv hF ht hne k _ _ (m - amtOf ws m) c2 (by omega) (by omega)
        rw [show a + amtOf ws m + (m - amtOf ws m) = a + m by omega] at i1 i2
        exact ⟨i1, i2⟩
    · have : m = 0 := by omega
      subst this
      rw [cheap_end]
      exact ⟨fun fl' e => by injection e with e; subst e; rw [Int.add_zero]; exact h, fun e => by cases e⟩
theorem fits_none {ls : List LinkR} {N : Nat} {π : Nat → Int} (hls : LinksOk ls N) (hne : ∀ k, k < ls.length → (ls.getD k default).fr ≠ (ls.getD k default).to_) (hN : 1 ≤ N) (hπ : Fits ls π) : lossE ls N = -1 := by
  rcases lossE_ok hN hls hne with h | ⟨v, _, h2, h3⟩
  · exact h
  · have := price_none π hls hne hN hπ N v h2
    omega
theorem none_fits {ls : List LinkR} {N : Nat} (hls : LinksOk ls N) (h : lossE ls N = -1) : ∃ π, Fits ls π := by
  have key : ∀ j, j ≤ ls.length → endTo ls (lossR ls N (N - 1)) (N - 1) j = -1 → lossTo ls (lossR ls N (N - 1)) (N - 1) j = lossR ls N (N - 1) ∧ ∀ i, i < j → ¬ lossGo (lossR ls N (N - 1)) (ls.getD i default) = true := by
    intro j
    induction j with
    | zero => intro _ _; exact ⟨rfl, fun i hi => by omega⟩
    | succ j ih =>
      intro hj he
      rw [endTo] at he
      obtain ⟨_, b0, b1⟩ := hls j (by omega)
      by_cases hgo : lossGo (lossTo ls (lossR ls N (N - 1)) (N - 1) j) (ls.getD j default) = true
      · rw [if_pos hgo] at he; omega
      · rw [if_neg hgo] at he
        obtain ⟨h1, h2⟩ := ih (by omega) he
        rw [lossTo]
        unfold lossStep
        rw [if_neg hgo]
        refine ⟨h1, fun i hi => ?_⟩
        by_cases e : i = j
        · subst e; rw [h1] at hgo; exact hgo
        · exact h2 i (by omega)
  obtain ⟨_, h2⟩ := key ls.length (Nat.le_refl _) h
  refine ⟨fun v => (lossR ls N (N - 1)).d.getD v 0, fun k hk => ?_⟩
  have := h2 k hk
  unfold lossGo at this
  rw [decide_eq_true_iff] at this
  exact Int.not_lt.1 this
/-- sums of what goes out, each with a price -/
theorem price_out {xs : List ArcR} {N : Nat} (fl : List Int) (π : Nat → Int) : ∀ n, EndsOk xs n N → sumI (fun v => π v * outTo xs fl (v : Int) n) N = sumI (fun i => fl.getD i 0 * (π (xs.getD i default).fr.toNat - π (xs.getD i default).to_.toNat)) n
  | 0, _ => by
    have e : ∀ v, v < N → π v * outTo xs fl (v : Int) 0 = 0 := fun v _ => by simp [outTo]
    rw [sumI_congr N e, sumI_zero]; rfl
  | n + 1, h => by
    obtain ⟨⟨a0, a1⟩, b0, b1⟩ := h n (by omega)
    have ih := price_out fl π n fun k hk => h k (by omega)
    generalize hx : xs.getD n default = x at *
    obtain ⟨af, hf⟩ := Int.eq_ofNat_of_zero_le a0
    obtain ⟨bt, hb⟩ := Int.eq_ofNat_of_zero_le b0
    have e : ∀ v, v < N → π v * outTo xs fl (v : Int) (n + 1) = (π v * outTo xs fl (v : Int) n + (if af = v then π af * fl.getD n 0 else 0)) - (if bt = v then π bt * fl.getD n 0 else 0) := by
      intro v _
      rw [outTo_succ, hx, hf, hb, Int.mul_sub, Int.mul_add]
      have e1 : π v * (if (af : Int) = (v : Int) then fl.getD n 0 else 0) = if af = v then π af * fl.getD n 0 else 0 := by
        by_cases e : af = v
        · subst e; rw [if_pos rfl, if_pos rfl]
        · rw [if_neg e, if_neg (by omega), Int.mul_zero]
      have e2 : π v * (if (bt : Int) = (v : Int) then fl.getD n 0 else 0) = if bt = v then π bt * fl.getD n 0 else 0 := by
        by_cases e : bt = v
        · subst e; rw [if_pos rfl, if_pos rfl]
        · rw [if_neg e, if_neg (by omega), Int.mul_zero]
      rw [e1, e2]
    rw [sumI_congr N e, sumI_sub, sumI_add, ih, sumI_one, sumI_one, if_pos (by omega), if_pos (by omega), sumI, hx, hf, hb, Int.toNat_natCast, Int.toNat_natCast, Int.mul_sub, Int.mul_comm (fl.getD n 0), Int.mul_comm (fl.getD n 0)]
    omega
theorem cost_sum (xs : List ArcR) (fl : List Int) : ∀ n, costTo xs fl n = sumI (fun i => fl.getD i 0 * (xs.getD i default).cost) n
  | 0 => rfl
  | n + 1 => by rw [costTo_succ, sumI, cost_sum xs fl n]
/-- the prices' part is the same for all flows of an amount -/
theorem price_flow {xs : List ArcR} {N F t : Nat} {fl : List Int} {a : Int} (hv : validB N xs = true) (hF : F < N) (ht : t < N) (hne : t ≠ F) (h : FlowOk xs N F t xs.length fl a) (π : Nat → Int) : sumI (fun i => fl.getD i 0 * (π (xs.getD i default).fr.toNat - π (xs.getD i default).to_.toNat)) xs.length = π F * a - π t * a := by
  have hone := price_out fl (fun _ => 1) xs.length (valid_ends hv)
  have hz : sumI (fun i => fl.getD i 0 * ((1 : Int) - 1)) xs.length = 0 := by
    rw [sumI_congr xs.length (g := fun _ => 0) (fun i _ => by simp), sumI_zero]
  rw [hz] at hone
  have split : ∀ (g : Nat → Int), sumI (fun v => g v * outTo xs fl (v : Int) xs.length) N = g F * a + g t * outTo xs fl (t : Int) xs.length := by
    intro g
    have e : ∀ v, v < N → g v * outTo xs fl (v : Int) xs.length = (if F = v then g F * a else 0) + (if t = v then g t * outTo xs fl (t : Int) xs.length else 0) := by
      intro v hvN
      by_cases e1 : F = v
      · subst e1; rw [if_pos rfl, if_neg hne, ← h.amt, Int.add_zero]
      · by_cases e2 : t = v
        · subst e2; rw [if_neg e1, if_pos rfl, Int.zero_add]
        · rw [if_neg e1, if_neg e2, h.bal v hvN (fun e => e1 e.symm) (fun e => e2 e.symm), Int.mul_zero]; rfl
    rw [sumI_congr N e, sumI_add, sumI_one, sumI_one, if_pos hF, if_pos ht]
  rw [split (fun _ => 1)] at hone
  have hout : outTo xs fl (t : Int) xs.length = -a := by omega
  rw [← price_out fl π xs.length (valid_ends hv), split π, hout, Int.mul_neg]
  omega
/-- no flow of the amount costs less -/
theorem cheap_least {xs : List ArcR} {N F t : Nat} {fl g : List Int} {a : Int} (hv : validB N xs = true) (hF : F < N) (ht : t < N) (hne : t ≠ F) (h : CheapOk xs N F t xs.length fl a) (hg : FlowOk xs N F t xs.length g a) : costTo xs fl xs.length ≤ costTo xs g xs.length := by
  obtain ⟨π, hπ⟩ := h.fits
  have h1 := price_flow hv hF ht hne h.toFlowOk π
  have h2 := price_flow hv hF ht hne hg π
  rw [cost_sum, cost_sum]
  have hterm : ∀ i, i < xs.length → fl.getD i 0 * (xs.getD i default).cost + fl.getD i 0 * (π (xs.getD i default).fr.toNat - π (xs.getD i default).to_.toNat) ≤ g.getD i 0 * (xs.getD i default).cost + g.getD i 0 * (π (xs.getD i default).fr.toNat - π (xs.getD i default).to_.toNat) := by
    intro i hi
    have hf := h.inn.2 i hi
    have hgi := hg.inn.2 i hi
    rw [← Int.mul_add, ← Int.mul_add]
    rcases Int.lt_trichotomy (fl.getD i 0) (g.getD i 0) with e | e | e
    · have hm := (linksTo_mem (xs := xs) (fl := fl)).2 ⟨i, hi, linksOf_mem.2 (.inl ⟨show fl.getD i 0 < (xs.getD i default).room by omega, rfl⟩)⟩
      obtain ⟨k, hk, he⟩ := List.mem_iff_getElem.1 hm
      have := hπ k hk
      have e4 : (linksTo xs fl xs.length).getD k default = ⟨i, false, (xs.getD i default).fr, (xs.getD i default).to_, (xs.getD i default).room - fl.getD i 0, (xs.getD i default).cost⟩ := by simp [List.getD, List.getElem?_eq_getElem hk, he]
      rw [e4] at this
      have this : π (xs.getD i default).to_.toNat ≤ π (xs.getD i default).fr.toNat + (xs.getD i default).cost := this
      exact Int.mul_le_mul_of_nonneg_right (by omega) (by omega)
    · rw [e]; exact Int.le_refl _
    · have hm := (linksTo_mem (xs := xs) (fl := fl)).2 ⟨i, hi, linksOf_mem.2 (.inr ⟨show 0 < fl.getD i 0 by omega, rfl⟩)⟩
      obtain ⟨k, hk, he⟩ := List.mem_iff_getElem.1 hm
      have := hπ k hk
      have e4 : (linksTo xs fl xs.length).getD k default = ⟨i, true, (xs.getD i default).to_, (xs.getD i default).fr, fl.getD i 0, -(xs.getD i default).cost⟩ := by simp [List.getD, List.getElem?_eq_getElem hk, he]
      rw [e4] at this
      have this : π (xs.getD i default).fr.toNat ≤ π (xs.getD i default).to_.toNat + -(xs.getD i default).cost := this
      exact Int.mul_le_mul_of_nonpos_right (by omega) (by omega)
  have hs := sumI_le xs.length hterm
  rw [sumI_add, sumI_add, h1, h2] at hs
  omega
end Go.Proofs.Ytnljfhmdjhppmaa

namespace Go.Proofs.Ytnljfhmdjhppmaa
open Go.RowKit

def cheapL (xs : List ArcR) (N F t : Nat) (m : Int) : Option (List Int) := if lossE (linksTo xs (List.replicate xs.length 0) xs.length) N = -1 then cheapRun xs xs.length N F t m.toNat (List.replicate xs.length 0) m else none
def cheapOk (nodes : Int) (xs : List ArcR) (a b m : Int) : Bool := endsB nodes xs a b && inB m 0 1000000
def cheapO (nodes : Int) (xs : List ArcR) (a b m : Int) : Option (List Int) := if cheapOk nodes xs a b m = true then cheapL xs nodes.toNat a.toNat b.toNat m else none
def cheapF (o : Option (List Int)) : List Int := o.getD []
def cheapC (xs : List ArcR) (o : Option (List Int)) : Int := match o with | none => 0 | some fl => costTo xs fl xs.length
theorem cheapO_no {nodes : Int} {xs : List ArcR} {a b m : Int} (h : cheapOk nodes xs a b m = false) : cheapO nodes xs a b m = none := by unfold cheapO; rw [if_neg (by rw [h]; decide)]
theorem cheapO_yes {nodes : Int} {xs : List ArcR} {a b m : Int} (h : cheapOk nodes xs a b m = true) : cheapO nodes xs a b m = cheapL xs nodes.toNat a.toNat b.toNat m := by unfold cheapO; rw [if_pos h]
/-- nothing flows -/
theorem zero_flow {xs : List ArcR} {N F t : Nat} (hv : validB N xs = true) : FlowOk xs N F t xs.length (List.replicate xs.length 0) 0 := by
  obtain ⟨_, _, _, hb⟩ := valid_bd hv
  exact ⟨flow_zero fun k hk => (hb k hk).2.2.2.1.1, (out_zero xs _ F _ (Nat.le_refl _)).symm, Int.le_refl _, fun v _ _ _ => out_zero xs _ v _ (Nat.le_refl _)⟩
theorem cheap_start {xs : List ArcR} {N F t : Nat} (hv : validB N xs = true) (h : lossE (linksTo xs (List.replicate xs.length 0) xs.length) N = -1) : CheapOk xs N F t xs.length (List.replicate xs.length 0) 0 :=
  ⟨zero_flow hv, none_fits (loss_hyps (fl := List.replicate xs.length 0) (n := xs.length) (N := N) rfl rfl hv).hls h⟩
theorem cheapO_len (nodes : Int) (xs : List ArcR) (a b m : Int) : (cheapF (cheapO nodes xs a b m)).length ≤ 1048576 := by
  cases h : cheapOk nodes xs a b m
  · rw [cheapO_no h]; exact Nat.zero_le _
  · rw [cheapO_yes h]
    have h2 := h
    unfold cheapOk at h2
    rw [Bool.and_eq_true] at h2
    obtain ⟨N, F, t, rfl, rfl, rfl, hF, ht, hne, hv⟩ := ends_bd h2.1
    have hm := inB_iff.1 h2.2
    simp only [Int.toNat_natCast]
    unfold cheapL
    split
    · rename_i hE
      cases hc : cheapRun xs xs.length N F t m.toNat (List.replicate xs.length 0) m with
      | none => exact Nat.zero_le _
      | some fl =>
        have := (cheap_run_ok hv hF ht hne m.toNat _ 0 m (cheap_start hv hE) hm.1 (by omega)).1 fl hc
        have h1 := this.inn.1
        have h3 := (valid_bd hv).2.2.1
        show fl.length ≤ _
        omega
    · exact Nat.zero_le _
end Go.Proofs.Ytnljfhmdjhppmaa

namespace Go.Proofs.Ytnljfhmdjhppmaa
open Go.RowKit

theorem ends_yes {N t : Nat} {xs : List ArcR} (hv : validB N xs = true) (ht1 : 1 ≤ t) (ht : t < N) : endsB N xs 0 (t : Int) = true := by
  simp only [endsB, Bool.and_eq_true, decide_eq_true_eq]
  exact ⟨hv, inB_iff.2 ⟨by omega, by omega⟩, inB_iff.2 ⟨by omega, by omega⟩, by omega⟩
theorem great_at {N t : Nat} {xs : List ArcR} (hv : validB N xs = true) (ht1 : 1 ≤ t) (ht : t < N) : greatP N xs 0 (t : Int) = greatL xs N 0 t := by
  rw [greatP_yes (ends_yes hv ht1 ht), Int.toNat_natCast, Int.toNat_natCast]; rfl
theorem flowIn_flowB {N : Nat} {xs : List ArcR} {fl : List Int} (hv : validB N xs = true) (h : FlowIn xs fl xs.length) : flowB N xs fl = true := by
  rw [flowB_yes hv h.1]
  unfold flowOkTo
  rw [List.all_eq_true]
  intro i hi
  rw [List.mem_range] at hi
  have := h.2 i hi
  exact inB_iff.2 this
theorem flowIn_at {N : Nat} {xs : List ArcR} {fl : List Int} (hv : validB N xs = true) (hN : 1 ≤ N) (h : FlowIn xs fl xs.length) : flowAB N xs fl 0 = true := by
  rw [flowAB, flowIn_flowB hv h, Bool.true_and]
  exact inB_iff.2 ⟨by omega, by omega⟩
theorem flow_is {N t : Nat} {xs : List ArcR} {fl : List Int} {a : Int} (hv : validB N xs = true) (ht1 : 1 ≤ t) (ht : t < N) (h : FlowOk xs N 0 t xs.length fl a) : isFlowB N xs fl 0 (t : Int) = true := by
  rw [isFlowB_yes (flowIn_flowB hv h.inn) (inB_iff.2 ⟨by omega, by omega⟩) (inB_iff.2 ⟨by omega, by omega⟩) (by omega), Int.toNat_natCast]
  unfold balTo
  rw [List.all_eq_true]
  intro v hv2
  rw [List.mem_range] at hv2
  simp only [Bool.or_eq_true, decide_eq_true_eq]
  by_cases h0 : v = 0
  · exact .inl (by omega)
  · by_cases h1 : v = t
    · exact .inr (.inl (by omega))
    · exact .inr (.inr (h.bal v hv2 h0 h1))
end Go.Proofs.Ytnljfhmdjhppmaa

namespace Go.Proofs.Ytnljfhmdjhppmaa
open Go.RowKit

/-- where no cost is negative no round makes the flow of nothing cheaper -/
theorem zero_none {xs : List ArcR} {N : Nat} (hv : validB N xs = true) (hc : ∀ i, i < xs.length → 0 ≤ (xs.getD i default).cost) : lossE (linksTo xs (List.replicate xs.length 0) xs.length) N = -1 := by
  have hh := loss_hyps (fl := List.replicate xs.length 0) (n := xs.length) (N := N) rfl rfl hv
  obtain ⟨n0, n1, _⟩ := valid_bd hv
  refine fits_none (π := fun _ => 0) hh.hls hh.hne (by omega) fun k hk => ?_
  have hm := getDL_mem (d := default) hk
  obtain ⟨i, hi, hl⟩ := linksTo_mem.1 hm
  rcases linksOf_mem.1 hl with ⟨_, e⟩ | ⟨h0, _⟩
  · rw [e]
    have := hc i hi
    show (0 : Int) ≤ 0 + (xs.getD i default).cost
    omega
  · exfalso
    rw [show (List.replicate xs.length (0 : Int)).getD i 0 = 0 by simp [List.getD, hi]] at h0
    omega
theorem cheap_yes {xs : List ArcR} {N F t : Nat} (hv : validB N xs = true) (hF : F < N) (ht : t < N) (hne : t ≠ F) (hc : ∀ i, i < xs.length → 0 ≤ (xs.getD i default).cost) {m : Int} (h0 : 0 ≤ m) (h1 : m ≤ (greatL xs N F t).2) : ∃ fl, cheapL xs N F t m = some fl ∧ CheapOk xs N F t xs.length fl m := by
  have hE := zero_none hv hc
  have hr := cheap_run_ok hv hF ht hne m.toNat _ 0 m (cheap_start hv hE) h0 (by omega)
  rw [Int.zero_add] at hr
  have e : cheapL xs N F t m = cheapRun xs xs.length N F t m.toNat (List.replicate xs.length 0) m := if_pos hE
  cases hc2 : cheapRun xs xs.length N F t m.toNat (List.replicate xs.length 0) m with
  | some fl => exact ⟨fl, e.trans hc2, hr.1 fl hc2⟩
  | none =>
    exfalso
    obtain ⟨R, r1, r2, r3⟩ := hr.2 hc2
    have := flow_le_cut hv hF (great_ok hv hF ht hne).toFlowOk R r1 r2
    omega
theorem cheap_over {xs : List ArcR} {N F t : Nat} (hv : validB N xs = true) (hF : F < N) (ht : t < N) (hne : t ≠ F) (hc : ∀ i, i < xs.length → 0 ≤ (xs.getD i default).cost) {m : Int} (h1 : (greatL xs N F t).2 < m) : cheapL xs N F t m = none := by
  have hg := great_ok hv hF ht hne
  have hE := zero_none hv hc
  have h0 : 0 ≤ (greatL xs N F t).2 := hg.toFlowOk.ge
  have hr := cheap_run_ok hv hF ht hne m.toNat _ 0 m (cheap_start hv hE) (by omega) (by omega)
  rw [Int.zero_add] at hr
  have e : cheapL xs N F t m = cheapRun xs xs.length N F t m.toNat (List.replicate xs.length 0) m := if_pos hE
  cases hc2 : cheapRun xs xs.length N F t m.toNat (List.replicate xs.length 0) m with
  | none => exact e.trans hc2
  | some fl =>
    exfalso
    obtain ⟨r1, r2, r3⟩ := max_cut hv hF hg
    have := flow_le_cut hv hF (hr.1 fl hc2).toFlowOk _ r1 r2
    omega
/-- what FnCheapFlows asks of one amount -/
structure CheapAt (N t : Nat) (xs : List ArcR) (m : Int) (fl : List Int) (c : Int) : Prop where
  val : cheapO N xs 0 (t : Int) m = some fl
  len : fl.length = xs.length
  isF : isFlowB N xs fl 0 (t : Int) = true
  cost : flowB N xs fl = true ∧ flowCV N xs fl = c ∧ costTo xs fl xs.length = c
  amt : flowAB N xs fl 0 = true ∧ flowAV N xs fl 0 = m
  loss : lossB N xs fl = false ∧ lossV N xs fl = []
structure CheapFacts (N t : Nat) (xs : List ArcR) (G : List Int) (a c : Int) : Prop where
  great : greatP N xs 0 (t : Int) = (G, a)
  ends : endsB N xs 0 (t : Int) = true
  len : G.length = xs.length
  ge : 0 ≤ a
  le : a ≤ 288
  cost : flowB N xs G = true ∧ flowCV N xs G = c
  one : ∀ m, 0 ≤ m → m ≤ a → ∃ fl p, CheapAt N t xs m fl p
  all_ : ∃ fl p, CheapAt N t xs a fl p ∧ p ≤ c
  over : cheapO N xs 0 (t : Int) (a + 1) = none
theorem cheap_at {N t : Nat} {xs : List ArcR} (hv : validB N xs = true) (ht1 : 1 ≤ t) (ht : t < N) (hc : ∀ i, i < xs.length → 0 ≤ (xs.getD i default).cost) {m : Int} (h0 : 0 ≤ m) (h1 : m ≤ (greatL xs N 0 t).2) (h2 : m ≤ 1000000) :
    ∃ fl, CheapAt N t xs m fl (costTo xs fl xs.length) ∧ CheapOk xs N 0 t xs.length fl m := by
  obtain ⟨fl, h3, h4⟩ := cheap_yes hv (show 0 < N by omega) ht (show t ≠ 0 by omega) hc h0 h1
  have hB := flowIn_flowB hv h4.inn
  have hA := flowIn_at hv (by omega) h4.inn
  have hn : lossE (linksTo xs fl xs.length) N = -1 := by
    obtain ⟨π, hπ⟩ := h4.fits
    have hh := loss_hyps (fl := fl) (n := xs.length) (N := N) rfl rfl hv
    exact fits_none hh.hls hh.hne (by omega) hπ
  have hO : cheapOk N xs 0 (t : Int) m = true := by
    unfold cheapOk
    rw [ends_yes hv ht1 ht, Bool.true_and]
    exact inB_iff.2 ⟨h0, h2⟩
  refine ⟨fl, ⟨?_, h4.inn.1, flow_is hv ht1 ht h4.toFlowOk, ⟨hB, flowCV_yes hB, rfl⟩, ⟨hA, ?_⟩, ?_, ?_⟩, h4⟩
  · rw [cheapO_yes hO, Int.toNat_natCast, Int.toNat_natCast]; exact h3
  · rw [flowAV_yes hA]; exact h4.amt.symm
  · rw [lossB_yes hB, Int.toNat_natCast, hn]; rfl
  · rw [lossV_yes hB, Int.toNat_natCast]; unfold lossLs; rw [if_pos hn]
theorem out_le6 {xs : List ArcR} {fl : List Int} {n : Nat} (node : Int) (hf : ∀ k, k < n → 0 ≤ fl.getD k 0 ∧ fl.getD k 0 ≤ 6) : ∀ k, k ≤ n → -6 * (k : Int) ≤ outTo xs fl node k ∧ outTo xs fl node k ≤ 6 * (k : Int)
  | 0, _ => by simp [outTo]
  | k + 1, h => by
    have := out_le6 (xs := xs) node hf k (by omega)
    have := hf k (by omega)
    rw [outTo_succ]
    split <;> split <;> omega
theorem cheap_facts {N t : Nat} {xs : List ArcR} (hv : validB N xs = true) (ht1 : 1 ≤ t) (ht : t < N) (hc : ∀ i, i < xs.length → 0 ≤ (xs.getD i default).cost) (hr : ∀ i, i < xs.length → (xs.getD i default).room ≤ 6) : ∃ G a c, CheapFacts N t xs G a c := by
  have hG := great_at hv ht1 ht
  have hok := great_ok hv (show 0 < N by omega) ht (show t ≠ 0 by omega)
  obtain ⟨G, a, hfa⟩ : ∃ G a, greatL xs N 0 t = (G, a) := ⟨_, _, rfl⟩
  have h2 : (greatL xs N 0 t).2 = a := by rw [hfa]
  rw [hfa] at hok hG
  have hok : MaxOk xs N 0 t xs.length G a := hok
  have hB := flowIn_flowB hv hok.inn
  have hle : a ≤ 288 := by
    have h4 := (valid_bd hv).2.2.1
    have := (out_le6 (xs := xs) (fl := G) 0 (fun k hk => ⟨(hok.inn.2 k hk).1, by have := hok.inn.2 k hk; have := hr k hk; omega⟩) xs.length (Nat.le_refl _)).2
    have h5 := hok.amt
    rw [Int.ofNat_zero] at h5
    omega
  refine ⟨G, a, costTo xs G xs.length, hG, ends_yes hv ht1 ht, hok.inn.1, hok.ge, hle, ⟨hB, flowCV_yes hB⟩, ?_, ?_, ?_⟩
  · intro m h0 h1
    obtain ⟨fl, h3, _⟩ := cheap_at hv ht1 ht hc h0 (by rw [h2]; exact h1) (by omega)
    exact ⟨fl, _, h3⟩
  · obtain ⟨fl, h3, h4⟩ := cheap_at hv ht1 ht hc hok.ge (by rw [h2]; exact Int.le_refl _) (by omega)
    exact ⟨fl, _, h3, cheap_least hv (show 0 < N by omega) ht (show t ≠ 0 by omega) h4 hok.toFlowOk⟩
  · have hO : cheapOk N xs 0 (t : Int) (a + 1) = true := by
      unfold cheapOk
      rw [ends_yes hv ht1 ht, Bool.true_and]
      have := hok.ge
      exact inB_iff.2 ⟨by omega, by omega⟩
    rw [cheapO_yes hO, Int.toNat_natCast]
    exact cheap_over hv (show 0 < N by omega) ht (show t ≠ 0 by omega) hc (by rw [h2]; omega)
end Go.Proofs.Ytnljfhmdjhppmaa
