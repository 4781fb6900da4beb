/- Joined texts: ReachPlain, Cut, Ask, WayPlain. -/
import Derived.Test.YtnljfhmdjhppmaaZLinks
import Derived.Test.YtnljfhmdjhppmaaZFlow
import Derived.Test.YtnljfhmdjhppmaaJ2
import Derived.Test.YtnljfhmdjhppmaaZSrc
namespace Go.Proofs.Ytnljfhmdjhppmaa
open Go.RowKit

/-- one node's round: the first k links -/
def scanTo (ls : List LinkR) (u : Int) (st : List Int × List Int) : Nat → List Int × List Int
  | 0 => st
  | k + 1 => if (ls.getD k default).fr = u ∧ (scanTo ls u st k).1.getD (ls.getD k default).to_.toNat 0 = -2 then ((scanTo ls u st k).1.set (ls.getD k default).to_.toNat (k : Int), (scanTo ls u st k).2 ++ [(ls.getD k default).to_]) else scanTo ls u st k
/-- the rounds of the first i nodes of the queue -/
def bfsTo (ls : List LinkR) (N f : Nat) : Nat → List Int × List Int
  | 0 => ((List.replicate N (-2)).set f (-1), [(f : Int)])
  | i + 1 => if i < (bfsTo ls N f i).2.length then scanTo ls ((bfsTo ls N f i).2.getD i 0) (bfsTo ls N f i) ls.length else bfsTo ls N f i
/-- by which link each node is reached: -1 the first one, -2 not at all -/
def reachL (ls : List LinkR) (N f : Nat) : List Int := (bfsTo ls N f N).1
theorem scan_yes {ls : List LinkR} {u : Int} {st : List Int × List Int} {k : Nat} (h1 : (ls.getD k default).fr = u) (h2 : (scanTo ls u st k).1.getD (ls.getD k default).to_.toNat 0 = -2) :
    scanTo ls u st (k + 1) = ((scanTo ls u st k).1.set (ls.getD k default).to_.toNat (k : Int), (scanTo ls u st k).2 ++ [(ls.getD k default).to_]) := by rw [scanTo, if_pos ⟨h1, h2⟩]
theorem scan_no1 {ls : List LinkR} {u : Int} {st : List Int × List Int} {k : Nat} (h1 : ¬ (ls.getD k default).fr = u) : scanTo ls u st (k + 1) = scanTo ls u st k := by rw [scanTo, if_neg (fun h => h1 h.1)]
theorem scan_no2 {ls : List LinkR} {u : Int} {st : List Int × List Int} {k : Nat} (h2 : ¬ (scanTo ls u st k).1.getD (ls.getD k default).to_.toNat 0 = -2) : scanTo ls u st (k + 1) = scanTo ls u st k := by rw [scanTo, if_neg (fun h => h2 h.2)]

/-- ends of links are nodes -/
def LinksOk (ls : List LinkR) (N : Nat) : Prop := ∀ k, k < ls.length → (0 ≤ (ls.getD k default).fr ∧ (ls.getD k default).fr < N) ∧ (0 ≤ (ls.getD k default).to_ ∧ (ls.getD k default).to_ < N)

/-- what a state of the rounds is like -/
structure BfsOk (ls : List LinkR) (N f : Nat) (st : List Int × List Int) : Prop where
  len : st.1.length = N
  cnt : st.2.length + st.1.countP (fun b => b == -2) = N
  pos : 1 ≤ st.2.length
  q0 : st.2.getD 0 0 = f
  qin : ∀ j, j < st.2.length → 0 ≤ st.2.getD j 0 ∧ st.2.getD j 0 < N
  byf : ∀ v, v < N → st.1.getD v 0 = -1 → v = f
  fby : st.1.getD f 0 = -1
  bd : ∀ v, v < N → -2 ≤ st.1.getD v 0 ∧ st.1.getD v 0 < ls.length
  inq : ∀ v, v < N → st.1.getD v 0 ≠ -2 → ∃ p, p < st.2.length ∧ st.2.getD p 0 = v
  by_ : ∀ p, p < st.2.length → 0 < p → ∃ k, k < ls.length ∧ st.1.getD (st.2.getD p 0).toNat 0 = k ∧ (ls.getD k default).to_ = st.2.getD p 0 ∧ ∃ p', p' < p ∧ st.2.getD p' 0 = (ls.getD k default).fr

theorem getD_set' (zs : List Int) (i j : Nat) (x : Int) (h : i < zs.length) : (zs.set i x).getD j 0 = if i = j then x else zs.getD j 0 := by
  simp only [List.getD, List.getElem?_set]
  by_cases e : i = j
  · subst e; simp [h]
  · simp [e]
theorem getD_snoc_lt {zs : List Int} {x : Int} {j : Nat} (h : j < zs.length) : (zs ++ [x]).getD j 0 = zs.getD j 0 := by
  simp [List.getD, List.getElem?_append_left h]
theorem getD_snoc_eq {zs : List Int} {x : Int} {j : Nat} (h : j = zs.length) : (zs ++ [x]).getD j 0 = x := by
  subst h
  simp [List.getD]
theorem countP_set2 (zs : List Int) (i : Nat) (x : Int) (h : i < zs.length) (h1 : zs.getD i 0 = -2) (hx : x ≠ -2) : (zs.set i x).countP (fun b => b == -2) + 1 = zs.countP (fun b => b == -2) := by
  induction zs generalizing i with
  | nil => simp at h
  | cons z zs ih =>
    cases i with
    | zero =>
      have hz : z = -2 := by simpa [List.getD] using h1
      subst hz
      have hx' : (x == -2) = false := by simpa using hx
      simp [List.countP_cons, hx']
    | succ i =>
      have := ih i (by simpa using h) (by simpa [List.getD] using h1)
      simp only [List.set_cons_succ, List.countP_cons] at *
      omega

theorem bfs_start {ls : List LinkR} {N f : Nat} (hf : f < N) : BfsOk ls N f (bfsTo ls N f 0) := by
  have hl : (List.replicate N (-2 : Int)).length = N := by simp
  have hg : ∀ v, v < N → (List.replicate N (-2 : Int)).getD v 0 = -2 := fun v hv => by simp [List.getD, hv]
  have hs : ∀ v, ((List.replicate N (-2 : Int)).set f (-1)).getD v 0 = if f = v then -1 else (List.replicate N (-2 : Int)).getD v 0 := fun v => getD_set' _ f v _ (by rw [hl]; exact hf)
  constructor
  · simp [bfsTo]
  · have := countP_set2 (List.replicate N (-2 : Int)) f (-1) (by simpa using hf) (hg f hf) (by decide)
    simp only [bfsTo, List.length_singleton]
    rw [List.countP_replicate] at this
    simp at this
    omega
  · simp [bfsTo]
  · simp [bfsTo]
  · intro j hj
    have hj0 : j = 0 := by simp [bfsTo] at hj; exact hj
    subst hj0
    simp [bfsTo]; omega
  · intro v hv h
    simp only [bfsTo] at h
    rw [hs v] at h
    by_cases e : f = v
    · exact e.symm
    · rw [if_neg e, hg v hv] at h; exact absurd h (by decide)
  · simp only [bfsTo]; rw [hs f, if_pos rfl]
  · intro v hv
    simp only [bfsTo]
    rw [hs v]
    split
    · omega
    · rw [hg v hv]; omega
  · intro v hv h
    simp only [bfsTo] at h ⊢
    rw [hs v] at h
    by_cases e : f = v
    · exact ⟨0, by simp, by simp [e]⟩
    · rw [if_neg e, hg v hv] at h; exact absurd rfl h
  · intro p hp h0
    simp [bfsTo] at hp
    omega

theorem bfs_scan {ls : List LinkR} {N f i : Nat} (hls : LinksOk ls N) {st : List Int × List Int} (h : BfsOk ls N f st) (hi : i < st.2.length) (u : Int) (hu : st.2.getD i 0 = u) :
    ∀ k, k ≤ ls.length → BfsOk ls N f (scanTo ls u st k) ∧ i < (scanTo ls u st k).2.length ∧ (scanTo ls u st k).2.getD i 0 = u
  | 0, _ => ⟨h, hi, hu⟩
  | k + 1, hk => by
    obtain ⟨h, hi, hu⟩ := bfs_scan hls h hi u hu k (by omega)
    obtain ⟨⟨a0, a1⟩, ⟨b0, b1⟩⟩ := hls k (by omega)
    by_cases h1 : (ls.getD k default).fr = u
    · by_cases h2 : (scanTo ls u st k).1.getD (ls.getD k default).to_.toNat 0 = -2
      · rw [scan_yes h1 h2]
        generalize scanTo ls u st k = s at *
        generalize hl : ls.getD k default = l at *
        have htN : l.to_.toNat < N := by omega
        have hset : ∀ v, (s.1.set l.to_.toNat (k : Int)).getD v 0 = if l.to_.toNat = v then (k : Int) else s.1.getD v 0 := fun v => getD_set' _ _ v _ (by rw [h.len]; exact htN)
        have hne : l.to_.toNat ≠ f := fun e => by rw [e, h.fby] at h2; exact absurd h2 (by decide)
        refine ⟨?_, ?_, ?_⟩
        · constructor
          · simp [h.len]
          · have := countP_set2 s.1 l.to_.toNat (k : Int) (by rw [h.len]; exact htN) h2 (by omega)
            have := h.cnt
            simp only [List.length_append, List.length_singleton]
            omega
          · simp
          · show (s.2 ++ [l.to_]).getD 0 0 = f
            rw [getD_snoc_lt (by have := h.pos; omega)]; exact h.q0
          · intro j hj
            simp only [List.length_append, List.length_singleton] at hj
            by_cases e : j < s.2.length
            · show 0 ≤ (s.2 ++ [l.to_]).getD j 0 ∧ (s.2 ++ [l.to_]).getD j 0 < N
              rw [getD_snoc_lt e]; exact h.qin j e
            · show 0 ≤ (s.2 ++ [l.to_]).getD j 0 ∧ (s.2 ++ [l.to_]).getD j 0 < N
              rw [getD_snoc_eq (by omega)]; omega
          · intro v hv hvv
            have hvv' : (s.1.set l.to_.toNat (k : Int)).getD v 0 = -1 := hvv
            rw [hset v] at hvv'
            by_cases e : l.to_.toNat = v
            · rw [if_pos e] at hvv'; omega
            · rw [if_neg e] at hvv'; exact h.byf v hv hvv'
          · show (s.1.set l.to_.toNat (k : Int)).getD f 0 = -1
            rw [hset f, if_neg hne]; exact h.fby
          · intro v hv
            show -2 ≤ (s.1.set l.to_.toNat (k : Int)).getD v 0 ∧ (s.1.set l.to_.toNat (k : Int)).getD v 0 < ls.length
            rw [hset v]
            split
            · omega
            · exact h.bd v hv
          · intro v hv hvv
            have hvv' : (s.1.set l.to_.toNat (k : Int)).getD v 0 ≠ -2 := hvv
            rw [hset v] at hvv'
            by_cases e : l.to_.toNat = v
            · refine ⟨s.2.length, by simp, ?_⟩
              show (s.2 ++ [l.to_]).getD s.2.length 0 = v
              rw [getD_snoc_eq rfl]; omega
            · rw [if_neg e] at hvv'
              obtain ⟨p, hp, hp2⟩ := h.inq v hv hvv'
              refine ⟨p, by simp; omega, ?_⟩
              show (s.2 ++ [l.to_]).getD p 0 = v
              rw [getD_snoc_lt hp]; exact hp2
          · intro p hp hp0
            simp only [List.length_append, List.length_singleton] at hp
            show ∃ k', k' < ls.length ∧ (s.1.set l.to_.toNat (k : Int)).getD ((s.2 ++ [l.to_]).getD p 0).toNat 0 = k' ∧ (ls.getD k' default).to_ = (s.2 ++ [l.to_]).getD p 0 ∧ ∃ p', p' < p ∧ (s.2 ++ [l.to_]).getD p' 0 = (ls.getD k' default).fr
            by_cases e : p < s.2.length
            · obtain ⟨k', e1, e2, e3, p', e4, e5⟩ := h.by_ p e hp0
              have hpi := h.qin p e
              rw [getD_snoc_lt e]
              refine ⟨k', e1, ?_, e3, p', e4, by rw [getD_snoc_lt (by omega)]; exact e5⟩
              rw [hset]
              by_cases e6 : l.to_.toNat = (s.2.getD p 0).toNat
              · rw [← e6, h2] at e2; omega
              · rw [if_neg e6]; exact e2
            · rw [getD_snoc_eq (by omega)]
              refine ⟨k, by omega, by rw [hset, if_pos rfl], by rw [hl], i, by omega, ?_⟩
              rw [getD_snoc_lt hi, hu, hl, h1]
        · simp; omega
        · show (s.2 ++ [l.to_]).getD i 0 = u
          rw [getD_snoc_lt hi]; exact hu
      · rw [scan_no2 h2]; exact ⟨h, hi, hu⟩
    · rw [scan_no1 h1]; exact ⟨h, hi, hu⟩

theorem bfs_ok {ls : List LinkR} {N f : Nat} (hls : LinksOk ls N) (hf : f < N) : ∀ i, BfsOk ls N f (bfsTo ls N f i)
  | 0 => bfs_start hf
  | i + 1 => by
    have h := bfs_ok hls hf i
    rw [bfsTo]
    split
    · rename_i hi
      exact (bfs_scan hls h hi _ rfl ls.length (Nat.le_refl _)).1
    · exact h
theorem bfs_step {ls : List LinkR} {N f i : Nat} (hi : i < (bfsTo ls N f i).2.length) : bfsTo ls N f (i + 1) = scanTo ls ((bfsTo ls N f i).2.getD i 0) (bfsTo ls N f i) ls.length := by rw [bfsTo, if_pos hi]
theorem bfs_len {ls : List LinkR} {N f : Nat} (hls : LinksOk ls N) (hf : f < N) (i : Nat) : (bfsTo ls N f i).2.length ≤ N := by
  have := (bfs_ok hls hf i).cnt
  omega
theorem bfs_stay {ls : List LinkR} {N f i : Nat} (hi : ¬ i < (bfsTo ls N f i).2.length) : ∀ d, bfsTo ls N f (i + d) = bfsTo ls N f i
  | 0 => rfl
  | d + 1 => by
    have ih := bfs_stay hi d
    rw [← Nat.add_assoc, bfsTo, ih, if_neg (by omega)]
theorem bfs_done {ls : List LinkR} {N f i : Nat} (hi : ¬ i < (bfsTo ls N f i).2.length) (hN : i ≤ N) : bfsTo ls N f N = bfsTo ls N f i := by
  have := bfs_stay hi (N - i)
  rwa [show i + (N - i) = N from by omega] at this
theorem getDL_mem {α} {l : List α} {k : Nat} {d : α} (h : k < l.length) : l.getD k d ∈ l := by
  simp [List.getD, List.getElem?_eq_getElem h]
theorem linksTo_ok {nodes : Int} {xs : List ArcR} (fl : List Int) {N : Nat} (hN : nodes = N) (h : validB nodes xs = true) : ∀ n, n ≤ xs.length → LinksOk (linksTo xs fl n) N
  | 0, _ => fun k hk => by simp [linksTo] at hk
  | n + 1, hn => by
    have ih := linksTo_ok fl hN h n (by omega)
    obtain ⟨_, _, _, hb⟩ := valid_bd h
    obtain ⟨h1, h2, _⟩ := hb n (by omega)
    intro k hk
    rw [linksTo_succ] at hk ⊢
    have hof : ∀ l ∈ linksOf n (xs.getD n default) (fl.getD n 0), (0 ≤ l.fr ∧ l.fr < N) ∧ (0 ≤ l.to_ ∧ l.to_ < N) := by
      generalize xs.getD n default = a at *
      generalize fl.getD n 0 = y at *
      intro l hl
      unfold linksOf at hl
      rw [List.mem_append] at hl
      rcases hl with hl | hl <;> split at hl <;> simp at hl <;> subst hl <;> (show (_ ∧ _) ∧ (_ ∧ _)) <;> (simp only []; omega)
    by_cases e : k < (linksTo xs fl n).length
    · have e2 : (linksTo xs fl n ++ linksOf n (xs.getD n default) (fl.getD n 0)).getD k default = (linksTo xs fl n).getD k default := by simp [List.getD, List.getElem?_append_left e]
      rw [e2]; exact ih k e
    · rw [List.length_append] at hk
      have e2 : (linksTo xs fl n ++ linksOf n (xs.getD n default) (fl.getD n 0)).getD k default = (linksOf n (xs.getD n default) (fl.getD n 0)).getD (k - (linksTo xs fl n).length) default := by simp [List.getD, List.getElem?_append_right (show (linksTo xs fl n).length ≤ k by omega)]
      rw [e2]
      apply hof
      exact getDL_mem (by omega)
end Go.Proofs.Ytnljfhmdjhppmaa

namespace Go.Proofs.Ytnljfhmdjhppmaa
open Go.RowKit

def risesTo (zs : List Int) (k : Nat) : Bool := (List.range k).all fun i => decide (i = 0) || decide (zs.getD (i - 1) 0 < zs.getD i 0)
theorem risesTo_succ (zs : List Int) (k : Nat) : risesTo zs (k + 1) = (risesTo zs k && (decide (k = 0) || decide (zs.getD (k - 1) 0 < zs.getD k 0))) := by
  unfold risesTo
  rw [List.range_succ, List.all_append]; simp
theorem risesTo_stop {zs : List Int} {k : Nat} (h1 : ¬ k = 0) (h : ¬ zs.getD (k - 1) 0 < zs.getD k 0) : ∀ d, risesTo zs (k + 1 + d) = false
  | 0 => by rw [Nat.add_zero, risesTo_succ, decide_eq_false h1, decide_eq_false h, Bool.or_self, Bool.and_false]
  | d + 1 => by rw [← Nat.add_assoc, risesTo_succ, risesTo_stop h1 h d, Bool.false_and]
/-- a list is a set of nodes -/
def nodesB (nodes : Int) (zs : List Int) : Bool := zs.all (fun x => inB x 0 (nodes - 1)) && risesTo zs zs.length
def cutRB (nodes : Int) (xs : List ArcR) (zs : List Int) : Bool := validB nodes xs && nodesB nodes zs
def cutTo (xs : List ArcR) (zs : List Int) (k : Nat) : Int := (List.range k).foldl (fun s i => s + if hasB zs (xs.getD i default).fr && !hasB zs (xs.getD i default).to_ then (xs.getD i default).room else 0) 0
theorem cutTo_succ (xs : List ArcR) (zs : List Int) (k : Nat) : cutTo xs zs (k + 1) = cutTo xs zs k + if hasB zs (xs.getD k default).fr && !hasB zs (xs.getD k default).to_ then (xs.getD k default).room else 0 := by
  unfold cutTo
  rw [List.range_succ, List.foldl_append]; rfl
def cutRV (nodes : Int) (xs : List ArcR) (zs : List Int) : Int := if cutRB nodes xs zs = true then cutTo xs zs xs.length else 0
theorem cutRV_no {nodes : Int} {xs : List ArcR} {zs : List Int} (h : cutRB nodes xs zs = false) : cutRV nodes xs zs = 0 := by unfold cutRV; rw [if_neg (by rw [h]; decide)]
theorem cutRV_yes {nodes : Int} {xs : List ArcR} {zs : List Int} (h : cutRB nodes xs zs = true) : cutRV nodes xs zs = cutTo xs zs xs.length := by unfold cutRV; rw [if_pos h]

theorem allI_stop {p : Int → Bool} {zs : List Int} {n k : Nat} {x : Int} (hl : zs.length = n) (hk : k < n) (hx : zs.getD k 0 = x) (hp : p x = false) : zs.all p = false :=
  all_false_of p zs k 0 (by omega) (by rw [hx, hp])
theorem allI_step {p : Int → Bool} {zs : List Int} {n k : Nat} {x : Int} (hl : zs.length = n) (hk : k < n) (hx : zs.getD k 0 = x) (hall : (zs.take k).all p = true) (hp : p x = true) : (zs.take (k+1)).all p = true := by
  rw [all_take_succ p zs k 0 (by omega), hall, hx, hp]; rfl
theorem allI_done {p : Int → Bool} {zs : List Int} {n k : Nat} (hl : zs.length = n) (hk : ¬ k < n) (hall : (zs.take k).all p = true) : zs.all p = true := by
  rwa [List.take_of_length_le (by omega)] at hall


end Go.Proofs.Ytnljfhmdjhppmaa

namespace Go.Proofs.Ytnljfhmdjhppmaa
open Go.RowKit

def BytesIn (A : Option Addr) (n B : Nat) : Prop := 0 < n → ∀ ad, A = some ad → ad.block < B
theorem BytesAt.in_ {w : World} {A : Option Addr} {n : Nat} (h : BytesAt w A n) : BytesIn A n w.heap.size := fun h0 ad h1 => by
  obtain ⟨ad', e1, e2, _⟩ := h h0
  rw [e1] at h1; injection h1 with h1; subst h1; exact e2
theorem BytesAt.belowB {w w' : World} {A : Option Addr} {n B : Nat} (h : BytesAt w A n) (hb : Below B w w') (hB : BytesIn A n B) : BytesAt w' A n := h.keep hb.size fun h0 ad h1 _ => hb.block _ (hB h0 ad h1)
theorem BytesIn.le {A : Option Addr} {n B B' : Nat} (h : BytesIn A n B) (hb : B ≤ B') : BytesIn A n B' := fun h0 ad h1 => Nat.lt_of_lt_of_le (h h0 ad h1) hb
theorem BytesIn.far {A : Option Addr} {n B : Nat} (h : BytesIn A n B) : BytesFar A n B := fun h0 ad h1 => Nat.ne_of_lt (h h0 ad h1)
theorem Upd.belowG {g : Nat} {w w' : World} (h : Upd (blk (some ⟨g, 0, none⟩)) w w') (hg : g ≤ w.heap.size) : Below g w w' := h.toBelow hg fun k hk ⟨z, h2, h3⟩ => by
  injection h2 with h2; subst h2; exact absurd h3 (by show ¬ g = k; omega)
theorem blk_not {g b : Nat} (h : b ≠ g) : ¬ blk (some ⟨g, 0, none⟩) b := fun ⟨z, h2, h3⟩ => by
  injection h2 with h2; subst h2; exact h h3.symm

/-- numbers that are drawn: so many, each from 0 to below a bound -/
def Drawn (T m : Nat) (M : Int) (w : World) (e : Ending) (w' : World) : Prop :=
  ∃ (S : Option Addr) (c : Nat) (zs : List Int), e = .returned (.slice S m c) ∧ OwnI T w.heap.size w' S m c zs ∧ (∀ x ∈ zs, 0 ≤ x ∧ x < max 1 M) ∧ Below w.heap.size w w'

end Go.Proofs.Ytnljfhmdjhppmaa

namespace Go.Proofs.Ytnljfhmdjhppmaa
open Go.RowKit

/-- the first arc from number i on, among k arcs, that leads out of a node and has a rest -/
def findW (xs : List ArcR) (rs : List Int) (at_ : Int) : Nat → Nat → Nat
  | 0, i => i
  | k + 1, i => if (xs.getD i default).fr = at_ ∧ 0 < rs.getD i 0 then i else findW xs rs at_ k (i + 1)
theorem findW_le {xs : List ArcR} {rs : List Int} {at_ : Int} : ∀ (k i : Nat), i ≤ findW xs rs at_ k i ∧ findW xs rs at_ k i ≤ i + k
  | 0, i => ⟨Nat.le_refl _, Nat.le_refl _⟩
  | k + 1, i => by
    unfold findW
    split
    · omega
    · have := findW_le (xs := xs) (rs := rs) (at_ := at_) k (i + 1); omega
theorem findW_hit {xs : List ArcR} {rs : List Int} {at_ : Int} : ∀ (k i : Nat), findW xs rs at_ k i < i + k → (xs.getD (findW xs rs at_ k i) default).fr = at_ ∧ 0 < rs.getD (findW xs rs at_ k i) 0
  | 0, i, h => by unfold findW at h; omega
  | k + 1, i, h => by
    unfold findW at h ⊢
    split
    · assumption
    · rename_i hn
      rw [if_neg hn] at h
      exact findW_hit k (i + 1) (by omega)
/-- a way: f more arcs are allowed -/
def wayF (xs : List ArcR) (to_ : Int) : Nat → Int → List Int → List Int → Option (List Int × List Int)
  | 0, at_, rs, wy => if at_ = to_ then some (rs, wy) else none
  | f + 1, at_, rs, wy => if at_ = to_ then some (rs, wy) else
      if findW xs rs at_ xs.length 0 = xs.length then none
      else wayF xs to_ f (xs.getD (findW xs rs at_ xs.length 0) default).to_ (rs.set (findW xs rs at_ xs.length 0) (rs.getD (findW xs rs at_ xs.length 0) 0 - 1)) (wy ++ [(findW xs rs at_ xs.length 0 : Int)])
/-- all ways: a more are to be found -/
def waysF (xs : List ArcR) (fr to_ : Int) : Nat → List Int → List (List Int) → Option (List (List Int))
  | 0, _, out => some out
  | a + 1, rs, out => match wayF xs to_ 48 fr rs [] with
    | none => none
    | some (rs', wy) => waysF xs fr to_ a rs' (out ++ [wy])
theorem wayF_len {xs : List ArcR} {to_ : Int} : ∀ (f : Nat) (at_ : Int) (rs wy : List Int) (rs' wy' : List Int), wayF xs to_ f at_ rs wy = some (rs', wy') → wy.length ≤ wy'.length ∧ wy'.length ≤ wy.length + f ∧ rs'.length = rs.length
  | 0, at_, rs, wy, rs', wy', h => by
    unfold wayF at h
    split at h
    · injection h with h; injection h with h1 h2; subst h1; subst h2; exact ⟨Nat.le_refl _, Nat.le_refl _, rfl⟩
    · cases h
  | f + 1, at_, rs, wy, rs', wy', h => by
    unfold wayF at h
    split at h
    · injection h with h; injection h with h1 h2; subst h1; subst h2; exact ⟨Nat.le_refl _, by omega, rfl⟩
    · split at h
      · cases h
      · have := wayF_len f _ _ _ _ _ h
        rw [List.length_append, List.length_singleton, List.length_set] at this
        omega
/-- what is left of a flow stays within bounds -/
def RestOk (rs : List Int) (n : Nat) : Prop := rs.length = n ∧ ∀ k, k < n → 0 ≤ rs.getD k 0 ∧ rs.getD k 0 ≤ 1000000
theorem RestOk.step {rs : List Int} {n j : Nat} (h : RestOk rs n) (hj : j < n) (hp : 0 < rs.getD j 0) : RestOk (rs.set j (rs.getD j 0 - 1)) n := by
  refine ⟨by rw [List.length_set]; exact h.1, fun k hk => ?_⟩
  by_cases e : j = k
  · subst e
    have := h.2 j hk
    rw [show (rs.set j (rs.getD j 0 - 1)).getD j 0 = rs.getD j 0 - 1 by simp [List.getD, List.getElem?_set, show j < rs.length by rw [h.1]; exact hj]]
    omega
  · rw [show (rs.set j (rs.getD j 0 - 1)).getD k 0 = rs.getD k 0 by simp [List.getD, List.getElem?_set, e]]
    exact h.2 k hk
theorem wayF_rest {xs : List ArcR} {to_ : Int} : ∀ (f : Nat) (at_ : Int) (rs wy : List Int) (rs' wy' : List Int), RestOk rs xs.length → wayF xs to_ f at_ rs wy = some (rs', wy') → RestOk rs' xs.length
  | 0, at_, rs, wy, rs', wy', hr, h => by
    unfold wayF at h
    split at h
    · injection h with h; injection h with h1 h2; subst h1; exact hr
    · cases h
  | f + 1, at_, rs, wy, rs', wy', hr, h => by
    unfold wayF at h
    split at h
    · injection h with h; injection h with h1 h2; subst h1; exact hr
    · split at h
      · cases h
      · rename_i hne
        have hle := (findW_le (xs := xs) (rs := rs) (at_ := at_) xs.length 0).2
        have hh := findW_hit (xs := xs) (rs := rs) (at_ := at_) xs.length 0 (by omega)
        exact wayF_rest f _ _ _ _ _ (hr.step (by omega) hh.2) h
theorem waysF_len {xs : List ArcR} {fr to_ : Int} : ∀ (a : Nat) (rs : List Int) (out out' : List (List Int)), waysF xs fr to_ a rs out = some out' → out'.length = out.length + a
  | 0, rs, out, out', h => by
    unfold waysF at h
    injection h with h; subst h; rfl
  | a + 1, rs, out, out', h => by
    unfold waysF at h
    split at h
    · cases h
    · have := waysF_len a _ _ _ h
      rw [List.length_append, List.length_singleton] at this
      omega
end Go.Proofs.Ytnljfhmdjhppmaa
