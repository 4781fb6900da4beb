/- Joined texts: ReachPlain, WidePlain, WideP, Ask. -/
import Derived.Test.YtpaahjeohigngaaZLinks
import Derived.Test.YtpaahjeohigngaaZNetMem
import Derived.Test.YtpaahjeohigngaaZFlow3
import Derived.Test.YtpaahjeohigngaaJ2
import Derived.Test.YtpaahjeohigngaaZSrc
namespace Go.Proofs.Ytpaahjeohigngaa
open Go.RowKit

/-- one node's round: the first k links -/
def scanTo (ls : List LinkR) (u : Int) (st : List Int × List Int) : Nat → List Int × List Int
  | 0 => st
  | k + 1 => if (ls.getD k default).fr = u ∧ (scanTo ls u st k).1.getD (ls.getD k default).to_.toNat 0 = -2 then ((scanTo ls u st k).1.set (ls.getD k default).to_.toNat (k : Int), (scanTo ls u st k).2 ++ [(ls.getD k default).to_]) else scanTo ls u st k
/-- the rounds of the first i nodes of the queue -/
def bfsTo (ls : List LinkR) (N f : Nat) : Nat → List Int × List Int
  | 0 => ((List.replicate N (-2)).set f (-1), [(f : Int)])
  | i + 1 => if i < (bfsTo ls N f i).2.length then scanTo ls ((bfsTo ls N f i).2.getD i 0) (bfsTo ls N f i) ls.length else bfsTo ls N f i
/-- by which link each node is reached: -1 the first one, -2 not at all -/
def reachL (ls : List LinkR) (N f : Nat) : List Int := (bfsTo ls N f N).1
theorem scan_yes {ls : List LinkR} {u : Int} {st : List Int × List Int} {k : Nat} (h1 : (ls.getD k default).fr = u) (h2 : (scanTo ls u st k).1.getD (ls.getD k default).to_.toNat 0 = -2) :
    scanTo ls u st (k + 1) = ((scanTo ls u st k).1.set (ls.getD k default).to_.toNat (k : Int), (scanTo ls u st k).2 ++ [(ls.getD k default).to_]) := by rw [scanTo, if_pos ⟨h1, h2⟩]
theorem scan_no1 {ls : List LinkR} {u : Int} {st : List Int × List Int} {k : Nat} (h1 : ¬ (ls.getD k default).fr = u) : scanTo ls u st (k + 1) = scanTo ls u st k := by rw [scanTo, if_neg (fun h => h1 h.1)]
theorem scan_no2 {ls : List LinkR} {u : Int} {st : List Int × List Int} {k : Nat} (h2 : ¬ (scanTo ls u st k).1.getD (ls.getD k default).to_.toNat 0 = -2) : scanTo ls u st (k + 1) = scanTo ls u st k := by rw [scanTo, if_neg (fun h => h2 h.2)]

/-- ends of links are nodes -/
def LinksOk (ls : List LinkR) (N : Nat) : Prop := ∀ k, k < ls.length → (0 ≤ (ls.getD k default).fr ∧ (ls.getD k default).fr < N) ∧ (0 ≤ (ls.getD k default).to_ ∧ (ls.getD k default).to_ < N)

/-- what a state of the rounds is like -/
structure BfsOk (ls : List LinkR) (N f : Nat) (st : List Int × List Int) : Prop where
  len : st.1.length = N
  cnt : st.2.length + st.1.countP (fun b => b == -2) = N
  pos : 1 ≤ st.2.length
  q0 : st.2.getD 0 0 = f
  qin : ∀ j, j < st.2.length → 0 ≤ st.2.getD j 0 ∧ st.2.getD j 0 < N
  byf : ∀ v, v < N → st.1.getD v 0 = -1 → v = f
  fby : st.1.getD f 0 = -1
  bd : ∀ v, v < N → -2 ≤ st.1.getD v 0 ∧ st.1.getD v 0 < ls.length
  inq : ∀ v, v < N → st.1.getD v 0 ≠ -2 → ∃ p, p < st.2.length ∧ st.2.getD p 0 = v
  by_ : ∀ p, p < st.2.length → 0 < p → ∃ k, k < ls.length ∧ st.1.getD (st.2.getD p 0).toNat 0 = k ∧ (ls.getD k default).to_ = st.2.getD p 0 ∧ ∃ p', p' < p ∧ st.2.getD p' 0 = (ls.getD k default).fr

theorem getD_set' (zs : List Int) (i j : Nat) (x : Int) (h : i < zs.length) : (zs.set i x).getD j 0 = if i = j then x else zs.getD j 0 := by
  simp only [List.getD, List.getElem?_set]
  by_cases e : i = j
  · subst e; simp [h]
  · simp [e]
theorem getD_snoc_lt {zs : List Int} {x : Int} {j : Nat} (h : j < zs.length) : (zs ++ [x]).getD j 0 = zs.getD j 0 := by
  simp [List.getD, List.getElem?_append_left h]
theorem getD_snoc_eq {zs : List Int} {x : Int} {j : Nat} (h : j = zs.length) : (zs ++ [x]).getD j 0 = x := by
  subst h
  simp [List.getD]
theorem countP_set2 (zs : List Int) (i : Nat) (x : Int) (h : i < zs.length) (h1 : zs.getD i 0 = -2) (hx : x ≠ -2) : (zs.set i x).countP (fun b => b == -2) + 1 = zs.countP (fun b => b == -2) := by
  induction zs generalizing i with
  | nil => simp at h
  | cons z zs ih =>
    cases i with
    | zero =>
      have hz : z = -2 := by simpa [List.getD] using h1
      subst hz
      have hx' : (x == -2) = false := by simpa using hx
      simp [List.countP_cons, hx']
    | succ i =>
      have := ih i (by simpa using h) (by simpa [List.getD] using h1)
      simp only [List.set_cons_succ, List.countP_cons] at *
      omega

theorem bfs_start {ls : List LinkR} {N f : Nat} (hf : f < N) : BfsOk ls N f (bfsTo ls N f 0) := by
  have hl : (List.replicate N (-2 : Int)).length = N := by simp
  have hg : ∀ v, v < N → (List.replicate N (-2 : Int)).getD v 0 = -2 := fun v hv => by simp [List.getD, hv]
  have hs : ∀ v, ((List.replicate N (-2 : Int)).set f (-1)).getD v 0 = if f = v then -1 else (List.replicate N (-2 : Int)).getD v 0 := fun v => getD_set' _ f v _ (by rw [hl]; exact hf)
  constructor
  · simp [bfsTo]
  · have := countP_set2 (List.replicate N (-2 : Int)) f (-1) (by simpa using hf) (hg f hf) (by decide)
    simp only [bfsTo, List.length_singleton]
    rw [List.countP_replicate] at this
    simp at this
    omega
  · simp [bfsTo]
  · simp [bfsTo]
  · intro j hj
    have hj0 : j = 0 := by simp [bfsTo] at hj; exact hj
    subst hj0
    simp [bfsTo]; omega
  · intro v hv h
    simp only [bfsTo] at h
    rw [hs v] at h
    by_cases e : f = v
    · exact e.symm
    · rw [if_neg e, hg v hv] at h; exact absurd h (by decide)
  · simp only [bfsTo]; rw [hs f, if_pos rfl]
  · intro v hv
    simp only [bfsTo]
    rw [hs v]
    split
    · omega
    · rw [hg v hv]; omega
  · intro v hv h
    simp only [bfsTo] at h ⊢
    rw [hs v] at h
    by_cases e : f = v
    · exact ⟨0, by simp, by simp [e]⟩
    · rw [if_neg e, hg v hv] at h; exact absurd rfl h
  · intro p hp h0
    simp [bfsTo] at hp
    omega

theorem bfs_scan {ls : List LinkR} {N f i : Nat} (hls : LinksOk ls N) {st : List Int × List Int} (h : BfsOk ls N f st) (hi : i < st.2.length) (u : Int) (hu : st.2.getD i 0 = u) :
    ∀ k, k ≤ ls.length → BfsOk ls N f (scanTo ls u st k) ∧ i < (scanTo ls u st k).2.length ∧ (scanTo ls u st k).2.getD i 0 = u
  | 0, _ => ⟨h, hi, hu⟩
  | k + 1, hk => by
    obtain ⟨h, hi, hu⟩ := bfs_scan hls h hi u hu k (by omega)
    obtain ⟨⟨a0, a1⟩, ⟨b0, b1⟩⟩ := hls k (by omega)
    by_cases h1 : (ls.getD k default).fr = u
    · by_cases h2 : (scanTo ls u st k).1.getD (ls.getD k default).to_.toNat 0 = -2
      · rw [scan_yes h1 h2]
        generalize scanTo ls u st k = s at *
        generalize hl : ls.getD k default = l at *
        have htN : l.to_.toNat < N := by omega
        have hset : ∀ v, (s.1.set l.to_.toNat (k : Int)).getD v 0 = if l.to_.toNat = v then (k : Int) else s.1.getD v 0 := fun v => getD_set' _ _ v _ (by rw [h.len]; exact htN)
        have hne : l.to_.toNat ≠ f := fun e => by rw [e, h.fby] at h2; exact absurd h2 (by decide)
        refine ⟨?_, ?_, ?_⟩
        · constructor
          · simp [h.len]
          · have := countP_set2 s.1 l.to_.toNat (k : Int) (by rw [h.len]; exact htN) h2 (by omega)
            have := h.cnt
            simp only [List.length_append, List.length_singleton]
            omega
          · simp
          · show (s.2 ++ [l.to_]).getD 0 0 = f
            rw [getD_snoc_lt (by have := h.pos; omega)]; exact h.q0
          · intro j hj
            simp only [List.length_append, List.length_singleton] at hj
            by_cases e : j < s.2.length
            · show 0 ≤ (s.2 ++ [l.to_]).getD j 0 ∧ (s.2 ++ [l.to_]).getD j 0 < N
              rw [getD_snoc_lt e]; exact h.qin j e
            · show 0 ≤ (s.2 ++ [l.to_]).getD j 0 ∧ (s.2 ++ [l.to_]).getD j 0 < N
              rw [getD_snoc_eq (by omega)]; omega
          · intro v hv hvv
            have hvv' : (s.1.set l.to_.toNat (k : Int)).getD v 0 = -1 := hvv
            rw [hset v] at hvv'
            by_cases e : l.to_.toNat = v
            · rw [if_pos e] at hvv'; omega
            · rw [if_neg e] at hvv'; exact h.byf v hv hvv'
          · show (s.1.set l.to_.toNat (k : Int)).getD f 0 = -1
            rw [hset f, if_neg hne]; exact h.fby
          · intro v hv
            show -2 ≤ (s.1.set l.to_.toNat (k : Int)).getD v 0 ∧ (s.1.set l.to_.toNat (k : Int)).getD v 0 < ls.length
            rw [hset v]
            split
            · omega
            · exact h.bd v hv
          · intro v hv hvv
            have hvv' : (s.1.set l.to_.toNat (k : Int)).getD v 0 ≠ -2 := hvv
            rw [hset v] at hvv'
            by_cases e : l.to_.toNat = v
            · refine ⟨s.2.length, by simp, ?_⟩
              show (s.2 ++ [l.to_]).getD s.2.length 0 = v
              rw [getD_snoc_eq rfl]; omega
            · rw [if_neg e] at hvv'
              obtain ⟨p, hp, hp2⟩ := h.inq v hv hvv'
              refine ⟨p, by simp; omega, ?_⟩
              show (s.2 ++ [l.to_]).getD p 0 = v
              rw [getD_snoc_lt hp]; exact hp2
          · intro p hp hp0
            simp only [List.length_append, List.length_singleton] at hp
            show ∃ k', k' < ls.length ∧ (s.1.set l.to_.toNat (k : Int)).getD ((s.2 ++ [l.to_]).getD p 0).toNat 0 = k' ∧ (ls.getD k' default).to_ = (s.2 ++ [l.to_]).getD p 0 ∧ ∃ p', p' < p ∧ (s.2 ++ [l.to_]).getD p' 0 = (ls.getD k' default).fr
            by_cases e : p < s.2.length
            · obtain ⟨k', e1, e2, e3, p', e4, e5⟩ := h.by_ p e hp0
              have hpi := h.qin p e
              rw [getD_snoc_lt e]
              refine ⟨k', e1, ?_, e3, p', e4, by rw [getD_snoc_lt (by omega)]; exact e5⟩
              rw [hset]
              by_cases e6 : l.to_.toNat = (s.2.getD p 0).toNat
              · rw [← e6, h2] at e2; omega
              · rw [if_neg e6]; exact e2
            · rw [getD_snoc_eq (by omega)]
              refine ⟨k, by omega, by rw [hset, if_pos rfl], by rw [hl], i, by omega, ?_⟩
              rw [getD_snoc_lt hi, hu, hl, h1]
        · simp; omega
        · show (s.2 ++ [l.to_]).getD i 0 = u
          rw [getD_snoc_lt hi]; exact hu
      · rw [scan_no2 h2]; exact ⟨h, hi, hu⟩
    · rw [scan_no1 h1]; exact ⟨h, hi, hu⟩

theorem bfs_ok {ls : List LinkR} {N f : Nat} (hls : LinksOk ls N) (hf : f < N) : ∀ i, BfsOk ls N f (bfsTo ls N f i)
  | 0 => bfs_start hf
  | i + 1 => by
    have h := bfs_ok hls hf i
    rw [bfsTo]
    split
    · rename_i hi
      exact (bfs_scan hls h hi _ rfl ls.length (Nat.le_refl _)).1
    · exact h
theorem bfs_step {ls : List LinkR} {N f i : Nat} (hi : i < (bfsTo ls N f i).2.length) : bfsTo ls N f (i + 1) = scanTo ls ((bfsTo ls N f i).2.getD i 0) (bfsTo ls N f i) ls.length := by rw [bfsTo, if_pos hi]
theorem bfs_len {ls : List LinkR} {N f : Nat} (hls : LinksOk ls N) (hf : f < N) (i : Nat) : (bfsTo ls N f i).2.length ≤ N := by
  have := (bfs_ok hls hf i).cnt
  omega
theorem bfs_stay {ls : List LinkR} {N f i : Nat} (hi : ¬ i < (bfsTo ls N f i).2.length) : ∀ d, bfsTo ls N f (i + d) = bfsTo ls N f i
  | 0 => rfl
  | d + 1 => by
    have ih := bfs_stay hi d
    rw [← Nat.add_assoc, bfsTo, ih, if_neg (by omega)]
theorem bfs_done {ls : List LinkR} {N f i : Nat} (hi : ¬ i < (bfsTo ls N f i).2.length) (hN : i ≤ N) : bfsTo ls N f N = bfsTo ls N f i := by
  have := bfs_stay hi (N - i)
  rwa [show i + (N - i) = N from by omega] at this
theorem getDL_mem {α} {l : List α} {k : Nat} {d : α} (h : k < l.length) : l.getD k d ∈ l := by
  simp [List.getD, List.getElem?_eq_getElem h]
theorem linksTo_ok {nodes : Int} {xs : List ArcR} (fl : List Int) {N : Nat} (hN : nodes = N) (h : validB nodes xs = true) : ∀ n, n ≤ xs.length → LinksOk (linksTo xs fl n) N
  | 0, _ => fun k hk => by simp [linksTo] at hk
  | n + 1, hn => by
    have ih := linksTo_ok fl hN h n (by omega)
    obtain ⟨_, _, _, hb⟩ := valid_bd h
    obtain ⟨h1, h2, _⟩ := hb n (by omega)
    intro k hk
    rw [linksTo_succ] at hk ⊢
    have hof : ∀ l ∈ linksOf n (xs.getD n default) (fl.getD n 0), (0 ≤ l.fr ∧ l.fr < N) ∧ (0 ≤ l.to_ ∧ l.to_ < N) := by
      generalize xs.getD n default = a at *
      generalize fl.getD n 0 = y at *
      intro l hl
      unfold linksOf at hl
      rw [List.mem_append] at hl
      rcases hl with hl | hl <;> split at hl <;> simp at hl <;> subst hl <;> (show (_ ∧ _) ∧ (_ ∧ _)) <;> (simp only []; omega)
    by_cases e : k < (linksTo xs fl n).length
    · have e2 : (linksTo xs fl n ++ linksOf n (xs.getD n default) (fl.getD n 0)).getD k default = (linksTo xs fl n).getD k default := by simp [List.getD, List.getElem?_append_left e]
      rw [e2]; exact ih k e
    · rw [List.length_append] at hk
      have e2 : (linksTo xs fl n ++ linksOf n (xs.getD n default) (fl.getD n 0)).getD k default = (linksOf n (xs.getD n default) (fl.getD n 0)).getD (k - (linksTo xs fl n).length) default := by simp [List.getD, List.getElem?_append_right (show (linksTo xs fl n).length ≤ k by omega)]
      rw [e2]
      apply hof
      exact getDL_mem (by omega)
end Go.Proofs.Ytpaahjeohigngaa

namespace Go.Proofs.Ytpaahjeohigngaa
open Go.RowKit

theorem wI_set (zs : List Int) (i j : Nat) (x : Int) (h : i < zs.length) : (zs.set i x).getD j 0 = if i = j then x else zs.getD j 0 := by
  simp only [List.getD, List.getElem?_set]
  by_cases e : i = j
  · subst e; simp [h]
  · simp [e]
theorem wN_set (zs : List Nat) (i j : Nat) (x : Nat) (h : i < zs.length) : (zs.set i x).getD j 0 = if i = j then x else zs.getD j 0 := by
  simp only [List.getD, List.getElem?_set]
  by_cases e : i = j
  · subst e; simp [h]
  · simp [e]
/-- widths, last arcs, and when each node was settled (0: not yet) -/
structure WideS where
  W : List Int
  B : List Int
  T : List Nat
def wideGo (s : WideS) (at_ : Int) (i : Nat) : Bool := decide (s.T.getD i 0 = 0) && (decide (0 ≤ s.W.getD i 0) && (decide (at_ < 0) || decide (s.W.getD at_.toNat 0 < s.W.getD i 0)))
def pickTo (s : WideS) : Nat → Int
  | 0 => -1
  | i + 1 => if wideGo s (pickTo s i) i = true then (i : Int) else pickTo s i
def wideOne (xs : List ArcR) (u : Nat) (s : WideS) (j : Nat) : WideS :=
  if (xs.getD j default).fr = (u : Int) ∧ s.W.getD (xs.getD j default).to_.toNat 0 < min (s.W.getD u 0) (xs.getD j default).room then
    { s with W := s.W.set (xs.getD j default).to_.toNat (min (s.W.getD u 0) (xs.getD j default).room), B := s.B.set (xs.getD j default).to_.toNat j }
  else s
def wideTo (xs : List ArcR) (u : Nat) (s : WideS) : Nat → WideS
  | 0 => s
  | j + 1 => wideOne xs u (wideTo xs u s j) j
def wide0 (N F : Nat) : WideS := ⟨(List.replicate N (-1)).set F 1000001, List.replicate N 0, List.replicate N 0⟩
def wideR (xs : List ArcR) (N F : Nat) : Nat → WideS
  | 0 => wide0 N F
  | k + 1 => if pickTo (wideR xs N F k) N < 0 then wideR xs N F k else wideTo xs (pickTo (wideR xs N F k) N).toNat { wideR xs N F k with T := (wideR xs N F k).T.set (pickTo (wideR xs N F k) N).toNat (k + 1) } xs.length
theorem wideR_stay {xs : List ArcR} {N F k : Nat} (h : pickTo (wideR xs N F k) N < 0) : ∀ d, wideR xs N F (k + d) = wideR xs N F k
  | 0 => rfl
  | d + 1 => by rw [← Nat.add_assoc, wideR, wideR_stay h d, if_pos h]
/-- the k-th round has been made -/
structure WideOk (xs : List ArcR) (N F k : Nat) (s : WideS) : Prop where
  wl : s.W.length = N
  bl : s.B.length = N
  tl : s.T.length = N
  hF : s.W.getD F 0 = 1000001
  hw : ∀ v, v < N → s.W.getD v 0 = -1 ∨ (0 ≤ s.W.getD v 0 ∧ s.W.getD v 0 ≤ 1000001)
  ht : ∀ v, v < N → s.T.getD v 0 ≠ 0 → 0 ≤ s.W.getD v 0 ∧ s.T.getD v 0 ≤ k
  hm : ∀ v x, v < N → x < N → s.T.getD v 0 ≠ 0 → s.T.getD x 0 = 0 → s.W.getD x 0 ≤ s.W.getD v 0
  hb : ∀ v, v < N → v ≠ F → 0 ≤ s.W.getD v 0 → ∃ b u : Nat, s.B.getD v 0 = (b : Int) ∧ b < xs.length ∧ (xs.getD b default).to_ = (v : Int) ∧ (xs.getD b default).fr = (u : Int) ∧ u < N ∧ s.T.getD u 0 ≠ 0 ∧ (s.T.getD v 0 ≠ 0 → s.T.getD u 0 < s.T.getD v 0)
def NetOk (xs : List ArcR) (N : Nat) : Prop := ∀ j, j < xs.length → (0 ≤ (xs.getD j default).fr ∧ (xs.getD j default).fr < N) ∧ (0 ≤ (xs.getD j default).to_ ∧ (xs.getD j default).to_ < N) ∧ (0 ≤ (xs.getD j default).room ∧ (xs.getD j default).room ≤ 1000000)
theorem wide0_ok {xs : List ArcR} {N F : Nat} (hF : F < N) : WideOk xs N F 0 (wide0 N F) := by
  have hg : ∀ v, v < N → (wide0 N F).W.getD v 0 = if F = v then 1000001 else -1 := fun v hv => by
    show ((List.replicate N (-1 : Int)).set F 1000001).getD v 0 = _
    rw [wI_set _ _ _ _ (by simp [hF])]
    simp [List.getD, hv]
  have ht : ∀ v, v < N → (wide0 N F).T.getD v 0 = 0 := fun v hv => by simp [wide0, List.getD, hv]
  refine ⟨by simp [wide0], by simp [wide0], by simp [wide0], by rw [hg F hF, if_pos rfl], fun v hv => ?_, fun v hv h => absurd (ht v hv) h, fun v x hv _ h => absurd (ht v hv) h, fun v hv hne h => ?_⟩
  · rw [hg v hv]; split <;> omega
  · rw [hg v hv, if_neg (fun e => hne e.symm)] at h; omega
/-- while the arcs out of u are looked at: u has been settled last -/
theorem wideOne_ok {xs : List ArcR} {N F k u j : Nat} {s : WideS} (hx : NetOk xs N) (hj : j < xs.length) (hu : u < N) (hF : F < N) (h : WideOk xs N F (k + 1) s) (hTu : s.T.getD u 0 = k + 1) (hlast : ∀ v, v < N → s.T.getD v 0 ≠ 0 → s.W.getD u 0 ≤ s.W.getD v 0) :
    WideOk xs N F (k + 1) (wideOne xs u s j) ∧ (wideOne xs u s j).T = s.T ∧ (wideOne xs u s j).W.getD u 0 = s.W.getD u 0 ∧ ∀ v, v < N → (wideOne xs u s j).T.getD v 0 ≠ 0 → (wideOne xs u s j).W.getD u 0 ≤ (wideOne xs u s j).W.getD v 0 := by
  obtain ⟨⟨a0, a1⟩, ⟨b0, b1⟩, c0, c1⟩ := hx j hj
  unfold wideOne
  by_cases hg : (xs.getD j default).fr = (u : Int) ∧ s.W.getD (xs.getD j default).to_.toNat 0 < min (s.W.getD u 0) (xs.getD j default).room
  · rw [if_pos hg]
    obtain ⟨h1, h2⟩ := hg
    obtain ⟨t, ht⟩ : ∃ t : Nat, (xs.getD j default).to_ = t := ⟨_, (Int.toNat_of_nonneg b0).symm⟩
    rw [ht, Int.toNat_natCast] at h2 ⊢
    have htN : t < N := by omega
    obtain ⟨hu0, hu1⟩ := h.ht u hu (by omega)
    -- t is not settled
    have hTt : s.T.getD t 0 = 0 := by
      by_cases e : s.T.getD t 0 = 0
      · exact e
      · have := hlast t htN e
        omega
    have htF : t ≠ F := fun e => by subst e; rw [h.hF] at h2; omega
    have htu : t ≠ u := fun e => by subst e; omega
    have hWg : ∀ v, (s.W.set t (min (s.W.getD u 0) (xs.getD j default).room)).getD v 0 = if t = v then min (s.W.getD u 0) (xs.getD j default).room else s.W.getD v 0 := fun v => wI_set _ _ _ _ (by rw [h.wl]; exact htN)
    refine ⟨⟨by show (List.set _ _ _).length = N; rw [List.length_set]; exact h.wl, by show (List.set _ _ _).length = N; rw [List.length_set]; exact h.bl, h.tl, ?_, fun v hv => ?_, fun v hv hT => ?_, fun v x hv hx' hT hT' => ?_, fun v hv hne h0 => ?_⟩, rfl, ?_, fun v hv hT => ?_⟩
    · show (s.W.set t _).getD F 0 = _
      rw [hWg, if_neg htF]; exact h.hF
    · show (s.W.set t _).getD v 0 = -1 ∨ (0 ≤ (s.W.set t _).getD v 0 ∧ (s.W.set t _).getD v 0 ≤ 1000001)
      rw [hWg]
      split
      · have := h.hw u hu; omega
      · exact h.hw v hv
    · show 0 ≤ (s.W.set t _).getD v 0 ∧ s.T.getD v 0 ≤ k + 1
      have hT : s.T.getD v 0 ≠ 0 := hT
      rw [hWg, if_neg (fun e => by subst e; exact hT hTt)]
      exact h.ht v hv hT
    · show (s.W.set t _).getD x 0 ≤ (s.W.set t _).getD v 0
      have hT : s.T.getD v 0 ≠ 0 := hT
      have hT' : s.T.getD x 0 = 0 := hT'
      rw [hWg v, if_neg (fun e => by subst e; exact hT hTt), hWg x]
      split
      · have := hlast v hv hT; omega
      · exact h.hm v x hv hx' hT hT'
    · have h0 : 0 ≤ (s.W.set t (min (s.W.getD u 0) (xs.getD j default).room)).getD v 0 := h0
      show ∃ b u' : Nat, (s.B.set t (j : Int)).getD v 0 = (b : Int) ∧ b < xs.length ∧ (xs.getD b default).to_ = (v : Int) ∧ (xs.getD b default).fr = (u' : Int) ∧ u' < N ∧ s.T.getD u' 0 ≠ 0 ∧ (s.T.getD v 0 ≠ 0 → s.T.getD u' 0 < s.T.getD v 0)
      rw [wI_set _ _ _ _ (by rw [h.bl]; exact htN)]
      by_cases e : t = v
      · subst e
        rw [if_pos rfl]
        exact ⟨j, u, rfl, hj, ht, h1, hu, by omega, fun hn => absurd hTt hn⟩
      · rw [if_neg e]
        rw [hWg, if_neg e] at h0
        exact h.hb v hv hne h0
    · show (s.W.set t _).getD u 0 = _
      rw [hWg, if_neg htu]
    · show (s.W.set t _).getD u 0 ≤ (s.W.set t _).getD v 0
      have hT : s.T.getD v 0 ≠ 0 := hT
      rw [hWg u, hWg v, if_neg htu, if_neg (fun e => by subst e; exact hT hTt)]
      exact hlast v hv hT
  · rw [if_neg hg]
    exact ⟨h, rfl, rfl, hlast⟩
theorem wideTo_ok {xs : List ArcR} {N F k u : Nat} {s : WideS} (hx : NetOk xs N) (hu : u < N) (hF : F < N) (h : WideOk xs N F (k + 1) s) (hTu : s.T.getD u 0 = k + 1) (hlast : ∀ v, v < N → s.T.getD v 0 ≠ 0 → s.W.getD u 0 ≤ s.W.getD v 0) :
    ∀ j, j ≤ xs.length → WideOk xs N F (k + 1) (wideTo xs u s j) ∧ (wideTo xs u s j).T = s.T ∧ (wideTo xs u s j).W.getD u 0 = s.W.getD u 0 ∧ ∀ v, v < N → (wideTo xs u s j).T.getD v 0 ≠ 0 → (wideTo xs u s j).W.getD u 0 ≤ (wideTo xs u s j).W.getD v 0
  | 0, _ => ⟨h, rfl, rfl, hlast⟩
  | j + 1, hj => by
    obtain ⟨h1, h2, h3, h4⟩ := wideTo_ok hx hu hF h hTu hlast j (by omega)
    obtain ⟨k1, k2, k3, k4⟩ := wideOne_ok hx (show j < xs.length by omega) hu hF h1 (by rw [h2]; exact hTu) h4
    exact ⟨k1, k2.trans h2, k3.trans h3, k4⟩
theorem pick_ok {s : WideS} : ∀ i, pickTo s i = -1 ∨ ∃ v : Nat, pickTo s i = v ∧ v < i ∧ s.T.getD v 0 = 0 ∧ 0 ≤ s.W.getD v 0 ∧ ∀ x, x < i → s.T.getD x 0 = 0 → s.W.getD x 0 ≤ s.W.getD v 0
  | 0 => .inl rfl
  | i + 1 => by
    have ih := pick_ok (s := s) i
    rw [pickTo]
    by_cases hg : wideGo s (pickTo s i) i = true
    · rw [if_pos hg]
      unfold wideGo at hg
      simp only [Bool.and_eq_true, Bool.or_eq_true, decide_eq_true_eq] at hg
      obtain ⟨g1, g2, g3⟩ := hg
      refine .inr ⟨i, rfl, by omega, g1, g2, fun x hx hT => ?_⟩
      by_cases e : x = i
      · rw [e]; exact Int.le_refl _
      · rcases ih with ih | ⟨v, v1, v2, v3, v4, v5⟩
        · -- no earlier one is known and not settled
          have hno : ∀ j, j ≤ i → pickTo s j = -1 → ∀ x, x < j → s.T.getD x 0 = 0 → s.W.getD x 0 < 0 := by
            intro j
            induction j with
            | zero => intro _ _ x hx; omega
            | succ j ihj =>
              intro hj hp x hx hT
              rw [pickTo] at hp
              by_cases hg2 : wideGo s (pickTo s j) j = true
              · rw [if_pos hg2] at hp; omega
              · rw [if_neg hg2] at hp
                by_cases e2 : x = j
                · subst e2
                  unfold wideGo at hg2
                  rw [hp, hT] at hg2
                  by_cases h0 : 0 ≤ s.W.getD x 0
                  · exact absurd (by rw [decide_eq_true h0]; simp) hg2
                  · omega
                · exact ihj (by omega) hp x (by omega) hT
          have := hno i (Nat.le_refl _) ih x (by omega) hT
          omega
        · have := v5 x (by omega) hT
          rcases g3 with g3 | g3
          · omega
          · rw [v1, Int.toNat_natCast] at g3; omega
    · rw [if_neg hg]
      rcases ih with ih | ⟨v, v1, v2, v3, v4, v5⟩
      · exact .inl ih
      · refine .inr ⟨v, v1, by omega, v3, v4, fun x hx hT => ?_⟩
        by_cases e : x = i
        · subst e
          unfold wideGo at hg
          rw [hT, v1, Int.toNat_natCast] at hg
          by_cases h0 : 0 ≤ s.W.getD x 0
          · by_cases h1 : s.W.getD v 0 < s.W.getD x 0
            · exact absurd (by rw [decide_eq_true h0, decide_eq_true h1]; simp) hg
            · omega
          · omega
        · exact v5 x (by omega) hT
theorem countN_set {ts : List Nat} {y m : Nat} (h : y < ts.length) (hk : ts.getD y 0 = 0) (hm : m ≠ 0) : (ts.set y m).count 0 + 1 = ts.count 0 := by
  induction ts generalizing y with
  | nil => simp at h
  | cons t ts ih =>
    cases y with
    | zero =>
      simp [List.getD] at hk
      subst hk
      simp [hm]
    | succ y =>
      have := ih (y := y) (by simpa using h) (by simpa [List.getD] using hk)
      simp only [List.set_cons_succ, List.count_cons]
      omega
theorem settle_ok {xs : List ArcR} {N F k v : Nat} {s : WideS} (h : WideOk xs N F k s) (hv : v < N) (hT : s.T.getD v 0 = 0) (h0 : 0 ≤ s.W.getD v 0) (hmax : ∀ x, x < N → s.T.getD x 0 = 0 → s.W.getD x 0 ≤ s.W.getD v 0) :
    WideOk xs N F (k + 1) { s with T := s.T.set v (k + 1) } ∧ (s.T.set v (k + 1)).getD v 0 = k + 1 ∧ ∀ x, x < N → (s.T.set v (k + 1)).getD x 0 ≠ 0 → s.W.getD v 0 ≤ s.W.getD x 0 := by
  have hTg : ∀ x, (s.T.set v (k + 1)).getD x 0 = if v = x then k + 1 else s.T.getD x 0 := fun x => wN_set _ _ _ _ (by rw [h.tl]; exact hv)
  refine ⟨⟨h.wl, h.bl, by show (List.set _ _ _).length = N; rw [List.length_set]; exact h.tl, h.hF, h.hw, fun x hx hx2 => ?_, fun x y hx hy hx2 hy2 => ?_, fun x hx hne hx0 => ?_⟩, by rw [hTg, if_pos rfl], fun x hx hx2 => ?_⟩
  · show 0 ≤ s.W.getD x 0 ∧ (s.T.set v (k + 1)).getD x 0 ≤ k + 1
    have hx2 : (s.T.set v (k + 1)).getD x 0 ≠ 0 := hx2
    rw [hTg] at hx2 ⊢
    split
    · rename_i e; subst e; exact ⟨h0, Nat.le_refl _⟩
    · rename_i e; rw [if_neg e] at hx2; have := h.ht x hx hx2; omega
  · have hx2 : (s.T.set v (k + 1)).getD x 0 ≠ 0 := hx2
    have hy2 : (s.T.set v (k + 1)).getD y 0 = 0 := hy2
    show s.W.getD y 0 ≤ s.W.getD x 0
    rw [hTg] at hx2 hy2
    have hvy : ¬ v = y := fun e => by rw [if_pos e] at hy2; omega
    rw [if_neg hvy] at hy2
    by_cases e : v = x
    · subst e; exact hmax y hy hy2
    · rw [if_neg e] at hx2; exact h.hm x y hx hy hx2 hy2
  · obtain ⟨b, u, b1, b2, b3, b4, b5, b6, b7⟩ := h.hb x hx hne hx0
    refine ⟨b, u, b1, b2, b3, b4, b5, ?_, fun hn => ?_⟩
    · show (s.T.set v (k + 1)).getD u 0 ≠ 0
      rw [hTg]; split <;> omega
    · have hn : (s.T.set v (k + 1)).getD x 0 ≠ 0 := hn
      show (s.T.set v (k + 1)).getD u 0 < (s.T.set v (k + 1)).getD x 0
      have huv : ¬ v = u := fun e => by subst e; exact b6 hT
      rw [hTg] at hn
      rw [hTg, hTg, if_neg huv]
      by_cases e : v = x
      · rw [if_pos e]; have := (h.ht u b5 b6).2; omega
      · rw [if_neg e] at hn ⊢; exact b7 hn
  · rw [hTg] at hx2
    by_cases e : v = x
    · subst e; exact Int.le_refl _
    · rw [if_neg e] at hx2; exact h.hm x v hx hv hx2 hT
theorem wideR_ok {xs : List ArcR} {N F : Nat} (hx : NetOk xs N) (hF : F < N) : ∀ k, WideOk xs N F k (wideR xs N F k)
  | 0 => wide0_ok hF
  | k + 1 => by
    have ih := wideR_ok hx hF k
    rw [wideR]
    rcases pick_ok (s := wideR xs N F k) N with h | ⟨v, v1, v2, v3, v4, v5⟩
    · rw [if_pos (by rw [h]; omega)]
      exact ⟨ih.wl, ih.bl, ih.tl, ih.hF, ih.hw, fun v hv hT => by have := ih.ht v hv hT; omega, ih.hm, ih.hb⟩
    · rw [if_neg (by rw [v1]; omega), v1, Int.toNat_natCast]
      obtain ⟨s1, s2, s3⟩ := settle_ok ih v2 v3 v4 v5
      exact (wideTo_ok hx v2 hF s1 s2 s3 xs.length (Nat.le_refl _)).1
/-- while no round was idle, each has settled a node -/
theorem wideR_count {xs : List ArcR} {N F : Nat} (hx : NetOk xs N) (hF : F < N) {k : Nat} (h : (wideR xs N F k).T.count 0 + k = N) (hp : ¬ pickTo (wideR xs N F k) N < 0) : k + 1 ≤ N ∧ (wideR xs N F (k + 1)).T.count 0 + (k + 1) = N := by
  have ih := wideR_ok hx hF k
  rcases pick_ok (s := wideR xs N F k) N with h1 | ⟨v, v1, v2, v3, v4, v5⟩
  · rw [h1] at hp; omega
  · rw [wideR, if_neg hp, v1, Int.toNat_natCast]
    obtain ⟨s1, s2, s3⟩ := settle_ok ih v2 v3 v4 v5
    have hT := (wideTo_ok hx v2 hF s1 s2 s3 xs.length (Nat.le_refl _)).2.1
    rw [hT]
    have := countN_set (m := k + 1) (by rw [ih.tl]; exact v2) v3 (by omega)
    exact ⟨by omega, by show ((wideR xs N F k).T.set v (k + 1)).count 0 + (k + 1) = N; omega⟩
theorem pick_none {s : WideS} : ∀ i, pickTo s i < 0 → ∀ x, x < i → s.T.getD x 0 = 0 → s.W.getD x 0 < 0
  | 0, _, x, hx, _ => by omega
  | i + 1, hp, x, hx, hT => by
    rw [pickTo] at hp
    by_cases hg : wideGo s (pickTo s i) i = true
    · rw [if_pos hg] at hp; omega
    · rw [if_neg hg] at hp
      by_cases e : x = i
      · subst e
        unfold wideGo at hg
        rw [hT] at hg
        by_cases h0 : 0 ≤ s.W.getD x 0
        · by_cases h1 : pickTo s x < 0
          · exact absurd (by rw [decide_eq_true h0, decide_eq_true h1]; simp) hg
          · exact absurd hp h1
        · omega
      · exact pick_none i hp x (by omega) hT
/-- the way back -/
def wpre (xs : List ArcR) (s : WideS) (v : Nat) : Nat := (xs.getD (s.B.getD v 0).toNat default).fr.toNat
def wchain (xs : List ArcR) (s : WideS) (t : Nat) : Nat → Nat
  | 0 => t
  | i + 1 => wpre xs s (wchain xs s t i)
structure WayOk (xs : List ArcR) (N F t : Nat) (s : WideS) (p : Nat) : Prop where
  le : p ≤ N
  at_ : wchain xs s t p = F
  ne : ∀ j, j < p → wchain xs s t j ≠ F ∧ wchain xs s t j < N ∧ ∃ b : Nat, s.B.getD (wchain xs s t j) 0 = (b : Int) ∧ b < xs.length ∧ (xs.getD b default).fr = ((wchain xs s t (j + 1) : Nat) : Int) ∧ (xs.getD b default).to_ = ((wchain xs s t j : Nat) : Int)
theorem wchain_shift {xs : List ArcR} {s : WideS} {t : Nat} : ∀ j, wchain xs s t (j + 1) = wchain xs s (wpre xs s t) j
  | 0 => rfl
  | j + 1 => by
    rw [wchain, wchain_shift j]; rfl
theorem way_ok {xs : List ArcR} {N F k : Nat} {s : WideS} (h : WideOk xs N F k s) (hF : F < N) (hall : ∀ v, v < N → 0 ≤ s.W.getD v 0 → s.T.getD v 0 ≠ 0) : ∀ (q t : Nat), t < N → 0 ≤ s.W.getD t 0 → s.T.getD t 0 ≤ q → ∃ p, p ≤ q ∧ wchain xs s t p = F ∧ ∀ j, j < p → wchain xs s t j ≠ F ∧ wchain xs s t j < N ∧ ∃ b : Nat, s.B.getD (wchain xs s t j) 0 = (b : Int) ∧ b < xs.length ∧ (xs.getD b default).fr = ((wchain xs s t (j + 1) : Nat) : Int) ∧ (xs.getD b default).to_ = ((wchain xs s t j : Nat) : Int)
  | 0, t, ht, h0, hq => by have := hall t ht h0; omega
  | q + 1, t, ht, h0, hq => by
    by_cases e : t = F
    · exact ⟨0, by omega, e, fun j hj => by omega⟩
    · obtain ⟨b, u, b1, b2, b3, b4, b5, b6, b7⟩ := h.hb t ht e h0
      have hu := (h.ht u b5 b6).1
      have hlt := b7 (hall t ht h0)
      have hpre : wpre xs s t = u := by unfold wpre; rw [b1, Int.toNat_natCast, b4, Int.toNat_natCast]
      obtain ⟨p, p1, p2, p3⟩ := way_ok h hF hall q u b5 hu (by omega)
      refine ⟨p + 1, by omega, by rw [wchain_shift, hpre]; exact p2, fun j hj => ?_⟩
      cases j with
      | zero => exact ⟨e, ht, b, b1, b2, by rw [wchain_shift, hpre]; exact b4, b3⟩
      | succ j =>
        rw [wchain_shift, wchain_shift, hpre]
        exact p3 j (by omega)
theorem way_all {xs : List ArcR} {N F k t : Nat} (hx : NetOk xs N) (hF : F < N) (hk : k ≤ N) (hp : pickTo (wideR xs N F k) N < 0) (ht : t < N) (h0 : 0 ≤ (wideR xs N F k).W.getD t 0) : ∃ p, WayOk xs N F t (wideR xs N F k) p := by
  have h := wideR_ok hx hF k
  have hall : ∀ v, v < N → 0 ≤ (wideR xs N F k).W.getD v 0 → (wideR xs N F k).T.getD v 0 ≠ 0 := fun v hv h1 h2 => by
    have := pick_none N hp v hv h2; omega
  obtain ⟨p, p1, p2, p3⟩ := way_ok h hF hall k t ht h0 (h.ht t ht (hall t ht h0)).2
  exact ⟨p, by omega, p2, p3⟩
/-- the arcs of the way, backwards, the first k -/
def wback (xs : List ArcR) (s : WideS) (t : Nat) (k : Nat) : List Int := (List.range k).map fun i => s.B.getD (wchain xs s t i) 0
theorem wback_succ (xs : List ArcR) (s : WideS) (t k : Nat) : wback xs s t (k + 1) = wback xs s t k ++ [s.B.getD (wchain xs s t k) 0] := by
  unfold wback
  rw [List.range_succ, List.map_append]; rfl
theorem wback_len (xs : List ArcR) (s : WideS) (t k : Nat) : (wback xs s t k).length = k := by simp [wback]
def firstW (f : Nat → Bool) : Nat → Nat → Nat
  | 0, i => i
  | k + 1, i => if f i = true then i else firstW f k (i + 1)
theorem firstW_ok {f : Nat → Bool} : ∀ (k i p : Nat), i ≤ p → p < i + k → f p = true → (∀ m, i ≤ m → m < p → f m = false) → firstW f k i = p
  | 0, i, p, h1, h2, _, _ => by omega
  | k + 1, i, p, h1, h2, h3, h4 => by
    rw [firstW]
    by_cases e : i = p
    · subst e; rw [if_pos h3]
    · rw [if_neg (by rw [h4 i (Nat.le_refl _) (by omega)]; decide)]
      exact firstW_ok k (i + 1) p (by omega) (by omega) h3 (fun m m1 m2 => h4 m (by omega) m2)
def wayP (xs : List ArcR) (N F t : Nat) : Nat := firstW (fun p => decide (wchain xs (wideR xs N F N) t p = F)) (N + 1) 0
theorem wayP_ok {xs : List ArcR} {N F t p : Nat} (h : WayOk xs N F t (wideR xs N F N) p) : wayP xs N F t = p :=
  firstW_ok (N + 1) 0 p (by omega) (by have := h.le; omega) (decide_eq_true h.at_) (fun m _ m2 => decide_eq_false (h.ne m m2).1)
/-- the widest way and its width, with the ends -/
def wideB (nodes : Int) (xs : List ArcR) (a b : Int) : Bool := endsB nodes xs a b && decide (0 ≤ (wideR xs nodes.toNat a.toNat nodes.toNat).W.getD b.toNat 0)
def wideV (nodes : Int) (xs : List ArcR) (a b : Int) : List Int × Int := if wideB nodes xs a b = true then ((wback xs (wideR xs nodes.toNat a.toNat nodes.toNat) b.toNat (wayP xs nodes.toNat a.toNat b.toNat)).reverse, (wideR xs nodes.toNat a.toNat nodes.toNat).W.getD b.toNat 0) else ([], 0)
end Go.Proofs.Ytpaahjeohigngaa

namespace Go.Proofs.Ytpaahjeohigngaa
open Go.RowKit

/-- widths come from the arcs that are noted, and arcs out of settled nodes are looked at: of u's those below j -/
structure WideFit (xs : List ArcR) (N F : Nat) (s : WideS) (u j : Nat) : Prop where
  hv : ∀ v, v < N → v ≠ F → 0 ≤ s.W.getD v 0 → s.W.getD v 0 = min (s.W.getD (xs.getD (s.B.getD v 0).toNat default).fr.toNat 0) (xs.getD (s.B.getD v 0).toNat default).room
  hs : ∀ i, i < xs.length → s.T.getD (xs.getD i default).fr.toNat 0 ≠ 0 → ((xs.getD i default).fr = (u : Int) → i < j) → min (s.W.getD (xs.getD i default).fr.toNat 0) (xs.getD i default).room ≤ s.W.getD (xs.getD i default).to_.toNat 0
theorem fit_one {xs : List ArcR} {N F k u j : Nat} {s : WideS} (hx : NetOk xs N) (hj : j < xs.length) (hu : u < N) (h : WideOk xs N F (k + 1) s) (hTu : s.T.getD u 0 = k + 1) (hlast : ∀ v, v < N → s.T.getD v 0 ≠ 0 → s.W.getD u 0 ≤ s.W.getD v 0) (hf : WideFit xs N F s u j) : WideFit xs N F (wideOne xs u s j) u (j + 1) := by
  obtain ⟨⟨a0, a1⟩, ⟨b0, b1⟩, c0, c1⟩ := hx j hj
  unfold wideOne
  by_cases hg : (xs.getD j default).fr = (u : Int) ∧ s.W.getD (xs.getD j default).to_.toNat 0 < min (s.W.getD u 0) (xs.getD j default).room
  · rw [if_pos hg]
    obtain ⟨h1, h2⟩ := hg
    obtain ⟨t, ht⟩ : ∃ t : Nat, (xs.getD j default).to_ = t := ⟨_, (Int.toNat_of_nonneg b0).symm⟩
    rw [ht, Int.toNat_natCast] at h2 ⊢
    have htN : t < N := by omega
    have hTt : s.T.getD t 0 = 0 := by
      by_cases e : s.T.getD t 0 = 0
      · exact e
      · have := hlast t htN e
        omega
    have htu : t ≠ u := fun e => by subst e; omega
    have hWg : ∀ v, (s.W.set t (min (s.W.getD u 0) (xs.getD j default).room)).getD v 0 = if t = v then min (s.W.getD u 0) (xs.getD j default).room else s.W.getD v 0 := fun v => wI_set _ _ _ _ (by rw [h.wl]; exact htN)
    have hBg : ∀ v, (s.B.set t (j : Int)).getD v 0 = if t = v then (j : Int) else s.B.getD v 0 := fun v => wI_set _ _ _ _ (by rw [h.bl]; exact htN)
    constructor
    · intro v hv hne h0
      have h0 : 0 ≤ (s.W.set t (min (s.W.getD u 0) (xs.getD j default).room)).getD v 0 := h0
      show (s.W.set t (min (s.W.getD u 0) (xs.getD j default).room)).getD v 0 = min ((s.W.set t (min (s.W.getD u 0) (xs.getD j default).room)).getD (xs.getD ((s.B.set t (j : Int)).getD v 0).toNat default).fr.toNat 0) (xs.getD ((s.B.set t (j : Int)).getD v 0).toNat default).room
      rw [hBg v]
      by_cases e : t = v
      · rw [if_pos e, Int.toNat_natCast, h1, Int.toNat_natCast, hWg u, if_neg htu, hWg v, if_pos e]
      · rw [if_neg e]
        rw [hWg v, if_neg e] at h0 ⊢
        obtain ⟨b, x, x1, x2, x3, x4, x5, x6, x7⟩ := h.hb v hv hne h0
        have hvv := hf.hv v hv hne h0
        rw [x1, Int.toNat_natCast, x4, Int.toNat_natCast] at hvv ⊢
        rw [hWg x, if_neg (fun e2 => by subst e2; exact x6 hTt)]
        exact hvv
    · intro i hi hT hlt
      have hT : s.T.getD (xs.getD i default).fr.toNat 0 ≠ 0 := hT
      show min ((s.W.set t (min (s.W.getD u 0) (xs.getD j default).room)).getD (xs.getD i default).fr.toNat 0) (xs.getD i default).room ≤ (s.W.set t (min (s.W.getD u 0) (xs.getD j default).room)).getD (xs.getD i default).to_.toNat 0
      rw [hWg (xs.getD i default).fr.toNat, if_neg (fun e => by rw [e] at hTt; exact hT hTt), hWg]
      by_cases ei : i = j
      · subst ei
        rw [h1, ht, Int.toNat_natCast, Int.toNat_natCast, if_pos rfl]
        exact Int.le_refl _
      · have h3 := hf.hs i hi hT (fun e => by have := hlt e; omega)
        by_cases e : t = (xs.getD i default).to_.toNat
        · rw [if_pos e]
          rw [← e] at h3
          omega
        · rw [if_neg e]; exact h3
  · rw [if_neg hg]
    refine ⟨hf.hv, fun i hi hT hlt => ?_⟩
    by_cases ei : i = j
    · subst ei
      by_cases e : (xs.getD i default).fr = (u : Int)
      · have : ¬ s.W.getD (xs.getD i default).to_.toNat 0 < min (s.W.getD u 0) (xs.getD i default).room := fun h3 => hg ⟨e, h3⟩
        rw [e, Int.toNat_natCast]
        omega
      · exact hf.hs i hi hT (fun e2 => absurd e2 e)
    · exact hf.hs i hi hT (fun e => by have := hlt e; omega)
theorem fit_to {xs : List ArcR} {N F k u : Nat} {s : WideS} (hx : NetOk xs N) (hu : u < N) (hF : F < N) (h : WideOk xs N F (k + 1) s) (hTu : s.T.getD u 0 = k + 1) (hlast : ∀ v, v < N → s.T.getD v 0 ≠ 0 → s.W.getD u 0 ≤ s.W.getD v 0) (hf : WideFit xs N F s u 0) : ∀ j, j ≤ xs.length → WideFit xs N F (wideTo xs u s j) u j
  | 0, _ => hf
  | j + 1, hj => by
    obtain ⟨h1, h2, h3, h4⟩ := wideTo_ok hx hu hF h hTu hlast j (by omega)
    exact fit_one hx (by omega) hu h1 (by rw [h2]; exact hTu) h4 (fit_to hx hu hF h hTu hlast hf j (by omega))
/-- between the rounds -/
def WideFit0 (xs : List ArcR) (N F : Nat) (s : WideS) : Prop := ∀ u, WideFit xs N F s u xs.length
theorem fit_r {xs : List ArcR} {N F : Nat} (hx : NetOk xs N) (hF : F < N) : ∀ k, WideFit0 xs N F (wideR xs N F k)
  | 0 => by
    have hw := wide0_ok (xs := xs) (N := N) (F := F) hF
    intro u
    constructor
    · intro v hv hne h0
      obtain ⟨b, x, x1, x2, x3, x4, x5, x6, x7⟩ := hw.hb v hv hne h0
      have : (wide0 N F).T.getD x 0 = 0 := by simp [wide0, List.getD, x5]
      exact absurd this x6
    · intro i hi hT _
      have hb := hx i hi
      have : (wide0 N F).T.getD (xs.getD i default).fr.toNat 0 = 0 := by
        have : (xs.getD i default).fr.toNat < N := by omega
        generalize (xs.getD i default).fr.toNat = y at *
        simp [wide0, List.getD, this]
      exact absurd this hT
  | k + 1 => by
    have ih := fit_r hx hF k
    have hok := wideR_ok hx hF k
    rw [wideR]
    rcases pick_ok (s := wideR xs N F k) N with h | ⟨v, v1, v2, v3, v4, v5⟩
    · rw [if_pos (by rw [h]; omega)]; exact ih
    · rw [if_neg (by rw [v1]; omega), v1, Int.toNat_natCast]
      obtain ⟨s1, s2, s3⟩ := settle_ok hok v2 v3 v4 v5
      have hTg : ∀ x, ((wideR xs N F k).T.set v (k + 1)).getD x 0 = if v = x then k + 1 else (wideR xs N F k).T.getD x 0 := fun x => wN_set _ _ _ _ (by rw [hok.tl]; exact v2)
      have hstart : WideFit xs N F { wideR xs N F k with T := (wideR xs N F k).T.set v (k + 1) } v 0 := by
        constructor
        · exact (ih 0).hv
        · intro i hi hT hlt
          have hT : ((wideR xs N F k).T.set v (k + 1)).getD (xs.getD i default).fr.toNat 0 ≠ 0 := hT
          have hb := hx i hi
          rw [hTg] at hT
          by_cases e : v = (xs.getD i default).fr.toNat
          · have := hlt (by omega); omega
          · rw [if_neg e] at hT
            exact (ih 0).hs i hi hT (fun _ => hi)
      have hend := fit_to hx v2 hF s1 s2 s3 hstart xs.length (Nat.le_refl _)
      intro u
      exact ⟨hend.hv, fun i hi hT _ => hend.hs i hi hT (fun _ => hi)⟩
theorem wide_end {xs : List ArcR} {N F : Nat} (hx : NetOk xs N) (hF : F < N) : pickTo (wideR xs N F N) N < 0 := by
  have key : ∀ k, k ≤ N → (wideR xs N F k).T.count 0 + k = N ∨ pickTo (wideR xs N F k) N < 0 := by
    intro k
    induction k with
    | zero => intro _; left; simp [wideR, wide0]
    | succ k ih =>
      intro hk
      by_cases hp : pickTo (wideR xs N F k) N < 0
      · right
        rw [wideR, if_pos hp]; exact hp
      · rcases ih (by omega) with h | h
        · exact .inl (wideR_count hx hF h hp).2
        · exact absurd h hp
  rcases key N (Nat.le_refl _) with h | h
  · by_cases hp : pickTo (wideR xs N F N) N < 0
    · exact hp
    · have := (wideR_count hx hF h hp).1
      omega
  · exact h
theorem netOkV {xs : List ArcR} {N : Nat} (hv : validB N xs = true) : NetOk xs N := by
  obtain ⟨_, _, _, hb⟩ := valid_bd hv
  exact fun j hj => ⟨(hb j hj).1, (hb j hj).2.1, (hb j hj).2.2.2.1⟩
/-- what is known by width is what is reached by a walk -/
theorem wide_walk {xs : List ArcR} {N F : Nat} (hx : NetOk xs N) (hF : F < N) : ∀ (p : List Nat) (u v : Int), 0 ≤ u → u < N → IsWalk xs u p v → 0 ≤ (wideR xs N F N).W.getD u.toNat 0 → 0 ≤ (wideR xs N F N).W.getD v.toNat 0
  | [], u, v, _, _, h, h0 => by rw [IsWalk] at h; rw [← h]; exact h0
  | i :: p, u, v, hu0, hu1, h, h0 => by
    rw [IsWalk] at h
    obtain ⟨hi, hfr, hw⟩ := h
    have hb := hx i hi
    refine wide_walk hx hF p _ v hb.2.1.1 hb.2.1.2 hw ?_
    have hT : (wideR xs N F N).T.getD u.toNat 0 ≠ 0 := fun e => by
      have := pick_none N (wide_end hx hF) u.toNat (by omega) e
      omega
    have := (fit_r hx hF N 0).hs i hi (by rw [hfr]; exact hT) (fun _ => hi)
    rw [hfr] at this
    omega
theorem walk_known {xs : List ArcR} {N F : Nat} (hF : F < N) {D : List Int} (hcl : ∀ j, j < xs.length → 0 ≤ D.getD (xs.getD j default).fr.toNat 0 → 0 ≤ D.getD (xs.getD j default).to_.toNat 0) (h0 : 0 ≤ D.getD F 0) {s : WideS} : ∀ (p t : Nat), wchain xs s t p = F → (∀ j, j < p → ∃ b : Nat, s.B.getD (wchain xs s t j) 0 = (b : Int) ∧ b < xs.length ∧ (xs.getD b default).fr = ((wchain xs s t (j + 1) : Nat) : Int) ∧ (xs.getD b default).to_ = ((wchain xs s t j : Nat) : Int)) → 0 ≤ D.getD t 0
  | 0, t, h, _ => by rw [wchain] at h; rw [h]; exact h0
  | p + 1, t, h, hn => by
    obtain ⟨b, b1, b2, b3, b4⟩ := hn 0 (by omega)
    have ih := walk_known hF hcl h0 (s := s) p (wpre xs s t) (by rw [← wchain_shift]; exact h) (fun j hj => by
      obtain ⟨c, c1, c2, c3, c4⟩ := hn (j + 1) (by omega)
      rw [wchain_shift] at c1 c4
      rw [wchain_shift] at c3
      exact ⟨c, c1, c2, c3, c4⟩)
    have := hcl b b2 (by rw [b3, Int.toNat_natCast]; exact ih)
    rw [b4, Int.toNat_natCast] at this
    exact this
theorem rounds_tri {xs : List ArcR} {N f : Nat} (hN : 1 ≤ N) (hc : ∀ i, i < xs.length → 0 ≤ (xs.getD i default).cost) (hx : ∀ i, i < xs.length → (0 ≤ (xs.getD i default).fr ∧ (xs.getD i default).fr < N) ∧ (0 ≤ (xs.getD i default).to_ ∧ (xs.getD i default).to_ < N)) (hf : f < N) :
    (∀ j, j < xs.length → 0 ≤ (roundsL xs N f (N - 1)).getD (xs.getD j default).fr.toNat 0 → 0 ≤ (roundsL xs N f (N - 1)).getD (xs.getD j default).to_.toNat 0 ∧ (roundsL xs N f (N - 1)).getD (xs.getD j default).to_.toNat 0 ≤ (roundsL xs N f (N - 1)).getD (xs.getD j default).fr.toNat 0 + (xs.getD j default).cost)
    ∧ (roundsL xs N f (N - 1)).getD f 0 = 0 ∧ (roundsL xs N f (N - 1)).length = N ∧ ∀ v, v < N → 0 ≤ (roundsL xs N f (N - 1)).getD v 0 → ∃ p, IsWalk xs f p v := by
  obtain ⟨h1, h2⟩ := rounds_ok (f := f) hc hx hf (N - 1)
  refine ⟨fun j hj h0 => ?_, ?_, h1.1, fun v hv h0 => ?_⟩
  · have := relax_done hc hx h1 xs.length (Nat.le_refl _) j hj h0
    rw [relax_idle hc hx hf h1 h2 xs.length (Nat.le_refl _)] at this
    exact this
  · have h3 := h2 f hf [] rfl (by simp)
    rw [walkCost] at h3
    omega
  · rcases h1.2 v hv with h3 | ⟨_, p, hp, _⟩
    · omega
    · exact ⟨p, hp⟩
theorem wide_known {xs : List ArcR} {N t : Nat} (hv : validB N xs = true) (hN : 2 ≤ N) (ht : t < N) (hc : ∀ i, i < xs.length → 0 ≤ (xs.getD i default).cost) : decide (0 ≤ (wideR xs N 0 N).W.getD t 0) = decide (0 ≤ (roundsL xs N 0 (N - 1)).getD t 0) := by
  have hx := netOkV hv
  obtain ⟨r1, r2, r3, r4⟩ := rounds_tri (f := 0) (show 1 ≤ N by omega) hc (fun i hi => ⟨(hx i hi).1, (hx i hi).2.1⟩) (by omega)
  apply decide_eq_decide.2
  constructor
  · intro h
    obtain ⟨p, hp⟩ := way_all hx (show 0 < N by omega) (Nat.le_refl N) (wide_end hx (by omega)) ht h
    exact walk_known (show 0 < N by omega) (fun j hj h0 => (r1 j hj h0).1) (by rw [r2]; exact Int.le_refl _) p t hp.at_ (fun j hj => (hp.ne j hj).2.2)
  · intro h
    obtain ⟨p, hp⟩ := r4 t ht h
    have := wide_walk hx (show 0 < N by omega) p 0 t (Int.le_refl _) (by omega) hp (by
      have := (wideR_ok hx (show 0 < N by omega) N).hF
      show 0 ≤ (wideR xs N 0 N).W.getD (Int.toNat 0) 0
      rw [Int.toNat_zero, this]; omega)
    rw [Int.toNat_natCast] at this
    exact this
/-- the widest way, arc by arc -/
structure WayArcs (N t : Nat) (xs : List ArcR) (way : List Int) (wide : Int) (c : Nat → Nat) (W : Nat → Int) : Prop where
  len : way.length ≤ N
  c0 : c 0 = 0
  W0 : W 0 = 1000001
  ct : c way.length = t
  Wt : W way.length = wide
  step : ∀ k, k < way.length → ∃ b : Nat, way.getD k 0 = (b : Int) ∧ b < xs.length ∧ (xs.getD b default).fr = (c k : Int) ∧ (xs.getD b default).to_ = (c (k + 1) : Int) ∧ min (W k) (xs.getD b default).room = W (k + 1)
theorem way_arcs {xs : List ArcR} {N t : Nat} (hv : validB N xs = true) (hN : 2 ≤ N) (ht : t < N) (h0 : 0 ≤ (wideR xs N 0 N).W.getD t 0) : ∃ c W, WayArcs N t xs (wback xs (wideR xs N 0 N) t (wayP xs N 0 t)).reverse ((wideR xs N 0 N).W.getD t 0) c W := by
  have hx := netOkV hv
  obtain ⟨p, hp⟩ := way_all hx (show 0 < N by omega) (Nat.le_refl N) (wide_end hx (by omega)) ht h0
  rw [wayP_ok hp]
  have hok := wideR_ok hx (show 0 < N by omega) N
  have hfit := fit_r hx (show 0 < N by omega) N 0
  generalize hs : wideR xs N 0 N = s at *
  have hlen : (wback xs s t p).reverse.length = p := by rw [List.length_reverse, wback_len]
  have hW0 : ∀ j, j ≤ p → 0 ≤ s.W.getD (wchain xs s t j) 0 := by
    intro j hj
    induction j with
    | zero => exact h0
    | succ j ih =>
      obtain ⟨n1, n2, b, b1, b2, b3, b4⟩ := hp.ne j (by omega)
      obtain ⟨b', u', e1, e2, e3, e4, e5, e6, _⟩ := hok.hb _ n2 n1 (ih (by omega))
      have : b' = b := by omega
      subst this
      have : u' = wchain xs s t (j + 1) := by omega
      subst this
      exact (hok.ht _ e5 e6).1
  refine ⟨fun k => wchain xs s t (p - k), fun k => s.W.getD (wchain xs s t (p - k)) 0, ⟨by rw [hlen]; exact hp.le, by rw [Nat.sub_zero]; exact hp.at_, by rw [Nat.sub_zero, hp.at_]; exact hok.hF, by rw [hlen, Nat.sub_self]; rfl, by rw [hlen, Nat.sub_self]; rfl, fun k hk => ?_⟩⟩
  rw [hlen] at hk
  obtain ⟨n1, n2, b, b1, b2, b3, b4⟩ := hp.ne (p - (k + 1)) (by omega)
  have e : p - (k + 1) + 1 = p - k := by omega
  rw [e] at b3
  refine ⟨b, ?_, b2, b3, b4, ?_⟩
  · have h1 : (wback xs s t p).reverse.getD k 0 = (wback xs s t p).getD (p - 1 - k) 0 := by
      simp only [List.getD]
      rw [List.getElem?_reverse (by rw [wback_len]; exact hk), wback_len]
    rw [h1]
    unfold wback
    rw [show p - 1 - k = p - (k + 1) by omega]
    simp only [List.getD, List.getElem?_map, List.getElem?_range (show p - (k + 1) < p by omega)]
    exact b1
  · have := hfit.hv _ n2 n1 (hW0 _ (by omega))
    rw [b1, Int.toNat_natCast, b3, Int.toNat_natCast] at this
    exact this.symm
end Go.Proofs.Ytpaahjeohigngaa

namespace Go.Proofs.Ytpaahjeohigngaa
open Go.RowKit

def BytesIn (A : Option Addr) (n B : Nat) : Prop := 0 < n → ∀ ad, A = some ad → ad.block < B
theorem BytesAt.in_ {w : World} {A : Option Addr} {n : Nat} (h : BytesAt w A n) : BytesIn A n w.heap.size := fun h0 ad h1 => by
  obtain ⟨ad', e1, e2, _⟩ := h h0
  rw [e1] at h1; injection h1 with h1; subst h1; exact e2
theorem BytesAt.belowB {w w' : World} {A : Option Addr} {n B : Nat} (h : BytesAt w A n) (hb : Below B w w') (hB : BytesIn A n B) : BytesAt w' A n := h.keep hb.size fun h0 ad h1 _ => hb.block _ (hB h0 ad h1)
theorem BytesIn.le {A : Option Addr} {n B B' : Nat} (h : BytesIn A n B) (hb : B ≤ B') : BytesIn A n B' := fun h0 ad h1 => Nat.lt_of_lt_of_le (h h0 ad h1) hb
theorem BytesIn.far {A : Option Addr} {n B : Nat} (h : BytesIn A n B) : BytesFar A n B := fun h0 ad h1 => Nat.ne_of_lt (h h0 ad h1)
theorem Upd.belowG {g : Nat} {w w' : World} (h : Upd (blk (some ⟨g, 0, none⟩)) w w') (hg : g ≤ w.heap.size) : Below g w w' := h.toBelow hg fun k hk ⟨z, h2, h3⟩ => by
  injection h2 with h2; subst h2; exact absurd h3 (by show ¬ g = k; omega)
theorem blk_not {g b : Nat} (h : b ≠ g) : ¬ blk (some ⟨g, 0, none⟩) b := fun ⟨z, h2, h3⟩ => by
  injection h2 with h2; subst h2; exact h h3.symm

/-- numbers that are drawn: so many, each from 0 to below a bound -/
def Drawn (T m : Nat) (M : Int) (w : World) (e : Ending) (w' : World) : Prop :=
  ∃ (S : Option Addr) (c : Nat) (zs : List Int), e = .returned (.slice S m c) ∧ OwnI T w.heap.size w' S m c zs ∧ (∀ x ∈ zs, 0 ≤ x ∧ x < max 1 M) ∧ Below w.heap.size w w'

end Go.Proofs.Ytpaahjeohigngaa
