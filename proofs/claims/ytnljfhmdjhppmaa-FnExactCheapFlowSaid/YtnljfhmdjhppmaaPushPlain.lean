/- Ways by left over arcs, and flows along them: in plain lists. -/
import Derived.Test.YtnljfhmdjhppmaaReachS
import Derived.Test.YtnljfhmdjhppmaaFlow3
namespace Go.Proofs.Ytnljfhmdjhppmaa
open Go.RowKit

/-- links, the last one first, that lead back from a node to f, as 'by' tells -/
def Path (ls : List LinkR) (by_ : List Int) (N : Nat) (f : Int) : List LinkR → Int → Prop
  | [], at_ => at_ = f
  | l :: ws, at_ => ¬ at_ = f ∧ (0 ≤ at_ ∧ at_ < N) ∧ (∃ k : Nat, by_.getD at_.toNat 0 = k ∧ k < ls.length ∧ ls.getD k default = l) ∧ Path ls by_ N f ws l.fr
/-- what is let along a way -/
def amtOf : List LinkR → Int → Int
  | [], m => m
  | l :: ws, m => amtOf ws (min m l.room)
def pushOne (fl : List Int) (l : LinkR) (x : Int) : List Int := fl.set l.arc (fl.getD l.arc 0 + l.by_ * x)
def pushAll : List LinkR → Int → List Int → List Int
  | [], _, fl => fl
  | l :: ws, x, fl => pushAll ws x (pushOne fl l x)
/-- numbers stay small along a way -/
def PushOk (n : Nat) (x : Int) : List LinkR → List Int → Prop
  | [], _ => True
  | l :: ws, fl => l.arc < n ∧ (0 ≤ fl.getD l.arc 0 ∧ fl.getD l.arc 0 ≤ 1000000) ∧ PushOk n x ws (pushOne fl l x)
theorem pushOne_len (fl : List Int) (l : LinkR) (x : Int) : (pushOne fl l x).length = fl.length := by simp [pushOne]
theorem pushAll_len (x : Int) : ∀ (ws : List LinkR) (fl : List Int), (pushAll ws x fl).length = fl.length
  | [], fl => rfl
  | l :: ws, fl => by rw [pushAll, pushAll_len x ws, pushOne_len]
theorem amtOf_le : ∀ (ws : List LinkR) (m : Int), amtOf ws m ≤ m ∧ ∀ l ∈ ws, amtOf ws m ≤ l.room
  | [], m => ⟨Int.le_refl _, fun l h => nomatch h⟩
  | l :: ws, m => by
    obtain ⟨h1, h2⟩ := amtOf_le ws (min m l.room)
    rw [amtOf]
    refine ⟨by omega, fun l' h => ?_⟩
    rcases List.mem_cons.1 h with h | h
    · subst h; omega
    · exact h2 l' h
theorem amtOf_ge {b : Int} : ∀ (ws : List LinkR) (m : Int), b ≤ m → (∀ l ∈ ws, b ≤ l.room) → b ≤ amtOf ws m
  | [], m, h, _ => h
  | l :: ws, m, h, h2 => by
    rw [amtOf]
    have := h2 l (by simp)
    exact amtOf_ge ws _ (by omega) fun l' h' => h2 l' (by simp [h'])
theorem amtOf_big {l : LinkR} {ws : List LinkR} {m m' : Int} (h : l.room ≤ m) (h' : l.room ≤ m') : amtOf (l :: ws) m = amtOf (l :: ws) m' := by
  rw [amtOf, amtOf, show min m l.room = l.room by omega, show min m' l.room = l.room by omega]

/-- what a link is, of its arc -/
def LinkIs (xs : List ArcR) (fl : List Int) (n : Nat) (l : LinkR) : Prop :=
  l.arc < n ∧ 0 < l.room ∧ ((l.back = false ∧ l.fr = (xs.getD l.arc default).fr ∧ l.to_ = (xs.getD l.arc default).to_ ∧ l.room = (xs.getD l.arc default).room - fl.getD l.arc 0) ∨
    (l.back = true ∧ l.fr = (xs.getD l.arc default).to_ ∧ l.to_ = (xs.getD l.arc default).fr ∧ l.room = fl.getD l.arc 0))
theorem linksTo_is (xs : List ArcR) (fl : List Int) : ∀ n, ∀ l ∈ linksTo xs fl n, LinkIs xs fl n l
  | 0, l, h => by simp [linksTo] at h
  | n + 1, l, h => by
    rw [linksTo_succ, List.mem_append] at h
    rcases h with h | h
    · obtain ⟨h1, h2, h3⟩ := linksTo_is xs fl n l h
      exact ⟨by omega, h2, h3⟩
    · unfold linksOf at h
      rw [List.mem_append] at h
      rcases h with h | h
      · split at h
        · rename_i hlt
          simp only [List.mem_singleton] at h
          subst h
          exact ⟨by show n < n + 1; omega, by show 0 < (xs.getD n default).room - fl.getD n 0; omega, .inl ⟨rfl, rfl, rfl, rfl⟩⟩
        · simp at h
      · split at h
        · rename_i hlt
          simp only [List.mem_singleton] at h
          subst h
          exact ⟨by show n < n + 1; omega, by show 0 < fl.getD n 0; omega, .inr ⟨rfl, rfl, rfl, rfl⟩⟩
        · simp at h

/-- queues hold each node once -/
theorem bfs_nodup {ls : List LinkR} {N f : Nat} (hls : LinksOk ls N) (hf : f < N) : ∀ i, (bfsTo ls N f i).2.Nodup
  | 0 => by simp [bfsTo]
  | i + 1 => by
    have ih := bfs_nodup hls hf i
    have hok := bfs_ok hls hf i
    rw [bfsTo]
    split
    · rename_i hi
      have key : ∀ k, k ≤ ls.length → (scanTo ls ((bfsTo ls N f i).2.getD i 0) (bfsTo ls N f i) k).2.Nodup := by
        intro k
        induction k with
        | zero => intro _; exact ih
        | succ k ihk =>
          intro hk
          have ihk := ihk (by omega)
          obtain ⟨hs, _, _⟩ := bfs_scan hls hok hi _ rfl k (by omega)
          rw [scanTo]
          split
          · rename_i hc
            generalize scanTo ls ((bfsTo ls N f i).2.getD i 0) (bfsTo ls N f i) k = s at *
            rw [List.nodup_append]
            refine ⟨ihk, by simp, ?_⟩
            intro a ha b hb
            simp only [List.mem_singleton] at hb
            subst hb
            intro e
            obtain ⟨p, hp, hpe⟩ := List.mem_iff_getElem.1 ha
            have hpd : s.2.getD p 0 = a := by simp [List.getD, List.getElem?_eq_getElem hp, hpe]
            have h2 := hc.2
            rw [← e, ← hpd] at h2
            rcases Nat.eq_zero_or_pos p with h0 | h0
            · subst h0
              rw [hs.q0, Int.toNat_natCast, hs.fby] at h2
              exact absurd h2 (by decide)
            · obtain ⟨k', _, e2, _⟩ := hs.by_ p hp h0
              rw [e2] at h2
              omega
          · exact ihk
      exact key ls.length (Nat.le_refl _)
    · exact ih
theorem nodup_at {zs : List Int} (h : zs.Nodup) {i j : Nat} (hi : i < zs.length) (hj : j < zs.length) (e : zs.getD i 0 = zs.getD j 0) : i = j := by
  simp only [List.getD, List.getElem?_eq_getElem hi, List.getElem?_eq_getElem hj, Option.getD_some] at e
  exact (List.getElem_inj h).1 e

/-- the way to the p-th node of the queue -/
theorem way_of {ls : List LinkR} {N f : Nat} {st : List Int × List Int} (hok : BfsOk ls N f st) (hnd : st.2.Nodup) : ∀ (p b : Nat), p ≤ b → p < st.2.length →
    ∃ ws : List LinkR, Path ls st.1 N f ws (st.2.getD p 0) ∧ ws.length ≤ p ∧ (p = 0 → ws = []) ∧ (0 < p → ∃ l ws', ws = l :: ws') ∧
      (∀ l ∈ ws, l ∈ ls ∧ ∃ i j, i < j ∧ j ≤ p ∧ st.2.getD i 0 = l.fr ∧ st.2.getD j 0 = l.to_) ∧ ws.Pairwise (fun l1 l2 => ∃ i j j', j' ≤ i ∧ i < j ∧ j ≤ p ∧ st.2.getD j 0 = l1.to_ ∧ st.2.getD i 0 = l1.fr ∧ st.2.getD j' 0 = l2.to_ ∧ ∃ i', i' < j' ∧ st.2.getD i' 0 = l2.fr)
  | p, 0, hb, hp => by
    have e : p = 0 := by omega
    subst e
    exact ⟨[], by rw [Path, hok.q0], Nat.zero_le _, fun _ => rfl, fun h => absurd h (by omega), (fun l h => nomatch h), List.Pairwise.nil⟩
  | p, b + 1, hb, hp => by
    rcases Nat.eq_zero_or_pos p with h0 | h0
    · subst h0
      exact ⟨[], by rw [Path, hok.q0], Nat.zero_le _, fun _ => rfl, fun h => absurd h (by omega), (fun l h => nomatch h), List.Pairwise.nil⟩
    · obtain ⟨k, hk, hby, hto, p', hp', hfr⟩ := hok.by_ p hp h0
      obtain ⟨ws, hw1, hw2, hw3, hw4, hw5, hw6⟩ := way_of hok hnd p' b (by omega) (by omega)
      have hne : ¬ st.2.getD p 0 = (f : Int) := by
        intro e
        have := nodup_at hnd hp (show 0 < st.2.length by omega) (by rw [hok.q0]; exact e)
        omega
      refine ⟨ls.getD k default :: ws, ?_, by simp; omega, fun h => by omega, fun _ => ⟨_, _, rfl⟩, ?_, ?_⟩
      · rw [Path]
        exact ⟨hne, hok.qin p hp, ⟨k, hby, hk, rfl⟩, by rw [← hfr]; exact hw1⟩
      · intro l hl
        rcases List.mem_cons.1 hl with h | h
        · subst h
          exact ⟨getDL_mem hk, p', p, hp', Nat.le_refl _, hfr, hto.symm⟩
        · obtain ⟨h1, i, j, h2, h3, h4⟩ := hw5 l h
          exact ⟨h1, i, j, h2, by omega, h4⟩
      · refine List.Pairwise.cons ?_ (hw6.imp ?_)
        · intro l2 hl2
          obtain ⟨_, i, j, h2, h3, h4, h5⟩ := hw5 l2 hl2
          exact ⟨p', p, j, h3, hp', Nat.le_refl _, hto.symm, hfr, h5, i, h2, h4⟩
        · rintro l1 l2 ⟨i, j, j', h1, h2, h3, h4⟩
          exact ⟨i, j, j', h1, h2, by omega, h4⟩
end Go.Proofs.Ytnljfhmdjhppmaa
