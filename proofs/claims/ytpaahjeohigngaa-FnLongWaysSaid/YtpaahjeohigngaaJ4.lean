/- Joined texts: PushPlain, PushPlain2, NetSum, LeastPlain, LongsPlain2. -/
import Derived.Test.YtpaahjeohigngaaZReachS
import Derived.Test.YtpaahjeohigngaaZFlow3
import Derived.Test.YtpaahjeohigngaaZCutOf
import Derived.Test.YtpaahjeohigngaaJ1
import Derived.Test.YtpaahjeohigngaaJ2
namespace Go.Proofs.Ytpaahjeohigngaa
open Go.RowKit

/-- links, the last one first, that lead back from a node to f, as 'by' tells -/
def Path (ls : List LinkR) (by_ : List Int) (N : Nat) (f : Int) : List LinkR → Int → Prop
  | [], at_ => at_ = f
  | l :: ws, at_ => ¬ at_ = f ∧ (0 ≤ at_ ∧ at_ < N) ∧ (∃ k : Nat, by_.getD at_.toNat 0 = k ∧ k < ls.length ∧ ls.getD k default = l) ∧ Path ls by_ N f ws l.fr
/-- what is let along a way -/
def amtOf : List LinkR → Int → Int
  | [], m => m
  | l :: ws, m => amtOf ws (min m l.room)
def pushOne (fl : List Int) (l : LinkR) (x : Int) : List Int := fl.set l.arc (fl.getD l.arc 0 + l.by_ * x)
def pushAll : List LinkR → Int → List Int → List Int
  | [], _, fl => fl
  | l :: ws, x, fl => pushAll ws x (pushOne fl l x)
/-- numbers stay small along a way -/
def PushOk (n : Nat) (x : Int) : List LinkR → List Int → Prop
  | [], _ => True
  | l :: ws, fl => l.arc < n ∧ (0 ≤ fl.getD l.arc 0 ∧ fl.getD l.arc 0 ≤ 1000000) ∧ PushOk n x ws (pushOne fl l x)
theorem pushOne_len (fl : List Int) (l : LinkR) (x : Int) : (pushOne fl l x).length = fl.length := by simp [pushOne]
theorem pushAll_len (x : Int) : ∀ (ws : List LinkR) (fl : List Int), (pushAll ws x fl).length = fl.length
  | [], fl => rfl
  | l :: ws, fl => by rw [pushAll, pushAll_len x ws, pushOne_len]
theorem amtOf_le : ∀ (ws : List LinkR) (m : Int), amtOf ws m ≤ m ∧ ∀ l ∈ ws, amtOf ws m ≤ l.room
  | [], m => ⟨Int.le_refl _, fun l h => nomatch h⟩
  | l :: ws, m => by
    obtain ⟨h1, h2⟩ := amtOf_le ws (min m l.room)
    rw [amtOf]
    refine ⟨by omega, fun l' h => ?_⟩
    rcases List.mem_cons.1 h with h | h
    · subst h; omega
    · exact h2 l' h
theorem amtOf_ge {b : Int} : ∀ (ws : List LinkR) (m : Int), b ≤ m → (∀ l ∈ ws, b ≤ l.room) → b ≤ amtOf ws m
  | [], m, h, _ => h
  | l :: ws, m, h, h2 => by
    rw [amtOf]
    have := h2 l (by simp)
    exact amtOf_ge ws _ (by omega) fun l' h' => h2 l' (by simp [h'])
theorem amtOf_big {l : LinkR} {ws : List LinkR} {m m' : Int} (h : l.room ≤ m) (h' : l.room ≤ m') : amtOf (l :: ws) m = amtOf (l :: ws) m' := by
  rw [amtOf, amtOf, show min m l.room = l.room by omega, show min m' l.room = l.room by omega]

/-- what a link is, of its arc -/
def LinkIs (xs : List ArcR) (fl : List Int) (n : Nat) (l : LinkR) : Prop :=
  l.arc < n ∧ 0 < l.room ∧ ((l.back = false ∧ l.fr = (xs.getD l.arc default).fr ∧ l.to_ = (xs.getD l.arc default).to_ ∧ l.room = (xs.getD l.arc default).room - fl.getD l.arc 0) ∨
    (l.back = true ∧ l.fr = (xs.getD l.arc default).to_ ∧ l.to_ = (xs.getD l.arc default).fr ∧ l.room = fl.getD l.arc 0))
theorem linksTo_is (xs : List ArcR) (fl : List Int) : ∀ n, ∀ l ∈ linksTo xs fl n, LinkIs xs fl n l
  | 0, l, h => by simp [linksTo] at h
  | n + 1, l, h => by
    rw [linksTo_succ, List.mem_append] at h
    rcases h with h | h
    · obtain ⟨h1, h2, h3⟩ := linksTo_is xs fl n l h
      exact ⟨by omega, h2, h3⟩
    · unfold linksOf at h
      rw [List.mem_append] at h
      rcases h with h | h
      · split at h
        · rename_i hlt
          simp only [List.mem_singleton] at h
          subst h
          exact ⟨by show n < n + 1; omega, by show 0 < (xs.getD n default).room - fl.getD n 0; omega, .inl ⟨rfl, rfl, rfl, rfl⟩⟩
        · simp at h
      · split at h
        · rename_i hlt
          simp only [List.mem_singleton] at h
          subst h
          exact ⟨by show n < n + 1; omega, by show 0 < fl.getD n 0; omega, .inr ⟨rfl, rfl, rfl, rfl⟩⟩
        · simp at h

/-- queues hold each node once -/
theorem bfs_nodup {ls : List LinkR} {N f : Nat} (hls : LinksOk ls N) (hf : f < N) : ∀ i, (bfsTo ls N f i).2.Nodup
  | 0 => by simp [bfsTo]
  | i + 1 => by
    have ih := bfs_nodup hls hf i
    have hok := bfs_ok hls hf i
    rw [bfsTo]
    split
    · rename_i hi
      have key : ∀ k, k ≤ ls.length → (scanTo ls ((bfsTo ls N f i).2.getD i 0) (bfsTo ls N f i) k).2.Nodup := by
        intro k
        induction k with
        | zero => intro _; exact ih
        | succ k ihk =>
          intro hk
          have ihk := ihk (by omega)
          obtain ⟨hs, _, _⟩ := bfs_scan hls hok hi _ rfl k (by omega)
          rw [scanTo]
          split
          · rename_i hc
            generalize scanTo ls ((bfsTo ls N f i).2.getD i 0) (bfsTo ls N f i) k = s at *
            rw [List.nodup_append]
            refine ⟨ihk, by simp, ?_⟩
            intro a ha b hb
            simp only [List.mem_singleton] at hb
            subst hb
            intro e
            obtain ⟨p, hp, hpe⟩ := List.mem_iff_getElem.1 ha
            have hpd : s.2.getD p 0 = a := by simp [List.getD, List.getElem?_eq_getElem hp, hpe]
            have h2 := hc.2
            rw [← e, ← hpd] at h2
            rcases Nat.eq_zero_or_pos p with h0 | h0
            · subst h0
              rw [hs.q0, Int.toNat_natCast, hs.fby] at h2
              exact absurd h2 (by decide)
            · obtain ⟨k', _, e2, _⟩ := hs.by_ p hp h0
              rw [e2] at h2
              omega
          · exact ihk
      exact key ls.length (Nat.le_refl _)
    · exact ih
theorem nodup_at {zs : List Int} (h : zs.Nodup) {i j : Nat} (hi : i < zs.length) (hj : j < zs.length) (e : zs.getD i 0 = zs.getD j 0) : i = j := by
  simp only [List.getD, List.getElem?_eq_getElem hi, List.getElem?_eq_getElem hj, Option.getD_some] at e
  exact (List.getElem_inj h).1 e

/-- the way to the p-th node of the queue -/
theorem way_of {ls : List LinkR} {N f : Nat} {st : List Int × List Int} (hok : BfsOk ls N f st) (hnd : st.2.Nodup) : ∀ (p b : Nat), p ≤ b → p < st.2.length →
    ∃ ws : List LinkR, Path ls st.1 N f ws (st.2.getD p 0) ∧ ws.length ≤ p ∧ (p = 0 → ws = []) ∧ (0 < p → ∃ l ws', ws = l :: ws') ∧
      (∀ l ∈ ws, l ∈ ls ∧ ∃ i j, i < j ∧ j ≤ p ∧ st.2.getD i 0 = l.fr ∧ st.2.getD j 0 = l.to_) ∧ ws.Pairwise (fun l1 l2 => ∃ i j j', j' ≤ i ∧ i < j ∧ j ≤ p ∧ st.2.getD j 0 = l1.to_ ∧ st.2.getD i 0 = l1.fr ∧ st.2.getD j' 0 = l2.to_ ∧ ∃ i', i' < j' ∧ st.2.getD i' 0 = l2.fr)
  | p, 0, hb, hp => by
    have e : p = 0 := by omega
    subst e
    exact ⟨[], by rw [Path, hok.q0], Nat.zero_le _, fun _ => rfl, fun h => absurd h (by omega), (fun l h => nomatch h), List.Pairwise.nil⟩
  | p, b + 1, hb, hp => by
    rcases Nat.eq_zero_or_pos p with h0 | h0
    · subst h0
      exact ⟨[], by rw [Path, hok.q0], Nat.zero_le _, fun _ => rfl, fun h => absurd h (by omega), (fun l h => nomatch h), List.Pairwise.nil⟩
    · obtain ⟨k, hk, hby, hto, p', hp', hfr⟩ := hok.by_ p hp h0
      obtain ⟨ws, hw1, hw2, hw3, hw4, hw5, hw6⟩ := way_of hok hnd p' b (by omega) (by omega)
      have hne : ¬ st.2.getD p 0 = (f : Int) := by
        intro e
        have := nodup_at hnd hp (show 0 < st.2.length by omega) (by rw [hok.q0]; exact e)
        omega
      refine ⟨ls.getD k default :: ws, ?_, by simp; omega, fun h => by omega, fun _ => ⟨_, _, rfl⟩, ?_, ?_⟩
      · rw [Path]
        exact ⟨hne, hok.qin p hp, ⟨k, hby, hk, rfl⟩, by rw [← hfr]; exact hw1⟩
      · intro l hl
        rcases List.mem_cons.1 hl with h | h
        · subst h
          exact ⟨getDL_mem hk, p', p, hp', Nat.le_refl _, hfr, hto.symm⟩
        · obtain ⟨h1, i, j, h2, h3, h4⟩ := hw5 l h
          exact ⟨h1, i, j, h2, by omega, h4⟩
      · refine List.Pairwise.cons ?_ (hw6.imp ?_)
        · intro l2 hl2
          obtain ⟨_, i, j, h2, h3, h4, h5⟩ := hw5 l2 hl2
          exact ⟨p', p, j, h3, hp', Nat.le_refl _, hto.symm, hfr, h5, i, h2, h4⟩
        · rintro l1 l2 ⟨i, j, j', h1, h2, h3, h4⟩
          exact ⟨i, j, j', h1, h2, by omega, h4⟩
end Go.Proofs.Ytpaahjeohigngaa

namespace Go.Proofs.Ytpaahjeohigngaa
open Go.RowKit

/-- the links of the way that leads to a node, the last one first -/
def wayB (ls : List LinkR) (by_ : List Int) (f : Int) : Nat → Int → List LinkR
  | 0, _ => []
  | k + 1, at_ => if at_ = f then [] else (ls.getD (by_.getD at_.toNat 0).toNat default) :: wayB ls by_ f k (ls.getD (by_.getD at_.toNat 0).toNat default).fr
theorem wayB_path {ls : List LinkR} {by_ : List Int} {N : Nat} {f : Int} : ∀ (k : Nat) (ws : List LinkR) (at_ : Int), Path ls by_ N f ws at_ → ws.length ≤ k → wayB ls by_ f k at_ = ws
  | 0, ws, at_, _, h2 => by
    have : ws = [] := List.eq_nil_of_length_eq_zero (by omega)
    subst this; rfl
  | k + 1, [], at_, h, _ => by
    rw [Path] at h
    rw [wayB, if_pos h]
  | k + 1, l :: ws, at_, h, h2 => by
    rw [Path] at h
    obtain ⟨h1, _, ⟨j, h3, _, h4⟩, h5⟩ := h
    rw [wayB, if_neg h1, h3, Int.toNat_natCast, h4, wayB_path k ws l.fr h5 (by simp at h2; omega)]

def FlowIn (xs : List ArcR) (fl : List Int) (n : Nat) : Prop := fl.length = n ∧ ∀ k, k < n → 0 ≤ fl.getD k 0 ∧ fl.getD k 0 ≤ (xs.getD k default).room
def netX (x : Int) (node : Int) : List LinkR → Int
  | [] => 0
  | l :: ws => netX x node ws + (if l.fr = node then x else 0) - (if l.to_ = node then x else 0)
theorem outTo_set (xs : List ArcR) (fl : List Int) (node : Int) (a : Nat) (v : Int) (ha : a < fl.length) : ∀ k, outTo xs (fl.set a v) node k = outTo xs fl node k + (if a < k then (if (xs.getD a default).fr = node then v - fl.getD a 0 else 0) - (if (xs.getD a default).to_ = node then v - fl.getD a 0 else 0) else 0)
  | 0 => by simp [outTo]
  | k + 1 => by
    rw [outTo_succ, outTo_succ, outTo_set xs fl node a v ha k, getD_set' fl a k v ha]
    by_cases h : a = k
    · subst h
      rw [if_pos rfl, if_neg (Nat.lt_irrefl a), if_pos (Nat.lt_succ_self a)]
      split <;> split <;> omega
    · have key : ∀ o A B C D : Int, o + (A - B) + C - D = o + C - D + (A - B) := by omega
      have key2 : ∀ o C D : Int, o + 0 + C - D = o + C - D + 0 := by omega
      by_cases h2 : a < k
      · simp only [if_neg h, if_pos h2, if_pos (show a < k + 1 by omega)]; exact key _ _ _ _ _
      · simp only [if_neg h, if_neg h2, if_neg (show ¬ a < k + 1 by omega)]; exact key2 _ _ _
theorem outTo_one {xs : List ArcR} {fl fl0 : List Int} {n : Nat} {l : LinkR} (h : LinkIs xs fl0 n l) (hl : fl.length = n) (x node : Int) : outTo xs (pushOne fl l x) node n = outTo xs fl node n + (if l.fr = node then x else 0) - (if l.to_ = node then x else 0) := by
  obtain ⟨h1, _, h3⟩ := h
  unfold pushOne
  rw [outTo_set xs fl node l.arc _ (by omega) n, if_pos h1]
  generalize fl.getD l.arc 0 = y
  rcases h3 with ⟨hb, e1, e2, _⟩ | ⟨hb, e1, e2, _⟩
  · have hby : l.by_ = 1 := by unfold LinkR.by_; rw [hb]; rfl
    rw [hby, e1, e2]
    split <;> split <;> omega
  · have hby : l.by_ = -1 := by unfold LinkR.by_; rw [hb]; rfl
    rw [hby, e1, e2]
    split <;> split <;> omega
theorem push_inv {xs : List ArcR} {fl0 : List Int} {n : Nat} (hr : ∀ k, k < n → 0 ≤ (xs.getD k default).room ∧ (xs.getD k default).room ≤ 1000000) (x : Int) (hx : 0 ≤ x) :
    ∀ (ws : List LinkR) (fl : List Int), FlowIn xs fl n → (∀ l ∈ ws, LinkIs xs fl0 n l ∧ fl.getD l.arc 0 = fl0.getD l.arc 0 ∧ x ≤ l.room) → ws.Pairwise (fun l1 l2 => l1.arc ≠ l2.arc) →
      PushOk n x ws fl ∧ FlowIn xs (pushAll ws x fl) n ∧ ∀ node, outTo xs (pushAll ws x fl) node n = outTo xs fl node n + netX x node ws
  | [], fl, h, _, _ => ⟨trivial, h, fun node => by simp [pushAll, netX]⟩
  | l :: ws, fl, h, h2, h3 => by
    obtain ⟨k1, k2, k3⟩ := h2 l (by simp)
    obtain ⟨hlen, hin⟩ := h
    have ⟨a1, a2, a3⟩ := k1
    have hnew : FlowIn xs (pushOne fl l x) n := by
      refine ⟨by rw [pushOne_len]; exact hlen, fun k hk => ?_⟩
      unfold pushOne
      rw [getD_set' fl l.arc k _ (by omega)]
      by_cases e : l.arc = k
      · subst e
        rw [if_pos rfl, k2]
        have := hin l.arc hk
        rw [k2] at this
        have := hr l.arc hk
        rcases a3 with ⟨hb, _, _, e4⟩ | ⟨hb, _, _, e4⟩
        · have hby : l.by_ = 1 := by unfold LinkR.by_; rw [hb]; rfl
          rw [hby]; omega
        · have hby : l.by_ = -1 := by unfold LinkR.by_; rw [hb]; rfl
          rw [hby]; omega
      · rw [if_neg e]; exact hin k hk
    have h3' := List.pairwise_cons.1 h3
    obtain ⟨b1, b2, b3⟩ := push_inv hr x hx ws (pushOne fl l x) hnew (fun l2 hl2 => by
      obtain ⟨c1, c2, c3⟩ := h2 l2 (by simp [hl2])
      refine ⟨c1, ?_, c3⟩
      unfold pushOne
      rw [getD_set' fl l.arc l2.arc _ (by omega), if_neg (h3'.1 l2 hl2)]
      exact c2) h3'.2
    refine ⟨⟨a1, ?_, b1⟩, b2, fun node => ?_⟩
    · have := hin l.arc a1
      have := hr l.arc a1
      omega
    · rw [pushAll, b3 node, outTo_one k1 hlen x node, netX]
      omega
theorem netX_way {ls : List LinkR} {by_ : List Int} {N : Nat} {f : Int} (x : Int) : ∀ (ws : List LinkR) (at_ : Int), Path ls by_ N f ws at_ → (∀ l ∈ ws, l.to_ ≠ f) → netX x f ws = if ws = [] then 0 else x
  | [], _, _, _ => rfl
  | l :: ws, at_, h, h2 => by
    rw [Path] at h
    obtain ⟨_, _, _, h5⟩ := h
    have ih := netX_way x ws l.fr h5 (fun l' hl' => h2 l' (by simp [hl']))
    rw [netX, ih, if_neg (h2 l (by simp)), if_neg (List.cons_ne_nil _ _)]
    cases ws with
    | nil =>
      rw [Path] at h5
      rw [if_pos rfl, if_pos h5]; omega
    | cons l2 ws =>
      rw [Path] at h5
      rw [if_neg (List.cons_ne_nil _ _), if_neg h5.1]; omega

/-- what stands when a node is reached -/
theorem aug_ok {xs : List ArcR} {nodes : Int} {N F t n : Nat} {fl : List Int} (hN : nodes = N) (hv : validB nodes xs = true) (hn : xs.length = n) (hfl : FlowIn xs fl n) (hF : F < N) (ht : t < N) (hne : t ≠ F)
    (hby : (reachL (linksTo xs fl n) N F).getD t 0 ≠ -2) :
    ∃ ws, wayB (linksTo xs fl n) (reachL (linksTo xs fl n) N F) F N t = ws ∧ Path (linksTo xs fl n) (reachL (linksTo xs fl n) N F) N F ws t ∧ (∃ l ws', ws = l :: ws') ∧ (∀ l ∈ ws, 1 ≤ l.room ∧ l.room ≤ 1000000) ∧
      ∀ x, 0 ≤ x → (∀ l ∈ ws, x ≤ l.room) → PushOk n x ws fl ∧ FlowIn xs (pushAll ws x fl) n ∧ outTo xs (pushAll ws x fl) F n = outTo xs fl F n + x ∧ ∀ node, node ≠ (F : Int) → node ≠ (t : Int) → True := by
  subst hn
  have hls := linksTo_ok fl hN hv xs.length (Nat.le_refl _)
  have hok := bfs_ok hls hF N
  have hnd := bfs_nodup hls hF N
  obtain ⟨_, _, _, hb⟩ := valid_bd hv
  obtain ⟨p, hp, hpt⟩ := hok.inq t ht hby
  have hqN := bfs_len hls hF N
  have hp0 : 0 < p := by
    rcases Nat.eq_zero_or_pos p with h | h
    · subst h; rw [hok.q0] at hpt; omega
    · exact h
  obtain ⟨ws, w1, w2, _, w4, w5, w6⟩ := way_of hok hnd p p (Nat.le_refl _) hp
  rw [hpt] at w1
  have his : ∀ l ∈ ws, LinkIs xs fl xs.length l := fun l hl => linksTo_is xs fl xs.length l (w5 l hl).1
  have hrm : ∀ k, k < xs.length → 0 ≤ (xs.getD k default).room ∧ (xs.getD k default).room ≤ 1000000 := fun k hk => (hb k hk).2.2.2.1
  have hto : ∀ l ∈ ws, l.to_ ≠ (F : Int) := fun l hl e => by
    obtain ⟨_, i, j, h1, h2, _, h4⟩ := w5 l hl
    have := nodup_at hnd (show j < _ by omega) (show 0 < _ by omega) (by rw [h4, hok.q0, e])
    omega
  have hpw : ws.Pairwise (fun l1 l2 => l1.arc ≠ l2.arc) := by
    refine List.Pairwise.imp_of_mem ?_ w6
    rintro l1 l2 m1 m2 ⟨i, j, j', h1, h2, h3, h4, h5, h6, i', h7, h8⟩ e
    obtain ⟨_, _, a⟩ := his l1 m1
    obtain ⟨_, _, b⟩ := his l2 m2
    rw [e] at a
    rcases a with ⟨_, a1, a2, _⟩ | ⟨_, a1, a2, _⟩ <;> rcases b with ⟨_, b1, b2, _⟩ | ⟨_, b1, b2, _⟩
    · have := nodup_at hnd (show j < _ by omega) (show j' < _ by omega) (by rw [h4, h6, a2, b2]); omega
    · have := nodup_at hnd (show j < _ by omega) (show i' < _ by omega) (by rw [h4, h8, a2, b1]); omega
    · have := nodup_at hnd (show j < _ by omega) (show i' < _ by omega) (by rw [h4, h8, a2, b1]); omega
    · have := nodup_at hnd (show j < _ by omega) (show j' < _ by omega) (by rw [h4, h6, a2, b2]); omega
  obtain ⟨l, ws', hws⟩ := w4 hp0
  refine ⟨ws, wayB_path N ws t w1 (by omega), w1, ⟨l, ws', hws⟩, fun l hl => ?_, fun x hx hx2 => ?_⟩
  · obtain ⟨a1, a2, a3⟩ := his l hl
    have := hrm l.arc a1
    have := hfl.2 l.arc a1
    rcases a3 with ⟨_, _, _, e⟩ | ⟨_, _, _, e⟩ <;> omega
  · obtain ⟨p1, p2, p3⟩ := push_inv hrm x hx ws fl hfl (fun l hl => ⟨his l hl, rfl, hx2 l hl⟩) hpw
    refine ⟨p1, p2, ?_, fun _ _ _ => trivial⟩
    rw [p3, netX_way x ws t w1 hto, if_neg (by rw [hws]; exact List.cons_ne_nil _ _)]

/-- a greatest flow: rounds -/
def greatRun (xs : List ArcR) (n N F t : Nat) : Nat → List Int → Int → List Int × Int
  | 0, fl, a => (fl, a)
  | k + 1, fl, a => if (reachL (linksTo xs fl n) N F).getD t 0 = -2 then (fl, a) else greatRun xs n N F t k (pushAll (wayB (linksTo xs fl n) (reachL (linksTo xs fl n) N F) F N t) (amtOf (wayB (linksTo xs fl n) (reachL (linksTo xs fl n) N F) F N t) 100000000) fl) (a + amtOf (wayB (linksTo xs fl n) (reachL (linksTo xs fl n) N F) F N t) 100000000)
theorem great_end {xs : List ArcR} {n N F t k : Nat} {fl : List Int} {a : Int} (h : (reachL (linksTo xs fl n) N F).getD t 0 = -2) : greatRun xs n N F t k fl a = (fl, a) := by
  cases k with
  | zero => rfl
  | succ k => rw [greatRun, if_pos h]
theorem great_step {xs : List ArcR} {n N F t k : Nat} {fl : List Int} {a : Int} {ws : List LinkR} (h : (reachL (linksTo xs fl n) N F).getD t 0 ≠ -2) (hw : wayB (linksTo xs fl n) (reachL (linksTo xs fl n) N F) F N t = ws) : greatRun xs n N F t (k + 1) fl a = greatRun xs n N F t k (pushAll ws (amtOf ws 100000000) fl) (a + amtOf ws 100000000) := by
  rw [greatRun, if_neg h, hw]
/-- rounds enough -/
def greatG : Nat := 48000001
def greatL (xs : List ArcR) (N F t : Nat) : List Int × Int := greatRun xs xs.length N F t greatG (List.replicate xs.length 0) 0
theorem flow_zero {xs : List ArcR} {n : Nat} (hr : ∀ k, k < n → 0 ≤ (xs.getD k default).room) : FlowIn xs (List.replicate n 0) n := by
  refine ⟨by simp, fun k hk => ?_⟩
  have : (List.replicate n (0 : Int)).getD k 0 = 0 := by simp [List.getD, hk]
  rw [this]
  exact ⟨Int.le_refl _, hr k hk⟩
theorem out_zero (xs : List ArcR) (n : Nat) (node : Int) : ∀ k, k ≤ n → outTo xs (List.replicate n 0) node k = 0
  | 0, _ => rfl
  | k + 1, h => by
    have : (List.replicate n (0 : Int)).getD k 0 = 0 := by simp [List.getD, show k < n by omega]
    rw [outTo_succ, out_zero xs n node k (by omega), this]
    simp
end Go.Proofs.Ytpaahjeohigngaa

namespace Go.Proofs.Ytpaahjeohigngaa
open Go.RowKit

theorem sumI_ind (R : Nat → Bool) {N : Nat} {a : Int} (h0 : 0 ≤ a) (h1 : a < N) (y : Int) : sumI (fun v => if R v then (if a = (v : Int) then y else 0) else 0) N = if R a.toNat then y else 0 := by
  obtain ⟨a, rfl⟩ := Int.eq_ofNat_of_zero_le h0
  rw [Int.toNat_natCast]
  have e : ∀ v, v < N → (if R v then (if (a : Int) = (v : Int) then y else 0) else 0) = if a = v then (if R a then y else 0) else 0 := by
    intro v _
    by_cases h : a = v
    · subst h; rw [if_pos rfl, if_pos rfl]
    · rw [if_neg h, if_neg (show ¬ (a : Int) = v by omega)]; simp
  rw [sumI_congr N e, sumI_one, if_pos (by omega)]

/-- what crosses out of a set, less what crosses in -/
def crossI (xs : List ArcR) (fl : List Int) (R : Nat → Bool) (i : Nat) : Int :=
  (if R (xs.getD i default).fr.toNat && !R (xs.getD i default).to_.toNat then fl.getD i 0 else 0) - (if !R (xs.getD i default).fr.toNat && R (xs.getD i default).to_.toNat then fl.getD i 0 else 0)
def EndsOk (xs : List ArcR) (n N : Nat) : Prop := ∀ k, k < n → (0 ≤ (xs.getD k default).fr ∧ (xs.getD k default).fr < N) ∧ (0 ≤ (xs.getD k default).to_ ∧ (xs.getD k default).to_ < N)
theorem valid_ends {N : Nat} {xs : List ArcR} (h : validB N xs = true) : EndsOk xs xs.length N := by
  obtain ⟨_, _, _, hb⟩ := valid_bd h
  exact fun k hk => ⟨(hb k hk).1, (hb k hk).2.1⟩
theorem cross_eq {xs : List ArcR} {N : Nat} (fl : List Int) (R : Nat → Bool) : ∀ n, EndsOk xs n N → sumI (fun v => if R v then outTo xs fl (v : Int) n else 0) N = sumI (crossI xs fl R) n
  | 0, _ => by
    have e : ∀ v, v < N → (if R v then outTo xs fl (v : Int) 0 else 0) = 0 := fun v _ => by simp [outTo]
    rw [sumI_congr N e, sumI_zero]; rfl
  | n + 1, h => by
    obtain ⟨⟨a0, a1⟩, b0, b1⟩ := h n (by omega)
    have ih := cross_eq fl R n fun k hk => h k (by omega)
    have e : ∀ v, v < N → (if R v then outTo xs fl (v : Int) (n + 1) else 0) = ((if R v then outTo xs fl (v : Int) n else 0) + (if R v then (if (xs.getD n default).fr = (v : Int) then fl.getD n 0 else 0) else 0)) - (if R v then (if (xs.getD n default).to_ = (v : Int) then fl.getD n 0 else 0) else 0) := by
      intro v _
      cases R v
      · simp
      · rw [if_pos rfl, if_pos rfl, if_pos rfl, if_pos rfl, outTo_succ]
    rw [sumI_congr N e, sumI_sub, sumI_add, ih, sumI_ind R a0 a1, sumI_ind R b0 b1, sumI, crossI]
    cases R (xs.getD n default).fr.toNat <;> cases R (xs.getD n default).to_.toNat <;> simp <;> omega
/-- a sum with one or two nodes that are no zeros -/
theorem sum_bal {R : Nat → Bool} {g : Nat → Int} {F : Nat} : ∀ {N : Nat}, F < N → R F = true → (∀ v, v < N → v ≠ F → R v = true → g v = 0) → sumI (fun v => if R v then g v else 0) N = g F := by
  intro N hF hR h
  have e : ∀ v, v < N → (if R v then g v else 0) = if F = v then g F else 0 := by
    intro v hv
    by_cases hvF : F = v
    · subst hvF; rw [if_pos hR, if_pos rfl]
    · rw [if_neg hvF]
      cases hr : R v
      · rfl
      · rw [if_pos rfl]; exact h v hv (fun e => hvF e.symm) hr
  rw [sumI_congr N e, sumI_one, if_pos hF]

/-- no link leads out of what is reached -/
theorem bfs_closed {ls : List LinkR} {N f : Nat} (hls : LinksOk ls N) (hf : f < N) :
    (∀ i, ∀ p, p < i → p < (bfsTo ls N f i).2.length → ∀ k, k < ls.length → (ls.getD k default).fr = (bfsTo ls N f i).2.getD p 0 → (bfsTo ls N f i).1.getD (ls.getD k default).to_.toNat 0 ≠ -2) := by
  have mono : ∀ (u : Int) (st : List Int × List Int), st.1.length = N → ∀ k, k ≤ ls.length → (∀ v : Nat, st.1.getD v 0 ≠ -2 → (scanTo ls u st k).1.getD v 0 ≠ -2) ∧ (scanTo ls u st k).1.length = N ∧ (∃ ys, (scanTo ls u st k).2 = st.2 ++ ys) := by
    intro u st hst k
    induction k with
    | zero => intro _; exact ⟨fun v h => h, hst, [], by simp [scanTo]⟩
    | succ k ih =>
      intro hk
      obtain ⟨h1, h2, ys, h3⟩ := ih (by omega)
      rw [scanTo]
      split
      · refine ⟨fun v hv => ?_, by simp [h2], ys ++ [(ls.getD k default).to_], by simp [h3]⟩
        obtain ⟨_, b0, b1⟩ := hls k (by omega)
        show ((scanTo ls u st k).1.set (ls.getD k default).to_.toNat (k : Int)).getD v 0 ≠ -2
        rw [getD_set' _ _ v _ (by rw [h2]; omega)]
        split
        · omega
        · exact h1 v hv
      · exact ⟨h1, h2, ys, h3⟩
  have full : ∀ (u : Int) (st : List Int × List Int), st.1.length = N → ∀ k, k ≤ ls.length → ∀ j, j < k → (ls.getD j default).fr = u → (scanTo ls u st k).1.getD (ls.getD j default).to_.toNat 0 ≠ -2 := by
    intro u st hst k
    induction k with
    | zero => intro _ j hj; omega
    | succ k ih =>
      intro hk j hj hu
      obtain ⟨_, b0, b1⟩ := hls j (by omega)
      obtain ⟨m1, m2, _⟩ := mono u st hst k (by omega)
      rw [scanTo]
      by_cases e : j = k
      · subst e
        by_cases h2 : (scanTo ls u st j).1.getD (ls.getD j default).to_.toNat 0 = -2
        · rw [if_pos ⟨hu, h2⟩]
          show ((scanTo ls u st j).1.set (ls.getD j default).to_.toNat (j : Int)).getD (ls.getD j default).to_.toNat 0 ≠ -2
          rw [getD_set' _ _ _ _ (by rw [m2]; omega), if_pos rfl]; omega
        · rw [if_neg (fun h => h2 h.2)]; exact h2
      · have := ih (by omega) j (by omega) hu
        split
        · obtain ⟨_, c0, c1⟩ := hls k (by omega)
          show ((scanTo ls u st k).1.set (ls.getD k default).to_.toNat (k : Int)).getD (ls.getD j default).to_.toNat 0 ≠ -2
          rw [getD_set' _ _ _ _ (by rw [m2]; omega)]
          split
          · omega
          · exact this
        · exact this
  intro i
  induction i with
  | zero => intro p hp; omega
  | succ i ih =>
    intro p hp hlen k hk hfr
    have hok := bfs_ok hls hf i
    by_cases hi : i < (bfsTo ls N f i).2.length
    · rw [bfs_step hi] at hlen hfr ⊢
      obtain ⟨m1, m2, ys, m3⟩ := mono ((bfsTo ls N f i).2.getD i 0) (bfsTo ls N f i) hok.len ls.length (Nat.le_refl _)
      rw [m3] at hfr
      by_cases e : p = i
      · subst e
        refine full _ _ hok.len _ (Nat.le_refl _) k hk ?_
        rw [hfr]
        simp [List.getD, List.getElem?_append_left hi]
      · have hp2 : p < (bfsTo ls N f i).2.length := by omega
        refine m1 _ (ih p (by omega) hp2 k hk ?_)
        rw [hfr]
        simp [List.getD, List.getElem?_append_left hp2]
    · have e : bfsTo ls N f (i + 1) = bfsTo ls N f i := by rw [bfsTo, if_neg hi]
      rw [e] at hlen hfr ⊢
      exact ih p (by omega) hlen k hk hfr
theorem reach_closed {ls : List LinkR} {N f : Nat} (hls : LinksOk ls N) (hf : f < N) {l : LinkR} (hl : l ∈ ls) (h : (reachL ls N f).getD l.fr.toNat 0 ≠ -2) : (reachL ls N f).getD l.to_.toNat 0 ≠ -2 := by
  obtain ⟨k, hk, rfl⟩ := List.mem_iff_getElem.1 hl
  have e : ls[k] = ls.getD k default := by simp [List.getD, List.getElem?_eq_getElem hk]
  rw [e] at h ⊢
  have hok := bfs_ok hls hf N
  obtain ⟨⟨a0, a1⟩, _⟩ := hls k hk
  obtain ⟨p, hp, hpe⟩ := hok.inq _ (show (ls.getD k default).fr.toNat < N by omega) h
  have := bfs_len hls hf N
  exact bfs_closed hls hf N p (by omega) hp k hk (by rw [hpe]; omega)
theorem reach_from {ls : List LinkR} {N f : Nat} (hls : LinksOk ls N) (hf : f < N) : (reachL ls N f).getD f 0 ≠ -2 := by
  have := (bfs_ok hls hf N).fby
  rw [reachL, this]; decide
end Go.Proofs.Ytpaahjeohigngaa

namespace Go.Proofs.Ytpaahjeohigngaa
open Go.RowKit

/-- longs, which are known, by which link each was made less last, and the last node made less -/
structure LeastS where
  d : List Int
  k : List Bool
  b : List Int
  e : Int
def leastGo (s : LeastS) (l : LinkR) : Bool := s.k.getD l.fr.toNat false && (!s.k.getD l.to_.toNat false || decide (s.d.getD l.fr.toNat 0 + l.cost < s.d.getD l.to_.toNat 0))
def leastStep (s : LeastS) (l : LinkR) (j : Nat) : LeastS := if leastGo s l = true then ⟨s.d.set l.to_.toNat (s.d.getD l.fr.toNat 0 + l.cost), s.k.set l.to_.toNat true, s.b.set l.to_.toNat j, l.to_⟩ else s
/-- the first j links of a round -/
def leastTo (ls : List LinkR) (s : LeastS) : Nat → LeastS
  | 0 => { s with e := -1 }
  | j + 1 => leastStep (leastTo ls s j) (ls.getD j default) j
def leastR (ls : List LinkR) (s : LeastS) : Nat → LeastS
  | 0 => s
  | r + 1 => leastTo ls (leastR ls s r) ls.length
structure LeastOk (N : Nat) (s : LeastS) (m : Int) : Prop where
  dl : s.d.length = N
  kl : s.k.length = N
  bl : s.b.length = N
  bd : ∀ v, v < N → -m ≤ s.d.getD v 0 ∧ s.d.getD v 0 ≤ m
theorem getD_setB (zs : List Bool) (i j : Nat) (x : Bool) (h : i < zs.length) : (zs.set i x).getD j false = if i = j then x else zs.getD j false := by
  simp only [List.getD, List.getElem?_set]
  by_cases e : i = j
  · subst e; simp [h]
  · simp [e]
theorem least_step_ok {N : Nat} {s : LeastS} {m : Int} {l : LinkR} {j : Nat} (h : LeastOk N s m) (hf : 0 ≤ l.fr ∧ l.fr < N) (ht : 0 ≤ l.to_ ∧ l.to_ < N) (hc : -1000 ≤ l.cost ∧ l.cost ≤ 1000) (hm : 0 ≤ m) : LeastOk N (leastStep s l j) (m + 1000) := by
  unfold leastStep
  split
  · refine ⟨by simp [h.dl], by simp [h.kl], by simp [h.bl], fun v hv => ?_⟩
    show -(m + 1000) ≤ (s.d.set l.to_.toNat (s.d.getD l.fr.toNat 0 + l.cost)).getD v 0 ∧ (s.d.set l.to_.toNat (s.d.getD l.fr.toNat 0 + l.cost)).getD v 0 ≤ m + 1000
    rw [getD_set' _ _ v _ (by rw [h.dl]; omega)]
    have := h.bd l.fr.toNat (by omega)
    have := h.bd v hv
    split <;> omega
  · refine ⟨h.dl, h.kl, h.bl, fun v hv => ?_⟩
    have := h.bd v hv
    omega
def LinksC (ls : List LinkR) : Prop := ∀ k, k < ls.length → -1000 ≤ (ls.getD k default).cost ∧ (ls.getD k default).cost ≤ 1000
theorem least_to_ok {ls : List LinkR} {N : Nat} {s : LeastS} {m : Int} (hls : LinksOk ls N) (hlc : LinksC ls) (h : LeastOk N s m) (hm : 0 ≤ m) : ∀ j, j ≤ ls.length → LeastOk N (leastTo ls s j) (m + 1000 * j)
  | 0, _ => ⟨h.dl, h.kl, h.bl, fun v hv => by have := h.bd v hv; show -(m + 1000 * (0 : Nat)) ≤ s.d.getD v 0 ∧ s.d.getD v 0 ≤ m + 1000 * (0 : Nat); omega⟩
  | j + 1, hj => by
    have ih := least_to_ok hls hlc h hm j (by omega)
    have := least_step_ok (j := j) ih (hls j (by omega)).1 (hls j (by omega)).2 (hlc j (by omega)) (by omega)
    refine ⟨this.dl, this.kl, this.bl, fun v hv => ?_⟩
    have h2 := this.bd v hv
    rw [leastTo]
    omega
theorem least_r_ok {ls : List LinkR} {N : Nat} {s : LeastS} (hls : LinksOk ls N) (hlc : LinksC ls) (hl : ls.length ≤ 96) (h : LeastOk N s 0) : ∀ r : Nat, LeastOk N (leastR ls s r) (96000 * r)
  | 0 => by have h2 := h; simpa [leastR] using h2
  | r + 1 => by
    have ih := least_r_ok hls hlc hl h r
    have := least_to_ok hls hlc ih (by omega) ls.length (Nat.le_refl _)
    refine ⟨this.dl, this.kl, this.bl, fun v hv => ?_⟩
    have h2 := this.bd v hv
    rw [leastR]
    omega
end Go.Proofs.Ytpaahjeohigngaa

namespace Go.Proofs.Ytpaahjeohigngaa
open Go.RowKit

def longLk (a : ArcR) : LinkR := ⟨0, false, a.fr, a.to_, 0, a.cost⟩
def longLs (xs : List ArcR) : List LinkR := xs.map longLk
theorem longLs_get {xs : List ArcR} {k : Nat} (h : k < xs.length) : (longLs xs).getD k default = longLk (xs.getD k default) := by
  simp [longLs, List.getD, List.getElem?_eq_getElem h]
structure RelD (N : Nat) (s : LeastS) (D : List Int) : Prop where
  dl : s.d.length = N
  kl : s.k.length = N
  Dl : D.length = N
  k : ∀ v, v < N → s.k.getD v false = decide (0 ≤ D.getD v 0)
  d : ∀ v, v < N → 0 ≤ D.getD v 0 → s.d.getD v 0 = D.getD v 0
theorem rel_step {N : Nat} {xs : List ArcR} {s : LeastS} {D : List Int} {j : Nat} (h : RelD N s D) (hf : 0 ≤ (xs.getD j default).fr ∧ (xs.getD j default).fr < N) (ht : 0 ≤ (xs.getD j default).to_ ∧ (xs.getD j default).to_ < N) (hc : 0 ≤ (xs.getD j default).cost) :
    RelD N (leastStep s (longLk (xs.getD j default)) j) (if 0 ≤ D.getD (xs.getD j default).fr.toNat 0 ∧ (D.getD (xs.getD j default).to_.toNat 0 < 0 ∨ D.getD (xs.getD j default).fr.toNat 0 + (xs.getD j default).cost < D.getD (xs.getD j default).to_.toNat 0)
      then D.set (xs.getD j default).to_.toNat (D.getD (xs.getD j default).fr.toNat 0 + (xs.getD j default).cost) else D) := by
  generalize xs.getD j default = a at *
  have hfN : a.fr.toNat < N := by omega
  have htN : a.to_.toNat < N := by omega
  have k1 := h.k a.fr.toNat hfN
  have k2 := h.k a.to_.toNat htN
  have hgo : leastGo s (longLk a) = decide (0 ≤ D.getD a.fr.toNat 0 ∧ (D.getD a.to_.toNat 0 < 0 ∨ D.getD a.fr.toNat 0 + a.cost < D.getD a.to_.toNat 0)) := by
    show (s.k.getD a.fr.toNat false && (!s.k.getD a.to_.toNat false || decide (s.d.getD a.fr.toNat 0 + a.cost < s.d.getD a.to_.toNat 0))) = _
    rw [k1, k2]
    by_cases e1 : 0 ≤ D.getD a.fr.toNat 0
    · have d1 := h.d a.fr.toNat hfN e1
      by_cases e2 : 0 ≤ D.getD a.to_.toNat 0
      · have d2 := h.d a.to_.toNat htN e2
        rw [d1, d2, decide_eq_true e1, decide_eq_true e2, Bool.true_and, Bool.not_true, Bool.false_or]
        apply decide_eq_decide.2
        constructor
        · intro h3; exact ⟨e1, .inr h3⟩
        · rintro ⟨_, h3 | h3⟩
          · omega
          · exact h3
      · rw [decide_eq_true e1, decide_eq_false e2, Bool.true_and, Bool.not_false, Bool.true_or]
        symm
        rw [decide_eq_true_iff]
        exact ⟨e1, .inl (by omega)⟩
    · rw [decide_eq_false e1, Bool.false_and]
      symm
      rw [decide_eq_false_iff_not]
      exact fun h3 => e1 h3.1
  unfold leastStep
  rw [hgo]
  by_cases hcond : 0 ≤ D.getD a.fr.toNat 0 ∧ (D.getD a.to_.toNat 0 < 0 ∨ D.getD a.fr.toNat 0 + a.cost < D.getD a.to_.toNat 0)
  · rw [if_pos hcond, decide_eq_true hcond, if_pos rfl]
    have d1 := h.d a.fr.toNat hfN hcond.1
    refine ⟨by simp [h.dl], by simp [h.kl], by simp [h.Dl], fun v hv => ?_, fun v hv h0 => ?_⟩
    · show (s.k.set a.to_.toNat true).getD v false = _
      rw [getD_setB _ _ v _ (by rw [h.kl]; exact htN), getD_setL _ _ v _ (by rw [h.Dl]; exact htN)]
      by_cases e : a.to_.toNat = v
      · rw [if_pos e, if_pos e]; symm; rw [decide_eq_true_iff]; have := hcond.1; omega
      · rw [if_neg e, if_neg e]; exact h.k v hv
    · show (s.d.set a.to_.toNat (s.d.getD a.fr.toNat 0 + a.cost)).getD v 0 = _
      rw [getD_setL _ _ v _ (by rw [h.Dl]; exact htN)] at h0
      rw [getD_setL _ _ v _ (by rw [h.dl]; exact htN), getD_setL _ _ v _ (by rw [h.Dl]; exact htN)]
      by_cases e : a.to_.toNat = v
      · rw [if_pos e, if_pos e, d1]
      · rw [if_neg e] at h0
        rw [if_neg e, if_neg e]
        exact h.d v hv h0
  · rw [if_neg hcond, decide_eq_false hcond, if_neg (by decide)]
    exact h
theorem rel_to {N : Nat} {xs : List ArcR} (hc : ∀ i, i < xs.length → 0 ≤ (xs.getD i default).cost) (hx : ∀ i, i < xs.length → (0 ≤ (xs.getD i default).fr ∧ (xs.getD i default).fr < N) ∧ (0 ≤ (xs.getD i default).to_ ∧ (xs.getD i default).to_ < N)) {s : LeastS} {D : List Int} (h : RelD N s D) : ∀ j, j ≤ xs.length → RelD N (leastTo (longLs xs) s j) (relaxTo xs D j)
  | 0, _ => ⟨h.dl, h.kl, h.Dl, h.k, h.d⟩
  | j + 1, hj => by
    have ih := rel_to hc hx h j (by omega)
    rw [leastTo, relaxTo, longLs_get (by omega)]
    exact rel_step ih (hx j (by omega)).1 (hx j (by omega)).2 (hc j (by omega))
theorem rel_r {N f : Nat} {xs : List ArcR} (hc : ∀ i, i < xs.length → 0 ≤ (xs.getD i default).cost) (hx : ∀ i, i < xs.length → (0 ≤ (xs.getD i default).fr ∧ (xs.getD i default).fr < N) ∧ (0 ≤ (xs.getD i default).to_ ∧ (xs.getD i default).to_ < N)) {s : LeastS} (h : RelD N s (roundsL xs N f 0)) : ∀ r, RelD N (leastR (longLs xs) s r) (roundsL xs N f r)
  | 0 => h
  | r + 1 => by
    rw [leastR, roundsL, show (longLs xs).length = xs.length by simp [longLs]]
    exact rel_to hc hx (rel_r hc hx h r) xs.length (Nat.le_refl _)
theorem rel_start {xs : List ArcR} {N f : Nat} (hf : f < N) (b : List Int) (e : Int) : RelD N ⟨List.replicate N 0, (List.replicate N false).set f true, b, e⟩ (roundsL xs N f 0) := by
  refine ⟨by simp, by simp, by simp [roundsL], fun v hv => ?_, fun v hv h0 => ?_⟩
  · show ((List.replicate N false).set f true).getD v false = _
    rw [roundsL, getD_setL _ _ v _ (by simpa using hf), getD_setB _ _ v _ (by simpa using hf)]
    by_cases e : f = v
    · rw [if_pos e, if_pos e]; rfl
    · rw [if_neg e, if_neg e]; simp [List.getD, hv]
  · show (List.replicate N (0 : Int)).getD v 0 = _
    rw [roundsL, getD_setL _ _ v _ (by simpa using hf)] at h0 ⊢
    by_cases e : f = v
    · rw [if_pos e]; simp [List.getD, hv]
    · rw [if_neg e] at h0
      have : (List.replicate N (-1 : Int)).getD v 0 = -1 := by simp [List.getD, hv]
      rw [this] at h0; omega
/-- the program's last loop: -1 where a node is not known -/
def unTo (s : LeastS) (j : Nat) : List Int := (List.range s.d.length).map fun v => if v < j ∧ s.k.getD v false = false then -1 else s.d.getD v 0
end Go.Proofs.Ytpaahjeohigngaa
