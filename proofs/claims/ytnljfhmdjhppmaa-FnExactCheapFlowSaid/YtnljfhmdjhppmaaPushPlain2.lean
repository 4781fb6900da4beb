/- Greatest flows, in plain lists. -/
import Derived.Test.YtnljfhmdjhppmaaPushPlain
namespace Go.Proofs.Ytnljfhmdjhppmaa
open Go.RowKit

/-- the links of the way that leads to a node, the last one first -/
def wayB (ls : List LinkR) (by_ : List Int) (f : Int) : Nat → Int → List LinkR
  | 0, _ => []
  | k + 1, at_ => if at_ = f then [] else (ls.getD (by_.getD at_.toNat 0).toNat default) :: wayB ls by_ f k (ls.getD (by_.getD at_.toNat 0).toNat default).fr
theorem wayB_path {ls : List LinkR} {by_ : List Int} {N : Nat} {f : Int} : ∀ (k : Nat) (ws : List LinkR) (at_ : Int), Path ls by_ N f ws at_ → ws.length ≤ k → wayB ls by_ f k at_ = ws
  | 0, ws, at_, _, h2 => by
    have : ws = [] := List.eq_nil_of_length_eq_zero (by omega)
    subst this; rfl
  | k + 1, [], at_, h, _ => by
    rw [Path] at h
    rw [wayB, if_pos h]
  | k + 1, l :: ws, at_, h, h2 => by
    rw [Path] at h
    obtain ⟨h1, _, ⟨j, h3, _, h4⟩, h5⟩ := h
    rw [wayB, if_neg h1, h3, Int.toNat_natCast, h4, wayB_path k ws l.fr h5 (by simp at h2; omega)]

def FlowIn (xs : List ArcR) (fl : List Int) (n : Nat) : Prop := fl.length = n ∧ ∀ k, k < n → 0 ≤ fl.getD k 0 ∧ fl.getD k 0 ≤ (xs.getD k default).room
def netX (x : Int) (node : Int) : List LinkR → Int
  | [] => 0
  | l :: ws => netX x node ws + (if l.fr = node then x else 0) - (if l.to_ = node then x else 0)
theorem outTo_set (xs : List ArcR) (fl : List Int) (node : Int) (a : Nat) (v : Int) (ha : a < fl.length) : ∀ k, outTo xs (fl.set a v) node k = outTo xs fl node k + (if a < k then (if (xs.getD a default).fr = node then v - fl.getD a 0 else 0) - (if (xs.getD a default).to_ = node then v - fl.getD a 0 else 0) else 0)
  | 0 => by simp [outTo]
  | k + 1 => by
    rw [outTo_succ, outTo_succ, outTo_set xs fl node a v ha k, getD_set' fl a k v ha]
    by_cases h : a = k
    · subst h
      rw [if_pos rfl, if_neg (Nat.lt_irrefl a), if_pos (Nat.lt_succ_self a)]
      split <;> split <;> omega
    · have key : ∀ o A B C D : Int, o + (A - B) + C - D = o + C - D + (A - B) := by omega
      have key2 : ∀ o C D : Int, o + 0 + C - D = o + C - D + 0 := by omega
      by_cases h2 : a < k
      · simp only [if_neg h, if_pos h2, if_pos (show a < k + 1 by omega)]; exact key _ _ _ _ _
      · simp only [if_neg h, if_neg h2, if_neg (show ¬ a < k + 1 by omega)]; exact key2 _ _ _
theorem outTo_one {xs : List ArcR} {fl fl0 : List Int} {n : Nat} {l : LinkR} (h : LinkIs xs fl0 n l) (hl : fl.length = n) (x node : Int) : outTo xs (pushOne fl l x) node n = outTo xs fl node n + (if l.fr = node then x else 0) - (if l.to_ = node then x else 0) := by
  obtain ⟨h1, _, h3⟩ := h
  unfold pushOne
  rw [outTo_set xs fl node l.arc _ (by omega) n, if_pos h1]
  generalize fl.getD l.arc 0 = y
  rcases h3 with ⟨hb, e1, e2, _⟩ | ⟨hb, e1, e2, _⟩
  · have hby : l.by_ = 1 := by unfold LinkR.by_; rw [hb]; rfl
    rw [hby, e1, e2]
    split <;> split <;> omega
  · have hby : l.by_ = -1 := by unfold LinkR.by_; rw [hb]; rfl
    rw [hby, e1, e2]
    split <;> split <;> omega
theorem push_inv {xs : List ArcR} {fl0 : List Int} {n : Nat} (hr : ∀ k, k < n → 0 ≤ (xs.getD k default).room ∧ (xs.getD k default).room ≤ 1000000) (x : Int) (hx : 0 ≤ x) :
    ∀ (ws : List LinkR) (fl : List Int), FlowIn xs fl n → (∀ l ∈ ws, LinkIs xs fl0 n l ∧ fl.getD l.arc 0 = fl0.getD l.arc 0 ∧ x ≤ l.room) → ws.Pairwise (fun l1 l2 => l1.arc ≠ l2.arc) →
      PushOk n x ws fl ∧ FlowIn xs (pushAll ws x fl) n ∧ ∀ node, outTo xs (pushAll ws x fl) node n = outTo xs fl node n + netX x node ws
  | [], fl, h, _, _ => ⟨trivial, h, fun node => by simp [pushAll, netX]⟩
  | l :: ws, fl, h, h2, h3 => by
    obtain ⟨k1, k2, k3⟩ := h2 l (by simp)
    obtain ⟨hlen, hin⟩ := h
    have ⟨a1, a2, a3⟩ := k1
    have hnew : FlowIn xs (pushOne fl l x) n := by
      refine ⟨by rw [pushOne_len]; exact hlen, fun k hk => ?_⟩
      unfold pushOne
      rw [getD_set' fl l.arc k _ (by omega)]
      by_cases e : l.arc = k
      · subst e
        rw [if_pos rfl, k2]
        have := hin l.arc hk
        rw [k2] at this
        have := hr l.arc hk
        rcases a3 with ⟨hb, _, _, e4⟩ | ⟨hb, _, _, e4⟩
        · have hby : l.by_ = 1 := by unfold LinkR.by_; rw [hb]; rfl
          rw [hby]; omega
        · have hby : l.by_ = -1 := by unfold LinkR.by_; rw [hb]; rfl
          rw [hby]; omega
      · rw [if_neg e]; exact hin k hk
    have h3' := List.pairwise_cons.1 h3
    obtain ⟨b1, b2, b3⟩ := push_inv hr x hx ws (pushOne fl l x) hnew (fun l2 hl2 => by
      obtain ⟨c1, c2, c3⟩ := h2 l2 (by simp [hl2])
      refine ⟨c1, ?_, c3⟩
      unfold pushOne
      rw [getD_set' fl l.arc l2.arc _ (by omega), if_neg (h3'.1 l2 hl2)]
      exact c2) h3'.2
    refine ⟨⟨a1, ?_, b1⟩, b2, fun node => ?_⟩
    · have := hin l.arc a1
      have := hr l.arc a1
      omega
    · rw [pushAll, b3 node, outTo_one k1 hlen x node, netX]
      omega
theorem netX_way {ls : List LinkR} {by_ : List Int} {N : Nat} {f : Int} (x : Int) : ∀ (ws : List LinkR) (at_ : Int), Path ls by_ N f ws at_ → (∀ l ∈ ws, l.to_ ≠ f) → netX x f ws = if ws = [] then 0 else x
  | [], _, _, _ => rfl
  | l :: ws, at_, h, h2 => by
    rw [Path] at h
    obtain ⟨_, _, _, h5⟩ := h
    have ih := netX_way x ws l.fr h5 (fun l' hl' => h2 l' (by simp [hl']))
    rw [netX, ih, if_neg (h2 l (by simp)), if_neg (List.cons_ne_nil _ _)]
    cases ws with
    | nil =>
      rw [Path] at h5
      rw [if_pos rfl, if_pos h5]; omega
    | cons l2 ws =>
      rw [Path] at h5
      rw [if_neg (List.cons_ne_nil _ _), if_neg h5.1]; omega

/-- what stands when a node is reached -/
theorem aug_ok {xs : List ArcR} {nodes : Int} {N F t n : Nat} {fl : List Int} (hN : nodes = N) (hv : validB nodes xs = true) (hn : xs.length = n) (hfl : FlowIn xs fl n) (hF : F < N) (ht : t < N) (hne : t ≠ F)
    (hby : (reachL (linksTo xs fl n) N F).getD t 0 ≠ -2) :
    ∃ ws, wayB (linksTo xs fl n) (reachL (linksTo xs fl n) N F) F N t = ws ∧ Path (linksTo xs fl n) (reachL (linksTo xs fl n) N F) N F ws t ∧ (∃ l ws', ws = l :: ws') ∧ (∀ l ∈ ws, 1 ≤ l.room ∧ l.room ≤ 1000000) ∧
      ∀ x, 0 ≤ x → (∀ l ∈ ws, x ≤ l.room) → PushOk n x ws fl ∧ FlowIn xs (pushAll ws x fl) n ∧ outTo xs (pushAll ws x fl) F n = outTo xs fl F n + x ∧ ∀ node, node ≠ (F : Int) → node ≠ (t : Int) → True := by
  subst hn
  have hls := linksTo_ok fl hN hv xs.length (Nat.le_refl _)
  have hok := bfs_ok hls hF N
  have hnd := bfs_nodup hls hF N
  obtain ⟨_, _, _, hb⟩ := valid_bd hv
  obtain ⟨p, hp, hpt⟩ := hok.inq t ht hby
  have hqN := bfs_len hls hF N
  have hp0 : 0 < p := by
    rcases Nat.eq_zero_or_pos p with h | h
    · subst h; rw [hok.q0] at hpt; omega
    · exact h
  obtain ⟨ws, w1, w2, _, w4, w5, w6⟩ := way_of hok hnd p p (Nat.le_refl _) hp
  rw [hpt] at w1
  have his : ∀ l ∈ ws, LinkIs xs fl xs.length l := fun l hl => linksTo_is xs fl xs.length l (w5 l hl).1
  have hrm : ∀ k, k < xs.length → 0 ≤ (xs.getD k default).room ∧ (xs.getD k default).room ≤ 1000000 := fun k hk => (hb k hk).2.2.2.1
  have hto : ∀ l ∈ ws, l.to_ ≠ (F : Int) := fun l hl e => by
    obtain ⟨_, i, j, h1, h2, _, h4⟩ := w5 l hl
    have := nodup_at hnd (show j < _ by omega) (show 0 < _ by omega) (by rw [h4, hok.q0, e])
    omega
  have hpw : ws.Pairwise (fun l1 l2 => l1.arc ≠ l2.arc) := by
    refine List.Pairwise.imp_of_mem ?_ w6
    rintro l1 l2 m1 m2 ⟨i, j, j', h1, h2, h3, h4, h5, h6, i', h7, h8⟩ e
    obtain ⟨_, _, a⟩ := his l1 m1
    obtain ⟨_, _, b⟩ := his l2 m2
    rw [e] at a
    rcases a with ⟨_, a1, a2, _⟩ | ⟨_, a1, a2, _⟩ <;> rcases b with ⟨_, b1, b2, _⟩ | ⟨_, b1, b2, _⟩
    · have := nodup_at hnd (show j < _ by omega) (show j' < _ by omega) (by rw [h4, h6, a2, b2]); omega
    · have := nodup_at hnd (show j < _ by omega) (show i' < _ by omega) (by rw [h4, h8, a2, b1]); omega
    · have := nodup_at hnd (show j < _ by omega) (show i' < _ by omega) (by rw [h4, h8, a2, b1]); omega
    · have := nodup_at hnd (show j < _ by omega) (show j' < _ by omega) (by rw [h4, h6, a2, b2]); omega
  obtain ⟨l, ws', hws⟩ := w4 hp0
  refine ⟨ws, wayB_path N ws t w1 (by omega), w1, ⟨l, ws', hws⟩, fun l hl => ?_, fun x hx hx2 => ?_⟩
  · obtain ⟨a1, a2, a3⟩ := his l hl
    have := hrm l.arc a1
    have := hfl.2 l.arc a1
    rcases a3 with ⟨_, _, _, e⟩ | ⟨_, _, _, e⟩ <;> omega
  · obtain ⟨p1, p2, p3⟩ := push_inv hrm x hx ws fl hfl (fun l hl => ⟨his l hl, rfl, hx2 l hl⟩) hpw
    refine ⟨p1, p2, ?_, fun _ _ _ => trivial⟩
    rw [p3, netX_way x ws t w1 hto, if_neg (by rw [hws]; exact List.cons_ne_nil _ _)]

/-- a greatest flow: rounds -/
def greatRun (xs : List ArcR) (n N F t : Nat) : Nat → List Int → Int → List Int × Int
  | 0, fl, a => (fl, a)
  | k + 1, fl, a => if (reachL (linksTo xs fl n) N F).getD t 0 = -2 then (fl, a) else greatRun xs n N F t k (pushAll (wayB (linksTo xs fl n) (reachL (linksTo xs fl n) N F) F N t) (amtOf (wayB (linksTo xs fl n) (reachL (linksTo xs fl n) N F) F N t) 100000000) fl) (a + amtOf (wayB (linksTo xs fl n) (reachL (linksTo xs fl n) N F) F N t) 100000000)
theorem great_end {xs : List ArcR} {n N F t k : Nat} {fl : List Int} {a : Int} (h : (reachL (linksTo xs fl n) N F).getD t 0 = -2) : greatRun xs n N F t k fl a = (fl, a) := by
  cases k with
  | zero => rfl
  | succ k => rw [greatRun, if_pos h]
theorem great_step {xs : List ArcR} {n N F t k : Nat} {fl : List Int} {a : Int} {ws : List LinkR} (h : (reachL (linksTo xs fl n) N F).getD t 0 ≠ -2) (hw : wayB (linksTo xs fl n) (reachL (linksTo xs fl n) N F) F N t = ws) : greatRun xs n N F t (k + 1) fl a = greatRun xs n N F t k (pushAll ws (amtOf ws 100000000) fl) (a + amtOf ws 100000000) := by
  rw [greatRun, if_neg h, hw]
/-- rounds enough -/
def greatG : Nat := 48000001
def greatL (xs : List ArcR) (N F t : Nat) : List Int × Int := greatRun xs xs.length N F t greatG (List.replicate xs.length 0) 0
theorem flow_zero {xs : List ArcR} {n : Nat} (hr : ∀ k, k < n → 0 ≤ (xs.getD k default).room) : FlowIn xs (List.replicate n 0) n := by
  refine ⟨by simp, fun k hk => ?_⟩
  have : (List.replicate n (0 : Int)).getD k 0 = 0 := by simp [List.getD, hk]
  rw [this]
  exact ⟨Int.le_refl _, hr k hk⟩
theorem out_zero (xs : List ArcR) (n : Nat) (node : Int) : ∀ k, k ≤ n → outTo xs (List.replicate n 0) node k = 0
  | 0, _ => rfl
  | k + 1, h => by
    have : (List.replicate n (0 : Int)).getD k 0 = 0 := by simp [List.getD, show k < n by omega]
    rw [outTo_succ, out_zero xs n node k (by omega), this]
    simp
end Go.Proofs.Ytnljfhmdjhppmaa
