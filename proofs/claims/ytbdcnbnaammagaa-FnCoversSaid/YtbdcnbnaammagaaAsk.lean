/- Lists of drawn numbers; numbers chosen by a byte. -/
import Derived.Test.YtbdcnbnaammagaaSrc
namespace Go.Proofs.Ytbdcnbnaammagaa
open Go.RowKit

def BytesIn (A : Option Addr) (n B : Nat) : Prop := 0 < n → ∀ ad, A = some ad → ad.block < B
theorem BytesAt.in_ {w : World} {A : Option Addr} {n : Nat} (h : BytesAt w A n) : BytesIn A n w.heap.size := fun h0 ad h1 => by
  obtain ⟨ad', e1, e2, _⟩ := h h0
  rw [e1] at h1; injection h1 with h1; subst h1; exact e2
theorem BytesAt.belowB {w w' : World} {A : Option Addr} {n B : Nat} (h : BytesAt w A n) (hb : Below B w w') (hB : BytesIn A n B) : BytesAt w' A n := h.keep hb.size fun h0 ad h1 _ => hb.block _ (hB h0 ad h1)
theorem BytesIn.le {A : Option Addr} {n B B' : Nat} (h : BytesIn A n B) (hb : B ≤ B') : BytesIn A n B' := fun h0 ad h1 => Nat.lt_of_lt_of_le (h h0 ad h1) hb
theorem BytesIn.far {A : Option Addr} {n B : Nat} (h : BytesIn A n B) : BytesFar A n B := fun h0 ad h1 => Nat.ne_of_lt (h h0 ad h1)
theorem Upd.belowG {g : Nat} {w w' : World} (h : Upd (blk (some ⟨g, 0, none⟩)) w w') (hg : g ≤ w.heap.size) : Below g w w' := h.toBelow hg fun k hk ⟨z, h2, h3⟩ => by
  injection h2 with h2; subst h2; exact absurd h3 (by show ¬ g = k; omega)
theorem blk_not {g b : Nat} (h : b ≠ g) : ¬ blk (some ⟨g, 0, none⟩) b := fun ⟨z, h2, h3⟩ => by
  injection h2 with h2; subst h2; exact h h3.symm

/-- numbers that are drawn: so many, each from 0 to below a bound -/
def Drawn (T m : Nat) (M : Int) (w : World) (e : Ending) (w' : World) : Prop :=
  ∃ (S : Option Addr) (c : Nat) (zs : List Int), e = .returned (.slice S m c) ∧ OwnI T w.heap.size w' S m c zs ∧ (∀ x ∈ zs, 0 ≤ x ∧ x < max 1 M) ∧ Below w.heap.size w w'

set_option maxRecDepth 100000 in
set_option maxHeartbeats 1600000 in
theorem asks_any (A : Option Addr) (n c m : Nat) (M : Int) (w : World) (h : BytesAt w A n) (hl : n ≤ maxLen) (hm : m ≤ 100000) (hM : M ≤ 1000000) :
    Calls Try.prog 10 #[.slice A n c, .int .i64 (m : Int), .int .i64 M] w (Drawn 2 m M w) := by
  have hin := h.in_
  go_enter Try.func10, Try.ntmps10
  go_wp2_with (go_at_call 24; refine (from_any _ _ _ _ h).mono ?_; rintro e w1 ⟨rfl, hs1, hf, hb1, hz1⟩)
  have he := World.ownsRow_lit (e := 2) (base := w.heap.size + 1) (size := 1) w1 #[] 0 (by omega) (Nat.zero_le _) rfl
  replace he : OwnI 2 (w.heap.size + 1) (w1.alloc (.cells #[] 2)) (some ⟨w1.heap.size, 0, none⟩) 0 0 [] := he
  have hs2 := hs1.alloc (.cells #[] 2)
  have hb2 := hb1.alloc (by omega) (.cells #[] 2)
  replace h := h.below hb2
  have hz2 : w.heap.size + 1 ≤ (w1.alloc (.cells #[] 2)).heap.size := by simp; omega
  rw [hz1] at he
  generalize w1.alloc (.cells #[] 2) = w2 at *
  clear hs1 hb1 hz1
  generalize hG : w.heap.size = g at *
  have HG := Lib.hid hG
  clear hG
  go_loopg [1, 8] m (fun r iv ov wr => ∃ (j k : Nat) (s : Int) (S : Option Addr) (sc : Nat) (out : List Int), r = m - j ∧ j ≤ m ∧ k ≤ 2 * j ∧ iv = .int .i64 ((m - j : Nat) : Int) ∧ ov = .slice S j sc ∧ OwnI 2 (g + 1) wr S j sc out ∧ (∀ x ∈ out, 0 ≤ x ∧ x < max 1 M) ∧ Below g w wr ∧ g + 1 ≤ wr.heap.size ∧ SrcAt wr g A n c k s ∧ BytesAt wr A n)
  case atStart => exact ⟨0, 0, 0, _, 0, [], by omega, by omega, by omega, by go_num, rfl, he, (fun x hx => nomatch hx), hb2, hz2, hs2, h⟩
  case round =>
    clear h he hs2 hb2 hz2
    obtain ⟨j, k, s, S, sc, out, hr, hj, hk, rfl, rfl, hown, hall, hb, hz, hs, h⟩ := hrel
    have HR := Lib.hid hr
    clear hr
    by_cases hlt : j < m
    · have hd : decide ((0 : Int) < ((m - j : Nat) : Int)) = true := by rw [decide_eq_true_iff]; omega
      have hp : (0 : Int) < ((m - j : Nat) : Int) := by omega
      have HN : ((m - j : Nat) : Int) - 1 = ((m - (j + 1) : Nat) : Int) := by omega
      generalize ((m - j : Nat) : Int) = rest at *
      have hb9 : rest ≤ 100001 := by omega
      have HNN := Lib.hid HN
      clear HN
      go_wp2_with fail
      refine (pick_any A n c g k s M _ h hl hs hin.far (by omega) hM).mono ?_
      rintro e w3 ⟨x, k3, s3, rfl, hx, hk3, hs3, hu3⟩
      replace hown := hown.upd hu3 fun ad h1 => blk_not (by have := (hown.lt h1).1; omega)
      replace h := h.upd hu3 hin.far.no
      have hz3 := hu3.size
      replace hb := hb.trans (hu3.belowG (by omega))
      have hz4 : g + 1 ≤ w3.heap.size := by omega
      clear hz3
      go_wp2_with (at_builtin; refine wp_append_int _ _ rfl _ _ _ rfl 2 (g + 1) Try.underlying26 info64 S j sc _ rfl hown rfl (by omega) hz4 ?_; intro g4 c4 w4 o4 u4 b4 hg4)
      go_roundg (m - (j + 1))
      case measure => rw [HR.out]; omega
      case rel =>
        refine ⟨j + 1, k3, s3, _, _, _, rfl, by omega, by omega, by rw [HNN.out], rfl, o4, ?_, hb.trans (b4.mono (by omega)), Nat.le_trans hz4 b4.size, hs3.below b4 (by omega), h.belowB b4 (hin.le (by omega))⟩
        intro y hy
        rw [List.mem_append, List.mem_singleton] at hy
        rcases hy with hy | rfl
        · exact hall y hy
        · omega
    · obtain rfl : j = m := by omega
      go_wp2
      go_ret
      exact ⟨_, _, _, rfl, by rw [HG.out]; exact hown.low (by omega), hall, by rw [HG.out]; exact hb⟩
end Go.Proofs.Ytbdcnbnaammagaa
