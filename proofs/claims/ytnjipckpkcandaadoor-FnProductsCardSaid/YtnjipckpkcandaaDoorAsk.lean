/- Lists of drawn numbers; numbers chosen by a byte. -/
import Derived.Test.YtnjipckpkcandaaDoorSrc
namespace Go.Proofs.YtnjipckpkcandaaDoor
open Go.RowKit

def BytesIn (A : Option Addr) (n B : Nat) : Prop := 0 < n → ∀ ad, A = some ad → ad.block < B
theorem BytesAt.in_ {w : World} {A : Option Addr} {n : Nat} (h : BytesAt w A n) : BytesIn A n w.heap.size := fun h0 ad h1 => by
  obtain ⟨ad', e1, e2, _⟩ := h h0
  rw [e1] at h1; injection h1 with h1; subst h1; exact e2
theorem BytesAt.belowB {w w' : World} {A : Option Addr} {n B : Nat} (h : BytesAt w A n) (hb : Below B w w') (hB : BytesIn A n B) : BytesAt w' A n := h.keep hb.size fun h0 ad h1 _ => hb.block _ (hB h0 ad h1)
theorem BytesIn.le {A : Option Addr} {n B B' : Nat} (h : BytesIn A n B) (hb : B ≤ B') : BytesIn A n B' := fun h0 ad h1 => Nat.lt_of_lt_of_le (h h0 ad h1) hb
theorem BytesIn.far {A : Option Addr} {n B : Nat} (h : BytesIn A n B) : BytesFar A n B := fun h0 ad h1 => Nat.ne_of_lt (h h0 ad h1)
theorem Upd.belowG {g : Nat} {w w' : World} (h : Upd (blk (some ⟨g, 0, none⟩)) w w') (hg : g ≤ w.heap.size) : Below g w w' := h.toBelow hg fun k hk ⟨z, h2, h3⟩ => by
  injection h2 with h2; subst h2; exact absurd h3 (by show ¬ g = k; omega)
theorem blk_not {g b : Nat} (h : b ≠ g) : ¬ blk (some ⟨g, 0, none⟩) b := fun ⟨z, h2, h3⟩ => by
  injection h2 with h2; subst h2; exact h h3.symm

/-- numbers that are drawn: so many, each from 0 to below a bound -/
def Drawn (T m : Nat) (M : Int) (w : World) (e : Ending) (w' : World) : Prop :=
  ∃ (S : Option Addr) (c : Nat) (zs : List Int), e = .returned (.slice S m c) ∧ OwnI T w.heap.size w' S m c zs ∧ (∀ x ∈ zs, 0 ≤ x ∧ x < max 1 M) ∧ Below w.heap.size w w'

end Go.Proofs.YtnjipckpkcandaaDoor
