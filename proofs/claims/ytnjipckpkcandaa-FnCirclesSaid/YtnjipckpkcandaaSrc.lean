/- A source of choices: bytes that are read, and numbers that are drawn from them. -/
import Derived.Test.YtnjipckpkcandaaMore
import Derived.Test.YtnjipckpkcandaaAppend
import Derived.Test.YtnjipckpkcandaaOpen
namespace Go.Proofs.Ytnjipckpkcandaa
open Go.ChangeShapes Go.WideShapes Go.ChangeAt Go.RowKit

/-- A list of bytes is read through a slice with this address and length. -/
def BytesAt (w : World) (A : Option Addr) (n : Nat) : Prop :=
  0 < n → ∃ ad : Addr, A = some ad ∧ ad.block < w.heap.size ∧ ∀ j, j < n → ∃ b : Nat, b ≤ 255 ∧ w.cell? (ad.add j) = some (.int .u8 b)
theorem BytesAt.keep {w w' : World} {A : Option Addr} {n : Nat} (h : BytesAt w A n) (hs : w.heap.size ≤ w'.heap.size) (hk : 0 < n → ∀ ad, A = some ad → ad.block < w.heap.size → w'.heap[ad.block]? = w.heap[ad.block]?) : BytesAt w' A n := by
  intro hn
  obtain ⟨ad, h1, h2, h3⟩ := h hn
  refine ⟨ad, h1, by omega, fun j hj => ?_⟩
  obtain ⟨b, hb, hc⟩ := h3 j hj
  exact ⟨b, hb, by rw [← hc]; exact World.cell?_of_block (by rw [block_add]; exact hk hn ad h1 h2)⟩
theorem BytesAt.below {w w' : World} {A : Option Addr} {n : Nat} (h : BytesAt w A n) (hb : Below w.heap.size w w') : BytesAt w' A n := h.keep hb.size fun _ ad _ h2 => hb.block _ h2
theorem BytesAt.upd {w w' : World} {A : Option Addr} {n : Nat} {S : Nat → Prop} (h : BytesAt w A n) (hb : Upd S w w') (hS : 0 < n → ∀ ad, A = some ad → ¬ S ad.block) : BytesAt w' A n := h.keep hb.size fun h0 ad h1 h2 => hb.block _ h2 (hS h0 ad h1)
theorem BytesAt.drewN {w : World} {A : Option Addr} {n : Nat} (h : BytesAt w A n) (m : Nat) : BytesAt (w.drewN m) A n := h
theorem BytesAt.at_ {w : World} {A : Option Addr} {n : Nat} (h : BytesAt w A n) {k : Nat} (hk : k < n) :
    ∃ (ad : Addr) (b : Nat), A = some ad ∧ ad.block < w.heap.size ∧ b ≤ 255 ∧ w.cell? (ad.add k) = some (.int .u8 b) := by
  obtain ⟨ad, h1, h2, h3⟩ := h (by omega)
  obtain ⟨b, h4, h5⟩ := h3 k hk
  exact ⟨ad, b, h1, h2, h4, h5⟩

theorem arg_bytes {H : Type} {enc : TypeId × Value → H} {P : Program} {W : World} {t e : TypeId} {v : Value} {d : DataW H} {p : List MemPlace} {r : Reach} {b0 : Nat}
    (ht : P.underlying t = some (.slice e)) (he : P.underlying e = some (.int .u8)) (hc : P.cellsOf e = 1)
    (hv : Value.okWide P W r b0 t v) (h : DataW.Trod enc P W 0 (fun _ => true) true t v d p) :
    ∃ (a : Option Addr) (len cap : Nat), v = .slice a len cap ∧ BytesAt W a len ∧ len ≤ maxLen := by
  obtain ⟨a0, len0, cap0, rfl⟩ := okWide_slice ht hv
  obtain ⟨fuel, hf⟩ := h
  rcases open_ints ht he hc hf with ⟨hcs, _⟩ | ⟨x, l, c, zs, hcs, _, hl, hm, hz, _, hcell, hwz⟩
  · simp [Value.cells] at hcs
    obtain ⟨rfl, rfl, rfl⟩ := hcs
    exact ⟨_, _, _, rfl, fun h => absurd h (by omega), Nat.zero_le _⟩
  · simp [Value.cells] at hcs
    obtain ⟨rfl, rfl, rfl⟩ := hcs
    simp at hz
    refine ⟨_, _, _, rfl, fun hn => ⟨x, rfl, ?_, fun j hj => ?_⟩, by omega⟩
    · have := block_of_cell (hcell 0 (by omega))
      rwa [block_add] at this
    · have h1 := hcell j (by omega)
      have h2 := hwz (zs.getD j 0) (by
        have h3 : j < zs.length := by omega
        rw [List.getD, List.getElem?_eq_getElem h3]; exact List.getElem_mem h3)
      simp [Lit.wf, IntKind.min, IntKind.max, IntKind.signed, IntKind.bits] at h2
      refine ⟨(zs.getD j 0).toNat, ?_, ?_⟩
      · simp [List.getD]; omega
      · rw [h1]; congr 2; simp [List.getD]; omega


theorem low8 (x : Int) : ∃ r : Nat, r ≤ 255 ∧ wrap64 (bits .and .u64 (x / 1099511627776) 255) = (r : Int) := by
  have key : bits .and .u64 (x / 1099511627776) 255 = (((BitVec.ofInt 64 (x / 1099511627776) &&& BitVec.ofInt 64 255).toNat : Nat) : Int) := by
    show IntKind.u64.wrap ((BitVec.ofInt 64 (x / 1099511627776) &&& BitVec.ofInt 64 255).toNat : Int) = _
    have := (BitVec.ofInt 64 (x / 1099511627776) &&& BitVec.ofInt 64 255).isLt
    rw [IntKind.wrap_u64]
    omega
  have hle : (BitVec.ofInt 64 (x / 1099511627776) &&& BitVec.ofInt 64 255).toNat ≤ 255 := by
    rw [BitVec.toNat_and]
    exact Nat.and_le_right
  rw [key]
  generalize (BitVec.ofInt 64 (x / 1099511627776) &&& BitVec.ofInt 64 255).toNat = r at *
  exact ⟨r, hle, by unfold wrap64; omega⟩

def BytesFar (A : Option Addr) (n g : Nat) : Prop := 0 < n → ∀ ad, A = some ad → ad.block ≠ g
theorem BytesFar.no {A : Option Addr} {n g : Nat} (h : BytesFar A n g) : 0 < n → ∀ ad, A = some ad → ¬ blk (some ⟨g, 0, none⟩) ad.block := fun h0 ad h1 ⟨z, h2, h3⟩ => by
  injection h2 with h2; subst h2; exact h h0 ad h1 h3.symm

end Go.Proofs.Ytnjipckpkcandaa
