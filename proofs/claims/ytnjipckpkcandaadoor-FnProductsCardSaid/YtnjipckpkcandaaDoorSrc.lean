/- A source of choices: bytes that are read, and numbers that are drawn from them. -/
import Derived.Test.YtnjipckpkcandaaDoorMore
import Derived.Test.YtnjipckpkcandaaDoorAppend
import Derived.Test.YtnjipckpkcandaaDoorOpen
namespace Go.Proofs.YtnjipckpkcandaaDoor
open Go.ChangeShapes Go.WideShapes Go.ChangeAt Go.RowKit

/-- A list of bytes is read through a slice with this address and length. -/
def BytesAt (w : World) (A : Option Addr) (n : Nat) : Prop :=
  0 < n → ∃ ad : Addr, A = some ad ∧ ad.block < w.heap.size ∧ ∀ j, j < n → ∃ b : Nat, b ≤ 255 ∧ w.cell? (ad.add j) = some (.int .u8 b)
theorem BytesAt.keep {w w' : World} {A : Option Addr} {n : Nat} (h : BytesAt w A n) (hs : w.heap.size ≤ w'.heap.size) (hk : 0 < n → ∀ ad, A = some ad → ad.block < w.heap.size → w'.heap[ad.block]? = w.heap[ad.block]?) : BytesAt w' A n := by
  intro hn
  obtain ⟨ad, h1, h2, h3⟩ := h hn
  refine ⟨ad, h1, by omega, fun j hj => ?_⟩
  obtain ⟨b, hb, hc⟩ := h3 j hj
  exact ⟨b, hb, by rw [← hc]; exact World.cell?_of_block (by rw [block_add]; exact hk hn ad h1 h2)⟩
theorem BytesAt.below {w w' : World} {A : Option Addr} {n : Nat} (h : BytesAt w A n) (hb : Below w.heap.size w w') : BytesAt w' A n := h.keep hb.size fun _ ad _ h2 => hb.block _ h2
theorem BytesAt.upd {w w' : World} {A : Option Addr} {n : Nat} {S : Nat → Prop} (h : BytesAt w A n) (hb : Upd S w w') (hS : 0 < n → ∀ ad, A = some ad → ¬ S ad.block) : BytesAt w' A n := h.keep hb.size fun h0 ad h1 h2 => hb.block _ h2 (hS h0 ad h1)
theorem BytesAt.drewN {w : World} {A : Option Addr} {n : Nat} (h : BytesAt w A n) (m : Nat) : BytesAt (w.drewN m) A n := h
theorem BytesAt.at_ {w : World} {A : Option Addr} {n : Nat} (h : BytesAt w A n) {k : Nat} (hk : k < n) :
    ∃ (ad : Addr) (b : Nat), A = some ad ∧ ad.block < w.heap.size ∧ b ≤ 255 ∧ w.cell? (ad.add k) = some (.int .u8 b) := by
  obtain ⟨ad, h1, h2, h3⟩ := h (by omega)
  obtain ⟨b, h4, h5⟩ := h3 k hk
  exact ⟨ad, b, h1, h2, h4, h5⟩

theorem arg_bytes {H : Type} {enc : TypeId × Value → H} {P : Program} {W : World} {t e : TypeId} {v : Value} {d : DataW H} {p : List MemPlace} {r : Reach} {b0 : Nat}
    (ht : P.underlying t = some (.slice e)) (he : P.underlying e = some (.int .u8)) (hc : P.cellsOf e = 1)
    (hv : Value.okWide P W r b0 t v) (h : DataW.Trod enc P W 0 (fun _ => true) true t v d p) :
    ∃ (a : Option Addr) (len cap : Nat), v = .slice a len cap ∧ BytesAt W a len ∧ len ≤ maxLen := by
  obtain ⟨a0, len0, cap0, rfl⟩ := okWide_slice ht hv
  obtain ⟨fuel, hf⟩ := h
  rcases open_ints ht he hc hf with ⟨hcs, _⟩ | ⟨x, l, c, zs, hcs, _, hl, hm, hz, _, hcell, hwz⟩
  · simp [Value.cells] at hcs
    obtain ⟨rfl, rfl, rfl⟩ := hcs
    exact ⟨_, _, _, rfl, fun h => absurd h (by omega), Nat.zero_le _⟩
  · simp [Value.cells] at hcs
    obtain ⟨rfl, rfl, rfl⟩ := hcs
    simp at hz
    refine ⟨_, _, _, rfl, fun hn => ⟨x, rfl, ?_, fun j hj => ?_⟩, by omega⟩
    · have := block_of_cell (hcell 0 (by omega))
      rwa [block_add] at this
    · have h1 := hcell j (by omega)
      have h2 := hwz (zs.getD j 0) (by
        have h3 : j < zs.length := by omega
        rw [List.getD, List.getElem?_eq_getElem h3]; exact List.getElem_mem h3)
      simp [Lit.wf, IntKind.min, IntKind.max, IntKind.signed, IntKind.bits] at h2
      refine ⟨(zs.getD j 0).toNat, ?_, ?_⟩
      · simp [List.getD]; omega
      · rw [h1]; congr 2; simp [List.getD]; omega

/-- A source lies in its box: the bytes, where it stands, and its seed. -/
def SrcAt (w : World) (g : Nat) (A : Option Addr) (n c k : Nat) (s : Int) : Prop := Blk w g 77 #[.slice A n c, .int .i64 (k : Int), .int .u64 s]

theorem low8 (x : Int) : ∃ r : Nat, r ≤ 255 ∧ wrap64 (bits .and .u64 (x / 1099511627776) 255) = (r : Int) := by
  have key : bits .and .u64 (x / 1099511627776) 255 = (((BitVec.ofInt 64 (x / 1099511627776) &&& BitVec.ofInt 64 255).toNat : Nat) : Int) := by
    show IntKind.u64.wrap ((BitVec.ofInt 64 (x / 1099511627776) &&& BitVec.ofInt 64 255).toNat : Int) = _
    have := (BitVec.ofInt 64 (x / 1099511627776) &&& BitVec.ofInt 64 255).isLt
    rw [IntKind.wrap_u64]
    omega
  have hle : (BitVec.ofInt 64 (x / 1099511627776) &&& BitVec.ofInt 64 255).toNat ≤ 255 := by
    rw [BitVec.toNat_and]
    exact Nat.and_le_right
  rw [key]
  generalize (BitVec.ofInt 64 (x / 1099511627776) &&& BitVec.ofInt 64 255).toNat = r at *
  exact ⟨r, hle, by unfold wrap64; omega⟩

set_option maxRecDepth 100000 in
set_option maxHeartbeats 1600000 in
theorem next_any (A : Option Addr) (n c g k : Nat) (s : Int) (w : World) (h : BytesAt w A n) (hl : n ≤ maxLen) (hs : SrcAt w g A n c k s) (hk : k < 4611686018427387904) :
    Calls Tryd.prog 53 #[.pointer (some ⟨g, 0, none⟩)] w fun e w' => ∃ (r : Nat) (s' : Int), e = .returned (.int .i64 (r : Int)) ∧ r ≤ 255 ∧ SrcAt w' g A n c (k + 1) s' ∧ Upd (blk (some ⟨g, 0, none⟩)) w w' := by
  unfold maxLen at hl
  unfold SrcAt at hs ⊢
  have q0 := hs.cell 0
  have q1 := hs.cell 1
  have q2 := hs.cell 2
  have f1 := hs.free 1
  have f2 := hs.free 2
  go_enter Tryd.func53, Tryd.ntmps53
  have hu0 := Upd.refl (blk (some ⟨g, 0, none⟩)) w
  by_cases hlt : k < n
  · obtain ⟨ad, b, rfl, hlt2, hb, hcb⟩ := h.at_ hlt
    have d1 : decide ((k : Int) < (n : Int)) = true := by rw [decide_eq_true_iff]; omega
    have d2 : decide ((k : Int) + 1 ≤ (n : Int)) = true := by rw [decide_eq_true_iff]; omega
    go_wp2_with fail
    go_quiet (fail)
    have hs3 := hs.drewN nq
    have hu3 := hu0.drewN nq
    replace hcb : (w.drewN nq).cell? (ad.add k) = some (.int .u8 b) := hcb
    clear q0 q1 q2 f1 f2 hs
    have q0 := hs3.cell 0
    have q1 := hs3.cell 1
    have q2 := hs3.cell 2
    generalize w.drewN nq = w3 at *
    go_wp2_with fail
    go_quiet (fail)
    have hs1 := hs3.drewN nq
    have hu1 := hu3.drewN nq
    have p0 := hs1.cell 0
    have p1 := hs1.cell 1
    have p2 := hs1.cell 2
    have e1 := hs1.free 1
    have e2 := hs1.free 2
    generalize w3.drewN nq = w1 at *
    clear q0 q1 q2 hs3
    go_wp2_with fail
    generalize IntKind.u64.wrap (IntKind.u64.wrap (IntKind.u64.wrap (s * 6364136223846793005) + (b : Int)) + 1442695040888963407) = sd at *
    have hB2 := (hs1.set 1 (.int .i64 ((k : Int) + 1))).set 2 (.int .u64 sd)
    have hU2 := (hu1.setCell (p := ⟨g, 1, none⟩) (.inl ⟨_, rfl, rfl⟩) (.int .i64 ((k : Int) + 1))).setCell (p := ⟨g, 2, none⟩) (.inl ⟨_, rfl, rfl⟩) (.int .u64 sd)
    generalize (w1.setCell ⟨g, 1, none⟩ (.int .i64 ((k : Int) + 1))).setCell ⟨g, 2, none⟩ (.int .u64 sd) = W2 at *
    have r0 := hB2.cell 0
    have r1 := hB2.cell 1
    have r2 := hB2.cell 2
    go_quiet (fail)
    go_wp2_with fail
    go_ret
    exact ⟨b, sd, rfl, hb, hB2.drewN _, hU2.drewN _⟩
  · have d1 : decide ((k : Int) < (n : Int)) = false := by rw [decide_eq_false_iff_not]; omega
    have d2 : decide ((k : Int) + 1 ≤ (n : Int)) = false := by rw [decide_eq_false_iff_not]; omega
    go_wp2_with fail
    go_quiet (fail)
    have hs1 := hs.drewN nq
    have hu1 := hu0.drewN nq
    have p0 := hs1.cell 0
    have p1 := hs1.cell 1
    have p2 := hs1.cell 2
    have e1 := hs1.free 1
    have e2 := hs1.free 2
    generalize w.drewN nq = w1 at *
    clear q0 q1 q2 f1 f2 hs
    go_wp2_with fail
    generalize IntKind.u64.wrap (IntKind.u64.wrap (IntKind.u64.wrap (s * 6364136223846793005)) + 1442695040888963407) = sd at *
    have hB2 := (hs1.set 1 (.int .i64 ((k : Int) + 1))).set 2 (.int .u64 sd)
    have hU2 := (hu1.setCell (p := ⟨g, 1, none⟩) (.inl ⟨_, rfl, rfl⟩) (.int .i64 ((k : Int) + 1))).setCell (p := ⟨g, 2, none⟩) (.inl ⟨_, rfl, rfl⟩) (.int .u64 sd)
    generalize (w1.setCell ⟨g, 1, none⟩ (.int .i64 ((k : Int) + 1))).setCell ⟨g, 2, none⟩ (.int .u64 sd) = W2 at *
    have r0 := hB2.cell 0
    have r1 := hB2.cell 1
    have r2 := hB2.cell 2
    go_quiet (fail)
    go_wp2_with fail
    go_ret
    obtain ⟨r, hr1, hr2⟩ := low8 sd
    exact ⟨r, sd, ret_int hr2, hr1, hB2.drewN _, hU2.drewN _⟩

def BytesFar (A : Option Addr) (n g : Nat) : Prop := 0 < n → ∀ ad, A = some ad → ad.block ≠ g
theorem BytesFar.no {A : Option Addr} {n g : Nat} (h : BytesFar A n g) : 0 < n → ∀ ad, A = some ad → ¬ blk (some ⟨g, 0, none⟩) ad.block := fun h0 ad h1 ⟨z, h2, h3⟩ => by
  injection h2 with h2; subst h2; exact h h0 ad h1 h3.symm

/-- what a draw leaves: a number, and the source further on -/
def DrawP (A : Option Addr) (n c g k : Nat) (m : Int) (w : World) (e : Ending) (w' : World) : Prop :=
  ∃ (r : Nat) (k' : Nat) (s' : Int), e = .returned (.int .i64 (r : Int)) ∧ (r : Int) < max 1 m ∧ k' ≤ k + 2 ∧ SrcAt w' g A n c k' s' ∧ Upd (blk (some ⟨g, 0, none⟩)) w w'
theorem drawP {A : Option Addr} {n c g k k' : Nat} {s' m x : Int} {w w' : World} (h1 : 1 < m) (hx : 0 ≤ x) (hk : k' ≤ k + 2) (hs : SrcAt w' g A n c k' s') (hu : Upd (blk (some ⟨g, 0, none⟩)) w w') : DrawP A n c g k m w (.returned (.int .i64 (x % m))) w' := by
  have h2 := Int.emod_nonneg x (show m ≠ 0 by omega)
  have h3 := Int.emod_lt_of_pos x (show 0 < m by omega)
  exact ⟨(x % m).toNat, k', s', ret_int (by omega), by omega, hk, hs, hu⟩
set_option maxRecDepth 100000 in
set_option maxHeartbeats 1600000 in
theorem pick_any (A : Option Addr) (n c g k : Nat) (s m : Int) (w : World) (h : BytesAt w A n) (hl : n ≤ maxLen) (hs : SrcAt w g A n c k s) (hA : BytesFar A n g) (hk : k < 4611686018427387900) (hm : m ≤ 1000000) :
    Calls Tryd.prog 28 #[.pointer (some ⟨g, 0, none⟩), .int .i64 m] w (DrawP A n c g k m w) := by
  have hu0 := Upd.refl (blk (some ⟨g, 0, none⟩)) w
  by_cases h1 : m ≤ 1
  · go_enter Tryd.func28, Tryd.ntmps28
    go_wp2_with fail
    go_ret
    exact ⟨0, k, s, rfl, by omega, by omega, hs, hu0⟩
  · by_cases h2 : m ≤ 200
    · go_enter Tryd.func28, Tryd.ntmps28
      go_wp2_with (go_at_call 53; refine (next_any A n c g k s _ h hl hs (by omega)).mono ?_; rintro e w1 ⟨r, s1, rfl, hr, hs1, hu1⟩)
      go_ret
      exact drawP (k' := k + 1) (s' := s1) (x := (r : Int)) (by omega) (by omega) (by omega) hs1 hu1
    · go_enter Tryd.func28, Tryd.ntmps28
      go_wp2_with fail
      refine (next_any A n c g k s _ h hl hs (by omega)).mono ?_
      rintro e w1 ⟨r, s1, rfl, hr, hs1, hu1⟩
      replace h := h.upd hu1 hA.no
      go_wp2_with fail
      refine (next_any A n c g (k + 1) s1 _ h hl hs1 (by omega)).mono ?_
      rintro e w2 ⟨r2, s2, rfl, hr2, hs2, hu2⟩
      go_wp2_with fail
      go_ret
      exact drawP (k' := k + 1 + 1) (s' := s2) (x := (r : Int) * 256 + (r2 : Int)) (by omega) (by omega) (by omega) hs2 (hu1.trans hu2)

theorem from_any (A : Option Addr) (n c : Nat) (w : World) (h : BytesAt w A n) :
    Calls Tryd.prog 27 #[.slice A n c] w fun e w' => e = .returned (.pointer (some ⟨w.heap.size, 0, none⟩)) ∧ SrcAt w' w.heap.size A n c 0 0 ∧ BytesFar A n w.heap.size ∧ Below w.heap.size w w' ∧ w'.heap.size = w.heap.size + 1 := by
  go_enter Tryd.func27, Tryd.ntmps27
  go_wp2
  go_ret
  exact ⟨rfl, Blk.new _ _ _, fun h0 ad h1 => by obtain ⟨ad', e1, e2, _⟩ := h h0; rw [e1] at h1; injection h1 with h1; subst h1; omega, (Below.refl _ _).alloc (Nat.le_refl _) _, by simp⟩
end Go.Proofs.YtnjipckpkcandaaDoor
