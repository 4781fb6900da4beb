/- Numbers that are drawn: yes once in n times, one of a list, floats and complex numbers. -/
import Derived.Test.YtnjipckpkcandaaDoorWhoB
import Derived.Test.YtnjipckpkcandaaDoorAsk
import Derived.Test.YtnjipckpkcandaaDoorCirT
namespace Go.Proofs.YtnjipckpkcandaaDoor
open Go.RowKit
namespace Who
open Ieee
def of32 (n : Int) : Nat := single.nearest (decide (n < 0)) n.natAbs 0
def mulS : List Nat := [8388608, 2130706432, 1610612736, 536870912]
def someB (a : Option Nat) : Bool := match a with | some _ => true | none => false
def mulC4 (r : Nat) : Bool := Fst.force r fun r => someB (Fst.mulF single Fst.c32 r 8388608) && someB (Fst.mulF single Fst.c32 r 2130706432) && someB (Fst.mulF single Fst.c32 r 1610612736) && someB (Fst.mulF single Fst.c32 r 536870912)
def plainC (i : Nat) : Bool := Fst.force i fun i => Fst.force (of32 ((i : Int) - 64)) fun x => match Fst.divF single Fst.c32 x 1088421888 with | some r => (match Fst.divF single Fst.c32 x 1098907648 with | some s => mulC4 r && mulC4 s | none => false) | none => false
theorem plain_ok : Cir.allB plainC 7 0 && plainC 128 = true := by decide +kernel
def Mul4 (r : Nat) : Prop := ∀ m ∈ mulS, ∃ z, floatBits .mul .f32 r m = some z
theorem someB_iff {a : Option Nat} (h : someB a = true) : ∃ r, a = some r := by
  cases a with
  | none => cases h
  | some r => exact ⟨r, rfl⟩
theorem mul4_of {r : Nat} (h : mulC4 r = true) : Mul4 r := by
  unfold mulC4 at h
  rw [Fst.force_eq, Bool.and_eq_true, Bool.and_eq_true, Bool.and_eq_true] at h
  obtain ⟨⟨⟨h1, h2⟩, h3⟩, h4⟩ := h
  intro m hm
  rw [fb_mul32]
  simp only [mulS, List.mem_cons, List.not_mem_nil, or_false] at hm
  rcases hm with rfl | rfl | rfl | rfl
  · exact someB_iff h1
  · exact someB_iff h2
  · exact someB_iff h3
  · exact someB_iff h4
theorem plain_at {i : Nat} (h : i < 129) : ∃ r s, floatBits .quo .f32 (of32 ((i : Int) - 64)) 1088421888 = some r ∧ floatBits .quo .f32 (of32 ((i : Int) - 64)) 1098907648 = some s ∧ Mul4 r ∧ Mul4 s := by
  have h0 := plain_ok
  rw [Bool.and_eq_true] at h0
  have hp : plainC i = true := by
    by_cases e : i < 128
    · exact Cir.allB_at 7 0 i h0.1 (Nat.zero_le _) (by omega)
    · rw [show i = 128 by omega]; exact h0.2
  unfold plainC at hp
  rw [Fst.force_eq, Fst.force_eq] at hp
  rw [fb_quo32, fb_quo32]
  cases h1 : Fst.divF single Fst.c32 (of32 ((i : Int) - 64)) 1088421888 with
  | none => rw [h1] at hp; cases hp
  | some r =>
    rw [h1] at hp
    cases h2 : Fst.divF single Fst.c32 (of32 ((i : Int) - 64)) 1098907648 with
    | none => rw [h2] at hp; cases hp
    | some s =>
      rw [h2] at hp
      have hp : (mulC4 r && mulC4 s) = true := hp
      rw [Bool.and_eq_true] at hp
      exact ⟨r, s, rfl, rfl, mul4_of hp.1, mul4_of hp.2⟩
theorem quo_lt {x y r : Nat} (h : floatBits .quo .f32 x y = some r) : r < 4294967296 := FloatKind.f32.format.div_lt h
theorem mul_lt {x y r : Nat} (h : floatBits .mul .f32 x y = some r) : r < 4294967296 := FloatKind.f32.format.mul_lt h
end Who
theorem run_toF32 (n : Int) (w : World) : (convert 2 28 (.int .i64 n)).run Tryd.prog w = .ok (.float .f32 (Who.of32 n)) w := by
  simp [convert, run_underlying Tryd.underlying2, run_underlying Tryd.underlying28, Conv.intToFloat]
  rfl
theorem IntsAt.litL (w : World) (T : Nat) (zs : List Int) : IntsAt (w.alloc (.cells (zs.map (Value.int .i64)).toArray T)) (some ⟨w.heap.size, 0, none⟩) zs.length zs := by
  refine ⟨rfl, fun _ => ⟨_, rfl, by simp, fun j hj => ?_⟩⟩
  have := (Blk.new w T (zs.map (Value.int .i64)).toArray).cell j
  rw [show (⟨w.heap.size, 0, none⟩ : Addr).add j = ⟨w.heap.size, j, none⟩ by unfold Addr.add; by_cases h0 : j = 0 <;> simp [h0], this]
  simp [List.getD, hj]
/-- what a draw leaves -/
def DrawV (P : Value → Prop) (A : Option Addr) (n c g k K : Nat) (w : World) (e : Ending) (w' : World) : Prop :=
  ∃ (v : Value) (k' : Nat) (s' : Int), e = .returned v ∧ P v ∧ k' ≤ k + K ∧ SrcAt w' g A n c k' s' ∧ Upd (blk (some ⟨g, 0, none⟩)) w w'
def isB (v : Value) : Prop := ∃ b, v = .bool b
def isF (v : Value) : Prop := ∃ b, v = .float .f32 b ∧ b < 4294967296
def isFM (v : Value) : Prop := ∃ b, v = .float .f32 b ∧ b < 4294967296 ∧ Who.Mul4 b
def isC (v : Value) : Prop := ∃ a b, v = .complex .f32 a b ∧ a < 4294967296 ∧ b < 4294967296
theorem one_any (A : Option Addr) (n c g k : Nat) (s m : Int) (w : World) (h : BytesAt w A n) (hl : n ≤ maxLen) (hs : SrcAt w g A n c k s) (hA : BytesFar A n g) (hk : k < 4000000000000000000) (hm : m ≤ 1000000) :
    Calls Tryd.prog 41 #[.pointer (some ⟨g, 0, none⟩), .int .i64 m] w (DrawV isB A n c g k 2 w) := by
  go_enter Tryd.func41, Tryd.ntmps41
  go_wp2_with fail
  refine (pick_any A n c g k s m _ h hl hs hA (by omega) hm).mono ?_
  rintro e w1 ⟨r, k1, s1, rfl, hr, hk1, hs1, hu1⟩
  go_wp2_with fail
  go_ret
  exact ⟨_, k1, s1, rfl, ⟨_, rfl⟩, hk1, hs1, hu1⟩
theorem among_any (A : Option Addr) (n c g k : Nat) (s : Int) (L : Option Addr) (m d : Nat) (zs : List Int) (w : World) (h : BytesAt w A n) (hl : n ≤ maxLen) (hs : SrcAt w g A n c k s) (hA : BytesFar A n g) (hk : k < 4000000000000000000) (hz : IntsAt w L m zs) (hL : ∀ ad, L = some ad → ad.block ≠ g) (hm0 : 0 < m) (hm : m ≤ 1000) :
    Calls Tryd.prog 62 #[.pointer (some ⟨g, 0, none⟩), .slice L m d] w (DrawV (fun v => ∃ j, j < m ∧ v = .int .i64 (zs.getD j 0)) A n c g k 2 w) := by
  have HZ := Lib.hid hz
  go_enter Tryd.func62, Tryd.ntmps62
  go_wp2_with fail
  refine (pick_any A n c g k s (m : Int) _ h hl hs hA (by omega) (by omega)).mono ?_
  rintro e w1 ⟨r, k1, s1, rfl, hr, hk1, hs1, hu1⟩
  have hr2 : r < m := by omega
  have hz1 : IntsAt w1 L m zs := hz.upd hu1 (fun ad h1 => blk_not (hL ad h1))
  obtain ⟨ad, rfl, hb, hcell⟩ := hz1.at_ hr2
  go_wp2_with fail
  go_ret
  exact ⟨_, k1, s1, rfl, ⟨r, hr2, rfl⟩, hk1, hs1, hu1⟩
theorem from32_any (x : Nat) (hx : x < 4294967296) (w : World) : Calls Tryd.prog 42 #[.int .i64 (x : Int)] w fun e w' => e = .returned (.float .f32 x) ∧ w = w' := by
  have h1 := fun (b : Int) (w : World) => run_f32frombitsC b w
  go_enter Tryd.func42, Tryd.ntmps42
  go_wp2_with fail
  go_ret
  exact ⟨by simp, rfl⟩
set_option maxRecDepth 100000 in
theorem drawPlain_any (A : Option Addr) (n c g k : Nat) (s : Int) (w : World) (h : BytesAt w A n) (hl : n ≤ maxLen) (hs : SrcAt w g A n c k s) (hA : BytesFar A n g) (hk : k < 3900000000000000000) :
    Calls Tryd.prog 61 #[.pointer (some ⟨g, 0, none⟩)] w (DrawV isFM A n c g k 4 w) := by
  have cF := fun (n : Int) (W : World) => run_toF32 n W
  go_enter Tryd.func61, Tryd.ntmps61
  go_wp2_with fail
  refine (pick_any A n c g k s 129 _ h hl hs hA (by omega) (by omega)).mono ?_
  rintro e w1 ⟨r, k1, s1, rfl, hr, hk1, hs1, hu1⟩
  have h1 := h.upd hu1 hA.no
  have hr2 : r < 129 := by omega
  go_wp2_with fail
  refine (one_any A n c g k1 s1 4 _ h1 hl hs1 hA (by omega) (by omega)).mono ?_
  rintro e w2 ⟨v, k2, s2, rfl, ⟨b, rfl⟩, hk2, hs2, hu2⟩
  obtain ⟨x, y, hx, hy, m1, m2⟩ := Who.plain_at hr2
  have r1 := fun W => run_fsome0 (P := Tryd.prog) .quo 28 _ _ _ hx W
  have r2 := fun W => run_fsome0 (P := Tryd.prog) .quo 28 _ _ _ hy W
  have hx2 := Who.quo_lt hx
  have hy2 := Who.quo_lt hy
  have hu := hu1.then hu2 fun _ _ h => h
  have M1 := Lib.hid m1
  have M2 := Lib.hid m2
  clear hx hy m1 m2 hu1 hu2 hs1
  cases b
  · go_wp2_with fail
    go_ret
    exact ⟨_, k2, s2, rfl, ⟨_, rfl, hy2, M2.out⟩, by omega, hs2, hu⟩
  · go_wp2_with fail
    go_ret
    exact ⟨_, k2, s2, rfl, ⟨_, rfl, hx2, M1.out⟩, by omega, hs2, hu⟩
theorem drawV_mono {P : Value → Prop} {A : Option Addr} {n c g k k1 K L : Nat} {w w1 w' : World} {e : Ending} (hu : Upd (blk (some ⟨g, 0, none⟩)) w w1) (hk : k1 + L ≤ k + K) (h : DrawV P A n c g k1 L w1 e w') : DrawV P A n c g k K w e w' := by
  obtain ⟨v, k2, s2, h1, h2, h3, h4, h5⟩ := h
  exact ⟨v, k2, s2, h1, h2, by omega, h4, hu.then h5 fun _ _ h => h⟩
def amongS : List Int := [0, 2147483648, 2139095040, 4286578688, 2143289344, 1, 2139095039, 8388608, 8388607, 2147483649]
def amongM : List Int := [8388608, 2130706432, 1610612736, 536870912]
theorem amongS_at (j : Nat) (h : j < 10) : ∃ x : Nat, amongS.getD j 0 = (x : Int) ∧ x < 4294967296 := by
  have : ∀ j, j < 10 → 0 ≤ amongS.getD j 0 ∧ amongS.getD j 0 < 4294967296 := by decide
  obtain ⟨h1, h2⟩ := this j h
  exact ⟨(amongS.getD j 0).toNat, by omega, by omega⟩
theorem amongM_at (j : Nat) (h : j < 4) : ∃ x : Nat, amongM.getD j 0 = (x : Int) ∧ x < 4294967296 ∧ x ∈ Who.mulS := by
  have : ∀ j, j < 4 → 0 ≤ amongM.getD j 0 ∧ amongM.getD j 0 < 4294967296 ∧ (amongM.getD j 0).toNat ∈ Who.mulS := by decide
  obtain ⟨h1, h2, h3⟩ := this j h
  exact ⟨(amongM.getD j 0).toNat, by omega, by omega, h3⟩
theorem BytesAt.alloc {w : World} {A : Option Addr} {n : Nat} (h : BytesAt w A n) (o : Obj) : BytesAt (w.alloc o) A n := h.below ((Below.refl _ _).alloc (Nat.le_refl _) o)
set_option maxRecDepth 100000 in
set_option maxHeartbeats 1600000 in
theorem drawFloat_any (A : Option Addr) (n c g k : Nat) (s : Int) (w : World) (h : BytesAt w A n) (hl : n ≤ maxLen) (hs : SrcAt w g A n c k s) (hA : BytesFar A n g) (hk : k < 3800000000000000000) :
    Calls Tryd.prog 43 #[.pointer (some ⟨g, 0, none⟩)] w (DrawV isF A n c g k 12 w) := by
  go_enter Tryd.func43, Tryd.ntmps43
  go_wp2_with fail
  refine (one_any A n c g k s 12 _ h hl hs hA (by omega) (by omega)).mono ?_
  rintro e w1 ⟨v, k1, s1, rfl, ⟨b, rfl⟩, hk1, hs1, hu1⟩
  replace h := h.upd hu1 hA.no
  clear hs
  cases b
  · go_wp2_with fail
    refine (drawPlain_any A n c g k1 s1 _ h hl hs1 hA (by omega)).mono ?_
    rintro e w2 ⟨v, k2, s2, rfl, ⟨x, rfl, hx, _⟩, hk2, hs2, hu2⟩
    have hu := hu1.then hu2 fun _ _ h => h
    go_wp2_with fail
    go_ret
    exact ⟨_, k2, s2, rfl, ⟨_, rfl, hx⟩, by omega, hs2, hu⟩
  · go_wp2_with fail
    refine (pick_any A n c g k1 s1 4 _ h hl hs1 hA (by omega) (by omega)).mono ?_
    rintro e w2 ⟨r, k2, s2, rfl, hr, hk2, hs2, hu2⟩
    have hu := hu1.then hu2 fun _ _ h => h
    replace h := h.upd hu2 hA.no
    clear hs1 hu1 hu2
    have hr4 : r = 0 ∨ r = 1 ∨ r = 2 ∨ r = 3 := by omega
    have hg := Blk.lt hs2
    rcases hr4 with rfl | rfl | rfl | rfl
    · have hL := IntsAt.litL w2 2 amongS
      replace hL : IntsAt _ (some ⟨w2.heap.size, 0, none⟩) 10 amongS := hL
      have hss : SrcAt (w2.alloc (.cells (amongS.map (Value.int .i64)).toArray 2)) g A n c k2 s2 := Blk.alloc hs2 _
      go_wp2_with fail
      refine (among_any A n c g k2 s2 _ 10 10 amongS _ (h.alloc _) hl hss hA (by omega) hL (fun ad e => by injection e with e; subst e; exact Nat.ne_of_gt hg) (by omega) (by omega)).mono ?_
      rintro e w3 ⟨v, k3, s3, rfl, ⟨j, hj, rfl⟩, hk3, hs3, hu3⟩
      obtain ⟨x, hx1, hx2⟩ := amongS_at j hj
      have hu4 := (hu.alloc (.cells (amongS.map (Value.int .i64)).toArray 2)).then hu3 fun _ _ h => h
      rw [hx1]
      go_wp2_with fail
      refine (from32_any x hx2 _).mono ?_
      rintro e w4 ⟨rfl, rfl⟩
      go_wp2_with fail
      go_ret
      exact ⟨_, k3, s3, rfl, ⟨_, rfl, hx2⟩, by omega, hs3, hu4⟩
    · go_wp2_with fail
      refine (pick_any A n c g k2 s2 65536 _ h hl hs2 hA (by omega) (by omega)).mono ?_
      rintro e w3 ⟨x, k3, s3, rfl, hx, hk3, hs3, hu3⟩
      have hu4 := hu.then hu3 fun _ _ h => h
      replace h := h.upd hu3 hA.no
      have hx2 : x < 65536 := by omega
      go_wp2_with fail
      refine (pick_any A n c g k3 s3 65536 _ h hl hs3 hA (by omega) (by omega)).mono ?_
      rintro e w4 ⟨y, k4, s4, rfl, hy, hk4, hs4, hu5⟩
      have hu6 := hu4.then hu5 fun _ _ h => h
      have hy2 : y < 65536 := by omega
      have HE := Lib.hid (show (x : Int) * 65536 + (y : Int) = ((x * 65536 + y : Nat) : Int) by omega)
      go_wp2_with fail
      rw [HE.out]
      refine (from32_any (x * 65536 + y) (by omega) _).mono ?_
      rintro e w5 ⟨rfl, rfl⟩
      go_wp2_with fail
      go_ret
      exact ⟨_, k4, s4, rfl, ⟨_, rfl, by omega⟩, by omega, hs4, hu6⟩
    · go_wp2_with fail
      refine (pick_any A n c g k2 s2 65536 _ h hl hs2 hA (by omega) (by omega)).mono ?_
      rintro e w3 ⟨x, k3, s3, rfl, hx, hk3, hs3, hu3⟩
      have hu4 := hu.then hu3 fun _ _ h => h
      have hx2 : x < 65536 := by omega
      have HE := Lib.hid (show (x : Int) * 65536 = ((x * 65536 : Nat) : Int) by omega)
      go_wp2_with fail
      rw [HE.out]
      refine (from32_any (x * 65536) (by omega) _).mono ?_
      rintro e w5 ⟨rfl, rfl⟩
      go_wp2_with fail
      go_ret
      exact ⟨_, k3, s3, rfl, ⟨_, rfl, by omega⟩, by omega, hs3, hu4⟩
    · go_wp2_with fail
      refine (drawPlain_any A n c g k2 s2 _ h hl hs2 hA (by omega)).mono ?_
      rintro e w3 ⟨v, k3, s3, rfl, ⟨f, rfl, hf, hM⟩, hk3, hs3, hu3⟩
      have HM := Lib.hid hM
      have hu4 := hu.then hu3 fun _ _ h => h
      replace h := h.upd hu3 hA.no
      have hg3 := Blk.lt hs3
      have hL := IntsAt.litL w3 2 amongM
      replace hL : IntsAt _ (some ⟨w3.heap.size, 0, none⟩) 4 amongM := hL
      have hss : SrcAt (w3.alloc (.cells (amongM.map (Value.int .i64)).toArray 2)) g A n c k3 s3 := Blk.alloc hs3 _
      clear hM
      go_wp2_with fail
      refine (among_any A n c g k3 s3 _ 4 4 amongM _ (h.alloc _) hl hss hA (by omega) hL (fun ad e => by injection e with e; subst e; exact Nat.ne_of_gt hg3) (by omega) (by omega)).mono ?_
      rintro e w4 ⟨v, k4, s4, rfl, ⟨j, hj, rfl⟩, hk4, hs4, hu5⟩
      obtain ⟨x, hx1, hx2, hx3⟩ := amongM_at j hj
      obtain ⟨z, hz⟩ := HM.out x hx3
      have hz2 := Who.mul_lt hz
      have r1 := fun W => run_fsome0 (P := Tryd.prog) .mul 28 _ _ _ hz W
      clear hz hx3
      have hu6 := (hu4.alloc (.cells (amongM.map (Value.int .i64)).toArray 2)).then hu5 fun _ _ h => h
      rw [hx1]
      go_wp2_with fail
      refine (from32_any x hx2 _).mono ?_
      rintro e w5 ⟨rfl, rfl⟩
      go_wp2_with fail
      go_ret
      exact ⟨_, k4, s4, rfl, ⟨_, rfl, hz2⟩, by omega, hs4, hu6⟩
end Go.Proofs.YtnjipckpkcandaaDoor
