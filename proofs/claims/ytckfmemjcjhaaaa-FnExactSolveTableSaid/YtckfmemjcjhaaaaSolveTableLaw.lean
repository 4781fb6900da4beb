/- The walk of the law FnExactSolveTable (written by rowgen2.py). -/
import Derived.Test.YtckfmemjcjhaaaaSolRI
import Derived.Test.YtckfmemjcjhaaaaSolRS
import Derived.Test.YtckfmemjcjhaaaaTblLaw0
namespace Go.Proofs.Ytckfmemjcjhaaaa
open Go.RowKit

theorem sepD_SolveTable {T T' base size size' n c m d : Nat} {w w' : World} {A B : Option Addr} {vs us : List Value} (h1 : OwnC T base size w A n c vs) (h2 : OwnC T' w.heap.size size' w' B m d us) : Sep A B := by
  intro a b ha hb
  have := (OwnC.lt h1 ha).2
  have := (OwnC.lt h2 hb).1
  omega
theorem ccF_SolveTable {T base n c : Nat} {w : World} {A : Option Addr} {zs : List Nat} (h : OwnF T base w A n c zs) : OwnC T base 1 w A n c (zs.map (Value.float .f32)) := h
theorem ccI_SolveTable {T base n c : Nat} {w : World} {A : Option Addr} {zs : List Int} (h : OwnI T base w A n c zs) : OwnC T base 1 w A n c (zs.map (Value.int .i64)) := h
theorem cap2F_SolveTable {T base n c : Nat} {w : World} {A : Option Addr} {zs : List Nat} (h : OwnF T base w A n c zs) : n ≤ c ∧ c ≤ maxLen := by
  rcases h.form with ⟨_, h1, h2, _⟩ | ⟨_, _, _, _, h1, h2⟩
  · subst h1 h2; exact ⟨Nat.le_refl _, Nat.zero_le _⟩
  · exact ⟨h1, h2⟩
theorem cap2I_SolveTable {T base n c : Nat} {w : World} {A : Option Addr} {zs : List Int} (h : OwnI T base w A n c zs) : n ≤ c ∧ c ≤ maxLen := by
  rcases h.form with ⟨_, h1, h2, _⟩ | ⟨_, _, _, _, h1, h2⟩
  · subst h1 h2; exact ⟨Nat.le_refl _, Nat.zero_le _⟩
  · exact ⟨h1, h2⟩
set_option maxRecDepth 100000 in
set_option maxHeartbeats 1000000 in
theorem walk_SolveTable (v : Int) (A : Option Addr) (n c : Nat) (ns : List Nat) (B : Option Addr) (m d : Nat) (bs : List Int) (a1 : Int) (a2 : Nat) (w : World) (hN : FltsAt w A n ns) (hB : IntsAt w B m bs) (hn : n ≤ maxLen) (hm : m ≤ maxLen) (_wf1 : (Lit.int .i64 a1).wf = true) :
    Calls Try.prog 4 #[.agg #[.int .i64 v, .slice A n c, .slice B m d], .int .i64 a1, .float .f32 a2] w fun e w' => e = .returned (.bool true) ∧ Below w.heap.size w w' := by
  have HMN := Lib.hid hn
  have HMB := Lib.hid hm
  have bb := (Below.refl w.heap.size w).alloc (Nat.le_refl _) (.cells #[.int .i64 v, .slice A n c, .slice B m d] 25)
  have KA := Lib.hid (Blk.new w 25 #[.int .i64 v, .slice A n c, .slice B m d])
  have gN := hN.alloc (.cells #[.int .i64 v, .slice A n c, .slice B m d] 25)
  have gB := hB.alloc (.cells #[.int .i64 v, .slice A n c, .slice B m d] 25)
  obtain ⟨r0v, hr0v⟩ : ∃ x, x = sV v (solR v ns bs a1 a2) := ⟨_, rfl⟩
  have Hr0v := Lib.hid hr0v
  obtain ⟨r0n, hr0n⟩ : ∃ x, x = sN (solR v ns bs a1 a2) := ⟨_, rfl⟩
  have Hr0n := Lib.hid hr0n
  obtain ⟨r0q, hr0q⟩ : ∃ x, x = sQ (solR v ns bs a1 a2) := ⟨_, rfl⟩
  have Hr0q := Lib.hid hr0q
  have hl0 := (sv_len v ns bs a1 a2).1
  rw [← hr0n] at hl0
  have hl1 := (sv_len v ns bs a1 a2).2
  rw [← hr0q] at hl1
  obtain ⟨nr0n, hnr0n⟩ : ∃ x, x = r0n.length := ⟨_, rfl⟩
  rw [← hnr0n] at hl0
  have HNr0n := Lib.hid hnr0n
  clear hnr0n hr0n
  obtain ⟨nr0q, hnr0q⟩ : ∃ x, x = r0q.length := ⟨_, rfl⟩
  rw [← hnr0q] at hl1
  have HNr0q := Lib.hid hnr0q
  clear hnr0q hr0q
  clear hr0v
  obtain ⟨r1x, hr1x⟩ : ∃ x, x = sC (solR v ns bs a1 a2) := ⟨_, rfl⟩
  have Hr1x := Lib.hid hr1x
  clear hr1x
  have hq1 : (r1x != r1x) = false := by simp
  obtain ⟨r2x, hr2x⟩ : ∃ x, x = (solR v ns bs a1 a2).isSome := ⟨_, rfl⟩
  have Hr2x := Lib.hid hr2x
  clear hr2x
  have hq2 : (r2x != r2x) = false := by simp
  by_cases hbig : n + m ≤ 1048576
  · have big1 : n ≤ 1048576 := by omega
    have big2 : m ≤ 1048576 := by omega
    have hpos : ¬ ((1048576 : Int) - n - m < 0) := by omega
    go_enter Try.func4, Try.ntmps4
    have pA0 := (KA.out.cell 0).trans (show _ = some (Value.int .i64 v) from rfl)
    have pA1 := (KA.out.cell 1).trans (show _ = some (Value.slice A n c) from rfl)
    have pA2 := (KA.out.cell 2).trans (show _ = some (Value.slice B m d) from rfl)
    go_wp2_with fail
    generalize (w.alloc (.cells #[.int .i64 v, .slice A n c, .slice B m d] 25)).alloc (.cells #[.int .i64 v, .slice A n c, .slice B m d] 25) = w1 at *
    refine (szTable_yes v A n c B m d 1048576 _ (by omega) (by omega)).mono ?_
    rintro e w2 ⟨rfl, b⟩
    clear pA0 pA1 pA2
    replace KA := Lib.hid (KA.out.ext b)
    replace gN := gN.below b
    replace gB := gB.below b
    replace bb := ext_trans bb b
    clear b
    have pA0 := (KA.out.cell 0).trans (show _ = some (Value.int .i64 v) from rfl)
    have pA1 := (KA.out.cell 1).trans (show _ = some (Value.slice A n c) from rfl)
    have pA2 := (KA.out.cell 2).trans (show _ = some (Value.slice B m d) from rfl)
    go_wp2_with fail
    refine (toTable_any v A n c ns B m d bs _ gN gB big1 big2).mono ?_
    rintro e w3 ⟨ApN, cpN, ApB, cpB, rfl, opN, opB, s_pN_pB, b⟩
    clear pA0 pA1 pA2
    have t_pN_A := Lib.hid (fun ad (ha : ApN = some ad) => (show ad.block ≠ w.heap.size from by have h2 := (opN.lt ha).1; have h3 := KA.out.lt; omega))
    replace opN := OwnF.low opN bb.size
    have t_pB_A := Lib.hid (fun ad (ha : ApB = some ad) => (show ad.block ≠ w.heap.size from by have h2 := (opB.lt ha).1; have h3 := KA.out.lt; omega))
    replace opB := OwnI.low opB bb.size
    replace KA := Lib.hid (KA.out.ext b)
    replace gN := gN.below b
    replace gB := gB.below b
    replace bb := ext_trans bb b
    clear b
    go_wp2_with fail
    refine (specSolveTable_r v ApN n cpN ns ApB m cpB bs a1 a2 _ opN.flts opB.ints HMN.out HMB.out).mono ?_
    rw [← Hr0v.out, ← Hr0n.out, ← Hr0q.out, ← Hr1x.out, ← Hr2x.out]
    rintro e w4 ⟨Aw0N, mw0N, cw0N, Aw0Q, mw0Q, cw0Q, rfl, ow0N, ow0Q, b⟩
    obtain rfl : nr0n = mw0N := by rw [HNr0n.out]; exact ow0N.len
    obtain rfl : nr0q = mw0Q := by rw [HNr0q.out]; exact ow0Q.len
    have s_w0N_w0Q := own_neF ow0N (ccI_SolveTable ow0Q) (by decide)
    have s_pN_w0N := sepD_SolveTable (ccF_SolveTable opN) (ccF_SolveTable ow0N)
    have s_pN_w0Q := sepD_SolveTable (ccF_SolveTable opN) (ccI_SolveTable ow0Q)
    have s_pB_w0N := sepD_SolveTable (ccI_SolveTable opB) (ccF_SolveTable ow0N)
    have s_pB_w0Q := sepD_SolveTable (ccI_SolveTable opB) (ccI_SolveTable ow0Q)
    have t_w0N_A := Lib.hid (fun ad (ha : Aw0N = some ad) => (show ad.block ≠ w.heap.size from by have h2 := (ow0N.lt ha).1; have h3 := KA.out.lt; omega))
    replace ow0N := OwnF.low ow0N bb.size
    have t_w0Q_A := Lib.hid (fun ad (ha : Aw0Q = some ad) => (show ad.block ≠ w.heap.size from by have h2 := (ow0Q.lt ha).1; have h3 := KA.out.lt; omega))
    replace ow0Q := OwnI.low ow0Q bb.size
    replace opN := opN.below b
    replace opB := opB.below b
    replace KA := Lib.hid (KA.out.ext b)
    replace gN := gN.below b
    replace gB := gB.below b
    replace bb := ext_trans bb b
    clear b
    clear opN
    clear opB
    have t_w0N_W0 := Lib.hid (fun ad (ha : Aw0N = some ad) => (show ad.block ≠ w4.heap.size from by have h2 := (ow0N.lt ha).2; omega))
    have t_w0Q_W0 := Lib.hid (fun ad (ha : Aw0Q = some ad) => (show ad.block ≠ w4.heap.size from by have h2 := (ow0Q.lt ha).2; omega))
    replace ow0N := ow0N.alloc (.cells #[.int .i64 r0v, .slice Aw0N nr0n cw0N, .slice Aw0Q nr0q cw0Q] 27)
    replace ow0Q := ow0Q.alloc (.cells #[.int .i64 r0v, .slice Aw0N nr0n cw0N, .slice Aw0Q nr0q cw0Q] 27)
    replace KA := Lib.hid (KA.out.alloc (.cells #[.int .i64 r0v, .slice Aw0N nr0n cw0N, .slice Aw0Q nr0q cw0Q] 27))
    have KW0 := Lib.hid (Blk.new w4 27 #[.int .i64 r0v, .slice Aw0N nr0n cw0N, .slice Aw0Q nr0q cw0Q])
    replace gN := gN.alloc (.cells #[.int .i64 r0v, .slice Aw0N nr0n cw0N, .slice Aw0Q nr0q cw0Q] 27)
    replace gB := gB.alloc (.cells #[.int .i64 r0v, .slice Aw0N nr0n cw0N, .slice Aw0Q nr0q cw0Q] 27)
    replace bb := bb.alloc bb.size (.cells #[.int .i64 r0v, .slice Aw0N nr0n cw0N, .slice Aw0Q nr0q cw0Q] 27)
    have pA0 := (KA.out.cell 0).trans (show _ = some (Value.int .i64 v) from rfl)
    have pA1 := (KA.out.cell 1).trans (show _ = some (Value.slice A n c) from rfl)
    have pA2 := (KA.out.cell 2).trans (show _ = some (Value.slice B m d) from rfl)
    go_wp2_with fail
    generalize w4.alloc (.cells #[.int .i64 r0v, .slice Aw0N nr0n cw0N, .slice Aw0Q nr0q cw0Q] 27) = w5 at *
    refine (toTable_any v A n c ns B m d bs _ gN gB big1 big2).mono ?_
    rintro e w6 ⟨AxN, cxN, AxB, cxB, rfl, oxN, oxB, s_xN_xB, b⟩
    clear pA0 pA1 pA2
    have s_w0N_xN := sepD_SolveTable (ccF_SolveTable ow0N) (ccF_SolveTable oxN)
    have s_w0N_xB := sepD_SolveTable (ccF_SolveTable ow0N) (ccI_SolveTable oxB)
    have s_w0Q_xN := sepD_SolveTable (ccI_SolveTable ow0Q) (ccF_SolveTable oxN)
    have s_w0Q_xB := sepD_SolveTable (ccI_SolveTable ow0Q) (ccI_SolveTable oxB)
    have t_xN_A := Lib.hid (fun ad (ha : AxN = some ad) => (show ad.block ≠ w.heap.size from by have h2 := (oxN.lt ha).1; have h3 := KA.out.lt; omega))
    have t_xN_W0 := Lib.hid (fun ad (ha : AxN = some ad) => (show ad.block ≠ w4.heap.size from by have h2 := (oxN.lt ha).1; have h3 := KW0.out.lt; omega))
    replace oxN := OwnF.low oxN bb.size
    have t_xB_A := Lib.hid (fun ad (ha : AxB = some ad) => (show ad.block ≠ w.heap.size from by have h2 := (oxB.lt ha).1; have h3 := KA.out.lt; omega))
    have t_xB_W0 := Lib.hid (fun ad (ha : AxB = some ad) => (show ad.block ≠ w4.heap.size from by have h2 := (oxB.lt ha).1; have h3 := KW0.out.lt; omega))
    replace oxB := OwnI.low oxB bb.size
    replace ow0N := ow0N.below b
    replace ow0Q := ow0Q.below b
    replace KA := Lib.hid (KA.out.ext b)
    replace KW0 := Lib.hid (KW0.out.ext b)
    replace gN := gN.below b
    replace gB := gB.below b
    replace bb := ext_trans bb b
    clear b
    have t_w0N_X := Lib.hid (fun ad (ha : Aw0N = some ad) => (show ad.block ≠ w6.heap.size from by have h2 := (ow0N.lt ha).2; omega))
    have t_w0Q_X := Lib.hid (fun ad (ha : Aw0Q = some ad) => (show ad.block ≠ w6.heap.size from by have h2 := (ow0Q.lt ha).2; omega))
    have t_xN_X := Lib.hid (fun ad (ha : AxN = some ad) => (show ad.block ≠ w6.heap.size from by have h2 := (oxN.lt ha).2; omega))
    have t_xB_X := Lib.hid (fun ad (ha : AxB = some ad) => (show ad.block ≠ w6.heap.size from by have h2 := (oxB.lt ha).2; omega))
    replace ow0N := ow0N.alloc (.cells #[.int .i64 v, .slice AxN n cxN, .slice AxB m cxB] 27)
    replace ow0Q := ow0Q.alloc (.cells #[.int .i64 v, .slice AxN n cxN, .slice AxB m cxB] 27)
    replace oxN := oxN.alloc (.cells #[.int .i64 v, .slice AxN n cxN, .slice AxB m cxB] 27)
    replace oxB := oxB.alloc (.cells #[.int .i64 v, .slice AxN n cxN, .slice AxB m cxB] 27)
    replace KA := Lib.hid (KA.out.alloc (.cells #[.int .i64 v, .slice AxN n cxN, .slice AxB m cxB] 27))
    replace KW0 := Lib.hid (KW0.out.alloc (.cells #[.int .i64 v, .slice AxN n cxN, .slice AxB m cxB] 27))
    have KX := Lib.hid (Blk.new w6 27 #[.int .i64 v, .slice AxN n cxN, .slice AxB m cxB])
    replace gN := gN.alloc (.cells #[.int .i64 v, .slice AxN n cxN, .slice AxB m cxB] 27)
    replace gB := gB.alloc (.cells #[.int .i64 v, .slice AxN n cxN, .slice AxB m cxB] 27)
    replace bb := bb.alloc bb.size (.cells #[.int .i64 v, .slice AxN n cxN, .slice AxB m cxB] 27)
    have pX0 := (KX.out.cell 0).trans (show _ = some (Value.int .i64 v) from rfl)
    have pX1 := (KX.out.cell 1).trans (show _ = some (Value.slice AxN n cxN) from rfl)
    have pX2 := (KX.out.cell 2).trans (show _ = some (Value.slice AxB m cxB) from rfl)
    go_wp2_with fail
    generalize w6.alloc (.cells #[.int .i64 v, .slice AxN n cxN, .slice AxB m cxB] 27) = w7 at *
    refine (implSolveTable_r v AxN n cxN ns AxB m cxB bs a1 a2 _ oxN.flts oxB.ints HMN.out HMB.out (cap2I_SolveTable oxB)).mono ?_
    rw [← Hr0v.out, ← Hr0n.out, ← Hr0q.out, ← Hr1x.out, ← Hr2x.out]
    rintro e w8 ⟨Ag0N, mg0N, cg0N, Ag0Q, mg0Q, cg0Q, rfl, og0N, og0Q, b⟩
    obtain rfl : nr0n = mg0N := by rw [HNr0n.out]; exact og0N.len
    obtain rfl : nr0q = mg0Q := by rw [HNr0q.out]; exact og0Q.len
    have s_g0N_g0Q := own_neF og0N (ccI_SolveTable og0Q) (by decide)
    clear pX0 pX1 pX2
    have s_w0N_g0N := sepD_SolveTable (ccF_SolveTable ow0N) (ccF_SolveTable og0N)
    have s_w0N_g0Q := sepD_SolveTable (ccF_SolveTable ow0N) (ccI_SolveTable og0Q)
    have s_w0Q_g0N := sepD_SolveTable (ccI_SolveTable ow0Q) (ccF_SolveTable og0N)
    have s_w0Q_g0Q := sepD_SolveTable (ccI_SolveTable ow0Q) (ccI_SolveTable og0Q)
    have s_xN_g0N := sepD_SolveTable (ccF_SolveTable oxN) (ccF_SolveTable og0N)
    have s_xN_g0Q := sepD_SolveTable (ccF_SolveTable oxN) (ccI_SolveTable og0Q)
    have s_xB_g0N := sepD_SolveTable (ccI_SolveTable oxB) (ccF_SolveTable og0N)
    have s_xB_g0Q := sepD_SolveTable (ccI_SolveTable oxB) (ccI_SolveTable og0Q)
    have t_g0N_A := Lib.hid (fun ad (ha : Ag0N = some ad) => (show ad.block ≠ w.heap.size from by have h2 := (og0N.lt ha).1; have h3 := KA.out.lt; omega))
    have t_g0N_W0 := Lib.hid (fun ad (ha : Ag0N = some ad) => (show ad.block ≠ w4.heap.size from by have h2 := (og0N.lt ha).1; have h3 := KW0.out.lt; omega))
    have t_g0N_X := Lib.hid (fun ad (ha : Ag0N = some ad) => (show ad.block ≠ w6.heap.size from by have h2 := (og0N.lt ha).1; have h3 := KX.out.lt; omega))
    replace og0N := OwnF.low og0N bb.size
    have t_g0Q_A := Lib.hid (fun ad (ha : Ag0Q = some ad) => (show ad.block ≠ w.heap.size from by have h2 := (og0Q.lt ha).1; have h3 := KA.out.lt; omega))
    have t_g0Q_W0 := Lib.hid (fun ad (ha : Ag0Q = some ad) => (show ad.block ≠ w4.heap.size from by have h2 := (og0Q.lt ha).1; have h3 := KW0.out.lt; omega))
    have t_g0Q_X := Lib.hid (fun ad (ha : Ag0Q = some ad) => (show ad.block ≠ w6.heap.size from by have h2 := (og0Q.lt ha).1; have h3 := KX.out.lt; omega))
    replace og0Q := OwnI.low og0Q bb.size
    replace ow0N := ow0N.below b
    replace ow0Q := ow0Q.below b
    replace oxN := oxN.below b
    replace oxB := oxB.below b
    replace KA := Lib.hid (KA.out.ext b)
    replace KW0 := Lib.hid (KW0.out.ext b)
    replace KX := Lib.hid (KX.out.ext b)
    replace gN := gN.below b
    replace gB := gB.below b
    replace bb := ext_trans bb b
    clear b
    have t_w0N_G0 := Lib.hid (fun ad (ha : Aw0N = some ad) => (show ad.block ≠ w8.heap.size from by have h2 := (ow0N.lt ha).2; omega))
    have t_w0Q_G0 := Lib.hid (fun ad (ha : Aw0Q = some ad) => (show ad.block ≠ w8.heap.size from by have h2 := (ow0Q.lt ha).2; omega))
    have t_xN_G0 := Lib.hid (fun ad (ha : AxN = some ad) => (show ad.block ≠ w8.heap.size from by have h2 := (oxN.lt ha).2; omega))
    have t_xB_G0 := Lib.hid (fun ad (ha : AxB = some ad) => (show ad.block ≠ w8.heap.size from by have h2 := (oxB.lt ha).2; omega))
    have t_g0N_G0 := Lib.hid (fun ad (ha : Ag0N = some ad) => (show ad.block ≠ w8.heap.size from by have h2 := (og0N.lt ha).2; omega))
    have t_g0Q_G0 := Lib.hid (fun ad (ha : Ag0Q = some ad) => (show ad.block ≠ w8.heap.size from by have h2 := (og0Q.lt ha).2; omega))
    replace ow0N := ow0N.alloc (.cells #[.int .i64 r0v, .slice Ag0N nr0n cg0N, .slice Ag0Q nr0q cg0Q] 27)
    replace ow0Q := ow0Q.alloc (.cells #[.int .i64 r0v, .slice Ag0N nr0n cg0N, .slice Ag0Q nr0q cg0Q] 27)
    replace oxN := oxN.alloc (.cells #[.int .i64 r0v, .slice Ag0N nr0n cg0N, .slice Ag0Q nr0q cg0Q] 27)
    replace oxB := oxB.alloc (.cells #[.int .i64 r0v, .slice Ag0N nr0n cg0N, .slice Ag0Q nr0q cg0Q] 27)
    replace og0N := og0N.alloc (.cells #[.int .i64 r0v, .slice Ag0N nr0n cg0N, .slice Ag0Q nr0q cg0Q] 27)
    replace og0Q := og0Q.alloc (.cells #[.int .i64 r0v, .slice Ag0N nr0n cg0N, .slice Ag0Q nr0q cg0Q] 27)
    replace KA := Lib.hid (KA.out.alloc (.cells #[.int .i64 r0v, .slice Ag0N nr0n cg0N, .slice Ag0Q nr0q cg0Q] 27))
    replace KW0 := Lib.hid (KW0.out.alloc (.cells #[.int .i64 r0v, .slice Ag0N nr0n cg0N, .slice Ag0Q nr0q cg0Q] 27))
    replace KX := Lib.hid (KX.out.alloc (.cells #[.int .i64 r0v, .slice Ag0N nr0n cg0N, .slice Ag0Q nr0q cg0Q] 27))
    have KG0 := Lib.hid (Blk.new w8 27 #[.int .i64 r0v, .slice Ag0N nr0n cg0N, .slice Ag0Q nr0q cg0Q])
    replace gN := gN.alloc (.cells #[.int .i64 r0v, .slice Ag0N nr0n cg0N, .slice Ag0Q nr0q cg0Q] 27)
    replace gB := gB.alloc (.cells #[.int .i64 r0v, .slice Ag0N nr0n cg0N, .slice Ag0Q nr0q cg0Q] 27)
    replace bb := bb.alloc bb.size (.cells #[.int .i64 r0v, .slice Ag0N nr0n cg0N, .slice Ag0Q nr0q cg0Q] 27)
    have pG00 := (KG0.out.cell 0).trans (show _ = some (Value.int .i64 r0v) from rfl)
    have pG01 := (KG0.out.cell 1).trans (show _ = some (Value.slice Ag0N nr0n cg0N) from rfl)
    have pG02 := (KG0.out.cell 2).trans (show _ = some (Value.slice Ag0Q nr0q cg0Q) from rfl)
    have pW00 := (KW0.out.cell 0).trans (show _ = some (Value.int .i64 r0v) from rfl)
    have pW01 := (KW0.out.cell 1).trans (show _ = some (Value.slice Aw0N nr0n cw0N) from rfl)
    have pW02 := (KW0.out.cell 2).trans (show _ = some (Value.slice Aw0Q nr0q cw0Q) from rfl)
    go_wp2_with fail
    generalize w8.alloc (.cells #[.int .i64 r0v, .slice Ag0N nr0n cg0N, .slice Ag0Q nr0q cg0Q] 27) = w9 at *
    clear pG00 pG01 pG02 pW00 pW01 pW02
    have pG00 := (KG0.out.cell 0).trans (show _ = some (Value.int .i64 r0v) from rfl)
    have pG01 := (KG0.out.cell 1).trans (show _ = some (Value.slice Ag0N nr0n cg0N) from rfl)
    have pG02 := (KG0.out.cell 2).trans (show _ = some (Value.slice Ag0Q nr0q cg0Q) from rfl)
    have pW00 := (KW0.out.cell 0).trans (show _ = some (Value.int .i64 r0v) from rfl)
    have pW01 := (KW0.out.cell 1).trans (show _ = some (Value.slice Aw0N nr0n cw0N) from rfl)
    have pW02 := (KW0.out.cell 2).trans (show _ = some (Value.slice Aw0Q nr0q cw0Q) from rfl)
    go_wp2_with fail
    refine (eqTable_same r0v Ag0N nr0n cg0N r0n Ag0Q nr0q cg0Q r0q Aw0N cw0N Aw0Q cw0Q _ og0N.flts og0Q.ints ow0N.flts ow0Q.ints (by unfold maxLen; omega) (by unfold maxLen; omega)).mono ?_
    rintro e w10 ⟨rfl, b⟩
    clear pG00 pG01 pG02 pW00 pW01 pW02
    replace ow0N := ow0N.below b
    replace ow0Q := ow0Q.below b
    replace oxN := oxN.below b
    replace oxB := oxB.below b
    replace og0N := og0N.below b
    replace og0Q := og0Q.below b
    replace KA := Lib.hid (KA.out.ext b)
    replace KW0 := Lib.hid (KW0.out.ext b)
    replace KX := Lib.hid (KX.out.ext b)
    replace KG0 := Lib.hid (KG0.out.ext b)
    replace gN := gN.below b
    replace gB := gB.below b
    replace bb := ext_trans bb b
    clear b
    have pX0 := (KX.out.cell 0).trans (show _ = some (Value.int .i64 v) from rfl)
    have pX1 := (KX.out.cell 1).trans (show _ = some (Value.slice AxN n cxN) from rfl)
    have pX2 := (KX.out.cell 2).trans (show _ = some (Value.slice AxB m cxB) from rfl)
    have pA0 := (KA.out.cell 0).trans (show _ = some (Value.int .i64 v) from rfl)
    have pA1 := (KA.out.cell 1).trans (show _ = some (Value.slice A n c) from rfl)
    have pA2 := (KA.out.cell 2).trans (show _ = some (Value.slice B m d) from rfl)
    go_wp2_with fail
    go_cut [63] (fun sx wx => sx = .bool false ∧ Below w10.heap.size w10 wx)
    case first =>
      go_region_with (first | (go_at_call 10; refine (toTable_any v A n c ns B m d bs _ gN.drew gB.drew big1 big2).mono ?_; rintro e w7 ⟨A3, c3, A4, c4, rfl, o3, o4, _, b⟩; have kx := KX.out.drew.ext b; have q0 := kx.cell 0; have q1 := kx.cell 1; have q2 := kx.cell 2; clear kx) | (go_at_call 12; refine (eqTable_same v AxN n cxN ns AxB m cxB bs A3 c3 A4 c4 _ (oxN.drew.below b).flts (oxB.drew.below b).ints o3.flts o4.ints HMN.out HMB.out).mono ?_; rintro e w8 ⟨rfl, b8⟩))
      all_goals
        go_wp2_with fail
        go_meet
        exact ⟨rfl, ext_trans (ext_trans (Below.drew (Below.refl _ _)) b) b8⟩
    case rest =>
      obtain ⟨rfl, b⟩ := hcut
      clear pX0 pX1 pX2 pA0 pA1 pA2
      replace ow0N := ow0N.below b
      replace ow0Q := ow0Q.below b
      replace oxN := oxN.below b
      replace oxB := oxB.below b
      replace og0N := og0N.below b
      replace og0Q := og0Q.below b
      replace KA := Lib.hid (KA.out.ext b)
      replace KW0 := Lib.hid (KW0.out.ext b)
      replace KX := Lib.hid (KX.out.ext b)
      replace KG0 := Lib.hid (KG0.out.ext b)
      replace gN := gN.below b
      replace gB := gB.below b
      replace bb := ext_trans bb b
      clear b
      have pX0 := (KX.out.cell 0).trans (show _ = some (Value.int .i64 v) from rfl)
      have pX1 := (KX.out.cell 1).trans (show _ = some (Value.slice AxN n cxN) from rfl)
      have pX2 := (KX.out.cell 2).trans (show _ = some (Value.slice AxB m cxB) from rfl)
      go_wp2_with fail
      refine (markTable_any _ v AxN n cxN ns AxB m cxB bs 1 _ oxN oxB s_xN_xB (by omega)).mono ?_
      rintro e w11 ⟨rfl, -, -, u⟩
      clear pX0 pX1 pX2
      replace bb := bb.trans (u.toBelow bb.size (fun k hk hb => by
        rcases hb with ⟨x, h1, h2⟩ | ⟨x, h1, h2⟩
        · have h3 := (oxN.lt h1).1; omega
        · have h3 := (oxB.lt h1).1; omega))
      replace ow0N := OwnF.upd ow0N u (fun ad ha hb => by
        rcases hb with ⟨x, h1, h2⟩ | ⟨x, h1, h2⟩
        · exact s_w0N_xN.symm x ad h1 ha h2
        · exact s_w0N_xB.symm x ad h1 ha h2)
      replace ow0Q := OwnI.upd ow0Q u (fun ad ha hb => by
        rcases hb with ⟨x, h1, h2⟩ | ⟨x, h1, h2⟩
        · exact s_w0Q_xN.symm x ad h1 ha h2
        · exact s_w0Q_xB.symm x ad h1 ha h2)
      replace og0N := OwnF.upd og0N u (fun ad ha hb => by
        rcases hb with ⟨x, h1, h2⟩ | ⟨x, h1, h2⟩
        · exact s_xN_g0N x ad h1 ha h2
        · exact s_xB_g0N x ad h1 ha h2)
      replace og0Q := OwnI.upd og0Q u (fun ad ha hb => by
        rcases hb with ⟨x, h1, h2⟩ | ⟨x, h1, h2⟩
        · exact s_xN_g0Q x ad h1 ha h2
        · exact s_xB_g0Q x ad h1 ha h2)
      replace KA := Lib.hid (KA.out.upd u (by
        rintro (⟨x, h1, h2⟩ | ⟨x, h1, h2⟩)
        · exact t_xN_A.out x h1 h2
        · exact t_xB_A.out x h1 h2))
      replace KW0 := Lib.hid (KW0.out.upd u (by
        rintro (⟨x, h1, h2⟩ | ⟨x, h1, h2⟩)
        · exact t_xN_W0.out x h1 h2
        · exact t_xB_W0.out x h1 h2))
      replace KX := Lib.hid (KX.out.upd u (by
        rintro (⟨x, h1, h2⟩ | ⟨x, h1, h2⟩)
        · exact t_xN_X.out x h1 h2
        · exact t_xB_X.out x h1 h2))
      replace KG0 := Lib.hid (KG0.out.upd u (by
        rintro (⟨x, h1, h2⟩ | ⟨x, h1, h2⟩)
        · exact t_xN_G0.out x h1 h2
        · exact t_xB_G0.out x h1 h2))
      clear gN gB
      have gN := hN.below bb
      have gB := hB.below bb
      clear u
      clear oxN
      clear oxB
      have hk1 : ¬ (((1 + n + m : Nat) : Int) < 0) := by omega
      have pG00 := (KG0.out.cell 0).trans (show _ = some (Value.int .i64 r0v) from rfl)
      have pG01 := (KG0.out.cell 1).trans (show _ = some (Value.slice Ag0N nr0n cg0N) from rfl)
      have pG02 := (KG0.out.cell 2).trans (show _ = some (Value.slice Ag0Q nr0q cg0Q) from rfl)
      have pW00 := (KW0.out.cell 0).trans (show _ = some (Value.int .i64 r0v) from rfl)
      have pW01 := (KW0.out.cell 1).trans (show _ = some (Value.slice Aw0N nr0n cw0N) from rfl)
      have pW02 := (KW0.out.cell 2).trans (show _ = some (Value.slice Aw0Q nr0q cw0Q) from rfl)
      go_wp2_with fail
      refine (eqTable_same r0v Ag0N nr0n cg0N r0n Ag0Q nr0q cg0Q r0q Aw0N cw0N Aw0Q cw0Q _ og0N.flts og0Q.ints ow0N.flts ow0Q.ints (by unfold maxLen; omega) (by unfold maxLen; omega)).mono ?_
      rintro e w12 ⟨rfl, b⟩
      clear pG00 pG01 pG02 pW00 pW01 pW02
      replace ow0N := ow0N.below b
      replace ow0Q := ow0Q.below b
      replace og0N := og0N.below b
      replace og0Q := og0Q.below b
      replace KA := Lib.hid (KA.out.ext b)
      replace KW0 := Lib.hid (KW0.out.ext b)
      replace KX := Lib.hid (KX.out.ext b)
      replace KG0 := Lib.hid (KG0.out.ext b)
      replace gN := gN.below b
      replace gB := gB.below b
      replace bb := ext_trans bb b
      clear b
      have pG00 := (KG0.out.cell 0).trans (show _ = some (Value.int .i64 r0v) from rfl)
      have pG01 := (KG0.out.cell 1).trans (show _ = some (Value.slice Ag0N nr0n cg0N) from rfl)
      have pG02 := (KG0.out.cell 2).trans (show _ = some (Value.slice Ag0Q nr0q cg0Q) from rfl)
      go_wp2_with fail
      refine (markTable_any _ r0v Ag0N nr0n cg0N r0n Ag0Q nr0q cg0Q r0q (1) _ og0N og0Q s_g0N_g0Q (by omega)).mono ?_
      rintro e w13 ⟨rfl, o1, o2, u⟩
      clear pG00 pG01 pG02
      replace bb := bb.trans (u.toBelow bb.size (fun k hk hb => by
        rcases hb with ⟨x, h1, h2⟩ | ⟨x, h1, h2⟩
        · have h3 := (og0N.lt h1).1; omega
        · have h3 := (og0Q.lt h1).1; omega))
      replace ow0N := OwnF.upd ow0N u (fun ad ha hb => by
        rcases hb with ⟨x, h1, h2⟩ | ⟨x, h1, h2⟩
        · exact s_w0N_g0N.symm x ad h1 ha h2
        · exact s_w0N_g0Q.symm x ad h1 ha h2)
      replace ow0Q := OwnI.upd ow0Q u (fun ad ha hb => by
        rcases hb with ⟨x, h1, h2⟩ | ⟨x, h1, h2⟩
        · exact s_w0Q_g0N.symm x ad h1 ha h2
        · exact s_w0Q_g0Q.symm x ad h1 ha h2)
      replace KA := Lib.hid (KA.out.upd u (by
        rintro (⟨x, h1, h2⟩ | ⟨x, h1, h2⟩)
        · exact t_g0N_A.out x h1 h2
        · exact t_g0Q_A.out x h1 h2))
      replace KW0 := Lib.hid (KW0.out.upd u (by
        rintro (⟨x, h1, h2⟩ | ⟨x, h1, h2⟩)
        · exact t_g0N_W0.out x h1 h2
        · exact t_g0Q_W0.out x h1 h2))
      replace KX := Lib.hid (KX.out.upd u (by
        rintro (⟨x, h1, h2⟩ | ⟨x, h1, h2⟩)
        · exact t_g0N_X.out x h1 h2
        · exact t_g0Q_X.out x h1 h2))
      replace KG0 := Lib.hid (KG0.out.upd u (by
        rintro (⟨x, h1, h2⟩ | ⟨x, h1, h2⟩)
        · exact t_g0N_G0.out x h1 h2
        · exact t_g0Q_G0.out x h1 h2))
      clear gN gB
      have gN := hN.below bb
      have gB := hB.below bb
      clear u og0N og0Q
      have og0N := o1
      have og0Q := o2
      clear o1 o2
      have hk2 : ¬ (((1 + nr0n + nr0q : Nat) : Int) < 0) := by omega
      have pG00 := (KG0.out.cell 0).trans (show _ = some (Value.int .i64 r0v) from rfl)
      have pG01 := (KG0.out.cell 1).trans (show _ = some (Value.slice Ag0N nr0n cg0N) from rfl)
      have pG02 := (KG0.out.cell 2).trans (show _ = some (Value.slice Ag0Q nr0q cg0Q) from rfl)
      go_wp2_with fail
      refine (heldTable_any r0v Ag0N nr0n cg0N Ag0Q nr0q cg0Q (1) _ og0N.flts og0Q.ints (by omega)).mono ?_
      rintro e w14 ⟨rfl, b⟩
      clear pG00 pG01 pG02
      replace ow0N := ow0N.below b
      replace ow0Q := ow0Q.below b
      replace og0N := og0N.below b
      replace og0Q := og0Q.below b
      replace KA := Lib.hid (KA.out.ext b)
      replace KW0 := Lib.hid (KW0.out.ext b)
      replace KX := Lib.hid (KX.out.ext b)
      replace KG0 := Lib.hid (KG0.out.ext b)
      replace gN := gN.below b
      replace gB := gB.below b
      replace bb := ext_trans bb b
      clear b
      have pA0 := (KA.out.cell 0).trans (show _ = some (Value.int .i64 v) from rfl)
      have pA1 := (KA.out.cell 1).trans (show _ = some (Value.slice A n c) from rfl)
      have pA2 := (KA.out.cell 2).trans (show _ = some (Value.slice B m d) from rfl)
      go_wp2_with fail
      refine (toTable_any v A n c ns B m d bs _ gN gB big1 big2).mono ?_
      rintro e w15 ⟨AqN, cqN, AqB, cqB, rfl, oqN, oqB, s_qN_qB, b⟩
      clear pA0 pA1 pA2
      have s_w0N_qN := sepD_SolveTable (ccF_SolveTable ow0N) (ccF_SolveTable oqN)
      have s_w0N_qB := sepD_SolveTable (ccF_SolveTable ow0N) (ccI_SolveTable oqB)
      have s_w0Q_qN := sepD_SolveTable (ccI_SolveTable ow0Q) (ccF_SolveTable oqN)
      have s_w0Q_qB := sepD_SolveTable (ccI_SolveTable ow0Q) (ccI_SolveTable oqB)
      have s_g0N_qN := sepD_SolveTable (ccF_SolveTable og0N) (ccF_SolveTable oqN)
      have s_g0N_qB := sepD_SolveTable (ccF_SolveTable og0N) (ccI_SolveTable oqB)
      have s_g0Q_qN := sepD_SolveTable (ccI_SolveTable og0Q) (ccF_SolveTable oqN)
      have s_g0Q_qB := sepD_SolveTable (ccI_SolveTable og0Q) (ccI_SolveTable oqB)
      have t_qN_A := Lib.hid (fun ad (ha : AqN = some ad) => (show ad.block ≠ w.heap.size from by have h2 := (oqN.lt ha).1; have h3 := KA.out.lt; omega))
      have t_qN_W0 := Lib.hid (fun ad (ha : AqN = some ad) => (show ad.block ≠ w4.heap.size from by have h2 := (oqN.lt ha).1; have h3 := KW0.out.lt; omega))
      have t_qN_X := Lib.hid (fun ad (ha : AqN = some ad) => (show ad.block ≠ w6.heap.size from by have h2 := (oqN.lt ha).1; have h3 := KX.out.lt; omega))
      have t_qN_G0 := Lib.hid (fun ad (ha : AqN = some ad) => (show ad.block ≠ w8.heap.size from by have h2 := (oqN.lt ha).1; have h3 := KG0.out.lt; omega))
      replace oqN := OwnF.low oqN bb.size
      have t_qB_A := Lib.hid (fun ad (ha : AqB = some ad) => (show ad.block ≠ w.heap.size from by have h2 := (oqB.lt ha).1; have h3 := KA.out.lt; omega))
      have t_qB_W0 := Lib.hid (fun ad (ha : AqB = some ad) => (show ad.block ≠ w4.heap.size from by have h2 := (oqB.lt ha).1; have h3 := KW0.out.lt; omega))
      have t_qB_X := Lib.hid (fun ad (ha : AqB = some ad) => (show ad.block ≠ w6.heap.size from by have h2 := (oqB.lt ha).1; have h3 := KX.out.lt; omega))
      have t_qB_G0 := Lib.hid (fun ad (ha : AqB = some ad) => (show ad.block ≠ w8.heap.size from by have h2 := (oqB.lt ha).1; have h3 := KG0.out.lt; omega))
      replace oqB := OwnI.low oqB bb.size
      replace ow0N := ow0N.below b
      replace ow0Q := ow0Q.below b
      replace og0N := og0N.below b
      replace og0Q := og0Q.below b
      replace KA := Lib.hid (KA.out.ext b)
      replace KW0 := Lib.hid (KW0.out.ext b)
      replace KX := Lib.hid (KX.out.ext b)
      replace KG0 := Lib.hid (KG0.out.ext b)
      replace gN := gN.below b
      replace gB := gB.below b
      replace bb := ext_trans bb b
      clear b
      go_wp2_with fail
      refine (implSolveTable_r v AqN n cqN ns AqB m cqB bs a1 a2 _ oqN.flts oqB.ints HMN.out HMB.out (cap2I_SolveTable oqB)).mono ?_
      rw [← Hr0v.out, ← Hr0n.out, ← Hr0q.out, ← Hr1x.out, ← Hr2x.out]
      rintro e w16 ⟨Ah0N, mh0N, ch0N, Ah0Q, mh0Q, ch0Q, rfl, oh0N, oh0Q, b⟩
      obtain rfl : nr0n = mh0N := by rw [HNr0n.out]; exact oh0N.len
      obtain rfl : nr0q = mh0Q := by rw [HNr0q.out]; exact oh0Q.len
      have s_h0N_h0Q := own_neF oh0N (ccI_SolveTable oh0Q) (by decide)
      have s_w0N_h0N := sepD_SolveTable (ccF_SolveTable ow0N) (ccF_SolveTable oh0N)
      have s_w0N_h0Q := sepD_SolveTable (ccF_SolveTable ow0N) (ccI_SolveTable oh0Q)
      have s_w0Q_h0N := sepD_SolveTable (ccI_SolveTable ow0Q) (ccF_SolveTable oh0N)
      have s_w0Q_h0Q := sepD_SolveTable (ccI_SolveTable ow0Q) (ccI_SolveTable oh0Q)
      have s_g0N_h0N := sepD_SolveTable (ccF_SolveTable og0N) (ccF_SolveTable oh0N)
      have s_g0N_h0Q := sepD_SolveTable (ccF_SolveTable og0N) (ccI_SolveTable oh0Q)
      have s_g0Q_h0N := sepD_SolveTable (ccI_SolveTable og0Q) (ccF_SolveTable oh0N)
      have s_g0Q_h0Q := sepD_SolveTable (ccI_SolveTable og0Q) (ccI_SolveTable oh0Q)
      have s_qN_h0N := sepD_SolveTable (ccF_SolveTable oqN) (ccF_SolveTable oh0N)
      have s_qN_h0Q := sepD_SolveTable (ccF_SolveTable oqN) (ccI_SolveTable oh0Q)
      have s_qB_h0N := sepD_SolveTable (ccI_SolveTable oqB) (ccF_SolveTable oh0N)
      have s_qB_h0Q := sepD_SolveTable (ccI_SolveTable oqB) (ccI_SolveTable oh0Q)
      have t_h0N_A := Lib.hid (fun ad (ha : Ah0N = some ad) => (show ad.block ≠ w.heap.size from by have h2 := (oh0N.lt ha).1; have h3 := KA.out.lt; omega))
      have t_h0N_W0 := Lib.hid (fun ad (ha : Ah0N = some ad) => (show ad.block ≠ w4.heap.size from by have h2 := (oh0N.lt ha).1; have h3 := KW0.out.lt; omega))
      have t_h0N_X := Lib.hid (fun ad (ha : Ah0N = some ad) => (show ad.block ≠ w6.heap.size from by have h2 := (oh0N.lt ha).1; have h3 := KX.out.lt; omega))
      have t_h0N_G0 := Lib.hid (fun ad (ha : Ah0N = some ad) => (show ad.block ≠ w8.heap.size from by have h2 := (oh0N.lt ha).1; have h3 := KG0.out.lt; omega))
      replace oh0N := OwnF.low oh0N bb.size
      have t_h0Q_A := Lib.hid (fun ad (ha : Ah0Q = some ad) => (show ad.block ≠ w.heap.size from by have h2 := (oh0Q.lt ha).1; have h3 := KA.out.lt; omega))
      have t_h0Q_W0 := Lib.hid (fun ad (ha : Ah0Q = some ad) => (show ad.block ≠ w4.heap.size from by have h2 := (oh0Q.lt ha).1; have h3 := KW0.out.lt; omega))
      have t_h0Q_X := Lib.hid (fun ad (ha : Ah0Q = some ad) => (show ad.block ≠ w6.heap.size from by have h2 := (oh0Q.lt ha).1; have h3 := KX.out.lt; omega))
      have t_h0Q_G0 := Lib.hid (fun ad (ha : Ah0Q = some ad) => (show ad.block ≠ w8.heap.size from by have h2 := (oh0Q.lt ha).1; have h3 := KG0.out.lt; omega))
      replace oh0Q := OwnI.low oh0Q bb.size
      replace ow0N := ow0N.below b
      replace ow0Q := ow0Q.below b
      replace og0N := og0N.below b
      replace og0Q := og0Q.below b
      replace oqN := oqN.below b
      replace oqB := oqB.below b
      replace KA := Lib.hid (KA.out.ext b)
      replace KW0 := Lib.hid (KW0.out.ext b)
      replace KX := Lib.hid (KX.out.ext b)
      replace KG0 := Lib.hid (KG0.out.ext b)
      replace gN := gN.below b
      replace gB := gB.below b
      replace bb := ext_trans bb b
      clear b
      clear oqN
      clear oqB
      have t_w0N_H0 := Lib.hid (fun ad (ha : Aw0N = some ad) => (show ad.block ≠ w16.heap.size from by have h2 := (ow0N.lt ha).2; omega))
      have t_w0Q_H0 := Lib.hid (fun ad (ha : Aw0Q = some ad) => (show ad.block ≠ w16.heap.size from by have h2 := (ow0Q.lt ha).2; omega))
      have t_g0N_H0 := Lib.hid (fun ad (ha : Ag0N = some ad) => (show ad.block ≠ w16.heap.size from by have h2 := (og0N.lt ha).2; omega))
      have t_g0Q_H0 := Lib.hid (fun ad (ha : Ag0Q = some ad) => (show ad.block ≠ w16.heap.size from by have h2 := (og0Q.lt ha).2; omega))
      have t_h0N_H0 := Lib.hid (fun ad (ha : Ah0N = some ad) => (show ad.block ≠ w16.heap.size from by have h2 := (oh0N.lt ha).2; omega))
      have t_h0Q_H0 := Lib.hid (fun ad (ha : Ah0Q = some ad) => (show ad.block ≠ w16.heap.size from by have h2 := (oh0Q.lt ha).2; omega))
      replace ow0N := ow0N.alloc (.cells #[.int .i64 r0v, .slice Ah0N nr0n ch0N, .slice Ah0Q nr0q ch0Q] 27)
      replace ow0Q := ow0Q.alloc (.cells #[.int .i64 r0v, .slice Ah0N nr0n ch0N, .slice Ah0Q nr0q ch0Q] 27)
      replace og0N := og0N.alloc (.cells #[.int .i64 r0v, .slice Ah0N nr0n ch0N, .slice Ah0Q nr0q ch0Q] 27)
      replace og0Q := og0Q.alloc (.cells #[.int .i64 r0v, .slice Ah0N nr0n ch0N, .slice Ah0Q nr0q ch0Q] 27)
      replace oh0N := oh0N.alloc (.cells #[.int .i64 r0v, .slice Ah0N nr0n ch0N, .slice Ah0Q nr0q ch0Q] 27)
      replace oh0Q := oh0Q.alloc (.cells #[.int .i64 r0v, .slice Ah0N nr0n ch0N, .slice Ah0Q nr0q ch0Q] 27)
      replace KA := Lib.hid (KA.out.alloc (.cells #[.int .i64 r0v, .slice Ah0N nr0n ch0N, .slice Ah0Q nr0q ch0Q] 27))
      replace KW0 := Lib.hid (KW0.out.alloc (.cells #[.int .i64 r0v, .slice Ah0N nr0n ch0N, .slice Ah0Q nr0q ch0Q] 27))
      replace KX := Lib.hid (KX.out.alloc (.cells #[.int .i64 r0v, .slice Ah0N nr0n ch0N, .slice Ah0Q nr0q ch0Q] 27))
      replace KG0 := Lib.hid (KG0.out.alloc (.cells #[.int .i64 r0v, .slice Ah0N nr0n ch0N, .slice Ah0Q nr0q ch0Q] 27))
      have KH0 := Lib.hid (Blk.new w16 27 #[.int .i64 r0v, .slice Ah0N nr0n ch0N, .slice Ah0Q nr0q ch0Q])
      replace gN := gN.alloc (.cells #[.int .i64 r0v, .slice Ah0N nr0n ch0N, .slice Ah0Q nr0q ch0Q] 27)
      replace gB := gB.alloc (.cells #[.int .i64 r0v, .slice Ah0N nr0n ch0N, .slice Ah0Q nr0q ch0Q] 27)
      replace bb := bb.alloc bb.size (.cells #[.int .i64 r0v, .slice Ah0N nr0n ch0N, .slice Ah0Q nr0q ch0Q] 27)
      have pH00 := (KH0.out.cell 0).trans (show _ = some (Value.int .i64 r0v) from rfl)
      have pH01 := (KH0.out.cell 1).trans (show _ = some (Value.slice Ah0N nr0n ch0N) from rfl)
      have pH02 := (KH0.out.cell 2).trans (show _ = some (Value.slice Ah0Q nr0q ch0Q) from rfl)
      have pW00 := (KW0.out.cell 0).trans (show _ = some (Value.int .i64 r0v) from rfl)
      have pW01 := (KW0.out.cell 1).trans (show _ = some (Value.slice Aw0N nr0n cw0N) from rfl)
      have pW02 := (KW0.out.cell 2).trans (show _ = some (Value.slice Aw0Q nr0q cw0Q) from rfl)
      go_wp2_with fail
      generalize w16.alloc (.cells #[.int .i64 r0v, .slice Ah0N nr0n ch0N, .slice Ah0Q nr0q ch0Q] 27) = w17 at *
      clear pH00 pH01 pH02 pW00 pW01 pW02
      have pH00 := (KH0.out.cell 0).trans (show _ = some (Value.int .i64 r0v) from rfl)
      have pH01 := (KH0.out.cell 1).trans (show _ = some (Value.slice Ah0N nr0n ch0N) from rfl)
      have pH02 := (KH0.out.cell 2).trans (show _ = some (Value.slice Ah0Q nr0q ch0Q) from rfl)
      have pW00 := (KW0.out.cell 0).trans (show _ = some (Value.int .i64 r0v) from rfl)
      have pW01 := (KW0.out.cell 1).trans (show _ = some (Value.slice Aw0N nr0n cw0N) from rfl)
      have pW02 := (KW0.out.cell 2).trans (show _ = some (Value.slice Aw0Q nr0q cw0Q) from rfl)
      go_wp2_with fail
      refine (eqTable_same r0v Ah0N nr0n ch0N r0n Ah0Q nr0q ch0Q r0q Aw0N cw0N Aw0Q cw0Q _ oh0N.flts oh0Q.ints ow0N.flts ow0Q.ints (by unfold maxLen; omega) (by unfold maxLen; omega)).mono ?_
      rintro e w18 ⟨rfl, b⟩
      clear pH00 pH01 pH02 pW00 pW01 pW02
      replace ow0N := ow0N.below b
      replace ow0Q := ow0Q.below b
      replace og0N := og0N.below b
      replace og0Q := og0Q.below b
      replace oh0N := oh0N.below b
      replace oh0Q := oh0Q.below b
      replace KA := Lib.hid (KA.out.ext b)
      replace KW0 := Lib.hid (KW0.out.ext b)
      replace KX := Lib.hid (KX.out.ext b)
      replace KG0 := Lib.hid (KG0.out.ext b)
      replace KH0 := Lib.hid (KH0.out.ext b)
      replace gN := gN.below b
      replace gB := gB.below b
      replace bb := ext_trans bb b
      clear b
      have pG00 := (KG0.out.cell 0).trans (show _ = some (Value.int .i64 r0v) from rfl)
      have pG01 := (KG0.out.cell 1).trans (show _ = some (Value.slice Ag0N nr0n cg0N) from rfl)
      have pG02 := (KG0.out.cell 2).trans (show _ = some (Value.slice Ag0Q nr0q cg0Q) from rfl)
      go_wp2_with fail
      refine (heldTable_any r0v Ag0N nr0n cg0N Ag0Q nr0q cg0Q (1) _ og0N.flts og0Q.ints (by omega)).mono ?_
      rintro e w19 ⟨rfl, b⟩
      clear pG00 pG01 pG02
      replace ow0N := ow0N.below b
      replace ow0Q := ow0Q.below b
      replace og0N := og0N.below b
      replace og0Q := og0Q.below b
      replace oh0N := oh0N.below b
      replace oh0Q := oh0Q.below b
      replace KA := Lib.hid (KA.out.ext b)
      replace KW0 := Lib.hid (KW0.out.ext b)
      replace KX := Lib.hid (KX.out.ext b)
      replace KG0 := Lib.hid (KG0.out.ext b)
      replace KH0 := Lib.hid (KH0.out.ext b)
      replace gN := gN.below b
      replace gB := gB.below b
      replace bb := ext_trans bb b
      clear b
      go_wp2
      go_ret
      exact ⟨rfl, (Below.refl w.heap.size w).trans bb⟩
  · go_enter Try.func4, Try.ntmps4
    have pA0 := (KA.out.cell 0).trans (show _ = some (Value.int .i64 v) from rfl)
    have pA1 := (KA.out.cell 1).trans (show _ = some (Value.slice A n c) from rfl)
    have pA2 := (KA.out.cell 2).trans (show _ = some (Value.slice B m d) from rfl)
    go_wp2_with fail
    generalize (w.alloc (.cells #[.int .i64 v, .slice A n c, .slice B m d] 25)).alloc (.cells #[.int .i64 v, .slice A n c, .slice B m d] 25) = w20 at *
    refine (szTable_no v A n c B m d 1048576 _ (by omega) (by omega) (by omega) HMN.out HMB.out).mono ?_
    rintro e w1 ⟨rfl, b⟩
    clear pA0 pA1 pA2
    replace bb := ext_trans bb b
    clear b
    go_wp2_with fail
    go_ret
    exact ⟨rfl, bb⟩
end Go.Proofs.Ytckfmemjcjhaaaa
