/- The walk of the law FnExactTableOf (written by rowgen.py). -/
import Derived.Test.YtecpaagkhlidnaaTabT
import Derived.Test.YtecpaagkhlidnaaRowsLaw0
namespace Go.Proofs.Ytecpaagkhlidnaa
open Go.RowKit

theorem sepD {T T' base size size' n c m d : Nat} {w w' : World} {A B : Option Addr} {vs us : List Value} (h1 : OwnC T base size w A n c vs) (h2 : OwnC T' w.heap.size size' w' B m d us) : Sep A B := by
  intro a b ha hb
  have := (OwnC.lt h1 ha).2
  have := (OwnC.lt h2 hb).1
  omega
theorem OwnF.cc {T base n c : Nat} {w : World} {A : Option Addr} {zs : List Nat} (h : OwnF T base w A n c zs) : OwnC T base 1 w A n c (zs.map (Value.float .f32)) := h
theorem OwnI.cc {T base n c : Nat} {w : World} {A : Option Addr} {zs : List Int} (h : OwnI T base w A n c zs) : OwnC T base 1 w A n c (zs.map (Value.int .i64)) := h
theorem OwnF.cap2 {T base n c : Nat} {w : World} {A : Option Addr} {zs : List Nat} (h : OwnF T base w A n c zs) : n ≤ c ∧ c ≤ maxLen := by
  rcases h.form with ⟨_, h1, h2, _⟩ | ⟨_, _, _, _, h1, h2⟩
  · subst h1 h2; exact ⟨Nat.le_refl _, Nat.zero_le _⟩
  · exact ⟨h1, h2⟩
theorem tab_len (v : Int) (ns bs gs : List Nat) : (tabN v ns bs gs).length ≤ 200 ∧ (tabQ v ns bs gs).length ≤ 200 := by
  unfold tabN tabQ
  split
  · rename_i h
    obtain ⟨V, rfl, ⟨_, h8⟩, ⟨_, h9⟩, _, _⟩ := rows_bd h
    have := tabT_le (V := V) (ns := ns) (bs := bs) (gs := gs) h8 h9 (show bs.length + 1 ≤ 9 by omega)
    exact ⟨Nat.le_trans (by simpa using this) (by decide : 153 ≤ 200), by simp [seqI]; omega⟩
  · simp

set_option maxRecDepth 100000 in
set_option maxHeartbeats 1000000 in
theorem walk_TableOf (v : Int) (A : Option Addr) (n c : Nat) (ns : List Nat) (B : Option Addr) (m d : Nat) (bs : List Nat) (G : Option Addr) (p g : Nat) (gs : List Nat) (w : World) (hN : FltsAt w A n ns) (hB : FltsAt w B m bs) (hG : FltsAt w G p gs) (hn : n ≤ maxLen) (hm : m ≤ maxLen) (hp : p ≤ maxLen) :
    Calls Try.prog 3 #[.agg #[.int .i64 v, .slice A n c, .slice B m d, .slice G p g]] w fun e w' => e = .returned (.bool true) ∧ Below w.heap.size w w' := by
  have HMN := Lib.hid hn
  have HMB := Lib.hid hm
  have HMG := Lib.hid hp
  have bb := (Below.refl w.heap.size w).alloc (Nat.le_refl _) (.cells #[.int .i64 v, .slice A n c, .slice B m d, .slice G p g] 24)
  have KA := Lib.hid (Blk.new w 24 #[.int .i64 v, .slice A n c, .slice B m d, .slice G p g])
  have gN := hN.alloc (.cells #[.int .i64 v, .slice A n c, .slice B m d, .slice G p g] 24)
  have gB := hB.alloc (.cells #[.int .i64 v, .slice A n c, .slice B m d, .slice G p g] 24)
  have gG := hG.alloc (.cells #[.int .i64 v, .slice A n c, .slice B m d, .slice G p g] 24)
  obtain ⟨tv, htv⟩ : ∃ x, x = tabV v ns bs gs := ⟨_, rfl⟩
  have HTV := Lib.hid htv
  obtain ⟨tn, htn⟩ : ∃ x, x = tabN v ns bs gs := ⟨_, rfl⟩
  have HTN := Lib.hid htn
  obtain ⟨tq, htq⟩ : ∃ x, x = tabQ v ns bs gs := ⟨_, rfl⟩
  have HTQ := Lib.hid htq
  obtain ⟨tb, htb⟩ : ∃ x, x = rowsB v ns bs gs := ⟨_, rfl⟩
  have HTB := Lib.hid htb
  have htl := tab_len v ns bs gs
  rw [← htn, ← htq] at htl
  obtain ⟨nn, hnn⟩ : ∃ x, x = tn.length := ⟨_, rfl⟩
  obtain ⟨qn, hqn⟩ : ∃ x, x = tq.length := ⟨_, rfl⟩
  rw [← hnn, ← hqn] at htl
  have HNN := Lib.hid hnn
  have HQN := Lib.hid hqn
  obtain ⟨hnn2, hqn2⟩ := htl
  clear htv htn htq htb hnn hqn
  have hb1 : (tb != tb) = false := by simp
  by_cases hbig : n + m + p ≤ 1048576
  · have big1 : n ≤ 1048576 := by omega
    have big2 : m ≤ 1048576 := by omega
    have big3 : p ≤ 1048576 := by omega
    have hpos : ¬ ((1048576 : Int) - n - m - p < 0) := by omega
    go_enter Try.func3, Try.ntmps3
    have pA0 := (KA.out.cell 0).trans (show _ = some (Value.int .i64 v) from rfl)
    have pA1 := (KA.out.cell 1).trans (show _ = some (Value.slice A n c) from rfl)
    have pA2 := (KA.out.cell 2).trans (show _ = some (Value.slice B m d) from rfl)
    have pA3 := (KA.out.cell 3).trans (show _ = some (Value.slice G p g) from rfl)
    go_wp2_with fail
    generalize (w.alloc (.cells #[.int .i64 v, .slice A n c, .slice B m d, .slice G p g] 24)).alloc (.cells #[.int .i64 v, .slice A n c, .slice B m d, .slice G p g] 24) = w1 at *
    refine (szRows_yes v A n c B m d G p g 1048576 _ (by omega) (by omega)).mono ?_
    rintro e w2 ⟨rfl, b⟩
    clear pA0 pA1 pA2 pA3
    replace KA := Lib.hid (KA.out.ext b)
    replace gN := gN.below b
    replace gB := gB.below b
    replace gG := gG.below b
    replace bb := ext_trans bb b
    clear b
    have pA0 := (KA.out.cell 0).trans (show _ = some (Value.int .i64 v) from rfl)
    have pA1 := (KA.out.cell 1).trans (show _ = some (Value.slice A n c) from rfl)
    have pA2 := (KA.out.cell 2).trans (show _ = some (Value.slice B m d) from rfl)
    have pA3 := (KA.out.cell 3).trans (show _ = some (Value.slice G p g) from rfl)
    go_wp2_with fail
    refine (toRows_any v A n c ns B m d bs G p g gs _ gN gB gG big1 big2 big3).mono ?_
    rintro e w3 ⟨ApN, cpN, ApB, cpB, ApG, cpG, rfl, opN, opB, opG, s_pN_pB, s_pN_pG, s_pB_pG, b⟩
    clear pA0 pA1 pA2 pA3
    have t_pN_A := Lib.hid (fun ad (ha : ApN = some ad) => (show ad.block ≠ w.heap.size from by have h2 := (opN.lt ha).1; have h3 := KA.out.lt; omega))
    replace opN := opN.low bb.size
    have t_pB_A := Lib.hid (fun ad (ha : ApB = some ad) => (show ad.block ≠ w.heap.size from by have h2 := (opB.lt ha).1; have h3 := KA.out.lt; omega))
    replace opB := opB.low bb.size
    have t_pG_A := Lib.hid (fun ad (ha : ApG = some ad) => (show ad.block ≠ w.heap.size from by have h2 := (opG.lt ha).1; have h3 := KA.out.lt; omega))
    replace opG := opG.low bb.size
    replace KA := Lib.hid (KA.out.ext b)
    replace gN := gN.below b
    replace gB := gB.below b
    replace gG := gG.below b
    replace bb := ext_trans bb b
    clear b
    go_wp2_with fail
    refine (specTableOf_r v ApN n cpN ns ApB m cpB bs ApG p cpG gs _ opN.flts opB.flts opG.flts HMN.out HMB.out HMG.out).mono ?_
    rw [← HTV.out, ← HTN.out, ← HTQ.out, ← HTB.out]
    rintro e w4 ⟨AwN, nw, cwN, AwQ, qw, cwQ, rfl, owN, owQ, b⟩
    obtain rfl : nn = nw := by rw [HNN.out]; exact owN.len
    obtain rfl : qn = qw := by rw [HQN.out]; exact owQ.len
    have s_wN_wQ := own_neF owN owQ.cc (by decide)
    have s_pN_wN := sepD opN.cc owN.cc
    have s_pN_wQ := sepD opN.cc owQ.cc
    have s_pB_wN := sepD opB.cc owN.cc
    have s_pB_wQ := sepD opB.cc owQ.cc
    have s_pG_wN := sepD opG.cc owN.cc
    have s_pG_wQ := sepD opG.cc owQ.cc
    have t_wN_A := Lib.hid (fun ad (ha : AwN = some ad) => (show ad.block ≠ w.heap.size from by have h2 := (owN.lt ha).1; have h3 := KA.out.lt; omega))
    replace owN := owN.low bb.size
    have t_wQ_A := Lib.hid (fun ad (ha : AwQ = some ad) => (show ad.block ≠ w.heap.size from by have h2 := (owQ.lt ha).1; have h3 := KA.out.lt; omega))
    replace owQ := owQ.low bb.size
    replace opN := opN.below b
    replace opB := opB.below b
    replace opG := opG.below b
    replace KA := Lib.hid (KA.out.ext b)
    replace gN := gN.below b
    replace gB := gB.below b
    replace gG := gG.below b
    replace bb := ext_trans bb b
    clear b
    clear opN
    clear opB
    clear opG
    have t_wN_W := Lib.hid (fun ad (ha : AwN = some ad) => (show ad.block ≠ w4.heap.size from by have h2 := (owN.lt ha).2; omega))
    have t_wQ_W := Lib.hid (fun ad (ha : AwQ = some ad) => (show ad.block ≠ w4.heap.size from by have h2 := (owQ.lt ha).2; omega))
    replace owN := owN.alloc (.cells #[.int .i64 tv, .slice AwN nn cwN, .slice AwQ qn cwQ] 28)
    replace owQ := owQ.alloc (.cells #[.int .i64 tv, .slice AwN nn cwN, .slice AwQ qn cwQ] 28)
    replace KA := Lib.hid (KA.out.alloc (.cells #[.int .i64 tv, .slice AwN nn cwN, .slice AwQ qn cwQ] 28))
    have KW := Lib.hid (Blk.new w4 28 #[.int .i64 tv, .slice AwN nn cwN, .slice AwQ qn cwQ])
    replace gN := gN.alloc (.cells #[.int .i64 tv, .slice AwN nn cwN, .slice AwQ qn cwQ] 28)
    replace gB := gB.alloc (.cells #[.int .i64 tv, .slice AwN nn cwN, .slice AwQ qn cwQ] 28)
    replace gG := gG.alloc (.cells #[.int .i64 tv, .slice AwN nn cwN, .slice AwQ qn cwQ] 28)
    replace bb := bb.alloc bb.size (.cells #[.int .i64 tv, .slice AwN nn cwN, .slice AwQ qn cwQ] 28)
    have pA0 := (KA.out.cell 0).trans (show _ = some (Value.int .i64 v) from rfl)
    have pA1 := (KA.out.cell 1).trans (show _ = some (Value.slice A n c) from rfl)
    have pA2 := (KA.out.cell 2).trans (show _ = some (Value.slice B m d) from rfl)
    have pA3 := (KA.out.cell 3).trans (show _ = some (Value.slice G p g) from rfl)
    go_wp2_with fail
    generalize w4.alloc (.cells #[.int .i64 tv, .slice AwN nn cwN, .slice AwQ qn cwQ] 28) = w5 at *
    refine (toRows_any v A n c ns B m d bs G p g gs _ gN gB gG big1 big2 big3).mono ?_
    rintro e w6 ⟨AxN, cxN, AxB, cxB, AxG, cxG, rfl, oxN, oxB, oxG, s_xN_xB, s_xN_xG, s_xB_xG, b⟩
    clear pA0 pA1 pA2 pA3
    have s_wN_xN := sepD owN.cc oxN.cc
    have s_wN_xB := sepD owN.cc oxB.cc
    have s_wN_xG := sepD owN.cc oxG.cc
    have s_wQ_xN := sepD owQ.cc oxN.cc
    have s_wQ_xB := sepD owQ.cc oxB.cc
    have s_wQ_xG := sepD owQ.cc oxG.cc
    have t_xN_A := Lib.hid (fun ad (ha : AxN = some ad) => (show ad.block ≠ w.heap.size from by have h2 := (oxN.lt ha).1; have h3 := KA.out.lt; omega))
    have t_xN_W := Lib.hid (fun ad (ha : AxN = some ad) => (show ad.block ≠ w4.heap.size from by have h2 := (oxN.lt ha).1; have h3 := KW.out.lt; omega))
    replace oxN := oxN.low bb.size
    have t_xB_A := Lib.hid (fun ad (ha : AxB = some ad) => (show ad.block ≠ w.heap.size from by have h2 := (oxB.lt ha).1; have h3 := KA.out.lt; omega))
    have t_xB_W := Lib.hid (fun ad (ha : AxB = some ad) => (show ad.block ≠ w4.heap.size from by have h2 := (oxB.lt ha).1; have h3 := KW.out.lt; omega))
    replace oxB := oxB.low bb.size
    have t_xG_A := Lib.hid (fun ad (ha : AxG = some ad) => (show ad.block ≠ w.heap.size from by have h2 := (oxG.lt ha).1; have h3 := KA.out.lt; omega))
    have t_xG_W := Lib.hid (fun ad (ha : AxG = some ad) => (show ad.block ≠ w4.heap.size from by have h2 := (oxG.lt ha).1; have h3 := KW.out.lt; omega))
    replace oxG := oxG.low bb.size
    replace owN := owN.below b
    replace owQ := owQ.below b
    replace KA := Lib.hid (KA.out.ext b)
    replace KW := Lib.hid (KW.out.ext b)
    replace gN := gN.below b
    replace gB := gB.below b
    replace gG := gG.below b
    replace bb := ext_trans bb b
    clear b
    have t_wN_X := Lib.hid (fun ad (ha : AwN = some ad) => (show ad.block ≠ w6.heap.size from by have h2 := (owN.lt ha).2; omega))
    have t_wQ_X := Lib.hid (fun ad (ha : AwQ = some ad) => (show ad.block ≠ w6.heap.size from by have h2 := (owQ.lt ha).2; omega))
    have t_xN_X := Lib.hid (fun ad (ha : AxN = some ad) => (show ad.block ≠ w6.heap.size from by have h2 := (oxN.lt ha).2; omega))
    have t_xB_X := Lib.hid (fun ad (ha : AxB = some ad) => (show ad.block ≠ w6.heap.size from by have h2 := (oxB.lt ha).2; omega))
    have t_xG_X := Lib.hid (fun ad (ha : AxG = some ad) => (show ad.block ≠ w6.heap.size from by have h2 := (oxG.lt ha).2; omega))
    replace owN := owN.alloc (.cells #[.int .i64 v, .slice AxN n cxN, .slice AxB m cxB, .slice AxG p cxG] 31)
    replace owQ := owQ.alloc (.cells #[.int .i64 v, .slice AxN n cxN, .slice AxB m cxB, .slice AxG p cxG] 31)
    replace oxN := oxN.alloc (.cells #[.int .i64 v, .slice AxN n cxN, .slice AxB m cxB, .slice AxG p cxG] 31)
    replace oxB := oxB.alloc (.cells #[.int .i64 v, .slice AxN n cxN, .slice AxB m cxB, .slice AxG p cxG] 31)
    replace oxG := oxG.alloc (.cells #[.int .i64 v, .slice AxN n cxN, .slice AxB m cxB, .slice AxG p cxG] 31)
    replace KA := Lib.hid (KA.out.alloc (.cells #[.int .i64 v, .slice AxN n cxN, .slice AxB m cxB, .slice AxG p cxG] 31))
    replace KW := Lib.hid (KW.out.alloc (.cells #[.int .i64 v, .slice AxN n cxN, .slice AxB m cxB, .slice AxG p cxG] 31))
    have KX := Lib.hid (Blk.new w6 31 #[.int .i64 v, .slice AxN n cxN, .slice AxB m cxB, .slice AxG p cxG])
    replace gN := gN.alloc (.cells #[.int .i64 v, .slice AxN n cxN, .slice AxB m cxB, .slice AxG p cxG] 31)
    replace gB := gB.alloc (.cells #[.int .i64 v, .slice AxN n cxN, .slice AxB m cxB, .slice AxG p cxG] 31)
    replace gG := gG.alloc (.cells #[.int .i64 v, .slice AxN n cxN, .slice AxB m cxB, .slice AxG p cxG] 31)
    replace bb := bb.alloc bb.size (.cells #[.int .i64 v, .slice AxN n cxN, .slice AxB m cxB, .slice AxG p cxG] 31)
    have pX0 := (KX.out.cell 0).trans (show _ = some (Value.int .i64 v) from rfl)
    have pX1 := (KX.out.cell 1).trans (show _ = some (Value.slice AxN n cxN) from rfl)
    have pX2 := (KX.out.cell 2).trans (show _ = some (Value.slice AxB m cxB) from rfl)
    have pX3 := (KX.out.cell 3).trans (show _ = some (Value.slice AxG p cxG) from rfl)
    go_wp2_with fail
    generalize w6.alloc (.cells #[.int .i64 v, .slice AxN n cxN, .slice AxB m cxB, .slice AxG p cxG] 31) = w7 at *
    refine (implTableOf_r v AxN n cxN ns AxB m cxB bs AxG p cxG gs _ oxN.flts oxB.flts oxG.flts HMN.out HMB.out HMG.out oxN.cap2).mono ?_
    rw [← HTV.out, ← HTN.out, ← HTQ.out, ← HTB.out]
    rintro e w8 ⟨AgN, ng, cgN, AgQ, qg, cgQ, rfl, ogN, ogQ, b⟩
    obtain rfl : nn = ng := by rw [HNN.out]; exact ogN.len
    obtain rfl : qn = qg := by rw [HQN.out]; exact ogQ.len
    have s_gN_gQ := own_neF ogN ogQ.cc (by decide)
    clear pX0 pX1 pX2 pX3
    have s_wN_gN := sepD owN.cc ogN.cc
    have s_wN_gQ := sepD owN.cc ogQ.cc
    have s_wQ_gN := sepD owQ.cc ogN.cc
    have s_wQ_gQ := sepD owQ.cc ogQ.cc
    have s_xN_gN := sepD oxN.cc ogN.cc
    have s_xN_gQ := sepD oxN.cc ogQ.cc
    have s_xB_gN := sepD oxB.cc ogN.cc
    have s_xB_gQ := sepD oxB.cc ogQ.cc
    have s_xG_gN := sepD oxG.cc ogN.cc
    have s_xG_gQ := sepD oxG.cc ogQ.cc
    have t_gN_A := Lib.hid (fun ad (ha : AgN = some ad) => (show ad.block ≠ w.heap.size from by have h2 := (ogN.lt ha).1; have h3 := KA.out.lt; omega))
    have t_gN_W := Lib.hid (fun ad (ha : AgN = some ad) => (show ad.block ≠ w4.heap.size from by have h2 := (ogN.lt ha).1; have h3 := KW.out.lt; omega))
    have t_gN_X := Lib.hid (fun ad (ha : AgN = some ad) => (show ad.block ≠ w6.heap.size from by have h2 := (ogN.lt ha).1; have h3 := KX.out.lt; omega))
    replace ogN := ogN.low bb.size
    have t_gQ_A := Lib.hid (fun ad (ha : AgQ = some ad) => (show ad.block ≠ w.heap.size from by have h2 := (ogQ.lt ha).1; have h3 := KA.out.lt; omega))
    have t_gQ_W := Lib.hid (fun ad (ha : AgQ = some ad) => (show ad.block ≠ w4.heap.size from by have h2 := (ogQ.lt ha).1; have h3 := KW.out.lt; omega))
    have t_gQ_X := Lib.hid (fun ad (ha : AgQ = some ad) => (show ad.block ≠ w6.heap.size from by have h2 := (ogQ.lt ha).1; have h3 := KX.out.lt; omega))
    replace ogQ := ogQ.low bb.size
    replace owN := owN.below b
    replace owQ := owQ.below b
    replace oxN := oxN.below b
    replace oxB := oxB.below b
    replace oxG := oxG.below b
    replace KA := Lib.hid (KA.out.ext b)
    replace KW := Lib.hid (KW.out.ext b)
    replace KX := Lib.hid (KX.out.ext b)
    replace gN := gN.below b
    replace gB := gB.below b
    replace gG := gG.below b
    replace bb := ext_trans bb b
    clear b
    have t_wN_G := Lib.hid (fun ad (ha : AwN = some ad) => (show ad.block ≠ w8.heap.size from by have h2 := (owN.lt ha).2; omega))
    have t_wQ_G := Lib.hid (fun ad (ha : AwQ = some ad) => (show ad.block ≠ w8.heap.size from by have h2 := (owQ.lt ha).2; omega))
    have t_xN_G := Lib.hid (fun ad (ha : AxN = some ad) => (show ad.block ≠ w8.heap.size from by have h2 := (oxN.lt ha).2; omega))
    have t_xB_G := Lib.hid (fun ad (ha : AxB = some ad) => (show ad.block ≠ w8.heap.size from by have h2 := (oxB.lt ha).2; omega))
    have t_xG_G := Lib.hid (fun ad (ha : AxG = some ad) => (show ad.block ≠ w8.heap.size from by have h2 := (oxG.lt ha).2; omega))
    have t_gN_G := Lib.hid (fun ad (ha : AgN = some ad) => (show ad.block ≠ w8.heap.size from by have h2 := (ogN.lt ha).2; omega))
    have t_gQ_G := Lib.hid (fun ad (ha : AgQ = some ad) => (show ad.block ≠ w8.heap.size from by have h2 := (ogQ.lt ha).2; omega))
    replace owN := owN.alloc (.cells #[.int .i64 tv, .slice AgN nn cgN, .slice AgQ qn cgQ] 28)
    replace owQ := owQ.alloc (.cells #[.int .i64 tv, .slice AgN nn cgN, .slice AgQ qn cgQ] 28)
    replace oxN := oxN.alloc (.cells #[.int .i64 tv, .slice AgN nn cgN, .slice AgQ qn cgQ] 28)
    replace oxB := oxB.alloc (.cells #[.int .i64 tv, .slice AgN nn cgN, .slice AgQ qn cgQ] 28)
    replace oxG := oxG.alloc (.cells #[.int .i64 tv, .slice AgN nn cgN, .slice AgQ qn cgQ] 28)
    replace ogN := ogN.alloc (.cells #[.int .i64 tv, .slice AgN nn cgN, .slice AgQ qn cgQ] 28)
    replace ogQ := ogQ.alloc (.cells #[.int .i64 tv, .slice AgN nn cgN, .slice AgQ qn cgQ] 28)
    replace KA := Lib.hid (KA.out.alloc (.cells #[.int .i64 tv, .slice AgN nn cgN, .slice AgQ qn cgQ] 28))
    replace KW := Lib.hid (KW.out.alloc (.cells #[.int .i64 tv, .slice AgN nn cgN, .slice AgQ qn cgQ] 28))
    replace KX := Lib.hid (KX.out.alloc (.cells #[.int .i64 tv, .slice AgN nn cgN, .slice AgQ qn cgQ] 28))
    have KG := Lib.hid (Blk.new w8 28 #[.int .i64 tv, .slice AgN nn cgN, .slice AgQ qn cgQ])
    replace gN := gN.alloc (.cells #[.int .i64 tv, .slice AgN nn cgN, .slice AgQ qn cgQ] 28)
    replace gB := gB.alloc (.cells #[.int .i64 tv, .slice AgN nn cgN, .slice AgQ qn cgQ] 28)
    replace gG := gG.alloc (.cells #[.int .i64 tv, .slice AgN nn cgN, .slice AgQ qn cgQ] 28)
    replace bb := bb.alloc bb.size (.cells #[.int .i64 tv, .slice AgN nn cgN, .slice AgQ qn cgQ] 28)
    have pG0 := (KG.out.cell 0).trans (show _ = some (Value.int .i64 tv) from rfl)
    have pG1 := (KG.out.cell 1).trans (show _ = some (Value.slice AgN nn cgN) from rfl)
    have pG2 := (KG.out.cell 2).trans (show _ = some (Value.slice AgQ qn cgQ) from rfl)
    have pW0 := (KW.out.cell 0).trans (show _ = some (Value.int .i64 tv) from rfl)
    have pW1 := (KW.out.cell 1).trans (show _ = some (Value.slice AwN nn cwN) from rfl)
    have pW2 := (KW.out.cell 2).trans (show _ = some (Value.slice AwQ qn cwQ) from rfl)
    go_wp2_with fail
    generalize w8.alloc (.cells #[.int .i64 tv, .slice AgN nn cgN, .slice AgQ qn cgQ] 28) = w9 at *
    refine (eqTable_same tv AgN nn cgN tn AgQ qn cgQ tq AwN cwN AwQ cwQ _ ogN.flts ogQ.ints owN.flts owQ.ints (by unfold maxLen; omega) (by unfold maxLen; omega)).mono ?_
    rintro e w10 ⟨rfl, b⟩
    clear pG0 pG1 pG2 pW0 pW1 pW2
    replace owN := owN.below b
    replace owQ := owQ.below b
    replace oxN := oxN.below b
    replace oxB := oxB.below b
    replace oxG := oxG.below b
    replace ogN := ogN.below b
    replace ogQ := ogQ.below b
    replace KA := Lib.hid (KA.out.ext b)
    replace KW := Lib.hid (KW.out.ext b)
    replace KX := Lib.hid (KX.out.ext b)
    replace KG := Lib.hid (KG.out.ext b)
    replace gN := gN.below b
    replace gB := gB.below b
    replace gG := gG.below b
    replace bb := ext_trans bb b
    clear b
    have pX0 := (KX.out.cell 0).trans (show _ = some (Value.int .i64 v) from rfl)
    have pX1 := (KX.out.cell 1).trans (show _ = some (Value.slice AxN n cxN) from rfl)
    have pX2 := (KX.out.cell 2).trans (show _ = some (Value.slice AxB m cxB) from rfl)
    have pX3 := (KX.out.cell 3).trans (show _ = some (Value.slice AxG p cxG) from rfl)
    have pA0 := (KA.out.cell 0).trans (show _ = some (Value.int .i64 v) from rfl)
    have pA1 := (KA.out.cell 1).trans (show _ = some (Value.slice A n c) from rfl)
    have pA2 := (KA.out.cell 2).trans (show _ = some (Value.slice B m d) from rfl)
    have pA3 := (KA.out.cell 3).trans (show _ = some (Value.slice G p g) from rfl)
    go_wp2_with fail
    go_cut [45] (fun sx wx => sx = .bool false ∧ Below w10.heap.size w10 wx)
    case first =>
      go_region_with (first | (go_at_call 12; refine (toRows_any v A n c ns B m d bs G p g gs _ gN.drew gB.drew gG.drew big1 big2 big3).mono ?_; rintro e w7 ⟨A3, c3, A4, c4, A5, c5, rfl, o3, o4, o5, _, _, _, b⟩; have kx := KX.out.drew.ext b; have q0 := kx.cell 0; have q1 := kx.cell 1; have q2 := kx.cell 2; have q3 := kx.cell 3; clear kx) | (go_at_call 15; refine (eqRows_same v AxN n cxN ns AxB m cxB bs AxG p cxG gs A3 c3 A4 c4 A5 c5 _ (oxN.drew.below b).flts (oxB.drew.below b).flts (oxG.drew.below b).flts o3.flts o4.flts o5.flts HMN.out HMB.out HMG.out).mono ?_; rintro e w8 ⟨rfl, b8⟩))
      all_goals
        go_wp2_with fail
        go_meet
        exact ⟨rfl, ext_trans (ext_trans (Below.drew (Below.refl _ _)) b) b8⟩
    case rest =>
      obtain ⟨rfl, b⟩ := hcut
      clear pX0 pX1 pX2 pX3 pA0 pA1 pA2 pA3
      replace owN := owN.below b
      replace owQ := owQ.below b
      replace oxN := oxN.below b
      replace oxB := oxB.below b
      replace oxG := oxG.below b
      replace ogN := ogN.below b
      replace ogQ := ogQ.below b
      replace KA := Lib.hid (KA.out.ext b)
      replace KW := Lib.hid (KW.out.ext b)
      replace KX := Lib.hid (KX.out.ext b)
      replace KG := Lib.hid (KG.out.ext b)
      replace gN := gN.below b
      replace gB := gB.below b
      replace gG := gG.below b
      replace bb := ext_trans bb b
      clear b
      have pX0 := (KX.out.cell 0).trans (show _ = some (Value.int .i64 v) from rfl)
      have pX1 := (KX.out.cell 1).trans (show _ = some (Value.slice AxN n cxN) from rfl)
      have pX2 := (KX.out.cell 2).trans (show _ = some (Value.slice AxB m cxB) from rfl)
      have pX3 := (KX.out.cell 3).trans (show _ = some (Value.slice AxG p cxG) from rfl)
      go_wp2_with fail
      refine (markRows_any _ v AxN n cxN ns AxB m cxB bs AxG p cxG gs 1 _ oxN oxB oxG s_xN_xB s_xN_xG s_xB_xG (by omega)).mono ?_
      rintro e w11 ⟨rfl, u⟩
      clear pX0 pX1 pX2 pX3
      replace bb := bb.trans (u.toBelow bb.size (fun k hk hb => by
        rcases hb with ⟨x, h1, h2⟩ | ⟨x, h1, h2⟩ | ⟨x, h1, h2⟩
        · have h3 := (oxN.lt h1).1; omega
        · have h3 := (oxB.lt h1).1; omega
        · have h3 := (oxG.lt h1).1; omega))
      replace owN := owN.upd u (fun ad ha hb => by
        rcases hb with ⟨x, h1, h2⟩ | ⟨x, h1, h2⟩ | ⟨x, h1, h2⟩
        · exact s_wN_xN.symm x ad h1 ha h2
        · exact s_wN_xB.symm x ad h1 ha h2
        · exact s_wN_xG.symm x ad h1 ha h2)
      replace owQ := owQ.upd u (fun ad ha hb => by
        rcases hb with ⟨x, h1, h2⟩ | ⟨x, h1, h2⟩ | ⟨x, h1, h2⟩
        · exact s_wQ_xN.symm x ad h1 ha h2
        · exact s_wQ_xB.symm x ad h1 ha h2
        · exact s_wQ_xG.symm x ad h1 ha h2)
      replace ogN := ogN.upd u (fun ad ha hb => by
        rcases hb with ⟨x, h1, h2⟩ | ⟨x, h1, h2⟩ | ⟨x, h1, h2⟩
        · exact s_xN_gN x ad h1 ha h2
        · exact s_xB_gN x ad h1 ha h2
        · exact s_xG_gN x ad h1 ha h2)
      replace ogQ := ogQ.upd u (fun ad ha hb => by
        rcases hb with ⟨x, h1, h2⟩ | ⟨x, h1, h2⟩ | ⟨x, h1, h2⟩
        · exact s_xN_gQ x ad h1 ha h2
        · exact s_xB_gQ x ad h1 ha h2
        · exact s_xG_gQ x ad h1 ha h2)
      replace KA := Lib.hid (KA.out.upd u (by
        rintro (⟨x, h1, h2⟩ | ⟨x, h1, h2⟩ | ⟨x, h1, h2⟩)
        · exact t_xN_A.out x h1 h2
        · exact t_xB_A.out x h1 h2
        · exact t_xG_A.out x h1 h2))
      replace KW := Lib.hid (KW.out.upd u (by
        rintro (⟨x, h1, h2⟩ | ⟨x, h1, h2⟩ | ⟨x, h1, h2⟩)
        · exact t_xN_W.out x h1 h2
        · exact t_xB_W.out x h1 h2
        · exact t_xG_W.out x h1 h2))
      replace KX := Lib.hid (KX.out.upd u (by
        rintro (⟨x, h1, h2⟩ | ⟨x, h1, h2⟩ | ⟨x, h1, h2⟩)
        · exact t_xN_X.out x h1 h2
        · exact t_xB_X.out x h1 h2
        · exact t_xG_X.out x h1 h2))
      replace KG := Lib.hid (KG.out.upd u (by
        rintro (⟨x, h1, h2⟩ | ⟨x, h1, h2⟩ | ⟨x, h1, h2⟩)
        · exact t_xN_G.out x h1 h2
        · exact t_xB_G.out x h1 h2
        · exact t_xG_G.out x h1 h2))
      clear gN gB gG
      have gN := hN.below bb
      have gB := hB.below bb
      have gG := hG.below bb
      clear u
      clear oxN
      clear oxB
      clear oxG
      have hk1 : ¬ (((1 + n + m + p : Nat) : Int) < 0) := by omega
      have pG0 := (KG.out.cell 0).trans (show _ = some (Value.int .i64 tv) from rfl)
      have pG1 := (KG.out.cell 1).trans (show _ = some (Value.slice AgN nn cgN) from rfl)
      have pG2 := (KG.out.cell 2).trans (show _ = some (Value.slice AgQ qn cgQ) from rfl)
      have pW0 := (KW.out.cell 0).trans (show _ = some (Value.int .i64 tv) from rfl)
      have pW1 := (KW.out.cell 1).trans (show _ = some (Value.slice AwN nn cwN) from rfl)
      have pW2 := (KW.out.cell 2).trans (show _ = some (Value.slice AwQ qn cwQ) from rfl)
      go_wp2_with fail
      refine (eqTable_same tv AgN nn cgN tn AgQ qn cgQ tq AwN cwN AwQ cwQ _ ogN.flts ogQ.ints owN.flts owQ.ints (by unfold maxLen; omega) (by unfold maxLen; omega)).mono ?_
      rintro e w12 ⟨rfl, b⟩
      clear pG0 pG1 pG2 pW0 pW1 pW2
      replace owN := owN.below b
      replace owQ := owQ.below b
      replace ogN := ogN.below b
      replace ogQ := ogQ.below b
      replace KA := Lib.hid (KA.out.ext b)
      replace KW := Lib.hid (KW.out.ext b)
      replace KX := Lib.hid (KX.out.ext b)
      replace KG := Lib.hid (KG.out.ext b)
      replace gN := gN.below b
      replace gB := gB.below b
      replace gG := gG.below b
      replace bb := ext_trans bb b
      clear b
      have pG0 := (KG.out.cell 0).trans (show _ = some (Value.int .i64 tv) from rfl)
      have pG1 := (KG.out.cell 1).trans (show _ = some (Value.slice AgN nn cgN) from rfl)
      have pG2 := (KG.out.cell 2).trans (show _ = some (Value.slice AgQ qn cgQ) from rfl)
      go_wp2_with fail
      refine (markTable_any _ tv AgN nn cgN tn AgQ qn cgQ tq 1 _ ogN ogQ s_gN_gQ (by omega)).mono ?_
      rintro e w13 ⟨rfl, o1, o2, u⟩
      clear pG0 pG1 pG2
      replace bb := bb.trans (u.toBelow bb.size (fun k hk hb => by
        rcases hb with ⟨x, h1, h2⟩ | ⟨x, h1, h2⟩
        · have h3 := (ogN.lt h1).1; omega
        · have h3 := (ogQ.lt h1).1; omega))
      replace owN := owN.upd u (fun ad ha hb => by
        rcases hb with ⟨x, h1, h2⟩ | ⟨x, h1, h2⟩
        · exact s_wN_gN.symm x ad h1 ha h2
        · exact s_wN_gQ.symm x ad h1 ha h2)
      replace owQ := owQ.upd u (fun ad ha hb => by
        rcases hb with ⟨x, h1, h2⟩ | ⟨x, h1, h2⟩
        · exact s_wQ_gN.symm x ad h1 ha h2
        · exact s_wQ_gQ.symm x ad h1 ha h2)
      replace KA := Lib.hid (KA.out.upd u (by
        rintro (⟨x, h1, h2⟩ | ⟨x, h1, h2⟩)
        · exact t_gN_A.out x h1 h2
        · exact t_gQ_A.out x h1 h2))
      replace KW := Lib.hid (KW.out.upd u (by
        rintro (⟨x, h1, h2⟩ | ⟨x, h1, h2⟩)
        · exact t_gN_W.out x h1 h2
        · exact t_gQ_W.out x h1 h2))
      replace KX := Lib.hid (KX.out.upd u (by
        rintro (⟨x, h1, h2⟩ | ⟨x, h1, h2⟩)
        · exact t_gN_X.out x h1 h2
        · exact t_gQ_X.out x h1 h2))
      replace KG := Lib.hid (KG.out.upd u (by
        rintro (⟨x, h1, h2⟩ | ⟨x, h1, h2⟩)
        · exact t_gN_G.out x h1 h2
        · exact t_gQ_G.out x h1 h2))
      clear gN gB gG
      have gN := hN.below bb
      have gB := hB.below bb
      have gG := hG.below bb
      clear u ogN ogQ
      have ogN := o1
      have ogQ := o2
      clear o1 o2
      have hk2 : ¬ (((1 + nn + qn : Nat) : Int) < 0) := by omega
      have pG0 := (KG.out.cell 0).trans (show _ = some (Value.int .i64 tv) from rfl)
      have pG1 := (KG.out.cell 1).trans (show _ = some (Value.slice AgN nn cgN) from rfl)
      have pG2 := (KG.out.cell 2).trans (show _ = some (Value.slice AgQ qn cgQ) from rfl)
      go_wp2_with fail
      refine (heldTable_any tv AgN nn cgN AgQ qn cgQ 1 _ ogN.flts ogQ.ints (by omega)).mono ?_
      rintro e w14 ⟨rfl, b⟩
      clear pG0 pG1 pG2
      replace owN := owN.below b
      replace owQ := owQ.below b
      replace ogN := ogN.below b
      replace ogQ := ogQ.below b
      replace KA := Lib.hid (KA.out.ext b)
      replace KW := Lib.hid (KW.out.ext b)
      replace KX := Lib.hid (KX.out.ext b)
      replace KG := Lib.hid (KG.out.ext b)
      replace gN := gN.below b
      replace gB := gB.below b
      replace gG := gG.below b
      replace bb := ext_trans bb b
      clear b
      have pA0 := (KA.out.cell 0).trans (show _ = some (Value.int .i64 v) from rfl)
      have pA1 := (KA.out.cell 1).trans (show _ = some (Value.slice A n c) from rfl)
      have pA2 := (KA.out.cell 2).trans (show _ = some (Value.slice B m d) from rfl)
      have pA3 := (KA.out.cell 3).trans (show _ = some (Value.slice G p g) from rfl)
      go_wp2_with fail
      refine (toRows_any v A n c ns B m d bs G p g gs _ gN gB gG big1 big2 big3).mono ?_
      rintro e w15 ⟨AqN, cqN, AqB, cqB, AqG, cqG, rfl, oqN, oqB, oqG, s_qN_qB, s_qN_qG, s_qB_qG, b⟩
      clear pA0 pA1 pA2 pA3
      have s_wN_qN := sepD owN.cc oqN.cc
      have s_wN_qB := sepD owN.cc oqB.cc
      have s_wN_qG := sepD owN.cc oqG.cc
      have s_wQ_qN := sepD owQ.cc oqN.cc
      have s_wQ_qB := sepD owQ.cc oqB.cc
      have s_wQ_qG := sepD owQ.cc oqG.cc
      have s_gN_qN := sepD ogN.cc oqN.cc
      have s_gN_qB := sepD ogN.cc oqB.cc
      have s_gN_qG := sepD ogN.cc oqG.cc
      have s_gQ_qN := sepD ogQ.cc oqN.cc
      have s_gQ_qB := sepD ogQ.cc oqB.cc
      have s_gQ_qG := sepD ogQ.cc oqG.cc
      have t_qN_A := Lib.hid (fun ad (ha : AqN = some ad) => (show ad.block ≠ w.heap.size from by have h2 := (oqN.lt ha).1; have h3 := KA.out.lt; omega))
      have t_qN_W := Lib.hid (fun ad (ha : AqN = some ad) => (show ad.block ≠ w4.heap.size from by have h2 := (oqN.lt ha).1; have h3 := KW.out.lt; omega))
      have t_qN_X := Lib.hid (fun ad (ha : AqN = some ad) => (show ad.block ≠ w6.heap.size from by have h2 := (oqN.lt ha).1; have h3 := KX.out.lt; omega))
      have t_qN_G := Lib.hid (fun ad (ha : AqN = some ad) => (show ad.block ≠ w8.heap.size from by have h2 := (oqN.lt ha).1; have h3 := KG.out.lt; omega))
      replace oqN := oqN.low bb.size
      have t_qB_A := Lib.hid (fun ad (ha : AqB = some ad) => (show ad.block ≠ w.heap.size from by have h2 := (oqB.lt ha).1; have h3 := KA.out.lt; omega))
      have t_qB_W := Lib.hid (fun ad (ha : AqB = some ad) => (show ad.block ≠ w4.heap.size from by have h2 := (oqB.lt ha).1; have h3 := KW.out.lt; omega))
      have t_qB_X := Lib.hid (fun ad (ha : AqB = some ad) => (show ad.block ≠ w6.heap.size from by have h2 := (oqB.lt ha).1; have h3 := KX.out.lt; omega))
      have t_qB_G := Lib.hid (fun ad (ha : AqB = some ad) => (show ad.block ≠ w8.heap.size from by have h2 := (oqB.lt ha).1; have h3 := KG.out.lt; omega))
      replace oqB := oqB.low bb.size
      have t_qG_A := Lib.hid (fun ad (ha : AqG = some ad) => (show ad.block ≠ w.heap.size from by have h2 := (oqG.lt ha).1; have h3 := KA.out.lt; omega))
      have t_qG_W := Lib.hid (fun ad (ha : AqG = some ad) => (show ad.block ≠ w4.heap.size from by have h2 := (oqG.lt ha).1; have h3 := KW.out.lt; omega))
      have t_qG_X := Lib.hid (fun ad (ha : AqG = some ad) => (show ad.block ≠ w6.heap.size from by have h2 := (oqG.lt ha).1; have h3 := KX.out.lt; omega))
      have t_qG_G := Lib.hid (fun ad (ha : AqG = some ad) => (show ad.block ≠ w8.heap.size from by have h2 := (oqG.lt ha).1; have h3 := KG.out.lt; omega))
      replace oqG := oqG.low bb.size
      replace owN := owN.below b
      replace owQ := owQ.below b
      replace ogN := ogN.below b
      replace ogQ := ogQ.below b
      replace KA := Lib.hid (KA.out.ext b)
      replace KW := Lib.hid (KW.out.ext b)
      replace KX := Lib.hid (KX.out.ext b)
      replace KG := Lib.hid (KG.out.ext b)
      replace gN := gN.below b
      replace gB := gB.below b
      replace gG := gG.below b
      replace bb := ext_trans bb b
      clear b
      go_wp2_with fail
      refine (implTableOf_r v AqN n cqN ns AqB m cqB bs AqG p cqG gs _ oqN.flts oqB.flts oqG.flts HMN.out HMB.out HMG.out oqN.cap2).mono ?_
      rw [← HTV.out, ← HTN.out, ← HTQ.out, ← HTB.out]
      rintro e w16 ⟨AhN, nh, chN, AhQ, qh, chQ, rfl, ohN, ohQ, b⟩
      obtain rfl : nn = nh := by rw [HNN.out]; exact ohN.len
      obtain rfl : qn = qh := by rw [HQN.out]; exact ohQ.len
      have s_hN_hQ := own_neF ohN ohQ.cc (by decide)
      have s_wN_hN := sepD owN.cc ohN.cc
      have s_wN_hQ := sepD owN.cc ohQ.cc
      have s_wQ_hN := sepD owQ.cc ohN.cc
      have s_wQ_hQ := sepD owQ.cc ohQ.cc
      have s_gN_hN := sepD ogN.cc ohN.cc
      have s_gN_hQ := sepD ogN.cc ohQ.cc
      have s_gQ_hN := sepD ogQ.cc ohN.cc
      have s_gQ_hQ := sepD ogQ.cc ohQ.cc
      have s_qN_hN := sepD oqN.cc ohN.cc
      have s_qN_hQ := sepD oqN.cc ohQ.cc
      have s_qB_hN := sepD oqB.cc ohN.cc
      have s_qB_hQ := sepD oqB.cc ohQ.cc
      have s_qG_hN := sepD oqG.cc ohN.cc
      have s_qG_hQ := sepD oqG.cc ohQ.cc
      have t_hN_A := Lib.hid (fun ad (ha : AhN = some ad) => (show ad.block ≠ w.heap.size from by have h2 := (ohN.lt ha).1; have h3 := KA.out.lt; omega))
      have t_hN_W := Lib.hid (fun ad (ha : AhN = some ad) => (show ad.block ≠ w4.heap.size from by have h2 := (ohN.lt ha).1; have h3 := KW.out.lt; omega))
      have t_hN_X := Lib.hid (fun ad (ha : AhN = some ad) => (show ad.block ≠ w6.heap.size from by have h2 := (ohN.lt ha).1; have h3 := KX.out.lt; omega))
      have t_hN_G := Lib.hid (fun ad (ha : AhN = some ad) => (show ad.block ≠ w8.heap.size from by have h2 := (ohN.lt ha).1; have h3 := KG.out.lt; omega))
      replace ohN := ohN.low bb.size
      have t_hQ_A := Lib.hid (fun ad (ha : AhQ = some ad) => (show ad.block ≠ w.heap.size from by have h2 := (ohQ.lt ha).1; have h3 := KA.out.lt; omega))
      have t_hQ_W := Lib.hid (fun ad (ha : AhQ = some ad) => (show ad.block ≠ w4.heap.size from by have h2 := (ohQ.lt ha).1; have h3 := KW.out.lt; omega))
      have t_hQ_X := Lib.hid (fun ad (ha : AhQ = some ad) => (show ad.block ≠ w6.heap.size from by have h2 := (ohQ.lt ha).1; have h3 := KX.out.lt; omega))
      have t_hQ_G := Lib.hid (fun ad (ha : AhQ = some ad) => (show ad.block ≠ w8.heap.size from by have h2 := (ohQ.lt ha).1; have h3 := KG.out.lt; omega))
      replace ohQ := ohQ.low bb.size
      replace owN := owN.below b
      replace owQ := owQ.below b
      replace ogN := ogN.below b
      replace ogQ := ogQ.below b
      replace oqN := oqN.below b
      replace oqB := oqB.below b
      replace oqG := oqG.below b
      replace KA := Lib.hid (KA.out.ext b)
      replace KW := Lib.hid (KW.out.ext b)
      replace KX := Lib.hid (KX.out.ext b)
      replace KG := Lib.hid (KG.out.ext b)
      replace gN := gN.below b
      replace gB := gB.below b
      replace gG := gG.below b
      replace bb := ext_trans bb b
      clear b
      clear oqN
      clear oqB
      clear oqG
      have t_wN_H := Lib.hid (fun ad (ha : AwN = some ad) => (show ad.block ≠ w16.heap.size from by have h2 := (owN.lt ha).2; omega))
      have t_wQ_H := Lib.hid (fun ad (ha : AwQ = some ad) => (show ad.block ≠ w16.heap.size from by have h2 := (owQ.lt ha).2; omega))
      have t_gN_H := Lib.hid (fun ad (ha : AgN = some ad) => (show ad.block ≠ w16.heap.size from by have h2 := (ogN.lt ha).2; omega))
      have t_gQ_H := Lib.hid (fun ad (ha : AgQ = some ad) => (show ad.block ≠ w16.heap.size from by have h2 := (ogQ.lt ha).2; omega))
      have t_hN_H := Lib.hid (fun ad (ha : AhN = some ad) => (show ad.block ≠ w16.heap.size from by have h2 := (ohN.lt ha).2; omega))
      have t_hQ_H := Lib.hid (fun ad (ha : AhQ = some ad) => (show ad.block ≠ w16.heap.size from by have h2 := (ohQ.lt ha).2; omega))
      replace owN := owN.alloc (.cells #[.int .i64 tv, .slice AhN nn chN, .slice AhQ qn chQ] 28)
      replace owQ := owQ.alloc (.cells #[.int .i64 tv, .slice AhN nn chN, .slice AhQ qn chQ] 28)
      replace ogN := ogN.alloc (.cells #[.int .i64 tv, .slice AhN nn chN, .slice AhQ qn chQ] 28)
      replace ogQ := ogQ.alloc (.cells #[.int .i64 tv, .slice AhN nn chN, .slice AhQ qn chQ] 28)
      replace ohN := ohN.alloc (.cells #[.int .i64 tv, .slice AhN nn chN, .slice AhQ qn chQ] 28)
      replace ohQ := ohQ.alloc (.cells #[.int .i64 tv, .slice AhN nn chN, .slice AhQ qn chQ] 28)
      replace KA := Lib.hid (KA.out.alloc (.cells #[.int .i64 tv, .slice AhN nn chN, .slice AhQ qn chQ] 28))
      replace KW := Lib.hid (KW.out.alloc (.cells #[.int .i64 tv, .slice AhN nn chN, .slice AhQ qn chQ] 28))
      replace KX := Lib.hid (KX.out.alloc (.cells #[.int .i64 tv, .slice AhN nn chN, .slice AhQ qn chQ] 28))
      replace KG := Lib.hid (KG.out.alloc (.cells #[.int .i64 tv, .slice AhN nn chN, .slice AhQ qn chQ] 28))
      have KH := Lib.hid (Blk.new w16 28 #[.int .i64 tv, .slice AhN nn chN, .slice AhQ qn chQ])
      replace gN := gN.alloc (.cells #[.int .i64 tv, .slice AhN nn chN, .slice AhQ qn chQ] 28)
      replace gB := gB.alloc (.cells #[.int .i64 tv, .slice AhN nn chN, .slice AhQ qn chQ] 28)
      replace gG := gG.alloc (.cells #[.int .i64 tv, .slice AhN nn chN, .slice AhQ qn chQ] 28)
      replace bb := bb.alloc bb.size (.cells #[.int .i64 tv, .slice AhN nn chN, .slice AhQ qn chQ] 28)
      have pH0 := (KH.out.cell 0).trans (show _ = some (Value.int .i64 tv) from rfl)
      have pH1 := (KH.out.cell 1).trans (show _ = some (Value.slice AhN nn chN) from rfl)
      have pH2 := (KH.out.cell 2).trans (show _ = some (Value.slice AhQ qn chQ) from rfl)
      have pW0 := (KW.out.cell 0).trans (show _ = some (Value.int .i64 tv) from rfl)
      have pW1 := (KW.out.cell 1).trans (show _ = some (Value.slice AwN nn cwN) from rfl)
      have pW2 := (KW.out.cell 2).trans (show _ = some (Value.slice AwQ qn cwQ) from rfl)
      go_wp2_with fail
      generalize w16.alloc (.cells #[.int .i64 tv, .slice AhN nn chN, .slice AhQ qn chQ] 28) = w17 at *
      refine (eqTable_same tv AhN nn chN tn AhQ qn chQ tq AwN cwN AwQ cwQ _ ohN.flts ohQ.ints owN.flts owQ.ints (by unfold maxLen; omega) (by unfold maxLen; omega)).mono ?_
      rintro e w18 ⟨rfl, b⟩
      clear pH0 pH1 pH2 pW0 pW1 pW2
      replace owN := owN.below b
      replace owQ := owQ.below b
      replace ogN := ogN.below b
      replace ogQ := ogQ.below b
      replace ohN := ohN.below b
      replace ohQ := ohQ.below b
      replace KA := Lib.hid (KA.out.ext b)
      replace KW := Lib.hid (KW.out.ext b)
      replace KX := Lib.hid (KX.out.ext b)
      replace KG := Lib.hid (KG.out.ext b)
      replace KH := Lib.hid (KH.out.ext b)
      replace gN := gN.below b
      replace gB := gB.below b
      replace gG := gG.below b
      replace bb := ext_trans bb b
      clear b
      have pG0 := (KG.out.cell 0).trans (show _ = some (Value.int .i64 tv) from rfl)
      have pG1 := (KG.out.cell 1).trans (show _ = some (Value.slice AgN nn cgN) from rfl)
      have pG2 := (KG.out.cell 2).trans (show _ = some (Value.slice AgQ qn cgQ) from rfl)
      go_wp2_with fail
      refine (heldTable_any tv AgN nn cgN AgQ qn cgQ 1 _ ogN.flts ogQ.ints (by omega)).mono ?_
      rintro e w19 ⟨rfl, b⟩
      clear pG0 pG1 pG2
      replace owN := owN.below b
      replace owQ := owQ.below b
      replace ogN := ogN.below b
      replace ogQ := ogQ.below b
      replace ohN := ohN.below b
      replace ohQ := ohQ.below b
      replace KA := Lib.hid (KA.out.ext b)
      replace KW := Lib.hid (KW.out.ext b)
      replace KX := Lib.hid (KX.out.ext b)
      replace KG := Lib.hid (KG.out.ext b)
      replace KH := Lib.hid (KH.out.ext b)
      replace gN := gN.below b
      replace gB := gB.below b
      replace gG := gG.below b
      replace bb := ext_trans bb b
      clear b
      go_wp2
      go_ret
      exact ⟨rfl, (Below.refl w.heap.size w).trans bb⟩
  · go_enter Try.func3, Try.ntmps3
    have pA0 := (KA.out.cell 0).trans (show _ = some (Value.int .i64 v) from rfl)
    have pA1 := (KA.out.cell 1).trans (show _ = some (Value.slice A n c) from rfl)
    have pA2 := (KA.out.cell 2).trans (show _ = some (Value.slice B m d) from rfl)
    have pA3 := (KA.out.cell 3).trans (show _ = some (Value.slice G p g) from rfl)
    go_wp2_with fail
    generalize (w.alloc (.cells #[.int .i64 v, .slice A n c, .slice B m d, .slice G p g] 24)).alloc (.cells #[.int .i64 v, .slice A n c, .slice B m d, .slice G p g] 24) = w20 at *
    refine (szRows_no v A n c B m d G p g 1048576 _ (by omega) (by omega) (by omega) HMN.out HMB.out HMG.out).mono ?_
    rintro e w1 ⟨rfl, b⟩
    clear pA0 pA1 pA2 pA3
    replace bb := ext_trans bb b
    clear b
    go_wp2_with fail
    go_ret
    exact ⟨rfl, bb⟩
end Go.Proofs.Ytecpaagkhlidnaa
