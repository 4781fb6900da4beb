/- Sorting by insertion with the closure of impl.FirstBins$1 (written by gen_sort.py). -/
import Derived.Test.YthhkgeeomhhegaaSortB
namespace Go.Proofs.Ythhkgeeomhhegaa
open Go.RowKit

set_option maxRecDepth 100000 in
set_option maxHeartbeats 3200000 in
theorem insSort_F (A : Option Addr) (n c : Nat) (zs : List Int) (gS : Nat) (base g cg : Nat) (w : World) (h : IntsAt w A n zs) (k2 : Blk w gS 22 #[.slice A n c]) (sA : Sep A (some ⟨g, 0, none⟩)) (sS : gS ≠ g)
    (o : OwnI 2 base w (some ⟨g, 0, none⟩) n cg (seqI 0 n)) (hn1 : 1 ≤ n) (hn : n ≤ 16) :
    Calls Try.prog 64 #[.slice (some ⟨g, 0, none⟩) n cg, .int .i64 0, .int .i64 n, .func (.func 46) #[] #[.pointer (some ⟨gS, 0, none⟩)]] w fun e w' => e = .returned (.tuple #[]) ∧ OwnI 2 base w' (some ⟨g, 0, none⟩) n cg (ordTo (ltF zs) n) ∧ Upd (blk (some ⟨g, 0, none⟩)) w w' := by
  have HCALL := Lib.hid (show ∀ (a b : Nat) (w' : World) (q : Nat), a < n → b < n → Upd (blk (some ⟨g, 0, none⟩)) w w' → Calls Try.prog 46 #[.int .i64 a, .int .i64 b, .pointer (some ⟨gS, 0, none⟩)] (w'.drewN q) fun e w'' => e = .returned (.int .i64 (cvF zs a b)) ∧ ∃ m, w'' = w'.drewN m from fun a b w' q ha hb hu =>
    quiet_drew (byF_any A n c zs gS a b (w'.drewN q) (h.upd (hu.drewN q) fun ad e1 e2 => by obtain ⟨z, z1, z2⟩ := e2; injection z1 with z1; subst z1; exact sA ad _ e1 rfl z2.symm) ha hb (k2.upd (hu.drewN q) fun e2 => by obtain ⟨z, z1, z2⟩ := e2; injection z1 with z1; subst z1; exact sS z2.symm)))
  clear h k2 sA sS
  have HLT := Lib.hid (show ∀ a b : Int, decide (cvF zs a b < 0) = ltF zs a b from fun a b => cmpI_neg _ _)
  have HRG := Lib.hid (fun i (hi : i ≤ n) => ordS_rng (lt := ltF zs) hi)
  have HLE := Lib.hid (fun i (hi : i ≤ n) => ordS_len (ltF zs) hi)
  have HST := Lib.hid (fun i (hi : i < n) => ordS_step (lt := ltF zs) hi)
  rw [← ordS_one (lt := ltF zs) hn1] at o
  generalize hlt0 : ltF zs = lt at *
  generalize hcv0 : cvF zs = cv at *
  clear hlt0 hcv0
  go_enter Try.func64, Try.ntmps64
  go_wp2_with fail
  go_loopg [8] (n - 1) (fun r iv wr => ∃ (i : Nat), r = n - i ∧ 1 ≤ i ∧ i ≤ n ∧ iv = .int .i64 i ∧ OwnI 2 base wr (some ⟨g, 0, none⟩) n cg (ordS lt n i) ∧ Upd (blk (some ⟨g, 0, none⟩)) w wr)
  case atStart => exact ⟨1, rfl, Nat.le_refl _, hn1, rfl, o, Upd.refl _ _⟩
  case round =>
    clear o
    obtain ⟨i, hr, hi1, hi, rfl, o, hu⟩ := hrel
    have HRI := Lib.hid hr
    clear hr
    by_cases hli : i < n
    · have hli' : (i : Int) < (n : Int) := by omega
      have HS := Lib.hid (HST.out i hli)
      have HR0 := Lib.hid (HRG.out i hi)
      have HL0 := Lib.hid (HLE.out i hi)
      generalize ordS lt n i = zs0 at *
      go_wp2_with fail
      go_loopg [9] (i + 1) (fun r jv wr => ∃ (j : Nat) (cur : List Int), r = j + 1 ∧ j ≤ i ∧ jv = .int .i64 j ∧ OwnI 2 base wr (some ⟨g, 0, none⟩) n cg cur ∧ Upd (blk (some ⟨g, 0, none⟩)) w wr ∧ Hid (insD lt j cur = insD lt i zs0) ∧ Hid (RngL cur n) ∧ Hid (cur.length = n))
      case atStart => exact ⟨i, zs0, rfl, Nat.le_refl _, rfl, o, hu, Lib.hid rfl, HR0, HL0⟩
      case round =>
        clear o hu
        obtain ⟨j, cur, hr, hj, rfl, o, hu, HI, HR, HL⟩ := hrel
        have HRJ := Lib.hid hr
        clear hr
        cases j with
        | zero =>
          have HE := Lib.hid (show cur = insD lt i zs0 from HI.out)
          go_wp2_with go_quiet (fail)
          go_roundg (n - (i + 1))
          case measure => rw [HRI.out]; omega
          case rel => exact ⟨i + 1, rfl, by omega, by omega, by go_num, by rw [← HS.out, ← HE.out]; first | exact o | exact OwnI.drewN o _, by first | exact hu | exact hu.drewN _⟩
        | succ k =>
          obtain ⟨a, ha, ha2⟩ := HR.out (k + 1) (by rw [HL.out]; omega)
          obtain ⟨b, hb, hb2⟩ := HR.out k (by rw [HL.out]; omega)
          have c1 := OwnI.cell o (j := k + 1) (by omega)
          have c2 := OwnI.cell o (j := k) (by omega)
          have HY := Lib.hid (@insD_yes lt k cur)
          have HN := Lib.hid (@insD_no lt k cur)
          have hlc := HLT.out (a : Int) (b : Int)
          have HCUR := Lib.hid (show swp cur k = (cur.set (k + 1) (cur.getD k 0)).set k (cur.getD (k + 1) 0) from rfl)
          rw [ha] at c1 HY HN HCUR
          rw [hb] at c2 HY HN HCUR
          have HF := Lib.hid (fun q => HCALL.out a b _ q ha2 hb2 hu)
          clear ha hb
          have e1 : ((k + 1 : Nat) : Int) = (k : Int) + 1 := by omega
          rw [e1]
          have e2 : (k : Int) + 1 - 1 = (k : Int) := by omega
          have e3 : (k : Int) + 1 < (n : Int) := by omega
          have e4 : (k : Int) < (n : Int) := by omega
          have v1 : IntKind.i64.wrap ((k : Int) + 1 - 1) = (k : Int) := by rw [e2]; exact IntWalk.i64_in _ (by omega)
          have v2 : 0 ≤ (k : Int) + 1 := by omega
          have v3 : ((k : Int) + 1).toNat = k + 1 := by omega
          have v4 : decide (0 < (k : Int) + 1) = true := decide_eq_true (by omega)
          clear e1
          generalize cv (a : Int) (b : Int) = r at *
          by_cases hneg : r < 0
          · rw [decide_eq_true hneg] at hlc
            have HV := Lib.hid (HY.out hlc.symm)
            clear hlc
            go_wp2_with fail
            go_quiet ((go_at_call 46; exact HF.out _))
            have o2 := OwnI.drewN o nq
            have u2 := hu.drewN nq
            have c3 : (wr.drewN nq).cell? ⟨g, k + 1, none⟩ = some (.int .i64 a) := c1
            have c4 : (wr.drewN nq).cell? ⟨g, k, none⟩ = some (.int .i64 b) := c2
            clear c1 c2 o hu
            generalize wr.drewN nq = W2 at *
            have f1 := OwnI.free o2 (k + 1)
            have f2 := OwnI.free (OwnI.set o2 (k + 1) (b : Int)) k
            have oS := OwnI.set (OwnI.set o2 (k + 1) (b : Int)) k (a : Int)
            have uS := (u2.setCell (p := ⟨g, k + 1, none⟩) (.inl ⟨_, rfl, rfl⟩) (.int .i64 (b : Int))).setCell (p := ⟨g, k, none⟩) (.inl ⟨_, rfl, rfl⟩) (.int .i64 (a : Int))
            rw [← HCUR.out] at oS
            have HR2 := Lib.hid (HR.out.swp (k := k) (by rw [HL.out]; omega))
            have HL2 := Lib.hid (show (swp cur k).length = n by rw [swp_len, HL.out])
            have k1 : k + 1 < n := by omega
            have k2 : k < n := by omega
            clear o2 u2
            go_wp2
            go_region
            go_wp2
            go_roundg (k + 1)
            case measure => rw [HRJ.out]; omega
            case rel => exact ⟨k, _, rfl, by omega, by go_num, oS.drew, uS.drew, Lib.hid (by rw [← HV.out]; exact HI.out), HR2, HL2⟩
          · rw [decide_eq_false hneg] at hlc
            have HV := Lib.hid (HN.out hlc.symm)
            clear hlc
            have HE := Lib.hid (show cur = insD lt i zs0 by rw [← HI.out, HV.out])
            go_wp2_with fail
            go_quiet ((go_at_call 46; exact HF.out _))
            go_wp2
            go_roundg (n - (i + 1))
            case measure => rw [HRI.out]; omega
            case rel => exact ⟨i + 1, rfl, by omega, by omega, by go_num, by rw [← HS.out, ← HE.out]; exact OwnI.drewN o _, hu.drewN _⟩
    · have e : n = i := by omega
      subst e
      rw [ordS_all] at o
      go_wp2_with fail
      go_end0
      exact ⟨rfl, o, hu⟩

set_option maxRecDepth 100000 in
set_option maxHeartbeats 1600000 in
theorem stable_F (A : Option Addr) (n c : Nat) (zs : List Int) (gS : Nat) (base g cg : Nat) (w : World) (h : IntsAt w A n zs) (k2 : Blk w gS 22 #[.slice A n c]) (sA : Sep A (some ⟨g, 0, none⟩)) (sS : gS ≠ g)
    (o : OwnI 2 base w (some ⟨g, 0, none⟩) n cg (seqI 0 n)) (hn1 : 1 ≤ n) (hn : n ≤ 16) :
    Calls Try.prog 63 #[.slice (some ⟨g, 0, none⟩) n cg, .int .i64 n, .func (.func 46) #[] #[.pointer (some ⟨gS, 0, none⟩)]] w fun e w' => e = .returned (.tuple #[]) ∧ OwnI 2 base w' (some ⟨g, 0, none⟩) n cg (ordTo (ltF zs) n) ∧ Upd (blk (some ⟨g, 0, none⟩)) w w' := by
  have HC := Lib.hid (insSort_F A n c zs gS base g cg w h k2 sA sS o hn1 hn)
  have h20 : ¬ (20 : Int) ≤ (n : Int) := by omega
  have h21 : ¬ (20 : Int) < (n : Int) := by omega
  go_enter Try.func63, Try.ntmps63
  go_wp2_with fail
  obtain ⟨wo, hwo⟩ : ∃ wo : World, wo = w := ⟨_, rfl⟩
  go_loopg [7, 8] 0 (fun r av bv wi => r = 0 ∧ av = .int .i64 0 ∧ bv = .int .i64 20 ∧ w = wi)
  case atStart => exact ⟨rfl, rfl, rfl, rfl⟩
  case round =>
    obtain ⟨_, rfl, rfl, rfl⟩ := hrel
    go_wp2_with fail
    refine HC.out.mono ?_
    rintro e w2 ⟨rfl, o2, u2⟩
    go_wp2_with fail
    go_loopg [6] 0 (fun r av wi => r = 0 ∧ av = .int .i64 20 ∧ w2 = wi)
    case atStart => exact ⟨rfl, rfl, rfl⟩
    case round =>
      obtain ⟨_, rfl, rfl⟩ := hrel
      go_wp2_with fail
      go_end0
      exact ⟨rfl, o2, u2⟩
theorem sortS_F (A : Option Addr) (n c : Nat) (zs : List Int) (gS : Nat) (base g cg : Nat) (w : World) (h : IntsAt w A n zs) (k2 : Blk w gS 22 #[.slice A n c]) (sA : Sep A (some ⟨g, 0, none⟩)) (sS : gS ≠ g)
    (o : OwnI 2 base w (some ⟨g, 0, none⟩) n cg (seqI 0 n)) (hn1 : 1 ≤ n) (hn : n ≤ 16) :
    Calls Try.prog 60 #[.slice (some ⟨g, 0, none⟩) n cg, .func (.func 46) #[] #[.pointer (some ⟨gS, 0, none⟩)]] w fun e w' => e = .returned (.tuple #[]) ∧ OwnI 2 base w' (some ⟨g, 0, none⟩) n cg (ordTo (ltF zs) n) ∧ Upd (blk (some ⟨g, 0, none⟩)) w w' := by
  have HC := Lib.hid (stable_F A n c zs gS base g cg w h k2 sA sS o hn1 hn)
  go_enter Try.func60, Try.ntmps60
  go_wp2_with fail
  refine HC.out.mono ?_
  rintro e w2 ⟨rfl, o2, u2⟩
  go_wp2_with fail
  go_end0
  exact ⟨rfl, o2, u2⟩
set_option maxRecDepth 100000 in
set_option maxHeartbeats 1600000 in
theorem orderBy_F (A : Option Addr) (n c : Nat) (zs : List Int) (gS : Nat) (w : World) (h : IntsAt w A n zs) (k2 : Blk w gS 22 #[.slice A n c]) (hn1 : 1 ≤ n) (hn : n ≤ 16) :
    Calls Try.prog 45 #[.int .i64 n, .func (.func 46) #[] #[.pointer (some ⟨gS, 0, none⟩)]] w fun e w' => ∃ (Q : Option Addr) (cq : Nat), e = .returned (.slice Q n cq) ∧ OwnI 2 w.heap.size w' Q n cq (ordTo (ltF zs) n) ∧ Below w.heap.size w w' := by
  have HC := Lib.hid (show ∀ (g cg : Nat) (w' : World), w.heap.size ≤ g → Below w.heap.size w w' → OwnI 2 w.heap.size w' (some ⟨g, 0, none⟩) n cg (seqI 0 n) → Calls Try.prog 60 #[.slice (some ⟨g, 0, none⟩) n cg, .func (.func 46) #[] #[.pointer (some ⟨gS, 0, none⟩)]] w' fun e w'' => e = .returned (.tuple #[]) ∧ OwnI 2 w.heap.size w'' (some ⟨g, 0, none⟩) n cg (ordTo (ltF zs) n) ∧ Upd (blk (some ⟨g, 0, none⟩)) w' w'' from fun g cg w' hgx hb o =>
    sortS_F A n c zs gS w.heap.size g cg w' (h.below hb) (k2.ext hb) (fun x y hx hy2 => by injection hy2 with hy2; subst hy2; have h3 := ints_lt h hn1 hx; show x.block ≠ g; omega) (by have := k2.lt; omega) o hn1 hn)
  clear h k2
  have hb0 := Below.refl w.heap.size w
  have o0 : OwnI 2 w.heap.size w none 0 0 (seqI 0 0) := OwnI.nil_ _ _ _
  go_enter Try.func45, Try.ntmps45
  go_wp2_with fail
  go_loopg [5, 6] n (fun r qv iv wi => ∃ (i : Nat) (Q : Option Addr) (cq : Nat), r = n - i ∧ i ≤ n ∧ qv = .slice Q i cq ∧ iv = .int .i64 i ∧ OwnI 2 w.heap.size wi Q i cq (seqI 0 i) ∧ Below w.heap.size w wi)
  case atStart => exact ⟨0, none, 0, rfl, Nat.zero_le _, rfl, rfl, o0, hb0⟩
  case round =>
    clear o0 hb0
    obtain ⟨i, Q, cq, hr, hi, rfl, rfl, o, hb⟩ := hrel
    have HR := Lib.hid hr
    clear hr
    by_cases hli : i < n
    · have hli' : (i : Int) < (n : Int) := by omega
      have hsz := hb.size
      have HS := Lib.hid (seqI_snoc i)
      go_wp2_with (at_builtin; refine wp_append_int _ _ rfl _ _ _ rfl 2 w.heap.size Try.underlying22 info64 Q i cq _ rfl o rfl (by omega) hsz ?_; intro g4 c4 w4 o4 u4 b4 hg4)
      go_roundg (n - (i + 1))
      case measure => rw [HR.out]; omega
      case rel => exact ⟨i + 1, _, c4, rfl, by omega, rfl, by go_num, by rw [HS.out]; exact o4, hb.trans b4⟩
    · have e : n = i := by omega
      subst e
      obtain ⟨gQ, rfl, hgQ, _, _, _⟩ := o.pos (by omega)
      go_wp2_with fail
      refine (HC.out gQ cq _ hgQ hb o).mono ?_
      rintro e w2 ⟨rfl, o2, u2⟩
      have hb2 := below_blk hb hb.size u2 o (Nat.le_refl _)
      go_wp2_with fail
      go_ret
      exact ⟨_, cq, rfl, o2, hb2⟩
end Go.Proofs.Ythhkgeeomhhegaa
