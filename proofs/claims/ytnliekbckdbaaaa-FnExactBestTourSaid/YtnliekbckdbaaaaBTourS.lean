/- BestTour of the reference: the walks. -/
import Derived.Test.YtnliekbckdbaaaaBTour
import Derived.Test.YtnliekbckdbaaaaMix
import Derived.StillTailTactics
namespace Go.Proofs.Ytnliekbckdbaaaa
open Go.RowKit

theorem pow_bdS (n : Nat) (h2 : n ≤ 62) : (1 : Int) ≤ 2 ^ n ∧ (2 : Int) ^ n ≤ 4611686018427387904 := by
  have h := Nat.pow_le_pow_right (n := 2) (by omega) h2
  have h' : (2 : Int) ^ n ≤ 2 ^ 62 := by exact_mod_cast h
  have h0 : (0 : Int) < 2 ^ n := Int.pow_pos (by decide)
  constructor <;> omega
theorem l00Min_s (a b : Int) (w : World) : Calls Try.prog 35 #[.int .i64 a, .int .i64 b] w fun e w' => e = .returned (.int .i64 (min a b)) ∧ w' = w := by
  by_cases h : a < b
  · have H := Lib.hid (show min a b = a by omega)
    go_enter Try.func35, Try.ntmps35
    go_wp2
    go_ret
    exact ⟨ret_int H.out.symm, rfl⟩
  · have H := Lib.hid (show min a b = b by omega)
    go_enter Try.func35, Try.ntmps35
    go_wp2
    go_ret
    exact ⟨ret_int H.out.symm, rfl⟩
theorem infoLT : (Try.prog.info? 22).map (fun i => (i.zero, i.size, i.bytes)) = some (some (.slice none 0 0), 1, 24) := by kernel_rfl
def RetRowsT (T2 T : Nat) (rows : List (List Int)) (w : World) (e : Ending) (w' : World) : Prop :=
  ∃ (O : Option Addr) (n c : Nat) (vs : List Value), e = .returned (.slice O n c) ∧ OwnC T2 w.heap.size 1 w' O n c vs ∧ RowsAt T w.heap.size w' vs rows ∧ Below w.heap.size w w'
theorem rowOf_len (ws : List Int) (N : Nat) (rows : List (List Int)) (m : Nat) : (rowOf ws N rows m).length = N := by simp [rowOf]
theorem rowOf_get {ws : List Int} {N : Nat} {rows : List (List Int)} {m a : Nat} (h : a < N) : (rowOf ws N rows m).getD a 0 = if m = 0 then ws.getD (a * N) 0 else cellTo ws N rows m a N := by
  simp [rowOf, List.getD, h]
theorem rowsTo_row {ws : List Int} {N m k : Nat} (hm : m < 2 ^ 64) (hk : k < 64) (hb : m.testBit k = true) : clr m k < m ∧ ((rowsTo ws N m).getD (clr m k) []).length = N ∧ ∀ a, a < N → ((rowsTo ws N m).getD (clr m k) []).getD a 0 = restAt ws N (clr m k) a := by
  have h := clr_lt hm hk hb
  refine ⟨h, by rw [rowsTo_get ws N m h, rowOf_len], fun a _ => by rw [rowsTo_get ws N m h]; rfl⟩
theorem rowsT_rows {ws : List Int} {N : Nat} : ∀ m k, k < m → ((rowsTo ws N m).getD k []).length = N := fun m k h => by rw [rowsTo_get ws N m h, rowOf_len]

theorem cellTo_bd2 {ws : List Int} {N : Nat} {rows : List (List Int)} {m a : Nat} : ∀ j, cellTo ws N rows m a j ≤ 1000000
  | 0 => Int.le_refl _
  | j + 1 => by
    have := cellTo_bd2 (ws := ws) (N := N) (rows := rows) (m := m) (a := a) j
    rw [cellTo]
    split <;> omega
theorem shl_k {k : Nat} (hk : k ≤ 62) : IntKind.i64.wrap (2 ^ min (IntKind.u64.wrap (k : Int)).toNat 64) = (2 : Int) ^ k := by
  have h1 : IntKind.u64.wrap (k : Int) = (k : Int) := by rw [IntKind.wrap_u64]; omega
  rw [h1, Int.toNat_natCast, Nat.min_eq_left (by omega)]
  have := pow_bdS k hk
  exact IntWalk.i64_in _ (by omega)
set_option maxRecDepth 100000 in
set_option maxHeartbeats 3200000 in
theorem l04Rest_any (A : Option Addr) (n c N : Nat) (ws : List Int) (w : World) (h : IntsAt w A n ws) (hn : n = N * N) (hN1 : 1 ≤ N) (hN : N ≤ 10) (hw : ∀ j, j < n → 0 ≤ ws.getD j 0 ∧ ws.getD j 0 ≤ 1000) (hwo : WaysOk ws N) :
    Calls Try.prog 49 #[.slice A n c, .int .i64 N] w (RetRowsT 22 2 (rowsTo ws N (2 ^ N)) w) := by
  have HNN := Lib.hid hn
  have HW := Lib.hid hw
  have HWO := Lib.hid hwo
  have hpn := pow_bdS N (by omega)
  have HP := Lib.hid (show ((2 ^ N : Nat) : Int) = (2 : Int) ^ N by exact_mod_cast rfl)
  have hp16 : (2 : Int) ^ N ≤ 1024 := by
    have := Nat.pow_le_pow_right (n := 2) (by omega) hN
    rw [← HP.out]; omega
  have he : OwnC 22 w.heap.size 1 (w.alloc (.cells #[] 22)) (some ⟨w.heap.size, 0, none⟩) 0 0 [] := World.ownsRow_lit (e := 22) (base := w.heap.size) (size := 1) w #[] 0 (Nat.le_refl _) (Nat.zero_le _) rfl
  have hW0 : Below w.heap.size w (w.alloc (.cells #[] 22)) := (Below.refl _ _).alloc (Nat.le_refl _) _
  clear hn hw hwo
  go_enter Try.func49, Try.ntmps49
  go_wp2_with fail
  generalize w.alloc (.cells #[] 22) = w0 at *
  go_loopg [5, 6] (2 ^ N) (fun r v i wr => ∃ (m : Nat) (O : Option Addr) (oc : Nat) (vs : List Value), r = 2 ^ N - m ∧ m ≤ 2 ^ N ∧ i = .int .i64 m ∧ v = .slice O m oc ∧ OwnC 22 w.heap.size 1 wr O m oc vs ∧ RowsAt 2 w.heap.size wr vs (rowsTo ws N m) ∧ Below w.heap.size w wr)
  case atStart => exact ⟨0, _, 0, [], rfl, Nat.zero_le _, rfl, rfl, he, RowsAt.nil_, hW0⟩
  case round =>
    clear he hW0
    obtain ⟨m, O, oc, vs, hr, hm, rfl, rfl, oO, hR, hb⟩ := hrel
    have HR := Lib.hid hr
    clear hr
    by_cases hlt : m < 2 ^ N
    · have hlt' : (m : Int) < (2 : Int) ^ N := by rw [← HP.out]; omega
      have hm16 : (m : Int) ≤ 1024 := by omega
      have hsz := hb.size
      have HSN := Lib.hid (show rowsTo ws N (m + 1) = rowsTo ws N m ++ [rowOf ws N (rowsTo ws N m) m] from rfl)
      have hm64 : m < 2 ^ 64 := by have := hm16; omega
      have HRW := Lib.hid (fun (k : Nat) (hkN : k < N) (hk : m.testBit k = true) => @rowsTo_row ws N m k hm64 (by omega) hk)
      have HRB := Lib.hid (fun (k : Nat) (hkN : k < N) => (restAt_bd HWO.out (by omega) (clr m k) (clr m k) k (Nat.le_refl _) (Nat.lt_of_le_of_lt (clr_le _ _) hm64) hkN))
      have HRL := Lib.hid (rowOf_len ws N (rowsTo ws N m) m)
      have HRG := Lib.hid (fun (a : Nat) (ha : a < N) => rowOf_get (ws := ws) (rows := rowsTo ws N m) (m := m) ha)
      have HCS := Lib.hid (fun (a k : Nat) (ha : a < N) (hk : k < N) => (show (m.testBit k = true → cellTo ws N (rowsTo ws N m) m a (k + 1) = min (cellTo ws N (rowsTo ws N m) m a k) (wayW ws N a k + ((rowsTo ws N m).getD (clr m k) []).getD k 0)) ∧ (m.testBit k = false → cellTo ws N (rowsTo ws N m) m a (k + 1) = cellTo ws N (rowsTo ws N m) m a k) from ⟨fun hb => by rw [cellTo, if_pos hb], fun hb => by rw [cellTo, if_neg (by rw [hb]; decide)]⟩))
      obtain ⟨wo, rfl⟩ : ∃ wo : World, wo = wr := ⟨_, rfl⟩
      go_wp2_with (at_make; refine wp_make_ints _ rfl _ _ 22 rfl 2 Try.underlying22 info64 .i64 .i64 _ _ N rfl rfl rfl rfl (by omega) ?_; intro w2 gR oR b2)
      have hgR : wo.heap.size ≤ gR := (OwnI.lt oR rfl).1
      have oR0 := OwnI.low oR hsz
      rw [show List.replicate N (0 : Int) = (rowOf ws N (rowsTo ws N m) m).take 0 ++ List.replicate (N - 0) 0 by simp] at oR0
      clear oR
      generalize rowOf ws N (rowsTo ws N m) m = rowF at *
      go_loopg [8] N (fun r iv wi => ∃ (a : Nat), r = N - a ∧ a ≤ N ∧ iv = .int .i64 a ∧ OwnI 2 w.heap.size wi (some ⟨gR, 0, none⟩) N N (rowF.take a ++ List.replicate (N - a) 0) ∧ Below wo.heap.size wo wi)
      case atStart => exact ⟨0, rfl, Nat.zero_le _, rfl, oR0, b2⟩
      case round =>
        clear oR0 b2
        obtain ⟨a, hr, ha, rfl, oR, hbw⟩ := hrel
        have HRA := Lib.hid hr
        clear hr
        by_cases hla : a < N
        · have HSET := Lib.hid (take_rep_set rowF a N 0 HRL.out hla)
          have hg := HRG.out a hla
          have fR := OwnI.free oR a
          have cR := OwnI.cell oR hla
          have v1 : (a : Int) < (N : Int) := by omega
          by_cases hm0 : m = 0
          · rw [if_pos hm0] at hg
            have HG := Lib.hid hg
            have d0 : ((m : Int) == 0) = true := by rw [hm0]; rfl
            obtain ⟨ad, rfl, _, hc3⟩ := ((h.below hb).below hbw).at_ (k := a * N) (by rw [HNN.out]; have := idx_lt hla (show 0 < N by omega); omega)
            obtain ⟨f1, f2, f3⟩ := mul_facts hN HNN.out hla (show 0 < N by omega)
            have oS := OwnI.set oR a (ws.getD (a * N) 0)
            rw [← HG.out, HSET.out] at oS
            rw [← HG.out] at hc3
            have bS := hbw.setCell (p := ⟨gR, a, none⟩) hgR (.int .i64 (rowF.getD a 0))
            clear hm0 hg oR hbw
            generalize rowF.getD a 0 = x at *
            generalize (rowF.take a ++ List.replicate (N - a) 0).getD a 0 = z at *
            go_wp2_with fail
            go_roundg (N - (a + 1))
            case measure => rw [HRA.out]; omega
            case rel => exact ⟨a + 1, rfl, by omega, by go_num, oS, bS⟩
          · rw [if_neg hm0] at hg
            have HG := Lib.hid hg
            have d0 : ((m : Int) == 0) = false := by rw [beq_eq_false_iff_ne]; omega
            have oS := OwnI.set oR a 1000000
            have bS := hbw.setCell (p := ⟨gR, a, none⟩) hgR (.int .i64 1000000)
            have oS' : OwnI 2 w.heap.size (wr.setCell ⟨gR, a, none⟩ (.int .i64 1000000)) (some ⟨gR, 0, none⟩) N N ((rowF.take a ++ List.replicate (N - a) 0).set a (cellTo ws N (rowsTo ws N m) m a 0)) := oS
            clear hm0 hg oR hbw oS
            generalize hbL : (rowF.take a ++ List.replicate (N - a) 0) = bL at *
            have HBL := Lib.hid (show bL.length = N by rw [← hbL, List.length_append, List.length_take, HRL.out, List.length_replicate]; omega)
            generalize bL.getD a 0 = z at *
            obtain ⟨wk, rfl⟩ : ∃ wk : World, wk = wr := ⟨_, rfl⟩
            go_upto_region 12 with (fail)
            generalize wk.setCell ⟨gR, a, none⟩ (.int .i64 1000000) = W3 at *
            clear fR cR
            go_wp2_with fail
            go_loopg [9] N (fun r kv wi => ∃ (k : Nat), r = N - k ∧ k ≤ N ∧ kv = .int .i64 k ∧ OwnI 2 w.heap.size wi (some ⟨gR, 0, none⟩) N N (bL.set a (cellTo ws N (rowsTo ws N m) m a k)) ∧ Below wo.heap.size wo wi)
            case atStart => exact ⟨0, rfl, Nat.zero_le _, rfl, oS', bS⟩
            case round =>
              clear oS' bS
              obtain ⟨k, hr, hk, rfl, oR, hbw⟩ := hrel
              have HRK := Lib.hid hr
              clear hr
              by_cases hlk : k < N
              · have hbt := bit_test m k (by omega)
                obtain ⟨hc1, hc2⟩ := HCS.out a k hla hlk
                cases hb2 : m.testBit k
                · rw [hb2] at hbt
                  have HE := Lib.hid (hc2 hb2)
                  clear hc1 hc2 hb2
                  go_wp2_with fail
                  go_roundg (N - (k + 1))
                  case measure => rw [HRK.out]; omega
                  case rel => exact ⟨k + 1, rfl, by omega, by go_num, by rw [HE.out]; exact oR, hbw⟩
                · rw [hb2] at hbt
                  have HE := Lib.hid (hc1 hb2)
                  obtain ⟨r1, r2, r3⟩ := HRW.out k hlk hb2
                  have r3k := r3 k hlk
                  have rb := HRB.out k hlk
                  have hmpos : 0 < m := by omega
                  have oO2 := OwnC.below (OwnC.below oO (Below.refl _ _)) hbw
                  obtain ⟨gO, rfl, _, _, _, _⟩ := OwnC.pos oO2 hmpos
                  obtain ⟨RA, rc, hv1, hv2⟩ := hR.at_ (k := clr m k) (by rw [rowsTo_len]; exact r1)
                  rw [r2] at hv1 hv2
                  have hv3 := OwnI.below hv2 hbw
                  obtain ⟨gr, rfl, _, hgr2, _, _⟩ := hv3.pos (by omega)
                  have hgr3 := (OwnI.lt hv2 rfl).2
                  have cO := OwnC.cell oO2 (j := clr m k) (by omega)
                  rw [hv1] at cO
                  have cr := OwnI.cell hv3 hlk
                  rw [r3k] at cr hc1
                  have cR := OwnI.cell oR hla
                  rw [getD_set (by rw [HBL.out]; exact hla), if_pos rfl] at cR
                  have fR := OwnI.free oR a
                  obtain ⟨ad, rfl, _, hc3⟩ := ((h.below hb).below hbw).at_ (k := a * N + k) (by rw [HNN.out]; exact idx_lt hla hlk)
                  obtain ⟨f1, f2, f3⟩ := mul_facts hN HNN.out hla hlk
                  obtain ⟨w0', w1'⟩ := HWO.out a k hla hlk
                  have hmb := cellTo_bd2 (ws := ws) (N := N) (rows := rowsTo ws N m) (m := m) (a := a) k
                  have hpk := pow_bdS k (by omega)
                  have hpk2 : (2 : Int) ^ k ≤ 1024 := by
                    have := Nat.pow_le_pow_right (n := 2) (by omega) (show k ≤ 10 by omega)
                    have e : ((2 ^ k : Nat) : Int) = (2 : Int) ^ k := by exact_mod_cast rfl
                    rw [← e]; omega
                  have hnot : bits .andNot .i64 (m : Int) ((2 : Int) ^ k) = ((clr m k : Nat) : Int) := by
                    have e : ((2 ^ k : Nat) : Int) = (2 : Int) ^ k := by exact_mod_cast rfl
                    rw [← e]
                    exact i64_andNot_nat m (2 ^ k) (by omega) (by omega)
                  have hsh := shl_k (k := k) (by omega)
                  have hnot2 : bits .andNot .i64 (m : Int) (IntKind.i64.wrap (2 ^ min (IntKind.u64.wrap (k : Int)).toNat 64)) = ((clr m k : Nat) : Int) := by rw [hsh]; exact hnot
                  clear hnot hsh
                  rw [show ws.getD (a * N + k) 0 = wayW ws N a k from rfl] at hc3
                  have oS := OwnI.set oR a (min (cellTo ws N (rowsTo ws N m) m a k) (wayW ws N a k + restAt ws N (clr m k) k))
                  rw [List.set_set] at oS
                  have bS := hbw.setCell (p := ⟨gR, a, none⟩) hgR (.int .i64 (min (cellTo ws N (rowsTo ws N m) m a k) (wayW ws N a k + restAt ws N (clr m k) k)))
                  have HMIN := Lib.hid (hc1 hb2)
                  clear hc1 hc2 hb2 hv1 hv2 hv3 r2 r3 r3k oO2 oR hbw
                  generalize cellTo ws N (rowsTo ws N m) m a k = x1 at *
                  generalize wayW ws N a k = x2 at *
                  generalize restAt ws N (clr m k) k = x3 at *
                  generalize clr m k = y at *
                  have v2 : IntKind.i64.wrap ((a : Int) * (N : Int)) = (a : Int) * (N : Int) := IntWalk.i64_in _ (by omega)
                  have v3 : IntKind.i64.wrap ((a : Int) * (N : Int) + (k : Int)) = (a : Int) * (N : Int) + (k : Int) := IntWalk.i64_in _ (by omega)
                  have v4 : 0 ≤ (a : Int) * (N : Int) + (k : Int) := by omega
                  have v5 : ((a : Int) * (N : Int) + (k : Int)).toNat = a * N + k := by
                    have e : ((a * N : Nat) : Int) = (a : Int) * N := Int.natCast_mul a N
                    rw [← e]; omega
                  have v6 : IntKind.i64.wrap (x2 + x3) = x2 + x3 := IntWalk.i64_in _ (by omega)
                  have v7 : (y : Int) < (m : Int) := by omega
                  have v8 : (k : Int) < (N : Int) := by omega
                  go_wp2_with fail
                  refine wp_region_still_tail 28 (by kernel_rfl) (by kernel_rfl) ?_
                  change wpStill _ _ wr.drew (fun a' => wpList _ _ _ _ a' wr.drew) _ _
                  simp only [List.take_succ_cons, List.take_zero, List.drop_succ_cons, List.drop_zero]
                  repeat still_step
                  still_call (l00Min_s _ _ _)
                  repeat still_step
                  refine wpStill_nil ?_
                  go_wp2_with fail
                  go_roundg (N - (k + 1))
                  case measure => rw [HRK.out]; omega
                  case rel => exact ⟨k + 1, rfl, by omega, by go_num, by rw [HMIN.out]; exact oS.drew, bS.drew⟩
              · have e : N = k := by omega
                subst e
                rw [← HG.out, HSET.out] at oR
                go_wp2_with fail
                go_roundg (N - (a + 1))
                case measure => rw [HRA.out]; omega
                case rel => exact ⟨a + 1, rfl, by omega, by go_num, oR, hbw⟩
        · have e : N = a := by omega
          subst e
          rw [Nat.sub_self, List.replicate_zero, List.append_nil, List.take_of_length_le (by rw [HRL.out]; exact Nat.le_refl _)] at oR
          have oO2 := OwnC.below oO hbw
          have hR2 := hR.below hbw
          have hbF := hb.trans (hbw.mono hsz)
          clear hbw oO hR
          go_wp2_with (at_builtin; refine wp_append_val wr _ rfl rfl _ _ _ rfl 22 w.heap.size Try.underlying54 _ 24 infoLT rfl (by omega) _ _ _ _ rfl oO2 rfl (by omega) hbF.size ?_; intro g4 c4 w4 o4 u4 b4 _)
          go_roundg (2 ^ N - (m + 1))
          case measure => rw [HR.out]; omega
          case rel =>
            refine ⟨m + 1, _, _, _, rfl, by omega, by go_num, rfl, o4, ?_, hbF.trans b4⟩
            rw [HSN.out]
            exact ((hR2.snoc oR).updO oO2 (by decide) u4)
    · have hge : ¬ (m : Int) < (2 : Int) ^ N := by rw [← HP.out]; omega
      have e : m = 2 ^ N := by omega
      subst e
      go_wp2_with fail
      go_ret
      exact ⟨O, _, oc, vs, rfl, oO, hR, hb⟩
theorem beg_zero_f {N : Nat} {b : List Int} {m at_ f : Nat} (h : BegOk N b m at_ f) (hm : m = 0) : f = 0 := by
  cases f with
  | zero => rfl
  | succ f =>
    obtain ⟨c, hc⟩ := beg_more h
    rw [hm, Nat.zero_testBit] at hc; cases hc
set_option maxRecDepth 100000 in
set_option maxHeartbeats 6400000 in
theorem specBestTour_r (A : Option Addr) (n c : Nat) (ws : List Int) (w : World) (h : IntsAt w A n ws) (hl : n ≤ 1048576) :
    Calls Try.prog 20 #[.slice A n c] w (RetLIB 2 (bestTV ws).1 (bestTV ws).2 (citiesB ws) w) := by
  have HL := Lib.hid h.len
  cases hc : citiesB ws
  · have HV := Lib.hid (bestTV_no hc)
    have hcv := countV_no hc
    go_enter Try.func20, Try.ntmps20
    go_wp2_with fail
    refine (l04Count_any A n c ws _ h hl).mono ?_
    rw [hcv]
    rintro e w1 ⟨rfl, hd⟩
    go_wp2_with fail
    go_ret3
    exact ⟨none, 0, 0, ret_LIBbt (by rw [HV.out]) rfl, by rw [HV.out]; exact OwnI.nil_ _ _ _, hd.below⟩
  · obtain ⟨N, h1, h2, h3, h4, h5⟩ := cities_bd hc
    have HV := Lib.hid ((bestTV_yes hc h4))
    have hcv : countV ws = N := (countV_yes hc).trans h4
    have HN := Lib.hid (show n = N * N by rw [← HL.out]; exact h3)
    have HW := Lib.hid (show ∀ j, j < n → 0 ≤ ws.getD j 0 ∧ ws.getD j 0 ≤ 1000 from fun j hj => h5 j (by rw [HL.out]; exact hj))
    have HWO := Lib.hid (ways_ok h3 h5)
    have HBT := Lib.hid (show greedyF ws N (N - 1) [0] (fullM N) 0 = bestT ws N from rfl)
    have hpn := pow_bdS N (by omega)
    have HP := Lib.hid (show ((2 ^ N : Nat) : Int) = (2 : Int) ^ N by exact_mod_cast rfl)
    have hp16 : (2 : Int) ^ N ≤ 1024 := by
      have := Nat.pow_le_pow_right (n := 2) (by omega) h2
      rw [← HP.out]; omega
    have hp2 : (2 : Int) ≤ 2 ^ N := by
      have := Nat.pow_le_pow_right (n := 2) (by omega) h1
      rw [← HP.out]; omega
    have HFM := Lib.hid (show (2 : Int) ^ N - 2 = ((fullM N : Nat) : Int) by rw [← HP.out]; unfold fullM; have := HP.out; omega)
    clear h3 h4 h5
    go_enter Try.func20, Try.ntmps20
    go_wp2_with fail
    refine (l04Count_any A n c ws _ h hl).mono ?_
    rw [hcv]
    rintro e w1 ⟨rfl, hd⟩
    clear hc hcv
    have hbd := hd.below
    have d0 : ((N : Int) == 0) = false := by rw [beq_eq_false_iff_ne]; omega
    clear hd
    go_wp2_with fail
    refine (l04Rest_any A n c N ws _ (h.below hbd) HN.out h1 h2 HW.out HWO.out).mono ?_
    rintro e w3 ⟨O, on, oc, vs, rfl, oO, hR, b3⟩
    have hon : on = 2 ^ N := by
      have e1 := OwnC.len oO
      have e2 := hR.1
      rw [rowsTo_len] at e2
      omega
    have HON := Lib.hid hon
    have hbw3 := below_ext hbd hbd.size b3
    have hw3 := h.below hbw3
    have hsz3 := hbw3.size
    have ho : OwnI 2 w3.heap.size (w3.alloc (.cells #[.int .i64 0] 2)) (some ⟨w3.heap.size, 0, none⟩) 1 1 [0] := World.ownsRow_lit (e := 2) (base := w3.heap.size) (size := 1) w3 #[.int .i64 0] 1 (Nat.le_refl _) (by simp [maxLen]) rfl
    have hb4 := (Below.refl w3.heap.size w3).alloc (Nat.le_refl _) (.cells #[.int .i64 0] 2)
    have HBG := Lib.hid (beg_start (N := N) h1 (by omega))
    clear hbd b3 hon
    go_wp2_with fail
    generalize w3.alloc (.cells #[.int .i64 0] 2) = W4 at *
    go_loopg [7, 8, 9] (N - 1) (fun r mv ov av wi => ∃ (f m at_ : Nat) (b : List Int) (Q : Option Addr) (lq cq : Nat), r = f ∧ mv = .int .i64 m ∧ ov = .slice Q lq cq ∧ av = .int .i64 at_ ∧ m ≤ 1024 ∧ OwnI 2 w3.heap.size wi Q lq cq b ∧ Below w3.heap.size w3 wi ∧ Hid (BegOk N b m at_ f ∧ greedyF ws N f b m at_ = bestT ws N))
    case atStart => exact ⟨N - 1, fullM N, 0, [0], _, 1, 1, rfl, by rw [HFM.out], rfl, rfl, by have := fullM_lt (N := N); have := HP.out; omega, ho, hb4, Lib.hid ⟨HBG.out, HBT.out⟩⟩
    case round =>
      clear ho hb4 HBG HBT
      obtain ⟨f, m, at_, b, Q, lq, cq, hr, rfl, rfl, rfl, hm16, oQ, hbw, HH⟩ := hrel
      have HR := Lib.hid hr
      clear hr
      by_cases hm0 : m = 0
      · obtain rfl := beg_zero_f HH.out.1 hm0
        have hlen := HH.out.1.len
        have hnq : lq = N := by rw [← oQ.len]; omega
        have HG := Lib.hid (show b = bestT ws N from HH.out.2)
        have HRG := Lib.hid (show ∀ j, j < lq → ∃ x : Nat, b.getD j 0 = (x : Int) ∧ x < lq from fun j hj => by rw [hnq]; exact beg_rng HH.out.1 j (by rw [oQ.len]; exact hj))
        have hnq10 : lq ≤ 10 := by omega
        have hnq1 : 1 ≤ lq := by omega
        have HNQ := Lib.hid (show n = lq * lq by rw [hnq]; exact HN.out)
        have HNN := Lib.hid hnq
        clear hlen hnq HH
        subst hm0
        go_wp2_with fail
        refine (l04Long_any A n c ws Q lq cq b _ (hw3.below hbw) oQ.ints HNQ.out hnq1 hnq10 HW.out HRG.out).mono ?_
        rintro e w5 ⟨rfl, b5⟩
        go_wp2_with fail
        go_ret3
        exact ⟨Q, lq, cq, ret_LIBbt (by rw [HV.out, ← HG.out, HNN.out]) rfl, by rw [HV.out, ← HG.out]; exact OwnI.low (OwnI.below oQ b5) hsz3, below_ext hbw3 hsz3 (below_ext hbw hbw.size b5)⟩
      · have hmpos : (m : Int) > 0 := by omega
        obtain ⟨f', hf'⟩ : ∃ f', f = f' + 1 := by
          cases f with
          | zero => exact absurd (beg_zero HH.out.1) hm0
          | succ f' => exact ⟨f', rfl⟩
        subst hf'
        have HBG := Lib.hid HH.out.1
        have HGR := Lib.hid HH.out.2
        have HFB := Lib.hid (find_best HWO.out (by omega) HBG.out (fun c hc => (bt_main HWO.out (by omega) f' _ _ _ (beg_snoc HBG.out (by omega) hc)).1)).2
        have HGS := Lib.hid (show greedyF ws N (f' + 1) b m at_ = greedyF ws N f' (b ++ [((findK ws N m at_ (N - 1) 1 : Nat) : Int)]) (clr m (findK ws N m at_ (N - 1) 1)) (findK ws N m at_ (N - 1) 1) from rfl)
        have haN := HBG.out.atN
        have hm64 : m < 2 ^ 64 := HBG.out.mlt
        have hmN : m < 2 ^ N := by
          apply Nat.lt_pow_two_of_testBit
          intro i hi
          rw [HBG.out.bit i]
          have : ¬ i < N := by omega
          simp [this]
        have hnq := oQ.len
        have HQL := Lib.hid (show lq + 1 ≤ N by have := HBG.out.len; omega)
        have HK0 := Lib.hid (show ∀ j, 1 ≤ j → j < 1 → goK ws N m at_ j = false from fun j j1 j2 => by omega)
        have HRB := Lib.hid (fun (k : Nat) (hkN : k < N) => (restAt_bd HWO.out (by omega) (clr m k) (clr m k) k (Nat.le_refl _) (Nat.lt_of_le_of_lt (clr_le _ _) hm64) hkN))
        have HRM := Lib.hid (restAt_bd HWO.out (by omega) m m at_ (Nat.le_refl _) hm64 haN)
        clear hm0 HH hnq
        obtain ⟨wo, rfl⟩ : ∃ wo : World, wo = wr := ⟨_, rfl⟩
        go_wp2_with fail
        go_loopg [7, 8, 9, 10] (N - 1) (fun r mv ov av kv wi => ∃ (k : Nat), r = N - k ∧ 1 ≤ k ∧ k ≤ N ∧ mv = .int .i64 m ∧ ov = .slice Q lq cq ∧ av = .int .i64 at_ ∧ kv = .int .i64 k ∧ OwnI 2 w3.heap.size wi Q lq cq b ∧ Below w3.heap.size w3 wi ∧ Hid (∀ j, 1 ≤ j → j < k → goK ws N m at_ j = false))
        case atStart => exact ⟨1, rfl, by omega, by omega, rfl, rfl, rfl, rfl, oQ, hbw, HK0⟩
        case round =>
          clear oQ hbw HK0
          obtain ⟨k, hr, hk1, hkN, rfl, rfl, rfl, rfl, oQ, hbw, HKF⟩ := hrel
          have HRK := Lib.hid hr
          clear hr
          by_cases hlk : k < N
          · have hsh := shl_k (k := k) (by omega)
            have hpk := pow_bdS k (by omega)
            have hpk2 : (2 : Int) ^ k ≤ 1024 := by
              have := Nat.pow_le_pow_right (n := 2) (by omega) (show k ≤ 10 by omega)
              have e : ((2 ^ k : Nat) : Int) = (2 : Int) ^ k := by exact_mod_cast rfl
              rw [← e]; omega
            have hnot : bits .andNot .i64 (m : Int) ((2 : Int) ^ k) = ((clr m k : Nat) : Int) := by
              have e : ((2 ^ k : Nat) : Int) = (2 : Int) ^ k := by exact_mod_cast rfl
              rw [← e]
              exact i64_andNot_nat m (2 ^ k) (by omega) (by omega)
            have hnot2 : bits .andNot .i64 (m : Int) (IntKind.i64.wrap (2 ^ min (IntKind.u64.wrap (k : Int)).toNat 64)) = ((clr m k : Nat) : Int) := by rw [hsh]; exact hnot
            clear hsh
            cases hb2 : m.testBit k
            · have hcl := clr_no hm64 (show k < 64 by omega) hb2
              rw [hcl] at hnot hnot2
              have HKN := Lib.hid (show ∀ j, 1 ≤ j → j < k + 1 → goK ws N m at_ j = false from fun j j1 j2 => by
                by_cases e : j = k
                · subst e; unfold goK; rw [hb2]; rfl
                · exact HKF.out j j1 (by omega))
              have d1 : ((m : Int) != (m : Int)) = false := by simp
              clear hcl hb2
              go_wp2_with fail
              go_quiet (fail)
              go_wp2_with fail
              go_roundg (N - (k + 1))
              case measure => rw [HRK.out]; omega
              case rel => exact ⟨k + 1, rfl, by omega, by omega, rfl, rfl, rfl, by go_num, OwnI.drewN oQ _, below_drewN hbw _, HKN⟩
            · have hclt := clr_lt hm64 (show k < 64 by omega) hb2
              have HB2 := Lib.hid hb2
              have rb := HRB.out k hlk
              have rm := HRM.out
              obtain ⟨w0', w1'⟩ := HWO.out at_ k haN hlk
              have oO2 := OwnC.below oO hbw
              obtain ⟨gO, rfl, _, _, _, _⟩ := OwnC.pos oO2 (by have := HON.out; omega)
              obtain ⟨RA, rc, hv1, hv2⟩ := hR.at_ (k := clr m k) (by rw [rowsTo_len]; omega)
              rw [rowsTo_get ws N (2 ^ N) (show clr m k < 2 ^ N by omega), rowOf_len] at hv1 hv2
              have hv3 := OwnI.below hv2 hbw
              obtain ⟨gr, rfl, _, _, _, _⟩ := hv3.pos (by omega)
              have cO := OwnC.cell oO2 (j := clr m k) (by have := HON.out; omega)
              rw [hv1] at cO
              have cr := OwnI.cell hv3 hlk
              obtain ⟨RM, rmc, hu1, hu2⟩ := hR.at_ (k := m) (by rw [rowsTo_len]; omega)
              rw [rowsTo_get ws N (2 ^ N) hmN, rowOf_len] at hu1 hu2
              have hu3 := OwnI.below hu2 hbw
              obtain ⟨gm, rfl, _, _, _, _⟩ := hu3.pos (by omega)
              have cM := OwnC.cell oO2 (j := m) (by have := HON.out; omega)
              rw [hu1] at cM
              have cm := OwnI.cell hu3 haN
              rw [show (rowOf ws N (rowsTo ws N (clr m k)) (clr m k)).getD k 0 = restAt ws N (clr m k) k from rfl] at cr
              rw [show (rowOf ws N (rowsTo ws N m) m).getD at_ 0 = restAt ws N m at_ from rfl] at cm
              obtain ⟨ad, rfl, _, hc3⟩ := (hw3.below hbw).at_ (k := at_ * N + k) (by rw [HN.out]; exact idx_lt haN hlk)
              obtain ⟨f1, f2, f3⟩ := mul_facts h2 HN.out haN hlk
              rw [show ws.getD (at_ * N + k) 0 = wayW ws N at_ k from rfl] at hc3
              have HGO := Lib.hid (show goK ws N m at_ k = decide (wayW ws N at_ k + restAt ws N (clr m k) k = restAt ws N m at_) from by unfold goK; rw [HB2.out]; rfl)
              have HBS := Lib.hid (beg_snoc HBG.out (show N ≤ 64 by omega) HB2.out)
              have hon : clr m k < on := by have := HON.out; omega
              have hon2 : m < on := by have := HON.out; omega
              clear hb2 hv1 hv2 hv3 hu1 hu2 hu3 oO2
              generalize hcx : clr m k = y at *
              have HCX := Lib.hid hcx
              clear hcx
              generalize wayW ws N at_ k = x2 at *
              generalize restAt ws N y k = x3 at *
              generalize restAt ws N m at_ = x1 at *
              have v2 : IntKind.i64.wrap ((at_ : Int) * (N : Int)) = (at_ : Int) * (N : Int) := IntWalk.i64_in _ (by omega)
              have v3 : IntKind.i64.wrap ((at_ : Int) * (N : Int) + (k : Int)) = (at_ : Int) * (N : Int) + (k : Int) := IntWalk.i64_in _ (by omega)
              have v4 : 0 ≤ (at_ : Int) * (N : Int) + (k : Int) := by omega
              have v5 : ((at_ : Int) * (N : Int) + (k : Int)).toNat = at_ * N + k := by
                have e : ((at_ * N : Nat) : Int) = (at_ : Int) * N := Int.natCast_mul at_ N
                rw [← e]; omega
              have v6 : IntKind.i64.wrap (x2 + x3) = x2 + x3 := IntWalk.i64_in _ (by omega)
              have v7 : (y : Int) < (on : Int) := by omega
              have v8 : (k : Int) < (N : Int) := by omega
              have v9 : (m : Int) < (on : Int) := by omega
              have v10 : (at_ : Int) < (N : Int) := by omega
              have d1 : ((y : Int) != (m : Int)) = true := by rw [bne_iff_ne]; omega
              by_cases heq : x2 + x3 = x1
              · have d2 : (x2 + x3 == x1) = true := by rw [heq]; exact beq_self_eq_true _
                have HGK := Lib.hid (show goK ws N m at_ k = true from by rw [HGO.out]; exact decide_eq_true heq)
                have HFK := Lib.hid (findK_ok (N - 1) 1 k hk1 (by omega) HGK.out HKF.out)
                have HNX := Lib.hid (show greedyF ws N f' (b ++ [(k : Int)]) y k = bestT ws N from by
                  have e := HGS.out
                  rw [HFK.out, HGR.out, HCX.out] at e
                  exact e.symm)
                have hql := HQL.out
                clear heq
                go_wp2_with fail
                go_quiet (fail)
                have oQD := OwnI.drewN oQ nq
                have hbD := below_drewN hbw nq
                have hszD : w3.heap.size ≤ (wr.drewN nq).heap.size := hbw.size
                clear oQ hbw cO cr cM cm hc3
                generalize wr.drewN nq = W6 at *
                go_wp2_with (at_builtin; (refine wp_append_int _ _ rfl _ _ _ rfl 2 w3.heap.size Try.underlying22 info64 Q lq cq _ rfl oQD rfl (by omega) hszD ?_; intro g5 c5 w6 o6 u6 b6 hg6))
                go_roundg f'
                case measure => rw [HR.out]; omega
                case rel => exact ⟨f', y, k, b ++ [(k : Int)], _, lq + 1, c5, rfl, rfl, rfl, rfl, by omega, o6, hbD.trans b6, Lib.hid ⟨HBS.out, HNX.out⟩⟩
              · have d2 : (x2 + x3 == x1) = false := beq_eq_false_iff_ne.2 heq
                have HKN := Lib.hid (show ∀ j, 1 ≤ j → j < k + 1 → goK ws N m at_ j = false from fun j j1 j2 => by
                  by_cases e : j = k
                  · subst e; rw [HGO.out]; exact decide_eq_false heq
                  · exact HKF.out j j1 (by omega))
                clear heq
                go_wp2_with fail
                go_quiet (fail)
                go_wp2_with fail
                go_roundg (N - (k + 1))
                case measure => rw [HRK.out]; omega
                case rel => exact ⟨k + 1, rfl, by omega, by omega, rfl, rfl, rfl, by go_num, OwnI.drewN oQ _, below_drewN hbw _, HKN⟩
          · exfalso
            obtain ⟨p, p1, p2, p3, _⟩ := HFB.out
            obtain ⟨q1, q2⟩ := beg_bits HBG.out p2
            have := HKF.out p q1 (by omega)
            unfold goK at this
            rw [p2, decide_eq_true p3] at this
            cases this
end Go.Proofs.Ytnliekbckdbaaaa
