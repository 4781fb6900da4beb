/- CheapFlow of the program: the walk. -/
import Derived.Test.YtnljfhmdjhppmaaJ5
import Derived.Test.YtnljfhmdjhppmaaZLeast
import Derived.Test.YtnljfhmdjhppmaaZGreat
import Derived.Test.YtnljfhmdjhppmaaZPush
namespace Go.Proofs.Ytnljfhmdjhppmaa
open Go.RowKit

theorem src_ok {N F : Nat} : LeastOk N (srcS N F) 0 := ⟨by simp [srcS], by simp [srcS], by simp [srcS], fun v hv => by
    show -0 ≤ (List.replicate N (0 : Int)).getD v 0 ∧ (List.replicate N (0 : Int)).getD v 0 ≤ 0
    simp [List.getD, hv]⟩
theorem src_k {N F : Nat} : (List.replicate N (Value.bool false)).set F (.bool true) = (srcS N F).k.map Value.bool := by
  show _ = ((List.replicate N false).set F true).map Value.bool
  rw [List.map_set, List.map_replicate]
theorem src_b (ls : List LinkR) {N F : Nat} : flatV (fun _ => zero6) (List.replicate N (0 : Int)) = flatV (lastC ls) (srcS N F).b := by
  apply flatV_congr
  show _ = ((List.replicate N (-2 : Int)).set F (-1)).map (lastC ls)
  rw [List.map_set, List.map_replicate, List.map_replicate]
  apply List.ext_getElem (by simp)
  intro j h1 h2
  simp only [List.getElem_replicate, List.getElem_set]
  split <;> rfl
theorem ret_LIBh {A : Option Addr} {n c : Nat} {i j : Int} {a b : Bool} (h : i = j) (h2 : a = b) : Ending.returned (.tuple #[.slice A n c, .int .i64 i, .bool a]) = .returned (.tuple #[.slice A n c, .int .i64 j, .bool b]) := by rw [h, h2]
theorem cheapF_some {o : Option (List Int)} {fl : List Int} (h : o = some fl) : cheapF o = fl := by rw [h]; rfl
theorem cheapC_some {xs : List ArcR} {o : Option (List Int)} {fl : List Int} (h : o = some fl) : cheapC xs o = costTo xs fl xs.length := by rw [h]; rfl
theorem cheapO_isSome {o : Option (List Int)} {fl : List Int} (h : o = some fl) : o.isSome = true := by rw [h]; rfl

theorem least_src (B gK gl gx N F : Nat) (cs : Array Value) (m q : Nat) (ls : List LinkR) (W w2 : World) (hN1 : 1 ≤ N) (hN : N ≤ 16) (hls : LinksOk ls N) (hlc : LinksC ls) (hm : ls.length = m) (hm2 : m ≤ 96)
    (hKl : gK ≠ gl) (hK2 : gK < w2.heap.size) (hl2 : gl < w2.heap.size) (hBK : B ≤ gK) (hBl : B ≤ gl) (hx : gx < B) (hB2 : B ≤ w2.heap.size) (hB : Below B W w2)
    (okk : OwnC 4 B 1 w2 (some ⟨gK, 0, none⟩) N N ((srcS N F).k.map Value.bool)) (ol : OwnC 103 B 6 w2 (some ⟨gl, 0, none⟩) N N (flatV (lastC ls) (srcS N F).b)) (hbx : Blk w2 gx 26 cs)
    (W7 : World) (gD : Nat) (L : Option Addr) (h27 : Below w2.heap.size w2 W7) (hD : OwnI 2 w2.heap.size W7 (some ⟨gD, 0, none⟩) N N (List.replicate N 0)) (hL : OwnC 103 w2.heap.size 6 W7 L m q (flatV LinkR.cells ls)) (hsep : ∀ ad, L = some ad → ad.block ≠ gD) :
    Calls Try.prog 47 #[.slice L m q, .slice (some ⟨gD, 0, none⟩) N N, .slice (some ⟨gK, 0, none⟩) N N, .slice (some ⟨gl, 0, none⟩) N N, .int .i64 (IntKind.i64.wrap ((N : Int) - 1))] W7 fun e w8 => (∃ x : Int, e = .returned (.int .i64 x)) ∧ Below B W w8 ∧ Blk w8 gx 26 cs ∧ OwnC 4 B 1 w8 (some ⟨gK, 0, none⟩) N N ((leastR ls (srcS N F) (N - 1)).k.map Value.bool) ∧ OwnC 103 B 6 w8 (some ⟨gl, 0, none⟩) N N (flatV (lastC ls) (leastR ls (srcS N F) (N - 1)).b) := by
  have hgD := OwnI.lt hD rfl
  have hgD1 : w2.heap.size ≤ gD := hgD.1
  have hsz := h27.size
  rw [IntWalk.i64_in ((N : Int) - 1) (by omega), show ((N : Int) - 1) = ((N - 1 : Nat) : Int) by omega]
  refine (least_any (fun l => l.arc) LinkR.by_ LinkR.room B w2.heap.size gD gK gl N (N - 1) L m q ls (srcS N F) W7 hN (by omega) hls hlc hm hm2 src_ok hL (fun ad ha => ⟨hsep ad ha, by have := (OwnC.lt hL ha).1; omega, by have := (OwnC.lt hL ha).1; omega⟩) (by omega) (by omega) hKl (OwnI.low hD hB2) (OwnC.below okk h27) (OwnC.below ol h27)).mono ?_
  rintro e w8 ⟨rfl, _, oK, oB, u8⟩
  exact ⟨⟨_, rfl⟩, (hB.trans (h27.mono hB2)).trans (u8.toBelow (by omega) (fun x hx hy => by rcases hy with e | e | e <;> omega)), (hbx.ext h27).upd u8 (by rintro (e | e | e) <;> omega), oK, oB⟩

set_option maxRecDepth 100000 in
set_option maxHeartbeats 6400000 in
theorem implCheapFlow_r (nodes : Int) (A : Option Addr) (n c : Nat) (xs : List ArcR) (a b am : Int) (w : World) (h : ArcsAt w A n xs) (hn0 : n ≤ maxLen) :
    Calls Try.prog 15 #[.agg #[.int .i64 nodes, .slice A n c], .int .i64 a, .int .i64 b, .int .i64 am] w (RetLIB 2 (cheapF (cheapO nodes xs a b am)) (cheapC xs (cheapO nodes xs a b am)) (cheapO nodes xs a b am).isSome w) := by
  have HX := Lib.hid h.len
  have hW : Below w.heap.size w (w.alloc (.cells #[.int .i64 nodes, .slice A n c] 26)) := (Below.refl _ _).alloc (Nat.le_refl _) _
  have h3 := h.alloc (.cells #[.int .i64 nodes, .slice A n c] 26)
  have HB := Lib.hid (Blk.new w 26 #[.int .i64 nodes, .slice A n c])
  have hlt0 : w.heap.size < (w.alloc (.cells #[.int .i64 nodes, .slice A n c] 26)).heap.size := by simp
  clear h
  cases he : endsB nodes xs a b
  · have HG := Lib.hid (cheapO_no (m := am) (show cheapOk nodes xs a b am = false by unfold cheapOk; rw [he]; rfl))
    go_enter Try.func15, Try.ntmps15
    go_wp2_with fail
    generalize w.alloc (.cells #[.int .i64 nodes, .slice A n c] 26) = W at *
    refine (areEnds_any nodes A n c xs a b _ h3 hn0).mono ?_
    rw [he]
    rintro e w1 ⟨rfl, e1⟩
    go_wp2_with fail
    go_ret3
    exact ⟨none, 0, 0, ret_LIBh (by rw [HG.out]; rfl) (by rw [HG.out]; rfl), by rw [HG.out]; exact OwnI.nil_ _ _ _, below_ext hW hW.size e1⟩
  · obtain ⟨N, F, t, rfl, rfl, rfl, hF, ht, hne, hv⟩ := ends_bd he
    cases hb : inB am 0 1000000
    · have HG := Lib.hid (cheapO_no (m := am) (show cheapOk N xs F t am = false by unfold cheapOk; rw [hb]; simp))
      go_enter Try.func15, Try.ntmps15
      go_wp2_with fail
      generalize w.alloc (.cells #[.int .i64 N, .slice A n c] 26) = W at *
      refine (areEnds_any N A n c xs F t _ h3 hn0).mono ?_
      rw [he]
      rintro e w1 ⟨rfl, e1⟩
      go_wp2_with fail
      refine (within_any am 0 1000000 _).mono ?_
      rw [hb]
      rintro e _ ⟨rfl, rfl⟩
      go_wp2_with fail
      go_ret3
      exact ⟨none, 0, 0, ret_LIBh (by rw [HG.out]; rfl) (by rw [HG.out]; rfl), by rw [HG.out]; exact OwnI.nil_ _ _ _, below_ext hW hW.size e1⟩
    · have hG := cheapO_yes (show cheapOk N xs F t am = true by unfold cheapOk; rw [he, hb]; rfl)
      rw [Int.toNat_natCast, Int.toNat_natCast, Int.toNat_natCast] at hG
      have HG := Lib.hid hG
      clear hG
      have hb2 := inB_iff.1 hb
      have HVA := Lib.hid hv
      obtain ⟨n0, n1, n2, _⟩ := valid_roomG HX.out hv
      have HH0 := Lib.hid (loss_hyps (fl := List.replicate n 0) (N := N) HX.out rfl hv)
      have HP0 := Lib.hid (lossPer_ok (by omega) HH0.out.hls HH0.out.hne)
      have HBD0 := Lib.hid (flowIn_bd HX.out hv (flow_zero fun k hk => by have := HX.out; subst this; obtain ⟨_, _, _, h5⟩ := valid_bd hv; exact (h5 k hk).2.2.2.1.1))
      have HCL := Lib.hid (show cheapL xs N F t am = if lossE (linksTo xs (List.replicate n 0) n) N = -1 then cheapRun xs n N F t am.toNat (List.replicate n 0) am else none by unfold cheapL; rw [HX.out])
      have HST := Lib.hid (fun (hE : lossE (linksTo xs (List.replicate n 0) n) N = -1) => (show CheapOk xs N F t n (List.replicate n 0) 0 by have h1 := HX.out; subst h1; exact cheap_start (F := F) (t := t) hv hE))
      clear hv
      go_enter Try.func15, Try.ntmps15
      go_wp2_with fail
      generalize w.alloc (.cells #[.int .i64 N, .slice A n c] 26) = W at *
      refine (areEnds_any N A n c xs F t _ h3 hn0).mono ?_
      rw [he]
      rintro e w1 ⟨rfl, e1⟩
      go_wp2_with fail
      refine (within_any am 0 1000000 _).mono ?_
      rw [hb]
      rintro e _ ⟨rfl, rfl⟩
      clear he hb
      have q0 := (HB.out.ext e1).cell 0
      have q1 := (HB.out.ext e1).cell 1
      go_wp2_with (at_make; refine wp_make_ints _ rfl _ _ 29 rfl 2 Try.underlying29 info64 .i64 .i64 _ _ n rfl rfl rfl rfl (by omega) ?_; intro w2 gF o2 b2; have e2 := ext_trans e1 b2; have q2 := (HB.out.ext e2).cell 0; have q3 := (HB.out.ext e2).cell 1)
      refine (lossRound_any N A n c xs _ _ _ _ (h3.below e2) n2 (OwnI.ints o2) (by omega) (by omega) HH0.out.hls HH0.out.hlc HH0.out.hll HH0.out.hne HBD0.out (lossPer (linksTo xs (List.replicate n 0) n) N) HP0.out (if lossE (linksTo xs (List.replicate n 0) n) N = -1 then [] else lossP (linksTo xs (List.replicate n 0) n) N (lossPer (linksTo xs (List.replicate n 0) n) N)) rfl).mono ?_
      rintro e w3 ⟨A1, n3, c1, rfl, o3, hnil, b3⟩
      have e3 := ext_trans e2 b3
      have o4 := OwnI.below o2 b3
      have hlow := Nat.le_trans hW.size e1.size
      by_cases hE : lossE (linksTo xs (List.replicate n 0) n) N = -1
      · have HC := Lib.hid (HST.out hE)
        have HR := Lib.hid (HG.out.trans (HCL.out.trans (if_pos hE)))
        obtain ⟨rfl, rfl, rfl⟩ := hnil (if_pos hE)
        clear hE hnil HP0 HH0 HBD0 HCL HST HG q2 q3 o3 o2
        go_wp2_with fail
        have o4 := OwnI.low o4 e1.size
        go_loopg [3] am.toNat (fun r mv wr => ∃ (fl : List Int) (x mm : Int), mv = .int .i64 mm ∧ 0 ≤ mm ∧ mm ≤ r ∧ mm ≤ 1000000 ∧ OwnI 2 W.heap.size wr (some ⟨gF, 0, none⟩) n n fl ∧ Below W.heap.size W wr ∧ Hid (CheapOk xs N F t n fl x ∧ cheapRun xs n N F t r fl mm = cheapO N xs F t am))
        case atStart => exact ⟨_, 0, am, rfl, by omega, by omega, by omega, o4, e3, Lib.hid ⟨HC.out, HR.out.symm⟩⟩
        case round =>
          clear o4 e1 e2 e3 b2 b3 HC HR hlow
          obtain ⟨fl, x, mm, rfl, hm0, hm1, hm2, o, hbw, hfl⟩ := hrel
          have hCO := hfl.out.1
          have hRun := Lib.hid hfl.out.2
          have HBD := Lib.hid (flowIn_bd HX.out HVA.out hCO.inn)
          have HBX := Lib.hid (HB.out.ext hbw)
          have hX3 := h3.below hbw
          have q0 := HBX.out.cell 0
          have q1 := HBX.out.cell 1
          clear hfl
          by_cases hm : 0 < mm
          · obtain ⟨r', hr'⟩ : ∃ r', gk = r' + 1 := ⟨gk - 1, by omega⟩
            subst hr'
            have hh := loss_hyps (fl := fl) (N := N) HX.out rfl HVA.out
            have hst := @cheap_step xs N F t n fl x HVA.out HX.out hF ht hne hCO
            have hmo := fun (ws : List LinkR) => @cheap_more xs n N F t r' fl mm ws
            have hno := @cheap_none xs n N F t r' fl mm
            obtain ⟨ls, hLE⟩ : ∃ ls, linksTo xs fl n = ls := ⟨_, rfl⟩
            obtain ⟨m, hM⟩ : ∃ m, ls.length = m := ⟨_, rfl⟩
            unfold bfS at hst hmo hno
            rw [hLE] at hst hmo hno hh
            have hm96 : m ≤ 96 := by have := hh.hll; omega
            have HLS := Lib.hid hh.hls
            have HLC := Lib.hid hh.hlc
            have HM := Lib.hid hM
            have HLE := Lib.hid hLE
            have HSTEP := Lib.hid hst
            have HMORE := Lib.hid hmo
            have HNO := Lib.hid hno
            have HO := Lib.hid o
            have HBW := Lib.hid hbw
            have HX3 := Lib.hid hX3
            have HOK := Lib.hid (fun r => least_r_ok (s := srcS N F) hh.hls hh.hlc (by rw [hM]; exact hm96) ⟨src_ok.dl, src_ok.kl, src_ok.bl, src_ok.bd⟩ r)
            have hgF := (OwnI.lt o rfl).2
            have hgF' : gF < wr.heap.size := hgF
            have hbs := hbw.size
            have hbx0 : w.heap.size < wr.heap.size := Nat.lt_of_lt_of_le hlt0 hbs
            clear hh hst hmo hno hLE hM hCO o hbw hX3 hgF
            obtain ⟨i0, hi0, hz0, hz1, hz2⟩ := info_parts infoLk
            obtain ⟨j0, hj0, hw0, hw1, hw2⟩ := info_parts infoB1
            have hmk1 := fun (w : World) => run_make (P := Try.prog) w 69 103 i0 _ Try.underlying69 hi0 hz0 .i64 .i64 (N : Int) (N : Int) (by omega) (Int.le_refl _) (by rw [hz2]; omega) (by omega)
            have hmk2 := fun (w : World) => run_make (P := Try.prog) w 68 4 j0 _ Try.underlying68 hj0 hw0 .i64 .i64 (N : Int) (N : Int) (by omega) (Int.le_refl _) (by rw [hw2]; omega) (by omega)
            simp only [Int.toNat_natCast, hz1, hw1] at hmk1 hmk2
            go_wp2_with fail
            have z1 := zero6_rep N
            have z2 := bools_rep N
            generalize madeCells (Value.agg #[.int .i64 0, .int .i64 0, .int .i64 0, .int .i64 0, .int .i64 0, .int .i64 0]).cells (N * 6) = M1 at *
            generalize madeCells (Value.bool false).cells (N * 1) = M2 at *
            have pa := (HBX.out.alloc (.cells M1 103)).cell 0
            have pb := (HBX.out.alloc (.cells M2 4)).cell 0
            go_cut [12, 13] (fun s12 s13 wx => ∃ (gK gl : Nat), s12 = .slice (some ⟨gK, 0, none⟩) N N ∧ s13 = .slice (some ⟨gl, 0, none⟩) N N ∧ OwnC 103 wr.heap.size 6 wx (some ⟨gl, 0, none⟩) N N M1.toList ∧ OwnC 4 wr.heap.size 1 wx (some ⟨gK, 0, none⟩) N N M2.toList ∧ gK ≠ gl ∧ Below wr.heap.size wr wx)
            case first =>
              go_region
              all_goals
                go_wp2_with fail
                go_meet
                have hx : M1.size = N * 6 := by have := congrArg List.length z1; rw [flatV_len _ 6 (fun _ => rfl)] at this; simpa using this
                have hy : M2.size = N * 1 := by have := congrArg List.length z2; simpa using this
                first
                  | exact ⟨wr.heap.size + 1, wr.heap.size, rfl, rfl, OwnC.drew (OwnC.alloc (World.ownsRow_lit (e := 103) (base := wr.heap.size) (size := 6) wr M1 N (Nat.le_refl _) (by unfold maxLen; omega) hx) _), OwnC.drew (by have h := World.ownsRow_lit (e := 4) (base := wr.heap.size) (size := 1) (wr.alloc (.cells M1 103)) M2 N (by simp) (by unfold maxLen; omega) hy; rw [World.size_alloc] at h; exact h), by omega, (((Below.refl _ _).alloc (Nat.le_refl _) _).alloc (by simp) _).drew⟩
                  | exact ⟨wr.heap.size, wr.heap.size + 1, rfl, rfl, OwnC.drew (by have h := World.ownsRow_lit (e := 103) (base := wr.heap.size) (size := 6) (wr.alloc (.cells M2 4)) M1 N (by simp) (by unfold maxLen; omega) hx; rw [World.size_alloc] at h; exact h), OwnC.drew (OwnC.alloc (World.ownsRow_lit (e := 4) (base := wr.heap.size) (size := 1) wr M2 N (Nat.le_refl _) (by unfold maxLen; omega) hy) _), by omega, (((Below.refl _ _).alloc (Nat.le_refl _) _).alloc (by simp) _).drew⟩
            case rest =>
              obtain ⟨gK, gl, rfl, rfl, ol, ob, hg12, hbW⟩ := hcut
              rw [z1, src_b ls (N := N) (F := F)] at ol
              rw [z2] at ob
              have hset := OwnC.set ob F (.bool true)
              have hfr := OwnC.free ob F
              have hcF := OwnC.cell ob (j := F) (by omega)
              rw [src_k] at hset
              have hFN : (F : Int) < (N : Int) := by omega
              have hb1 := (OwnC.lt ob rfl).1
              have ol2 := OwnC.far ol (p := ⟨gK, F, none⟩) (fun ad ha => by injection ha with ha; subst ha; exact fun e => hg12 e.symm) (.bool true)
              have hbW2 := hbW.setCell (p := ⟨gK, F, none⟩) hb1 (.bool true)
              simp [hF] at hcF
              clear ol ob hbW pa pb q0 q1 hmk1 hmk2 z1 z2
              go_wp2_with fail
              generalize wc.setCell ⟨gK, F, none⟩ (.bool true) = w4 at *
              clear hcF hfr hz0 hz1 hz2 hi0 hw0 hw1 hw2 hj0
              have hgK := (OwnC.lt hset rfl).2
              have hgl := OwnC.lt ol2 rfl
              obtain ⟨l0, hl0, hy0, hy1, hy2⟩ := info_parts info64
              have hmk1 := fun (w : World) => run_make (P := Try.prog) w 29 2 l0 _ Try.underlying29 hl0 hy0 .i64 .i64 (N : Int) (N : Int) (by omega) (Int.le_refl _) (by rw [hy2]; omega) (by omega)
              simp only [Int.toNat_natCast, hy1] at hmk1
              have z1 := zerosR_rep N
              have hO1 := fun (w' : World) => (show OwnI 2 w'.heap.size (w'.alloc (.cells (madeCells (Value.int .i64 0).cells (N * 1)) 2)) (some ⟨w'.heap.size, 0, none⟩) N N (List.replicate N 0) from by
                have hx : (madeCells (Value.int .i64 0).cells (N * 1)).size = N * 1 := by have := congrArg List.length z1; simpa using this
                have h := World.ownsRow_lit (e := 2) (base := w'.heap.size) (size := 1) w' (madeCells (Value.int .i64 0).cells (N * 1)) N (Nat.le_refl _) (by unfold maxLen; omega) hx
                rw [z1] at h
                exact h)
              generalize madeCells (Value.int .i64 0).cells (N * 1) = M1 at *
              have HO1 := Lib.hid hO1
              have hs2 := hbW2.size
              have hbx : Blk w4 w.heap.size 26 #[.int .i64 N, .slice A n c] := HBX.out.below hbW2 hbx0
              have HB4 := Lib.hid hbx
              have q0 := hbx.cell 0
              have q1 := hbx.cell 1
              have q2 := (hbx.alloc (.cells M1 2)).cell 0
              have q3 := (hbx.alloc (.cells M1 2)).cell 1
              have hX4 := HX3.out.below hbW2
              have hY4 := OwnI.below HO.out hbW2
              have HNL := Lib.hid (fun (W' : World) (hW' : Below w4.heap.size w4 W') => netLinks_m N A n c m xs (some ⟨gF, 0, none⟩) n fl ls W' (hX4.below hW') n2 (OwnI.ints (OwnI.below hY4 hW')) HBD.out HLE.out HM.out)
              have HLS' := Lib.hid (fun q => least_src wr.heap.size gK gl w.heap.size N F #[.int .i64 N, .slice A n c] m q ls wr w4 (by omega) (by omega) HLS.out HLC.out HM.out hm96 hg12 hgK hgl.2 hb1 hgl.1 hbx0 hs2 hbW2 hset ol2 hbx)
              have HLA := Lib.hid (fun (w7 : World) (L : Option Addr) (q : Nat) (ol : OwnC 103 w4.drew.heap.size 6 w7 L m q (flatV LinkR.cells ls)) (b7 : Below w4.drew.heap.size w4.drew w7) => HLS'.out q (w7.alloc (.cells M1 2)) w7.heap.size L ((ext_trans (Below.drew (Below.refl _ w4)) b7).alloc b7.size _) (OwnI.low (HO1.out w7) b7.size) (OwnC.alloc ol _) (fun ad ha => by have := (OwnC.lt ol ha).2; omega))
              have HLZ := Lib.hid (fun (w7 : World) (L : Option Addr) (q : Nat) (ol : OwnC 103 (w4.alloc (.cells M1 2)).drew.heap.size 6 w7 L m q (flatV LinkR.cells ls)) (b7 : Below (w4.alloc (.cells M1 2)).drew.heap.size (w4.alloc (.cells M1 2)).drew w7) => HLS'.out q w7 w4.heap.size L ((((Below.refl _ w4).alloc (Nat.le_refl _) (.cells M1 2)).drew).trans (b7.mono (by show w4.heap.size ≤ (w4.alloc _).heap.size; simp))) (OwnI.below (OwnI.drew (HO1.out w4)) b7) (OwnC.low ol (by show w4.heap.size ≤ (w4.alloc _).heap.size; simp)) (fun ad ha => by have h := (OwnC.lt ol ha).1; have h2 : w4.heap.size + 1 ≤ ad.block := (by have e : (w4.alloc (.cells M1 2)).drew.heap.size = w4.heap.size + 1 := (by show (w4.alloc _).heap.size = _; simp); omega); omega))
              have HBA := Lib.hid (fun (w7 : World) (b7 : Below w4.drew.heap.size w4.drew w7) => (HB4.out.drew.ext b7 : Blk w7 w.heap.size 26 #[.int .i64 N, .slice A n c]))
              have HBB := Lib.hid (fun (w7 : World) (b7 : Below (w4.alloc (.cells M1 2)).drew.heap.size (w4.alloc (.cells M1 2)).drew w7) => ((HB4.out.alloc (.cells M1 2)).drew.ext b7 : Blk w7 w.heap.size 26 #[.int .i64 N, .slice A n c]))
              clear hbx hbW2 hset ol2 hO1 hX4 hY4 HLS' HO1
              go_cut [12] (fun s12 wx => s12 = .slice (some ⟨gK, 0, none⟩) N N ∧ Below wr.heap.size wr wx ∧ Blk wx w.heap.size 26 #[.int .i64 N, .slice A n c] ∧ OwnC 4 wr.heap.size 1 wx (some ⟨gK, 0, none⟩) N N ((leastR ls (srcS N F) (N - 1)).k.map Value.bool) ∧ OwnC 103 wr.heap.size 6 wx (some ⟨gl, 0, none⟩) N N (flatV (lastC ls) (leastR ls (srcS N F) (N - 1)).b))
              case first =>
                go_region_held3 (fun w' => w'.cell? ⟨w.heap.size, 0, none⟩ = some (.int .i64 N) ∧ w'.cell? ⟨w.heap.size, 1, none⟩ = some (.slice A n c))
                  (first
                    | exact ⟨q0, q1⟩
                    | exact ⟨q2, q3⟩
                    | exact ⟨q4, q5⟩
                    | exact ⟨q6, q7⟩
                    | exact ⟨q8, q9⟩)
                  (first
                    | (go_at_call 48; refine (HNL.out _ (by first | exact Below.drew (Below.refl _ _) | exact Below.drew ((Below.refl _ _).alloc (Nat.le_refl _) _))).mono ?_; rintro e w7 ⟨L, q, rfl, ol, b7⟩; have hB7 : Blk w7 w.heap.size 26 #[.int .i64 N, .slice A n c] := (by first | exact HBA.out _ b7 | exact HBB.out _ b7); have q4 := hB7.cell 0; have q5 := hB7.cell 1; have q6 := (hB7.alloc (.cells M1 2)).cell 0; have q7 := (hB7.alloc (.cells M1 2)).cell 1; have HOL7 := Lib.hid ol; have HB7 := Lib.hid b7; clear ol b7 hB7)
                    | (go_at_call 47; (first | (with_reducible refine (HLA.out _ _ _ HOL7.out HB7.out).mono ?_) | (with_reducible refine (HLZ.out _ _ _ HOL7.out HB7.out).mono ?_)); rintro e w8 ⟨⟨x8, rfl⟩, b8, hB8, oK, oB⟩; have q8 := hB8.cell 0; have q9 := hB8.cell 1; have HB8 := Lib.hid b8; have HBK8 := Lib.hid hB8; have HO8 := Lib.hid oB; have HK8 := Lib.hid oK; clear oK oB b8 hB8))
                all_goals
                  go_wp2_with fail
                  go_meet
                  exact ⟨rfl, HB8.out, HBK8.out, HK8.out, HO8.out⟩
              case rest =>
                obtain ⟨rfl, b8, hB8, oK, oB⟩ := hcut
                clear HNL HLA HLZ HBA HBB HB4 q0 q1 q2 q3 hmk1 hy0 hy1 hy2 hl0 z1
                have hkl := (HOK.out (N - 1)).kl
                have hbl := (HOK.out (N - 1)).bl
                have hc := OwnC.cell oK (j := t) (by omega)
                rw [boolsC_get hkl ht] at hc
                have htN : (t : Int) < (N : Int) := by omega
                have q0 := hB8.cell 0
                have q1 := hB8.cell 1
                have hb9 := below_ext HBW.out hbs b8
                have o9 := OwnI.below HO.out b8
                cases hk : (leastR ls (srcS N F) (N - 1)).k.getD t false
                · rw [hk] at hc
                  have HR2 := Lib.hid (hRun.out.symm.trans (HNO.out hm hk))
                  clear hk HSTEP HMORE HNO hRun
                  go_wp2_with fail
                  go_ret3
                  exact ⟨none, 0, 0, ret_LIBh (by rw [HR2.out]; rfl) (by rw [HR2.out]; rfl), by rw [HR2.out]; exact OwnI.nil_ _ _ _, below_ext hW hW.size hb9⟩
                · rw [hk] at hc
                  obtain ⟨ws, hw1, hwp, ⟨lx, ws', hws⟩, hw4, hw5⟩ := HSTEP.out hk
                  have HRN := Lib.hid ((HMORE.out ws hm hk hw1).symm.trans hRun.out)
                  have hr0 := hw4 lx (by rw [hws]; simp)
                  have hx0 : 1 ≤ amtOf ws mm := amtOf_ge ws _ (by omega) fun l hl => (hw4 l hl).1
                  obtain ⟨hx1, hx2⟩ := amtOf_le ws mm
                  obtain ⟨k1, k2⟩ := hw5 (amtOf ws mm) (by omega) hx2
                  have HP := Lib.hid hwp
                  have HW4 := Lib.hid hw4
                  have HK1 := Lib.hid k1
                  have HK2 := Lib.hid k2
                  have hgl2 := hgl.1
                  clear hk HSTEP HMORE HNO hRun hw1 hwp hws hw4 hw5 hx2 k1 k2 hr0
                  generalize (leastR ls (srcS N F) (N - 1)).b = bb at *
                  go_wp2_with fail
                  refine (push_any W.heap.size _ _ n _ fl gl N ls bb F t ws mm _ o9 n2 oB hbl (by omega) (fun ad ha => by injection ha with ha; subst ha; show gF ≠ gl; omega) hF HP.out HW4.out (by omega) (by omega) HK1.out (by omega) ht).mono ?_
                  rintro e w9 ⟨rfl, o10, u10⟩
                  have hbX := below_blk hb9 (Nat.le_trans hbs b8.size) u10 o9 (Nat.le_refl _)
                  generalize amtOf ws mm = y at *
                  go_wp2_with fail
                  go_roundg r'
                  case measure => omega
                  case rel => exact ⟨_, x + y, mm - y, rfl, by omega, by omega, by omega, o10, hbX, Lib.hid ⟨HK2.out, HRN.out⟩⟩
          · have h0 : mm = 0 := by omega
            subst h0
            have HR2 := Lib.hid ((show cheapRun xs n N F t gk fl 0 = some fl from cheap_end).symm.trans hRun.out)
            clear hRun hCO
            go_wp2_with fail
            refine (netCost_any N A n c xs _ _ fl _ hX3 n2 (OwnI.ints o) (fun k hk => ⟨(HBD.out k hk).1, (HBD.out k hk).2.2⟩)).mono ?_
            rintro e w5 ⟨rfl, e5⟩
            go_wp2_with fail
            go_ret3
            exact ⟨_, _, _, ret_LIBh (by rw [cheapC_some HR2.out.symm, HX.out]) (cheapO_isSome HR2.out.symm).symm, by rw [cheapF_some HR2.out.symm]; exact OwnI.low (OwnI.below o e5) hW.size, below_ext hW hW.size (ext_trans hbw e5)⟩
      · obtain ⟨g, rfl, _⟩ := OwnI.pos o3 (by rw [← o3.len]; rw [if_neg hE]; unfold lossP; simp)
        have HR := Lib.hid (HG.out.trans (HCL.out.trans (if_neg hE)))
        clear hE hnil HP0 HH0 HBD0 HCL HST HG o3 o2 o4
        go_wp2_with fail
        go_ret3
        exact ⟨none, 0, 0, ret_LIBh (by rw [HR.out]; rfl) (by rw [HR.out]; rfl), by rw [HR.out]; exact OwnI.nil_ _ _ _, below_ext hW hW.size e3⟩
end Go.Proofs.Ytnljfhmdjhppmaa
