/- The matching of both: the walks. -/
import Derived.Test.YtfoelpmglmaamaaSides
namespace Go.Proofs.Ytfoelpmglmaamaa
open Go.RowKit

theorem fill_set {N k : Nat} {a b : Int} (h : k < N) : (List.replicate k a ++ List.replicate (N - k) b).set k a = List.replicate (k + 1) a ++ List.replicate (N - (k + 1)) b := by
  rw [List.set_append_right _ _ (by simp)]
  simp only [List.length_replicate, Nat.sub_self]
  rw [show N - k = N - (k + 1) + 1 by omega, List.replicate_succ, List.set_cons_zero, List.replicate_succ' (n := k), List.append_assoc]
  rfl
theorem boolsM_rep (N : Nat) : (madeCells (Value.bool false).cells (N * 1)).toList = (List.replicate N false).map Value.bool := by
  show (madeCells #[Value.bool false] (N * 1)).toList = _
  rw [toList_madeCells_one]; simp
theorem zerosM_rep (N : Nat) : (madeCells (Value.int .i64 0).cells (N * 1)).toList = (List.replicate N (0 : Int)).map (Value.int .i64) := by
  show (madeCells #[Value.int .i64 0] (N * 1)).toList = _
  rw [toList_madeCells_one]; simp
theorem infoBM : (Try.prog.info? 4).map (fun i => (i.zero, i.size, i.bytes)) = some (some (.bool false), 1, 1) := by kernel_rfl
/-- 'make([]bool, n)' -/
theorem wp_make_bools {w : World} {ops : Array Oper} {rest : List Oper} {o : Oper} {a : Act} {Q : Exit → Act → World → Prop}
    (hg : o.guard = none) (l c : Operand) (hop : o.op = Op.makeSlice 29 l c)
    (kl kc : IntKind) (L C : Int) (n : Nat) (hl : a.eval l = .int kl L) (hc : a.eval c = .int kc C) (hL : L = (n : Int)) (hC : C = (n : Int)) (hn : n ≤ 17592186044416)
    (hK : ∀ (w' : World) (g : Nat), OwnC 4 w.heap.size 1 w' (some ⟨g, 0, none⟩) n n ((List.replicate n false).map Value.bool) → Below w.heap.size w w' → wpList Try.prog ops Q rest (a.put o.dst (.slice (some ⟨g, 0, none⟩) n n)) w') :
    wpList Try.prog ops Q (o :: rest) a w := by
  obtain ⟨i0, hi, hz0, hz1, hz2⟩ := info_parts infoBM
  refine wpList_make_full w hg l c 29 hop w.heap.size 4 i0 _ 1 Try.underlying29 hi hz0 hz1 kl kc L C n hl hc hL hC (by rw [hz2]; omega) (by simp [maxLen]; omega) (Nat.le_refl _) ?_
  intro w' h2 h3
  refine hK w' w.heap.size ?_ (Upd.ext ((Upd.refl _ _).grown h3 (by intro k hk; cases hk)))
  rw [← boolsM_rep]
  exact h2
theorem count_rep (n : Nat) : (List.replicate n false).count false = n := by simp
theorem mat_in {l r : Nat} {s : MatS} (h : MatC l r s.R s.L) : SIn l r { s with K := List.replicate r false } :=
  ⟨h.rl, by simp, h.ll, fun y hy => by
    rcases h.hr y hy with h1 | ⟨x, h1, h2, _⟩
    · show s.R.getD y 0 < l; rw [h1]; omega
    · show s.R.getD y 0 < l; rw [h1]; omega⟩
theorem outTo_yes {R L0 : List Int} {k x : Nat} (h : R.getD k 0 = (x : Int)) : outTo2 R L0 (k + 1) = (outTo2 R L0 k).set x (k : Int) := by
  rw [outTo2, if_pos (by omega), h, Int.toNat_natCast]
theorem outTo_no {R L0 : List Int} {k : Nat} (h : ¬ 0 ≤ R.getD k 0) : outTo2 R L0 (k + 1) = outTo2 R L0 k := by rw [outTo2, if_neg h]
theorem outTo_len {R L0 : List Int} : ∀ k, (outTo2 R L0 k).length = L0.length
  | 0 => rfl
  | k + 1 => by
    rw [outTo2]
    split
    · rw [List.length_set]; exact outTo_len k
    · exact outTo_len k

set_option maxRecDepth 100000 in
set_option maxHeartbeats 6400000 in
theorem matched_any (L R : Nat) (A : Option Addr) (n c m : Nat) (ps : List Int) (w : World) (h : IntsAt w A n ps) (hn : n = 2 * m) (hm : m ≤ 48) (hL : 1 ≤ L ∧ L ≤ 16) (hR : 1 ≤ R ∧ R ≤ 16) (hps : PairsOk ps m L R) :
    Calls Try.prog 29 #[.int .i64 L, .int .i64 R, .slice A n c] w fun e w' => ∃ (gL gR : Nat), e = .returned (.tuple #[.slice (some ⟨gL, 0, none⟩) L L, .slice (some ⟨gR, 0, none⟩) R R]) ∧ OwnI 2 w.heap.size w' (some ⟨gL, 0, none⟩) L L (matTo ps m L R L).L ∧ OwnI 2 w.heap.size w' (some ⟨gR, 0, none⟩) R R (matTo ps m L R L).R ∧ gL ≠ gR ∧ Below w.heap.size w w' := by
  obtain ⟨hL1, hL2⟩ := hL
  obtain ⟨hR1, hR2⟩ := hR
  have HN := Lib.hid hn
  have HPS := Lib.hid hps
  have HAlt := Lib.hid (show ∀ ad, A = some ad → 0 < n → ad.block < w.heap.size from fun ad ha h0 => by
    obtain ⟨bd, h1, h2, _⟩ := h.2 h0
    rw [ha] at h1; injection h1 with h1; subst h1; exact h2)
  obtain ⟨l0, hl0, hy0, hy1, hy2⟩ := info_parts info64
  have hmk1 := fun (w : World) => run_make (P := Try.prog) w 25 2 l0 _ Try.underlying25 hl0 hy0 .i64 .i64 (L : Int) (L : Int) (by omega) (Int.le_refl _) (by rw [hy2]; omega) (by omega)
  have hmk2 := fun (w : World) => run_make (P := Try.prog) w 25 2 l0 _ Try.underlying25 hl0 hy0 .i64 .i64 (R : Int) (R : Int) (by omega) (Int.le_refl _) (by rw [hy2]; omega) (by omega)
  simp only [Int.toNat_natCast, hy1] at hmk1 hmk2
  have HZL := Lib.hid (zerosM_rep L)
  have HZR := Lib.hid (zerosM_rep R)
  clear hn hps
  go_enter Try.func29, Try.ntmps29
  generalize madeCells (Value.int .i64 0).cells (L * 1) = ML at *
  generalize madeCells (Value.int .i64 0).cells (R * 1) = MR at *
  go_wp2_with fail
  go_cut [8, 9] (fun s8 s9 wx => ∃ (g1 g2 : Nat), s8 = .slice (some ⟨g1, 0, none⟩) R R ∧ s9 = .slice (some ⟨g2, 0, none⟩) L L ∧ OwnI 2 w.heap.size wx (some ⟨g1, 0, none⟩) R R (List.replicate R 0) ∧ OwnI 2 w.heap.size wx (some ⟨g2, 0, none⟩) L L (List.replicate L 0) ∧ g1 ≠ g2 ∧ Below w.heap.size w wx)
  case first =>
    have hx : ML.size = L * 1 := by have := congrArg List.length HZL.out; simpa using this
    have hy : MR.size = R * 1 := by have := congrArg List.length HZR.out; simpa using this
    have HOL := Lib.hid (fun (W' : World) => (show OwnI 2 W'.heap.size (W'.alloc (.cells ML 2)) (some ⟨W'.heap.size, 0, none⟩) L L (List.replicate L 0) from by
      have h := World.ownsRow_lit (e := 2) (base := W'.heap.size) (size := 1) W' ML L (Nat.le_refl _) (by unfold maxLen; omega) hx
      rw [HZL.out] at h
      exact h))
    have HOR := Lib.hid (fun (W' : World) => (show OwnI 2 W'.heap.size (W'.alloc (.cells MR 2)) (some ⟨W'.heap.size, 0, none⟩) R R (List.replicate R 0) from by
      have h := World.ownsRow_lit (e := 2) (base := W'.heap.size) (size := 1) W' MR R (Nat.le_refl _) (by unfold maxLen; omega) hy
      rw [HZR.out] at h
      exact h))
    have HOL2 := Lib.hid (show OwnI 2 w.heap.size ((w.alloc (.cells MR 2)).alloc (.cells ML 2)) (some ⟨w.heap.size + 1, 0, none⟩) L L (List.replicate L 0) from by
      have h := HOL.out (w.alloc (.cells MR 2))
      rw [World.size_alloc] at h
      exact OwnI.low h (by omega))
    have HOR2 := Lib.hid (show OwnI 2 w.heap.size ((w.alloc (.cells ML 2)).alloc (.cells MR 2)) (some ⟨w.heap.size + 1, 0, none⟩) R R (List.replicate R 0) from by
      have h := HOR.out (w.alloc (.cells ML 2))
      rw [World.size_alloc] at h
      exact OwnI.low h (by omega))
    clear hx hy
    go_region
    all_goals
      go_wp2_with fail
      go_meet
      first
        | exact ⟨w.heap.size, w.heap.size + 1, rfl, rfl, OwnI.drew (OwnI.alloc (HOR.out w) _), OwnI.drew HOL2.out, by omega, (((Below.refl _ _).alloc (Nat.le_refl _) _).alloc (by simp) _).drew⟩
        | exact ⟨w.heap.size + 1, w.heap.size, rfl, rfl, OwnI.drew HOR2.out, OwnI.drew (OwnI.alloc (HOL.out w) _), by omega, (((Below.refl _ _).alloc (Nat.le_refl _) _).alloc (by simp) _).drew⟩
  case rest =>
    obtain ⟨g1, g2, rfl, rfl, o1, o2, hg12, hbx⟩ := hcut
    have hg1w := (OwnI.lt o1 rfl).1
    have hg2w := (OwnI.lt o2 rfl).1
    have HF0 := Lib.hid (fun (N : Nat) (a b : Int) => (show List.replicate N b = List.replicate 0 a ++ List.replicate (N - 0) b by simp))
    rw [HF0.out R (-1) 0] at o1
    clear hmk1 hmk2 HZL HZR hl0 hy0 hy1 hy2
    go_wp2_with fail
    go_loopg [20] R (fun r iv wi => ∃ (k : Nat), r = R - k ∧ k ≤ R ∧ iv = .int .i64 k ∧ OwnI 2 w.heap.size wi (some ⟨g1, 0, none⟩) R R (List.replicate k (-1) ++ List.replicate (R - k) 0) ∧ OwnI 2 w.heap.size wi (some ⟨g2, 0, none⟩) L L (List.replicate L 0) ∧ Below w.heap.size w wi)
    case atStart => exact ⟨0, rfl, by omega, rfl, o1, o2, hbx⟩
    case round =>
      clear o1 o2 hbx
      obtain ⟨k, hr, hk, rfl, o1, o2, hbw⟩ := hrel
      have HR := Lib.hid hr
      clear hr
      by_cases hlt : k < R
      · have f1 := OwnI.free o1 k
        have c1 := OwnI.cell o1 hlt
        have o1S := OwnI.set o1 k (-1)
        rw [fill_set hlt] at o1S
        have o2S := OwnI.far o2 (p := ⟨g1, k, none⟩) (fun ad ha => by injection ha with ha; subst ha; exact fun e => hg12 e.symm) (.int .i64 (-1))
        have bS := hbw.setCell (p := ⟨g1, k, none⟩) hg1w (.int .i64 (-1))
        clear o1 o2 hbw
        generalize (List.replicate k (-1 : Int) ++ List.replicate (R - k) 0).getD k 0 = z at *
        go_wp2_with fail
        go_roundg (R - (k + 1))
        case measure => rw [HR.out]; omega
        case rel => exact ⟨k + 1, rfl, by omega, by go_num, o1S, o2S, bS⟩
      · have e : R = k := by omega
        subst e
        have o1' : OwnI 2 w.heap.size wr (some ⟨g1, 0, none⟩) R R (matTo ps m L R 0).R := by
          have := o1
          rw [Nat.sub_self, List.replicate_zero, List.append_nil] at this
          exact this
        rw [HF0.out L (-1) 0] at o2
        clear o1
        obtain ⟨wm, rfl⟩ : ∃ wm : World, wm = wr := ⟨_, rfl⟩
        go_wp2_with fail
        go_loopg [29] L (fun r iv wi => ∃ (k : Nat), r = L - k ∧ k ≤ L ∧ iv = .int .i64 k ∧ OwnI 2 w.heap.size wi (some ⟨g1, 0, none⟩) R R (matTo ps m L R k).R ∧ OwnI 2 w.heap.size wi (some ⟨g2, 0, none⟩) L L (List.replicate k (-1) ++ List.replicate (L - k) 0) ∧ Below w.heap.size w wi)
        case atStart => exact ⟨0, rfl, by omega, rfl, o1', o2, hbw⟩
        case round =>
          clear o1' o2 hbw
          obtain ⟨k, hr, hk, rfl, o1, o2, hbw⟩ := hrel
          have HR := Lib.hid hr
          clear hr
          by_cases hlt : k < L
          · have hC := (matTo_ok HPS.out k (by omega)).1
            have HIN := Lib.hid (mat_in hC)
            have HST := Lib.hid (show matTo ps m L R (k + 1) = (findF ps m (R + 1) (k : Int) { matTo ps m L R k with K := List.replicate R false }).2 from rfl)
            clear hC
            generalize matTo ps m L R k = s at *
            have f2 := OwnI.free o2 k
            have c2 := OwnI.cell o2 hlt
            have o2S := OwnI.set o2 k (-1)
            rw [fill_set hlt] at o2S
            have o1S := OwnI.far o1 (p := ⟨g2, k, none⟩) (fun ad ha => by injection ha with ha; subst ha; exact hg12) (.int .i64 (-1))
            have bS := hbw.setCell (p := ⟨g2, k, none⟩) hg2w (.int .i64 (-1))
            have hsz0 : w.heap.size ≤ (wr.setCell ⟨g2, k, none⟩ (.int .i64 (-1))).heap.size := bS.size
            have HP := Lib.hid (h.below bS)
            have HO1 := Lib.hid o1S
            have HO2 := Lib.hid o2S
            have HBS := Lib.hid bS
            have hg1b := (OwnI.lt o1S rfl).2
            have hg2b := (OwnI.lt o2S rfl).2
            clear o1 o2 hbw o1S o2S bS
            generalize (List.replicate k (-1 : Int) ++ List.replicate (L - k) 0).getD k 0 = z at *
            go_upto_region 11 with (fail)
            generalize wr.setCell ⟨g2, k, none⟩ (.int .i64 (-1)) = W2 at *
            clear f2 c2
            go_wp2_with (at_make; refine wp_make_bools rfl _ _ rfl .i64 .i64 _ _ R rfl rfl rfl rfl (by omega) ?_; intro w3 gK oK b3)
            have hgK : W2.heap.size ≤ gK := (OwnC.lt oK rfl).1
            have hs3 := b3.size
            have hgK1 : g1 ≠ gK := by have h1 : g1 < W2.heap.size := hg1b; omega
            have hgK2 : g2 ≠ gK := by have h1 : g2 < W2.heap.size := hg2b; omega
            refine (finds_any A n c m L R ps w.heap.size W2.heap.size g1 gK HN.out hm HPS.out hR2 hgK1 ?_ ?_ (R + 1) (k : Int) { s with K := List.replicate R false } w3 (by omega) HIN.out (by rw [count_rep]; omega) (IntsAt.below HP.out b3) (OwnI.below HO1.out b3) oK).mono ?_
            · intro h0 ad ha e
              have h1 := HAlt.out ad ha h0
              have h2 : w.heap.size ≤ g1 := hg1w
              omega
            · intro h0 ad ha e
              have h1 := HAlt.out ad ha h0
              have h2 : w.heap.size ≤ W2.heap.size := hsz0
              omega
            · rintro e w4 ⟨rfl, oR4, oK4, u4⟩
              have hb4 : Below W2.heap.size W2 w3 := b3
              have o2X := OwnI.upd (OwnI.below HO2.out b3) u4 (fun ad ha => by
                injection ha with ha; subst ha
                rintro (e | e)
                · exact hg12 e.symm
                · exact hgK2 e)
              have bX : Below w.heap.size w w4 := (HBS.out.trans (b3.mono hsz0)).trans (u4.toBelow (Nat.le_trans hsz0 hs3) (fun x hx hy => by
                rcases hy with e | e
                · have h2 : w.heap.size ≤ g1 := hg1w; omega
                · omega))
              have oR4' := oR4
              rw [← HST.out] at oR4'
              clear oR4 oK4 u4 b3 HP HO1 HO2 HBS HIN oK
              generalize findF ps m (R + 1) (k : Int) { s with K := List.replicate R false } = q at *
              go_wp2_with fail
              go_roundg (L - (k + 1))
              case measure => rw [HR.out]; omega
              case rel => exact ⟨k + 1, rfl, by omega, by go_num, oR4', o2X, bX⟩
          · have e : L = k := by omega
            subst e
            rw [Nat.sub_self, List.replicate_zero, List.append_nil] at o2
            have hC := (matTo_ok HPS.out L (Nat.le_refl _)).1
            have HALL := Lib.hid (outTo2_all hC)
            have HCR := Lib.hid hC.hr
            clear hC
            generalize hs0 : matTo ps m L R L = s at *
            have HS0 := Lib.hid hs0
            clear hs0
            obtain ⟨wl, rfl⟩ : ∃ wl : World, wl = wr := ⟨_, rfl⟩
            go_wp2_with fail
            go_loopg [44] R (fun r iv wi => ∃ (k : Nat), r = R - k ∧ k ≤ R ∧ iv = .int .i64 k ∧ OwnI 2 w.heap.size wi (some ⟨g1, 0, none⟩) R R s.R ∧ OwnI 2 w.heap.size wi (some ⟨g2, 0, none⟩) L L (outTo2 s.R (List.replicate L (-1)) k) ∧ Below w.heap.size w wi)
            case atStart => exact ⟨0, rfl, by omega, rfl, o1, o2, hbw⟩
            case round =>
              clear o1 o2 hbw
              obtain ⟨j, hr, hj, rfl, o1, o2, hbw⟩ := hrel
              have HR := Lib.hid hr
              clear hr
              by_cases hlj : j < R
              · have c1 := OwnI.cell o1 hlj
                by_cases hx0 : 0 ≤ s.R.getD j 0
                · obtain ⟨x, hx1, hx2, _⟩ := (HCR.out j hlj).resolve_left (by omega)
                  have HE := Lib.hid (outTo_yes (L0 := List.replicate L (-1)) hx1)
                  rw [hx1] at c1
                  clear hx1 hx0
                  have f2 := OwnI.free o2 x
                  have c2 := OwnI.cell o2 hx2
                  have o2S := OwnI.set o2 x (j : Int)
                  have o1S := OwnI.far o1 (p := ⟨g2, x, none⟩) (fun ad ha => by injection ha with ha; subst ha; exact hg12) (.int .i64 j)
                  have bS := hbw.setCell (p := ⟨g2, x, none⟩) hg2w (.int .i64 j)
                  have v1 : (x : Int) < (L : Int) := by omega
                  have v2 : 0 ≤ (x : Int) := by omega
                  clear o2 hbw
                  generalize outTo2 s.R (List.replicate L (-1)) j = ol at *
                  go_wp2_with fail
                  go_roundg (R - (j + 1))
                  case measure => rw [HR.out]; omega
                  case rel => exact ⟨j + 1, rfl, by omega, by go_num, o1S, by rw [HE.out]; exact o2S, bS⟩
                · have HE := Lib.hid (outTo_no (L0 := List.replicate L (-1)) hx0)
                  generalize s.R.getD j 0 = x at *
                  go_wp2_with fail
                  go_roundg (R - (j + 1))
                  case measure => rw [HR.out]; omega
                  case rel => exact ⟨j + 1, rfl, by omega, by go_num, o1, by rw [HE.out]; exact o2, hbw⟩
              · have e : R = j := by omega
                subst e
                rw [HALL.out] at o2
                go_wp2_with fail
                go_ret2
                exact ⟨g2, g1, rfl, by rw [HS0.out]; exact o2, by rw [HS0.out]; exact o1, (fun e => hg12 e.symm), hbw⟩
set_option maxHeartbeats 800000 in
theorem l03None_any (n : Nat) (w : World) (hn : n ≤ 1000) :
    Calls Try.prog 38 #[.int .i64 n] w (RetI 2 (List.replicate n (-1)) w) := by
  have he : OwnI 2 w.heap.size (w.alloc (.cells #[] 2)) (some ⟨w.heap.size, 0, none⟩) 0 0 (List.replicate 0 (-1)) := World.ownsRow_lit (e := 2) (base := w.heap.size) (size := 1) w #[] 0 (Nat.le_refl _) (Nat.zero_le _) rfl
  have hb0 := (Below.refl w.heap.size w).alloc (Nat.le_refl _) (.cells #[] 2)
  go_enter Try.func38, Try.ntmps38
  go_wp2_with fail
  generalize w.alloc (.cells #[] 2) = W at *
  go_loopg [0, 3] n (fun r nv ov wi => ∃ (k : Nat) (B : Option Addr) (d : Nat), r = n - k ∧ k ≤ n ∧ nv = .int .i64 ((n - k : Nat) : Int) ∧ ov = .slice B k d ∧ OwnI 2 w.heap.size wi B k d (List.replicate k (-1)) ∧ Below w.heap.size w wi)
  case atStart => exact ⟨0, _, 0, rfl, by omega, rfl, rfl, he, hb0⟩
  case round =>
    clear he hb0
    obtain ⟨k, B, d, hr, hk, rfl, rfl, ob, hbw⟩ := hrel
    have HR := Lib.hid hr
    clear hr
    have hsz := hbw.size
    by_cases hlt : k < n
    · obtain ⟨t, ht⟩ : ∃ t, n - k = t + 1 := ⟨n - k - 1, by omega⟩
      have HT := Lib.hid (show n - (k + 1) = t by omega)
      have HRP := Lib.hid (show List.replicate k (-1 : Int) ++ [-1] = List.replicate (k + 1) (-1) by rw [List.replicate_succ'])
      rw [ht]
      have ht2 : t ≤ 1000 := by omega
      have v1 : (((t + 1 : Nat) : Int)) > 0 := by omega
      clear ht
      go_wp2_with (at_builtin; (refine wp_append_int _ _ rfl _ _ _ rfl 2 w.heap.size Try.underlying25 info64 B k d _ rfl ob rfl (by omega) hsz ?_; intro g5 c5 w6 o6 u6 b6 hg6))
      rw [HRP.out] at o6
      go_roundg (n - (k + 1))
      case measure => rw [HR.out]; omega
      case rel => exact ⟨k + 1, _, c5, rfl, by omega, by rw [HT.out], rfl, o6, hbw.trans b6⟩
    · have e : n = k := by omega
      subst e
      rw [Nat.sub_self]
      go_wp2_with fail
      go_ret
      exact ⟨_, _, _, rfl, ob, hbw⟩
set_option maxRecDepth 100000 in
set_option maxHeartbeats 3200000 in
theorem l03Match_any (L R : Nat) (A : Option Addr) (n c m : Nat) (ps : List Int) (w : World) (h : IntsAt w A n ps) (hn : n = 2 * m) (hm : m ≤ 48) (hL : 1 ≤ L ∧ L ≤ 16) (hR : 1 ≤ R ∧ R ≤ 16) (hps : PairsOk ps m L R) :
    Calls Try.prog 33 #[.int .i64 L, .int .i64 R, .slice A n c] w fun e w' => ∃ (gL cL gR cR : Nat), e = .returned (.tuple #[.slice (some ⟨gL, 0, none⟩) L cL, .slice (some ⟨gR, 0, none⟩) R cR]) ∧ OwnI 2 w.heap.size w' (some ⟨gL, 0, none⟩) L cL (matTo ps m L R L).L ∧ OwnI 2 w.heap.size w' (some ⟨gR, 0, none⟩) R cR (matTo ps m L R L).R ∧ gL ≠ gR ∧ Below w.heap.size w w' := by
  obtain ⟨hL1, hL2⟩ := hL
  obtain ⟨hR1, hR2⟩ := hR
  have HN := Lib.hid hn
  have HPS := Lib.hid hps
  have HAlt := Lib.hid (show ∀ ad, A = some ad → 0 < n → ad.block < w.heap.size from fun ad ha h0 => by
    obtain ⟨bd, h1, h2, _⟩ := h.2 h0
    rw [ha] at h1; injection h1 with h1; subst h1; exact h2)
  clear hn hps
  go_enter Try.func33, Try.ntmps33
  go_wp2_with fail
  refine (l03None_any L _ (by omega)).mono ?_
  rintro e w1 ⟨AL, nL, cL, rfl, oL, b1⟩
  obtain rfl : L = nL := by have := oL.len; simp at this; exact this
  obtain ⟨gL, rfl, hgLw, hgL1, _, _⟩ := oL.pos (by omega)
  go_wp2_with fail
  refine (l03None_any R _ (by omega)).mono ?_
  rintro e w2 ⟨AR, nR, cR, rfl, oR, b2⟩
  obtain rfl : R = nR := by have := oR.len; simp at this; exact this
  obtain ⟨gR, rfl, hgRw, hgR2, _, _⟩ := oR.pos (by omega)
  have hLR : gL ≠ gR := by omega
  have oL2 := OwnI.below oL b2
  have oR2 := OwnI.low oR b1.size
  have hb2 := b1.trans (b2.mono b1.size)
  have hs1 := b1.size
  have oL0 : OwnI 2 w.heap.size w2 (some ⟨gL, 0, none⟩) L cL (matTo ps m L R 0).L := oL2
  have oR0 : OwnI 2 w.heap.size w2 (some ⟨gR, 0, none⟩) R cR (matTo ps m L R 0).R := oR2
  have hgRw2 : w.heap.size ≤ gR := by omega
  clear oL oR oL2 oR2 b1 b2
  go_wp2_with fail
  go_loopg [10] L (fun r iv wi => ∃ (k : Nat), r = L - k ∧ k ≤ L ∧ iv = .int .i64 k ∧ OwnI 2 w.heap.size wi (some ⟨gL, 0, none⟩) L cL (matTo ps m L R k).L ∧ OwnI 2 w.heap.size wi (some ⟨gR, 0, none⟩) R cR (matTo ps m L R k).R ∧ Below w.heap.size w wi)
  case atStart => exact ⟨0, rfl, by omega, rfl, oL0, oR0, hb2⟩
  case round =>
    clear oL0 oR0 hb2
    obtain ⟨k, hr, hk, rfl, oL, oR, hbw⟩ := hrel
    have HR := Lib.hid hr
    clear hr
    by_cases hlt : k < L
    · have hC := (matTo_ok HPS.out k (by omega)).1
      have HIN := Lib.hid (mat_in hC)
      have HST := Lib.hid (show matTo ps m L R (k + 1) = (findF ps m (R + 1) (k : Int) { matTo ps m L R k with K := List.replicate R false }).2 from rfl)
      clear hC
      generalize matTo ps m L R k = s at *
      have hsz0 := hbw.size
      have hgLb := (OwnI.lt oL rfl).2
      have hgRb := (OwnI.lt oR rfl).2
      have HP := Lib.hid (h.below hbw)
      have HOL := Lib.hid oL
      have HOR := Lib.hid oR
      have HBS := Lib.hid hbw
      clear oL oR hbw
      go_wp2_with (at_make; refine wp_make_bools rfl _ _ rfl .i64 .i64 _ _ R rfl rfl rfl rfl (by omega) ?_; intro w3 gK oK b3)
      have hgK : wr.heap.size ≤ gK := (OwnC.lt oK rfl).1
      have hs3 := b3.size
      have hgK1 : gR ≠ gK := by have h1 : gR < wr.heap.size := hgRb; omega
      have hgK2 : gL ≠ gK := by have h1 : gL < wr.heap.size := hgLb; omega
      refine (l03Find_any A n c m L R ps w.heap.size wr.heap.size gL cL gR cR gK HN.out hm HPS.out hR2 hgK1 hLR hgK2 ?_ ?_ ?_ (R + 1) k { s with K := List.replicate R false } w3 (by omega) HIN.out (by rw [count_rep]; omega) (IntsAt.below HP.out b3) (OwnI.below HOR.out b3) (OwnI.below HOL.out b3) oK).mono ?_
      · intro h0 ad ha e
        have h1 := HAlt.out ad ha h0
        omega
      · intro h0 ad ha e
        have h1 := HAlt.out ad ha h0
        omega
      · intro h0 ad ha e
        have h1 := HAlt.out ad ha h0
        omega
      · rintro e w4 ⟨rfl, oR4, oL4, oK4, u4⟩
        have bX : Below w.heap.size w w4 := (HBS.out.trans (b3.mono hsz0)).trans (u4.toBelow (Nat.le_trans hsz0 hs3) (fun x hx hy => by rcases hy with e | e | e <;> omega))
        have oR4' := oR4
        have oL4' := oL4
        rw [← HST.out] at oR4' oL4'
        clear oR4 oL4 oK4 u4 b3 HP HOL HOR HBS HIN oK
        generalize findF ps m (R + 1) (k : Int) { s with K := List.replicate R false } = q at *
        go_wp2_with fail
        go_roundg (L - (k + 1))
        case measure => rw [HR.out]; omega
        case rel => exact ⟨k + 1, rfl, by omega, by go_num, oL4', oR4', bX⟩
    · have e : L = k := by omega
      subst e
      go_wp2_with fail
      go_ret2
      exact ⟨gL, cL, gR, cR, rfl, oL, oR, hLR, hbw⟩
end Go.Proofs.Ytfoelpmglmaamaa
