/- LeastBins: the program's walk. -/
import Derived.Test.YthhkgeeomhhegaaBinsPlain
import Derived.Test.YthhkgeeomhhegaaFirstPlain
import Derived.Test.YthhkgeeomhhegaaSortB
import Derived.Test.YthhkgeeomhhegaaMore
import Derived.StillTailTactics
import Derived.Deep.RegionHeld3
namespace Go.Proofs.Ythhkgeeomhhegaa
open Go.RowKit

/-- the number of bins stays small -/
theorem fwF_bd {zs : List Int} {room : Int} : ∀ (f : Nat) (bs : List Int), 0 ≤ fwF zs room f bs ∧ fwF zs room f bs ≤ bs.length + f
  | 0, bs => by unfold fwF; omega
  | f + 1, bs => by
    unfold fwF
    have h1 := fwF_bd (zs := zs) (room := room) f (bs ++ [room - zs.getD (zs.length - (f + 1)) 0])
    rw [List.length_append, List.length_singleton] at h1
    rcases fwTo_met (F := fwF zs room f) (bs := bs) (x := zs.getD (zs.length - (f + 1)) 0) (init := fwF zs room f (bs ++ [room - zs.getD (zs.length - (f + 1)) 0])) bs.length with e | ⟨j, h2, h3, e⟩
    · rw [e]; omega
    · rw [e]
      have h4 := fwF_bd (zs := zs) (room := room) f (bs.set j (bs.getD j 0 - zs.getD (zs.length - (f + 1)) 0))
      rw [List.length_set] at h4
      omega
def InR (bs : List Int) : Prop := ∀ j, j < bs.length → 0 ≤ bs.getD j 0 ∧ bs.getD j 0 ≤ 1000

theorem updGf {w w' : World} {A : Option Addr} {n c : Nat} (hg : w.grownBy w' (Value.slice A n c).ownBlock) : Upd (blk A) w w' := (Upd.refl _ _).grown hg (by
  intro k hk
  cases A with
  | none => cases hk
  | some ad => injection hk with hk; exact .inl ⟨ad, rfl, hk⟩)
theorem own_snocf {T base n c : Nat} {w : World} {A : Option Addr} {zs : List Int} {x : Int} (h : w.ownsRow base T 1 (.slice A n c) n (zs.map (Value.int .i64) ++ [.int .i64 x])) : OwnI T base w A n c (zs ++ [x]) := by
  unfold OwnI
  rw [List.map_append]
  exact h
set_option maxRecDepth 100000 in
set_option maxHeartbeats 3200000 in
theorem fewest_any (A : Option Addr) (n c : Nat) (zs : List Int) (room : Int) (hl : zs.length = n) (hn : n ≤ 10) (hr : 0 ≤ room ∧ room ≤ 1000) (hz : ∀ k, k < n → 0 ≤ zs.getD k 0 ∧ zs.getD k 0 ≤ room) : ∀ (f : Nat), f ≤ n → ∀ (B : Option Addr) (nb cb : Nat) (bs : List Int) (w : World), IntsAt w A n zs → IntsAt w B nb bs → InR bs → nb + f ≤ n →
    Calls Try.prog 40 #[.slice A n c, .slice B nb cb, .int .i64 room, .int .i64 ((n - f : Nat) : Int)] w (RetV (.int .i64 (fwF zs room f bs)) w) := by
  intro f
  have HZ := Lib.hid hz
  have HLZ := Lib.hid hl
  clear hz hl
  induction f with
  | zero =>
    intro hf B nb cb bs w h hB hin hnb
    have HE := Lib.hid (show fwF zs room 0 bs = (nb : Int) by unfold fwF; rw [hB.len])
    rw [Nat.sub_zero]
    go_enter Try.func40, Try.ntmps40
    go_wp2_with (go_at_call 48; refine (size_any _ _).mono ?_; rintro e w' ⟨rfl, rfl⟩)
    go_ret
    exact ⟨ret_int HE.out.symm, Below.refl _ _⟩
  | succ f ih =>
    intro hf B nb cb bs w h hB hin hnb
    have IH := Lib.hid (ih (by omega))
    clear ih
    obtain ⟨i, hi⟩ : ∃ i, i = n - (f + 1) := ⟨_, rfl⟩
    have hi2 : n - f = i + 1 := by omega
    rw [← hi]
    rw [hi2] at IH
    have hin2 : i < n := by omega
    have HI := Lib.hid hi
    clear hi hi2
    have HE := Lib.hid (show fwF zs room (f + 1) bs = fwTo (fwF zs room f) bs (zs.getD i 0) (fwF zs room f (bs ++ [room - zs.getD i 0])) nb by
      rw [show i = zs.length - (f + 1) by rw [HLZ.out]; exact HI.out, ← hB.len]; rfl)
    have hx := HZ.out i hin2
    obtain ⟨ad, rfl, _, cx⟩ := h.at_ hin2
    have HCX := Lib.hid (fun (W : World) (hW : Below w.heap.size w W) => ints_cell (h.below hW) hin2)
    have hi3 : (i : Int) < (n : Int) := by omega
    have hne : ¬ (i : Int) = (n : Int) := by omega
    have hnei : ((i : Int) == (n : Int)) = false := by rw [beq_eq_false_iff_ne]; omega
    generalize zs.getD i 0 = x at *
    have HB := Lib.hid hB.len
    go_enter Try.func40, Try.ntmps40
    go_wp2_with fail
    obtain ⟨i0, hi0, hz0, hz1, hz2⟩ := info_parts info64
    have v1 : IntKind.i64.wrap (room - x) = room - x := IntWalk.i64_in _ (by omega)
    have v2 : IntKind.i64.wrap ((i : Int) + 1) = (i : Int) + 1 := IntWalk.i64_in _ (by omega)
    have hb0 : Below w.heap.size w w.drew := Below.drew (Below.refl w.heap.size w)
    have HBD := Lib.hid hB.drew
    have hbA : Below w.heap.size w (w.alloc (.cells #[.int .i64 (room - x)] 2)).drew := ((Below.refl w.heap.size w).alloc (Nat.le_refl _) _).drew
    have HBA := Lib.hid (hB.alloc (.cells #[.int .i64 (room - x)] 2)).drew
    have HKA := Lib.hid (Blk.new w 2 #[.int .i64 (room - x)]).drew
    have q0 := HCX.out _ hbA
    have HH := Lib.hid h
    have HIN := Lib.hid (show InR (bs ++ [room - x]) from fun j hj => by
      rw [List.length_append, List.length_singleton] at hj
      by_cases e : j < bs.length
      · rw [show (bs ++ [room - x]).getD j 0 = bs.getD j 0 by simp only [List.getD]; rw [List.getElem?_append_left e]]; exact hin j e
      · rw [show j = bs.length by omega, show (bs ++ [room - x]).getD bs.length 0 = room - x by simp [List.getD]]; omega)
    have HIB := Lib.hid hin
    have HBB := Lib.hid hB
    clear hB hin h
    go_cut [9] (fun v wx => v = .int .i64 (fwF zs room f (bs ++ [room - x])) ∧ Below w.heap.size w wx)
    case first =>
      go_region_held3 (fun w' => w'.cell? (ad.add i) = some (.int .i64 x))
        (first
          | exact cx
          | exact q0
          | exact q1
          | exact q2
          | exact q3)
        (first
          | (go_at_call 58; refine (copyInts_any B nb cb bs _ HBD.out (by omega)).mono ?_; rintro e w7 ⟨B2, c2, rfl, o2, b2⟩; have q1 := HCX.out w7 (ext_trans hb0 b2); have HO2 := Lib.hid (OwnI.low o2 (Nat.le_refl w.heap.size)); have HB2 := Lib.hid (ext_trans hb0 b2); have q2 := HCX.out (w7.alloc (.cells #[.int .i64 (room - x)] 2)) ((ext_trans hb0 b2).alloc ((ext_trans hb0 b2).size) _); clear o2 b2)
          | (go_at_call 58; refine (copyInts_any B nb cb bs _ HBA.out (by omega)).mono ?_; rintro e w7 ⟨B2, c2, rfl, o2, b2⟩; have q1 := HCX.out w7 (below_ext hbA hbA.size b2); have HO2 := Lib.hid (OwnI.low o2 hbA.size); have HB2 := Lib.hid (below_ext hbA hbA.size b2); have HKE := Lib.hid (HKA.out.ext b2); clear o2 b2)
          | (go_at_call 40; refine (IH.out (some ⟨gg5, 0, none⟩) (nb + 1) cap5 (bs ++ [room - x]) _ (HH.out.below HB5.out) (OwnI.ints HO5.out) HIN.out (by omega)).mono ?_; rintro e w8 ⟨rfl, b8⟩; have q3 := HCX.out w8 (ext_trans HB5.out b8); have HB8 := Lib.hid (ext_trans HB5.out b8); clear b8)
          | (refine step_append_lies _ (by rfl) _ _ _ (by rfl) w.heap.size 2 i0 _ 1 8 Try.underlying22 hi0 hz0 hz1 hz2 rfl (by omega) (.slice B2 nb c2) nb (bs.map (Value.int .i64)) (by rfl) (World.ownsRow.alloc HO2.out _) ⟨w7.heap.size, 0, none⟩ 1 1 [.int .i64 (room - x)] (by rfl) (by rfl) (World.news_of_block (cs := #[.int .i64 (room - x)]) (t := 2) (fr := (0, 0)) (heap_alloc_new w7 _)) (by simp [Value.oneCell']) (by omega) (by unfold maxLen; omega) (by omega) (by have := HB2.out.size; simp; omega) (w7.heap.size + 1) (by simp) ?_; intro gg5 cap5 w5 hown5 hgrow hat5 hlt5; have HB5 := Lib.hid (below_blk (HB2.out.alloc HB2.out.size _) (HB2.out.alloc HB2.out.size _).size (updGf hgrow) (HO2.out.alloc _) (Nat.le_refl _)); have HO5 := Lib.hid (own_snocf hown5); have q2 := HCX.out w5 HB5.out; clear hown5 hgrow hat5 hlt5)
          | (refine step_append_lies _ (by rfl) _ _ _ (by rfl) w.heap.size 2 i0 _ 1 8 Try.underlying22 hi0 hz0 hz1 hz2 rfl (by omega) (.slice B2 nb c2) nb (bs.map (Value.int .i64)) (by rfl) HO2.out ⟨w.heap.size, 0, none⟩ 1 1 [.int .i64 (room - x)] (by rfl) (by rfl) (World.news_of_block (cs := #[.int .i64 (room - x)]) (t := 2) (fr := (0, 0)) HKE.out) (by simp [Value.oneCell']) (by omega) (by unfold maxLen; omega) (by omega) (by have := HB2.out.size; omega) w7.heap.size rfl ?_; intro gg5 cap5 w5 hown5 hgrow hat5 hlt5; have HB5 := Lib.hid (below_blk HB2.out HB2.out.size (updGf hgrow) HO2.out (Nat.le_refl _)); have HO5 := Lib.hid (own_snocf hown5); have q2 := HCX.out w5 HB5.out; clear hown5 hgrow hat5 hlt5))
      all_goals
        go_wp2_with fail
        go_meet
        exact ⟨rfl, HB8.out⟩
    case rest =>
      obtain ⟨rfl, hb⟩ := hcut
      clear q0 cx hbA hb0
      have HS1 := Lib.hid (fun k (h1 : x ≤ bs.getD k 0) => show fwTo (fwF zs room f) bs x (fwF zs room f (bs ++ [room - x])) (k + 1) = min (fwTo (fwF zs room f) bs x (fwF zs room f (bs ++ [room - x])) k) (fwF zs room f (bs.set k (bs.getD k 0 - x))) by rw [fwTo, if_pos h1])
      have HS2 := Lib.hid (fun k (h1 : ¬ x ≤ bs.getD k 0) => show fwTo (fwF zs room f) bs x (fwF zs room f (bs ++ [room - x])) (k + 1) = fwTo (fwF zs room f) bs x (fwF zs room f (bs ++ [room - x])) k by rw [fwTo, if_neg h1])
      have hst : fwF zs room f (bs ++ [room - x]) = fwTo (fwF zs room f) bs x (fwF zs room f (bs ++ [room - x])) 0 := rfl
      generalize hV : fwTo (fwF zs room f) bs x (fwF zs room f (bs ++ [room - x])) = V at *
      clear hV
      rw [hst]
      clear hst
      go_wp2_with fail
      go_loopg [9, 37] nb (fun r bv kv wi => ∃ (k : Nat), r = nb - k ∧ k ≤ nb ∧ bv = .int .i64 (V k) ∧ kv = .int .i64 k ∧ Below w.heap.size w wi)
      case atStart => exact ⟨0, rfl, Nat.zero_le _, rfl, rfl, hb⟩
      case round =>
        clear hb
        obtain ⟨k, hr2, hk, rfl, rfl, hb⟩ := hrel
        have HR := Lib.hid hr2
        clear hr2
        by_cases hlk : k < nb
        · have hlk' : (k : Int) < (nb : Int) := by omega
          have hBw := HBB.out.below hb
          have hhw := HH.out.below hb
          obtain ⟨bd, rfl, _, ck⟩ := hBw.at_ hlk
          have cx := HCX.out _ hb
          obtain ⟨y0, y1⟩ := HIB.out k (by rw [HB.out]; exact hlk)
          by_cases hle : x ≤ bs.getD k 0
          · have HV := Lib.hid (HS1.out k hle)
            have HI2 := Lib.hid (show InR (bs.set k (bs.getD k 0 - x)) from fun j hj => by
              rw [List.length_set] at hj
              rw [getD_set (by rw [HB.out]; exact hlk)]
              split
              · omega
              · exact HIB.out j hj)
            obtain ⟨wo, rfl⟩ : ∃ wo : World, wo = wr := ⟨_, rfl⟩
            obtain ⟨y, hy⟩ : ∃ y : Int, bs.getD k 0 = y := ⟨_, rfl⟩
            rw [hy] at ck hle y0 y1 HV HI2
            have HY := Lib.hid hy
            clear hy
            go_wp2_with fail
            refine (copyInts_any (some bd) nb cb bs _ hBw (by omega)).mono ?_
            rintro e w2 ⟨B2, c2, rfl, o2, b2⟩
            have hb2 := below_ext hb hb.size b2
            obtain ⟨g2, rfl, hg2, _, _, _⟩ := o2.pos (by omega)
            have cx2 := HCX.out _ hb2
            have c2k := OwnI.cell o2 hlk
            rw [HY.out] at c2k
            have f2k := OwnI.free o2 k
            have oS := OwnI.set o2 k (y - x)
            have bS := hb2.setCell (p := ⟨g2, k, none⟩) (Nat.le_trans hb.size hg2) (.int .i64 (y - x))
            have v3 : IntKind.i64.wrap (y - x) = y - x := IntWalk.i64_in _ (by omega)
            clear cx ck b2 hb2 o2 hBw hhw
            go_wp2_with fail
            refine wp_region_still_tail 10 (by kernel_rfl) (by kernel_rfl) ?_
            change wpStill _ _ w2.drew (fun a' => wpList _ _ _ _ a' w2.drew) _ _
            simp only [List.take_succ_cons, List.take_zero, List.drop_succ_cons, List.drop_zero]
            repeat still_step
            refine wpStill_nil ?_
            go_wp2_with fail
            refine (IH.out (some ⟨g2, 0, none⟩) nb c2 (bs.set k (y - x)) _ (HH.out.below bS.drew) (OwnI.ints oS).drew HI2.out (by omega)).mono ?_
            rintro e w5 ⟨rfl, b5⟩
            have hb5 := below_ext bS.drew bS.drew.size b5
            clear oS bS b5 c2k f2k cx2
            generalize fwF zs room f (bs.set k (y - x)) = r at *
            generalize hvk : V k = vk at *
            go_wp2
            all_goals
              go_roundg (nb - (k + 1))
              case measure => rw [HR.out]; omega
              case rel => exact ⟨k + 1, rfl, by omega, by rw [HV.out]; first | rw [show min vk r = r from by omega] | rw [show min vk r = vk from by omega], by go_num, hb5⟩
          · have HV := Lib.hid (HS2.out k (by omega))
            generalize bs.getD k 0 = y at *
            go_wp2_with fail
            go_roundg (nb - (k + 1))
            case measure => rw [HR.out]; omega
            case rel => exact ⟨k + 1, rfl, by omega, by rw [HV.out], by go_num, hb⟩
        · have e : nb = k := by omega
          subst e
          go_wp2_with fail
          go_ret
          exact ⟨ret_int HE.out.symm, hb⟩
end Go.Proofs.Ythhkgeeomhhegaa
