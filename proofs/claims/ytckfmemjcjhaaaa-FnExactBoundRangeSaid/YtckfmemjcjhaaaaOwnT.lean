/- The reference's copy of a table. -/
import Derived.Test.YtckfmemjcjhaaaaTblS
import Derived.Test.YtckfmemjcjhaaaaIntA
import Derived.Test.YtckfmemjcjhaaaaTabR
import Derived.Deep.RegionHeld3
namespace Go.Proofs.Ytckfmemjcjhaaaa
open Go.RowKit

theorem own_ne_blk {T T' base n c g gO : Nat} {w : World} {zs : List Nat} {cs : Array Value} (h : OwnF T base w (some ⟨g, 0, none⟩) n c zs) (hk : Blk w gO T' cs) (hne : T ≠ T') : g ≠ gO := by
  rintro rfl
  rcases h.2 with ⟨h1, _⟩ | ⟨g', cap, cur, h1, _, h3, _⟩
  · injection h1 with h1; cases h1
  · injection h1 with h1; injection h1 with h1; injection h1 with h1; subst h1
    have hk2 : w.heap[g]? = _ := hk
    rw [hk2] at h3
    injection h3 with h3
    injection h3 with _ h4
    exact hne h4.symm
theorem box_filled {gO base n c g5 : Nat} {W w5 : World} {v : Int} {ns : List Nat} {a0 a1 a2 : Value} (hk : Blk w5 gO 27 #[a0, a1, a2]) (ho : OwnF 34 base w5 (some ⟨g5, 0, none⟩) n c ns) (hge : base ≤ gO) (hb : Below base W w5) :
    ∃ (g : Nat) (A' : Option Addr) (c' : Nat), Value.pointer (some ⟨gO, 0, none⟩) = .pointer (some ⟨g, 0, none⟩) ∧ Blk (((w5.setCell ⟨gO, 0, none⟩ (.int .i64 v)).setCell ⟨gO, 1, none⟩ (.slice (some ⟨g5, 0, none⟩) n c)).setCell ⟨gO, 2, none⟩ (.slice none 0 0)) g 27 #[.int .i64 v, .slice A' n c', .slice none 0 0] ∧
      OwnF 34 base (((w5.setCell ⟨gO, 0, none⟩ (.int .i64 v)).setCell ⟨gO, 1, none⟩ (.slice (some ⟨g5, 0, none⟩) n c)).setCell ⟨gO, 2, none⟩ (.slice none 0 0)) A' n c' ns ∧ (∀ ad, A' = some ad → ad.block ≠ g) ∧ base ≤ g ∧
      Below base W (((w5.setCell ⟨gO, 0, none⟩ (.int .i64 v)).setCell ⟨gO, 1, none⟩ (.slice (some ⟨g5, 0, none⟩) n c)).setCell ⟨gO, 2, none⟩ (.slice none 0 0)) := by
  have hne := own_ne_blk ho hk (by decide)
  refine ⟨gO, _, c, rfl, ((hk.set 0 _).set 1 _).set 2 _, ((ho.far (p := ⟨gO, 0, none⟩) ?_ _).far (p := ⟨gO, 1, none⟩) ?_ _).far (p := ⟨gO, 2, none⟩) ?_ _, ?_, hge, ((hb.setCell (p := ⟨gO, 0, none⟩) hge _).setCell (p := ⟨gO, 1, none⟩) hge _).setCell (p := ⟨gO, 2, none⟩) hge _⟩
  all_goals (intro ad h; injection h with h; subst h; exact hne)
set_option maxRecDepth 100000 in
set_option maxHeartbeats 1000000 in
theorem l02OwnTable_any (gr : Nat) (v : Int) (A : Option Addr) (n c : Nat) (ns : List Nat) (B : Option Addr) (m d : Nat) (bs : List Int) (w : World) (KX : Blk w gr 27 #[.int .i64 v, .slice A n c, .slice B m d]) (hN : FltsAt w A n ns) (hB : IntsAt w B m bs) (hn : 0 < n) (hn2 : n ≤ 1000) (hm2 : m ≤ 1000) :
    Calls Try.prog 68 #[.pointer (some ⟨gr, 0, none⟩)] w fun e w' => ∃ (A' : Option Addr) (c' : Nat) (B' : Option Addr) (d' : Nat), e = .returned (.agg #[.int .i64 v, .slice A' n c', .slice B' m d']) ∧
      OwnF 34 w.heap.size w' A' n c' ns ∧ OwnI 2 w.heap.size w' B' m d' bs ∧ Sep A' B' ∧ Below w.heap.size w w' := by
  have hW : Below w.heap.size w (w.alloc (.cells #[.int .i64 0, .slice none 0 0, .slice none 0 0] 27)) := (Below.refl _ _).alloc (Nat.le_refl _) _
  have KR := Lib.hid (Blk.new w 27 #[.int .i64 0, .slice none 0 0, .slice none 0 0])
  have HKX := Lib.hid (KX.alloc (.cells #[.int .i64 0, .slice none 0 0, .slice none 0 0] 27))
  have hN1 := hN.below hW
  have HB1 := Lib.hid (hB.below hW)
  obtain ⟨ad, rfl, _, _⟩ := hN.at_ hn
  have HN1 := Lib.hid hN1
  have hgr := KX.lt
  have hgr2 : gr < w.heap.size := hgr
  clear KX hN hB hN1 hgr
  go_enter Try.func68, Try.ntmps68
  go_wp2_with fail
  have HWS := Lib.hid (show (w.alloc (.cells #[.int .i64 0, .slice none 0 0, .slice none 0 0] 27)).heap.size = w.heap.size + 1 by simp)
  generalize w.alloc (.cells #[.int .i64 0, .slice none 0 0, .slice none 0 0] 27) = W at *
  have HKC := Lib.hid (fun (W' : World) (hW : Below W.heap.size W W') => (show W'.cell? ⟨gr, 0, none⟩ = some (.int .i64 v) ∧ W'.cell? ⟨gr, 1, none⟩ = some (.slice (some ad) n c) from ⟨(HKX.out.ext hW).cell 0, (HKX.out.ext hW).cell 1⟩))
  have B0 := Lib.hid (Below.drew (Below.refl W.heap.size W))
  have B1 := Lib.hid (B0.out.alloc (Nat.le_refl _) (.cells #[] 34))
  have B2 := Lib.hid (((Below.refl W.heap.size W).alloc (Nat.le_refl _) (.cells #[] 34)).alloc (by simp) (.cells #[.int .i64 0, .slice none 0 0, .slice none 0 0] 27)).drew
  have B3 := Lib.hid (B0.out.alloc (Nat.le_refl _) (.cells #[.int .i64 0, .slice none 0 0, .slice none 0 0] 27))
  have B4 := Lib.hid (((Below.refl W.heap.size W).alloc (Nat.le_refl _) (.cells #[.int .i64 0, .slice none 0 0, .slice none 0 0] 27)).alloc (by simp) (.cells #[] 34)).drew
  have O1 := Lib.hid (show OwnF 34 W.heap.size (W.drew.alloc (.cells #[] 34)) (some ⟨W.heap.size, 0, none⟩) 0 0 [] from World.ownsRow_lit (e := 34) (base := W.heap.size) (size := 1) W.drew #[] 0 (Nat.le_refl _) (Nat.zero_le _) rfl)
  have O2 := Lib.hid (show OwnF 34 W.heap.size ((W.alloc (.cells #[] 34)).alloc (.cells #[.int .i64 0, .slice none 0 0, .slice none 0 0] 27)).drew (some ⟨W.heap.size, 0, none⟩) 0 0 [] from OwnF.alloc O1.out (.cells #[.int .i64 0, .slice none 0 0, .slice none 0 0] 27))
  have O4 := Lib.hid (show OwnF 34 W.heap.size ((W.alloc (.cells #[.int .i64 0, .slice none 0 0, .slice none 0 0] 27)).alloc (.cells #[] 34)).drew (some ⟨W.heap.size + 1, 0, none⟩) 0 0 [] by have h := World.ownsRow_lit (e := 34) (base := W.heap.size) (size := 1) (W.alloc (.cells #[.int .i64 0, .slice none 0 0, .slice none 0 0] 27)) #[] 0 (by simp) (Nat.zero_le _) rfl; simp only [World.size_alloc] at h; exact h)
  have K2 := Lib.hid (show Blk ((W.alloc (.cells #[] 34)).alloc (.cells #[.int .i64 0, .slice none 0 0, .slice none 0 0] 27)).drew (W.heap.size + 1) 27 #[.int .i64 0, .slice none 0 0, .slice none 0 0] by have h := Blk.new (W.alloc (.cells #[] 34)) 27 #[.int .i64 0, .slice none 0 0, .slice none 0 0]; simp only [World.size_alloc] at h; exact h)
  have K4 := Lib.hid (show Blk ((W.alloc (.cells #[.int .i64 0, .slice none 0 0, .slice none 0 0] 27)).alloc (.cells #[] 34)).drew W.heap.size 27 #[.int .i64 0, .slice none 0 0, .slice none 0 0] from (Blk.new W 27 #[.int .i64 0, .slice none 0 0, .slice none 0 0]).alloc _)
  go_cut [3] (fun sx wx => ∃ (gO : Nat) (A' : Option Addr) (c' : Nat), sx = .pointer (some ⟨gO, 0, none⟩) ∧ Blk wx gO 27 #[.int .i64 v, .slice A' n c', .slice none 0 0] ∧ OwnF 34 W.heap.size wx A' n c' ns ∧ (∀ ad, A' = some ad → ad.block ≠ gO) ∧ W.heap.size ≤ gO ∧ Below W.heap.size W wx)
  case first =>
    go_region_held3 (fun w' => w'.cell? ⟨gr, 0, none⟩ = some (.int .i64 v) ∧ w'.cell? ⟨gr, 1, none⟩ = some (.slice (some ad) n c))
      (first
        | exact HKC.out _ B0.out
        | exact HKC.out _ B1.out
        | exact HKC.out _ B2.out
        | exact HKC.out _ B3.out
        | exact HKC.out _ B4.out
        | exact HKC.out _ HB5.out
        | exact HKC.out _ (HB5.out.alloc HB5.out.size _)
        | exact HKC.out _ (((HB5.out.setCell (p := ⟨W.heap.size + 1, 0, none⟩) (Nat.le_succ _) _).setCell (p := ⟨W.heap.size + 1, 1, none⟩) (Nat.le_succ _) _).setCell (p := ⟨W.heap.size + 1, 2, none⟩) (Nat.le_succ _) _)
        | exact HKC.out _ (((HB5.out.setCell (p := ⟨W.heap.size, 0, none⟩) (Nat.le_refl _) _).setCell (p := ⟨W.heap.size, 1, none⟩) (Nat.le_refl _) _).setCell (p := ⟨W.heap.size, 2, none⟩) (Nat.le_refl _) _))
      (first
        | (refine step_app_flts (by rfl) _ _ _ (by rfl) 34 W.heap.size Try.underlying22 infoF (some ⟨W.heap.size, 0, none⟩) 0 0 [] (by rfl) O1.out ad n c ns (by rfl) (HN1.out.below B1.out) hn (by omega) (by have h9 := B1.out.size; exact h9) ?_; intro g5 c5 w5 o5 u5 a5; have HB5 := Lib.hid (belowF_blk B1.out B1.out.size u5 O1.out (Nat.le_refl _)); have HO5 := Lib.hid o5; clear o5 u5 a5)
        | (refine step_app_flts (by rfl) _ _ _ (by rfl) 34 W.heap.size Try.underlying22 infoF (some ⟨W.heap.size, 0, none⟩) 0 0 [] (by rfl) O2.out ad n c ns (by rfl) (HN1.out.below B2.out) hn (by omega) (by have h9 := B2.out.size; exact h9) ?_; intro g5 c5 w5 o5 u5 a5; have HB5 := Lib.hid (belowF_blk B2.out B2.out.size u5 O2.out (Nat.le_refl _)); have HO5 := Lib.hid o5; have HK5 := Lib.hid (K2.out.upd u5 (fun ⟨x, h1, h2⟩ => by injection h1 with h1; subst h1; simp at h2)); have r0 := HK5.out.cell 0; have r1 := HK5.out.cell 1; have r2 := HK5.out.cell 2; have f0 := HK5.out.free 0; have f1 := HK5.out.free 1; have f2 := HK5.out.free 2; have HA5 := Lib.hid a5; clear o5 u5 a5)
        | (refine step_app_flts (by rfl) _ _ _ (by rfl) 34 W.heap.size Try.underlying22 infoF (some ⟨W.heap.size + 1, 0, none⟩) 0 0 [] (by rfl) O4.out ad n c ns (by rfl) (HN1.out.below B4.out) hn (by omega) (by have h9 := B4.out.size; exact h9) ?_; intro g5 c5 w5 o5 u5 a5; have HB5 := Lib.hid (belowF_blk B4.out B4.out.size u5 O4.out (Nat.le_refl _)); have HO5 := Lib.hid o5; have HK5 := Lib.hid (K4.out.upd u5 (fun ⟨x, h1, h2⟩ => by injection h1 with h1; subst h1; simp at h2)); have r0 := HK5.out.cell 0; have r1 := HK5.out.cell 1; have r2 := HK5.out.cell 2; have f0 := HK5.out.free 0; have f1 := HK5.out.free 1; have f2 := HK5.out.free 2; have HA5 := Lib.hid a5; clear o5 u5 a5))
    all_goals
      go_wp2_with fail
      go_meet
      first
        | exact ⟨_, _, _, rfl, Blk.new w5 _ _, by have h9 := HO5.out; simp only [Nat.zero_add, List.nil_append] at h9; exact h9.alloc _, fun x hx => by have h9 := (HO5.out.lt hx).2; omega, HB5.out.size, HB5.out.alloc HB5.out.size _⟩
        | exact box_filled HK5.out (by have h9 := HO5.out; simp only [Nat.zero_add, List.nil_append] at h9; exact h9) (Nat.le_succ _) HB5.out
        | exact box_filled HK5.out (by have h9 := HO5.out; simp only [Nat.zero_add, List.nil_append] at h9; exact h9) (Nat.le_refl _) HB5.out
  case rest =>
    obtain ⟨gO, A', c', rfl, hk, ho, hne, hge, hbl⟩ := hcut
    have HKR := Lib.hid (KR.out.ext hbl)
    have HBX := Lib.hid (HB1.out.below hbl)
    have HKX2 := Lib.hid (HKX.out.ext hbl)
    have HKO := Lib.hid hk
    have HOO := Lib.hid ho
    have HBL := Lib.hid hbl
    have HNE := Lib.hid hne
    have HGE := Lib.hid hge
    clear hk ho hbl hne hge
    have p2 := (HKX2.out.alloc (.cells #[] 2)).cell 2
    have he : OwnI 2 wc.heap.size (wc.alloc (.cells #[] 2)) (some ⟨wc.heap.size, 0, none⟩) 0 0 [] := World.ownsRow_lit (e := 2) (base := wc.heap.size) (size := 1) wc #[] 0 (Nat.le_refl _) (Nat.zero_le _) rfl
    have hWc : Below wc.heap.size wc (wc.alloc (.cells #[] 2)) := (Below.refl _ _).alloc (Nat.le_refl _) _
    have HWc := Lib.hid hWc
    have hsc : wc.heap.size ≤ (wc.alloc (.cells #[] 2)).heap.size := hWc.size
    clear hWc
    have HGL := Lib.hid HKO.out.lt
    go_upto_region 3 with (at_builtin; refine wp_app_ints _ rfl _ _ _ rfl 2 wc.heap.size Try.underlying23 info64 _ 0 0 _ rfl he B m d bs rfl (HBX.out.alloc _) (by omega) hsc ?_; intro B' d' w6 o6 u6 b6 _; simp only [Nat.zero_add, List.nil_append] at o6; have HB6 := Lib.hid (HWc.out.trans b6); have HO6 := Lib.hid o6; have HKO6 := Lib.hid (HKO.out.ext HB6.out); have r2 := HKO6.out.cell 2; have f2 := HKO6.out.free 2; clear o6 u6 b6)
    have HO7 := Lib.hid (HO6.out.far (p := ⟨gO, 2, none⟩) (fun x hx => by have h8 := (HO6.out.lt hx).1; have h9 := HGL.out; show x.block ≠ gO; omega) (.slice B' m d'))
    have HF7 := Lib.hid ((HOO.out.below HB6.out).far (p := ⟨gO, 2, none⟩) (fun x hx => HNE.out x hx) (.slice B' m d'))
    have HB7 := Lib.hid (((HBL.out).trans (HB6.out.mono HBL.out.size)).setCell (p := ⟨gO, 2, none⟩) HGE.out (.slice B' m d'))
    have hk7 := HKO6.out.set 2 (.slice B' m d')
    have hsp7 : Sep A' B' := by
      intro x y hx hy e
      have h1 := (HOO.out.lt hx).2
      have h2 := (HO6.out.lt hy).1
      omega
    have HSP := Lib.hid hsp7
    clear hsp7 r2 f2
    generalize w6.setCell ⟨gO, 2, none⟩ (.slice B' m d') = w7 at *
    have HKR7 := Lib.hid (KR.out.ext HB7.out)
    have r0 := hk7.cell 0
    have r1 := hk7.cell 1
    have r2 := hk7.cell 2
    have k0 := HKR7.out.cell 0
    have k1 := HKR7.out.cell 1
    have k2 := HKR7.out.cell 2
    have l0 := HKR7.out.free 0
    have l1 := HKR7.out.free 1
    have l2 := HKR7.out.free 2
    clear hk7
    go_wp2_with fail
    have HU := Upd.setCell (p := ⟨w.heap.size, 2, none⟩) (Upd.setCell (p := ⟨w.heap.size, 1, none⟩) (Upd.setCell (p := ⟨w.heap.size, 0, none⟩) (Upd.refl (fun k => k = w.heap.size) w7) (.inl rfl) (.int .i64 v)) (.inl rfl) (.slice A' n c')) (.inl rfl) (.slice B' m d')
    refine bodyPost_ret (v := .agg #[.int .i64 v, .slice A' n c', .slice B' m d']) (by simp [results, Try.results68, go_sem, k0, k1, k2]) rfl ⟨A', c', B', d', rfl, ?_⟩
    have hws := HWS.out
    have hsz := hW.size
    refine ⟨OwnF.upd (OwnF.low HF7.out hsz) HU (fun x hx e => by have h9 := (HF7.out.lt hx).1; omega), OwnI.upd (OwnI.low HO7.out (by have := HBL.out.size; omega)) HU (fun x hx e => by have h9 := (HO7.out.lt hx).1; have h8 := HBL.out.size; omega), HSP.out, ?_⟩
    exact (below_ext hW hsz HB7.out).trans (HU.toBelow (by have := HB7.out.size; omega) (fun k hk e => by omega))
end Go.Proofs.Ytckfmemjcjhaaaa
