/- RootTree of the reference: the walks. -/
import Derived.Test.YtigaopfhjimpmaaDoorZRoot
import Derived.StillTailTactics
namespace Go.Proofs.YtigaopfhjimpmaaDoor
open Go.RowKit

theorem OwnI.updS {T base : Nat} {w w' : World} {A : Option Addr} {n c : Nat} {zs : List Int} {S : Nat → Prop} (h : OwnI T base w A n c zs) (hb : Upd S w w') (hS : ∀ ad, A = some ad → ¬ S ad.block) : OwnI T base w' A n c zs := h.keep fun ad h1 h2 => hb.block _ h2 (hS ad h1)
theorem ArcsAt.updP {w w' : World} {A : Option Addr} {n : Nat} {xs : List ArcR} {S : Nat → Prop} (h : ArcsAt w A n xs) (hb : Upd S w w') (hS : ∀ ad, A = some ad → 0 < n → ¬ S ad.block) : ArcsAt w' A n xs := by
  cases n with
  | zero => exact ⟨h.1, fun h0 => absurd h0 (by omega)⟩
  | succ n => exact h.upd hb (fun ad ha => hS ad ha (by omega))
def S3r (gC gB gL k : Nat) : Prop := k = gC ∨ k = gB ∨ k = gL
/-- the state of the reference's search in memory -/
structure RSt (base g gC gB gL : Nat) (A : Option Addr) (n c N cC : Nat) (xs : List ArcR) (w : World) (ch : List Int) (st : List Int × Int) (D : Option Addr) (nd cd : Nat) : Prop where
  kg : Blk w g 31 #[.int .i64 N, .slice A n c]
  arcs : ArcsAt w A n xs
  oC : OwnI 2 base w (some ⟨gC, 0, none⟩) N cC ch
  kB : Blk w gB 26 #[.slice D nd cd]
  oD : OwnI 2 base w D nd cd st.1
  kL : Blk w gL 2 #[.int .i64 st.2]
  sD : ∀ ad, D = some ad → ¬ S3r gC gB gL ad.block
theorem take_snoc_get {ch : List Int} {k N : Nat} (hl : ch.length = N) (hk : k < N) : ch.take (k + 1) = ch.take k ++ [ch.getD k 0] := by
  rw [List.take_add_one]
  simp [List.getD, List.getElem?_eq_getElem (show k < ch.length by omega)]
theorem take_set_snoc {ch : List Int} {k N : Nat} {x : Int} (hl : ch.length = N) (hk : k < N) : (ch.set k x).take (k + 1) = ch.take k ++ [x] := by
  rw [take_snoc_get (by rw [List.length_set]; exact hl) hk, List.take_set_of_le (Nat.le_refl _)]
  simp [List.getD, List.getElem?_set, show k < ch.length by omega]
theorem take_back {ch zs : List Int} {x : Int} (h : ch.take (zs.length + 1) = zs ++ [x]) : ch.take zs.length = zs := by
  have : (ch.take (zs.length + 1)).take zs.length = zs := by rw [h, List.take_append_of_le_length (Nat.le_refl _), List.take_length]
  rwa [List.take_take, Nat.min_eq_left (by omega)] at this
theorem leafR_yes {xs : List ArcR} {N r : Nat} {zs : List Int} {st : List Int × Int} (h : rootedR xs zs r N N = true) (h2 : st.1.length = 0 ∨ costR xs zs N < st.2) : leafR xs N r zs st = (zs, costR xs zs N) := by
  unfold leafR
  rw [if_pos ⟨h, h2⟩]

theorem RSt.store {base g gC gB gL : Nat} {A : Option Addr} {n c N cC : Nat} {xs : List ArcR} {w : World} {ch : List Int} {st : List Int × Int} {D : Option Addr} {nd cd : Nat} (h : RSt base g gC gB gL A n c N cC xs w ch st D nd cd)
    (hg1 : ¬ S3r gC gB gL g) (hg2 : gC ≠ gB) (hg3 : gC ≠ gL) (hAs : ∀ ad, A = some ad → 0 < n → ¬ S3r gC gB gL ad.block) (j : Nat) (x : Int) : RSt base g gC gB gL A n c N cC xs (w.setCell ⟨gC, j, none⟩ (.int .i64 x)) (ch.set j x) st D nd cd := by
  have hU : Upd (S3r gC gB gL) w (w.setCell ⟨gC, j, none⟩ (.int .i64 x)) := (Upd.refl _ _).setCell (p := ⟨gC, j, none⟩) (.inl (.inl rfl)) _
  exact ⟨h.kg.upd hU hg1, h.arcs.updP hU hAs, OwnI.set h.oC j x, Blk.far h.kB (p := ⟨gC, j, none⟩) (fun e => hg2 e.symm) _, h.oD.updS hU h.sD, Blk.far h.kL (p := ⟨gC, j, none⟩) (fun e => hg3 e.symm) _, h.sD⟩
theorem getD_set_ne {ch : List Int} {k j : Nat} {x : Int} (h : k ≠ j) : (ch.set k x).getD j 0 = ch.getD j 0 := by
  simp [List.getD, List.getElem?_set, h]
set_option maxRecDepth 100000 in
set_option maxHeartbeats 3200000 in
theorem l03Rooted_any (base g : Nat) (A : Option Addr) (n c : Nat) (xs : List ArcR) (N r gC cC : Nat) (zs : List Int) (w : World) (hx : xs.length = n) (hn : n ≤ 48) (hN2 : 2 ≤ N) (hN : N ≤ 6) (hr : r < N)
    (hv : ∀ k, k < n → 0 ≤ (xs.getD k default).fr ∧ (xs.getD k default).fr < N) (KX : Blk w g 31 #[.int .i64 N, .slice A n c]) (hA : ArcsAt w A n xs) (oC : OwnI 2 base w (some ⟨gC, 0, none⟩) N cC zs) (hch : ChR xs r zs) :
    Calls Tryd.prog 54 #[.pointer (some ⟨g, 0, none⟩), .slice (some ⟨gC, 0, none⟩) N cC, .int .i64 r] w fun e w' => e = .returned (.bool (rootedR xs zs r N N)) ∧ Drew w w' := by
  have HX := Lib.hid hx
  have HV := Lib.hid hv
  have HCH := Lib.hid hch
  have HL := Lib.hid oC.len
  have HPR := Lib.hid (rprev_lt (xs := xs) (zs := zs) (r := r) (N := N) (fun k hk => HV.out k (by rw [← HX.out]; exact hk)) (by omega))
  clear hx hv hch
  go_enter Tryd.func54, Tryd.ntmps54
  go_wp2_with fail
  go_loopg [7] N (fun rr iv wi => ∃ (k : Nat), rr = N - k ∧ k ≤ N ∧ iv = .int .i64 k ∧ Hid (rootedR xs zs r N k = true) ∧ Drew w wi)
  case atStart => exact ⟨0, rfl, Nat.zero_le _, rfl, Lib.hid rfl, Drew.refl _⟩
  case round =>
    obtain ⟨k, hrr, hk, rfl, HRK, q, rfl⟩ := hrel
    have HR := Lib.hid hrr
    clear hrr
    have KX2 := Lib.hid (KX.drewN q)
    have hA2 := hA.drewN q
    have oC2 := OwnI.drewN oC q
    have hd2 : Drew w (w.drewN q) := ⟨q, rfl⟩
    generalize w.drewN q = wo at *
    have p0 := KX2.out.cell 0
    by_cases hlk : k < N
    · have hlk' : (k : Int) < (N : Int) := by omega
      go_wp2_with fail
      clear p0
      go_loopg [8, 9] (N + 1) (fun rr av sv wi => ∃ (s a : Nat), rr = N + 1 - s ∧ s ≤ N ∧ a < N ∧ av = .int .i64 a ∧ sv = .int .i64 s ∧ Hid (reachR xs zs r (N - s) a = reachR xs zs r N k) ∧ Drew wo wi)
      case atStart => exact ⟨0, k, rfl, Nat.zero_le _, hlk, rfl, rfl, Lib.hid rfl, Drew.refl _⟩
      case round =>
        obtain ⟨s, a, hrr, hs, ha, rfl, rfl, HRE, q2, rfl⟩ := hrel
        have HR2 := Lib.hid hrr
        clear hrr
        have KX3 := Lib.hid (KX2.out.drewN q2)
        have hA3 := hA2.drewN q2
        have oC3 := OwnI.drewN oC2 q2
        have hd3 : Drew wo (wo.drewN q2) := ⟨q2, rfl⟩
        generalize wo.drewN q2 = W3 at *
        have p0 := KX3.out.cell 0
        have p1 := KX3.out.cell 1
        have ha' : (a : Int) < (N : Int) := by omega
        by_cases har : a = r
        · have HRR := Lib.hid (rootedR_step HRK.out (show reachR xs zs r N k = true by rw [← HRE.out]; exact (reachR_iff _ _).2 ⟨0, by omega, har⟩))
          subst har
          have hd0 : ((a : Int) != (a : Int)) = false := by simp
          go_wp2_with fail
          go_roundg (N - (k + 1))
          case measure => rw [HR.out]; omega
          case rel => exact ⟨k + 1, rfl, by omega, by go_num, HRR, hd2.trans hd3⟩
        · have hd0 : ((a : Int) != (r : Int)) = true := by rw [bne_iff_ne]; omega
          by_cases hsN : s < N
          · have HNX := Lib.hid (show reachR xs zs r (N - (s + 1)) (rprev xs zs a) = reachR xs zs r N k by rw [← HRE.out, show N - s = (N - (s + 1)) + 1 by omega, reachR, if_neg har])
            have hpl := HPR.out a ha
            have cBa := OwnI.cell oC3 ha
            have hsN' : ((s : Int) == (N : Int)) = false := by rw [beq_eq_false_iff_ne]; omega
            rcases HCH.out a (by rw [HL.out]; exact ha) with ⟨e1, _⟩ | ⟨_, e2, e3⟩
            · exact absurd e1 har
            · obtain ⟨i2, hi⟩ := Int.eq_ofNat_of_zero_le e2
              have hi3 : i2 < n := by rw [← HX.out]; omega
              have hi3' : (i2 : Int) < (n : Int) := by omega
              obtain ⟨ad, rfl, _, ca⟩ := hA3.at_ hi3
              have c0 := ca.1
              have hfr := HV.out i2 hi3
              have HRP := Lib.hid (show (xs.getD i2 default).fr = (rprev xs zs a : Int) by unfold rprev; rw [hi, Int.toNat_natCast]; omega)
              rw [HRP.out] at c0
              rw [hi] at cBa
              clear ca e2 e3 hi hfr har
              generalize rprev xs zs a = a2 at *
              go_wp2_with fail
              go_quiet (fail)
              go_wp2_with fail
              go_roundg (N + 1 - (s + 1))
              case measure => rw [HR2.out]; omega
              case rel => exact ⟨s + 1, a2, rfl, by omega, hpl, rfl, by go_num, HNX, hd3.step _⟩
          · have HNO := Lib.hid (show reachR xs zs r N k = false by rw [← HRE.out, show N - s = 0 by omega, reachR]; exact decide_eq_false har)
            have HLF := Lib.hid (rootedR_no hlk HNO.out N hlk)
            obtain rfl : s = N := by omega
            have hsN' : ((s : Int) == (s : Int)) = true := by simp
            clear har
            go_wp2_with fail
            go_ret
            exact ⟨ret_bool HLF.out.symm, hd2.trans hd3⟩
    · obtain rfl : N = k := by omega
      go_wp2_with fail
      go_ret
      exact ⟨ret_bool HRK.out.symm, hd2⟩
set_option maxRecDepth 100000 in
set_option maxHeartbeats 3200000 in
theorem l03Root_any (base g gC gB gL : Nat) (A : Option Addr) (n c : Nat) (xs : List ArcR) (N r cC : Nat) (hx : xs.length = n) (hn : n ≤ 48) (hN2 : 2 ≤ N) (hN : N ≤ 6) (hr : r < N)
    (hv : ∀ k, k < n → (0 ≤ (xs.getD k default).fr ∧ (xs.getD k default).fr < N) ∧ (-1000 ≤ (xs.getD k default).cost ∧ (xs.getD k default).cost ≤ 1000))
    (hg1 : ¬ S3r gC gB gL g) (hg2 : gC ≠ gB) (hg3 : gC ≠ gL) (hg4 : gB ≠ gL) (hAs : ∀ ad, A = some ad → 0 < n → ¬ S3r gC gB gL ad.block) :
    ∀ (f : Nat) (zs ch : List Int) (st : List Int × Int) (D : Option Addr) (nd cd : Nat) (w : World), RSt base g gC gB gL A n c N cC xs w ch st D nd cd → base ≤ w.heap.size → zs.length + f = N → ChR xs r zs → ch.take zs.length = zs → ch.getD r 0 = -1 →
    Calls Tryd.prog 43 #[.pointer (some ⟨g, 0, none⟩), .slice (some ⟨gC, 0, none⟩) N cC, .int .i64 zs.length, .int .i64 r, .int .i64 (costR xs zs zs.length), .pointer (some ⟨gB, 0, none⟩), .pointer (some ⟨gL, 0, none⟩)] w fun e w' => e = .returned (.tuple #[]) ∧ ∃ (ch' : List Int) (D' : Option Addr) (nd' cd' : Nat), RSt base g gC gB gL A n c N cC xs w' ch' (rtF xs N r f zs st) D' nd' cd' ∧ Hid (ch'.take zs.length = zs ∧ ch'.getD r 0 = -1) ∧ Upd (S3r gC gB gL) w w' := by
  have HX := Lib.hid hx
  have HV := Lib.hid hv
  have HCO := Lib.hid (show ∀ k, k < xs.length → -1000 ≤ (xs.getD k default).cost ∧ (xs.getD k default).cost ≤ 1000 from fun k hk => (HV.out k (by rw [← HX.out]; exact hk)).2)
  have HG1 := Lib.hid hg1
  have HG2 := Lib.hid hg2
  have HG3 := Lib.hid hg3
  have HG4 := Lib.hid hg4
  have HAS := Lib.hid hAs
  clear hx hv hg1 hg2 hg3 hg4 hAs
  intro f
  induction f with
  | zero =>
    intro zs ch st D nd cd w hS hbase hnb hch htk hcr
    have HCH := Lib.hid hch
    have hlen : zs.length = N := by omega
    have HZC := Lib.hid (show ch = zs by rw [← htk, hlen]; exact (List.take_of_length_le (by rw [hS.oC.len]; exact Nat.le_refl _)).symm)
    have HTK := Lib.hid (show ch.take N = zs by rw [← hlen]; exact htk)
    have HCR := Lib.hid hcr
    have HS := Lib.hid hS
    have HE := Lib.hid (show rtF xs N r 0 zs st = leafR xs N r zs st from rfl)
    have HLN := Lib.hid hlen
    rw [hlen]
    have p0 := hS.kg.cell 0
    have hnn : ((N : Int) == (N : Int)) = true := by simp
    clear hch htk hcr hS hnb hlen
    go_enter Tryd.func43, Tryd.ntmps43
    go_wp2_with fail
    refine (l03Rooted_any base g A n c xs N r gC cC ch _ HX.out hn hN2 hN hr (fun k hk => (HV.out k hk).1) HS.out.kg HS.out.arcs HS.out.oC (by rw [HZC.out]; exact HCH.out)).mono ?_
    rw [HZC.out]
    rintro e w1 ⟨rfl, q, rfl⟩
    clear p0
    have hu : Upd (S3r gC gB gL) w (w.drewN q) := (Upd.refl _ _).drewN q
    have KG := Lib.hid (HS.out.kg.drewN q)
    have hA := HS.out.arcs.drewN q
    have oC := OwnI.drewN HS.out.oC q
    have KB := Lib.hid (HS.out.kB.drewN q)
    have oD := OwnI.drewN HS.out.oD q
    have KL := Lib.hid (HS.out.kL.drewN q)
    have SD := Lib.hid HS.out.sD
    generalize w.drewN q = W at *
    obtain ⟨sl, sv⟩ := st
    have oD : OwnI 2 base W D nd cd sl := oD
    have KL : Hid (Blk W gL 2 #[.int .i64 sv]) := KL
    have HSL := Lib.hid oD.len
    have pB := (KB.out.cell 0).trans (show _ = some (Value.slice D nd cd) from rfl)
    have pL := (KL.out.cell 0).trans (show _ = some (Value.int .i64 sv) from rfl)
    cases hrt : rootedR xs zs r N N
    · have HLF := Lib.hid (leafR_no (st := (sl, sv)) hrt)
      go_wp2_with fail
      refine bodyPost_ret (results_none rfl _ _ _) rfl ?_
      exact ⟨rfl, ch, D, nd, cd, by rw [HE.out, HLF.out]; exact ⟨KG.out, hA, oC, KB.out, oD, KL.out, SD.out⟩, Lib.hid ⟨HTK.out, HCR.out⟩, hu⟩
    · have hco : OwnI 2 base W (some ⟨gC, 0, none⟩) N cC zs := by rw [HZC.out] at oC; exact oC
      have hgCl : gC < W.heap.size := (OwnI.lt hco rfl).2
      have hgBl := KB.out.lt
      have hgLl := KL.out.lt
      have hszW : base ≤ W.heap.size := by have := hu.size; omega
      have he : OwnI 2 W.heap.size (W.alloc (.cells #[] 2)) (some ⟨W.heap.size, 0, none⟩) 0 0 [] := World.ownsRow_lit (e := 2) (base := W.heap.size) (size := 1) W #[] 0 (Nat.le_refl _) (Nat.zero_le _) rfl
      have hW : Below W.heap.size W (W.alloc (.cells #[] 2)) := (Below.refl _ _).alloc (Nat.le_refl _) _
      have HFIN := Lib.hid (fun (A' : Option Addr) (c' : Nat) (w' : World) (o1 : OwnI 2 W.heap.size w' A' N c' zs) (b1 : Below W.heap.size W w') => show RSt base g gC gB gL A n c N cC xs ((w'.setCell ⟨gB, 0, none⟩ (.slice A' N c')).setCell ⟨gL, 0, none⟩ (.int .i64 (costR xs zs N))) ch (zs, costR xs zs N) A' N c' ∧ Upd (S3r gC gB gL) w ((w'.setCell ⟨gB, 0, none⟩ (.slice A' N c')).setCell ⟨gL, 0, none⟩ (.int .i64 (costR xs zs N))) from by
        have hs3 := b1.size
        have hU : Upd (S3r gC gB gL) w' ((w'.setCell ⟨gB, 0, none⟩ (.slice A' N c')).setCell ⟨gL, 0, none⟩ (.int .i64 (costR xs zs N))) := ((Upd.refl _ _).setCell (p := ⟨gB, 0, none⟩) (.inl (.inr (.inl rfl))) _).setCell (p := ⟨gL, 0, none⟩) (.inl (.inr (.inr rfl))) _
        have hsA : ∀ ad, A' = some ad → ¬ S3r gC gB gL ad.block := fun ad ha h => by
          have := (OwnI.lt o1 ha).1
          rcases h with h | h | h <;> omega
        refine ⟨⟨(KG.out.ext b1).upd hU HG1.out, (hA.below b1).updP hU HAS.out, ?_, ?_, (OwnI.low o1 hszW).updS hU hsA, ?_, hsA⟩, (hu.below b1).then hU (fun _ _ h => h)⟩
        · rw [HZC.out]
          exact OwnI.far (OwnI.far (hco.below b1) (p := ⟨gB, 0, none⟩) (fun ad ha => by injection ha with ha; subst ha; exact HG2.out) _) (p := ⟨gL, 0, none⟩) (fun ad ha => by injection ha with ha; subst ha; exact HG3.out) _
        · exact Blk.far (Blk.set (KB.out.ext b1) 0 (.slice A' N c')) (p := ⟨gL, 0, none⟩) HG4.out _
        · exact Blk.set (Blk.far (KL.out.ext b1) (p := ⟨gB, 0, none⟩) (fun e => HG4.out e.symm) _) 0 (.int .i64 (costR xs zs N)))
      have HKB := Lib.hid (fun (w' : World) (b1 : Below W.heap.size W w') => show w'.cell? ⟨gB, 0, none⟩ = some (.slice D nd cd) ∧ w'.frozen? ⟨gB, 0, none⟩ = false from ⟨((KB.out.ext b1).cell 0).trans rfl, (KB.out.ext b1).free 0⟩)
      have HKL := Lib.hid (fun (w' : World) (V : Value) (b1 : Below W.heap.size W w') => show (w'.setCell ⟨gB, 0, none⟩ V).cell? ⟨gL, 0, none⟩ = some (.int .i64 sv) ∧ (w'.setCell ⟨gB, 0, none⟩ V).frozen? ⟨gL, 0, none⟩ = false from by
        have k := Blk.far (KL.out.ext b1) (p := ⟨gB, 0, none⟩) (fun e => HG4.out e.symm) V
        exact ⟨(k.cell 0).trans rfl, k.free 0⟩)
      have HCI := Lib.hid (hco.ints.alloc (.cells #[] 2))
      have hE0 : decide ((nd : Int) = 0) = decide (nd = 0) := by by_cases h : nd = 0 <;> simp [h]
      have HA2 := Lib.hid hA
      have HOC2 := Lib.hid oC
      clear hA oC
      by_cases h0 : nd = 0
      · have HLF := Lib.hid (leafR_yes (st := (sl, sv)) hrt (.inl (by rw [HSL.out]; exact h0)))
        subst h0
        generalize costR xs zs N = cst at *
        clear hrt hE0
        go_wp2_with (at_builtin; refine wp_append_ints _ rfl _ _ _ rfl 2 W.heap.size Tryd.underlying26 info64 _ 0 0 _ rfl he (some ⟨gC, 0, none⟩) N cC zs rfl HCI.out (by omega) hW.size ?_; intro A' c' w' o1 u1 b1 _; simp only [Nat.zero_add, List.nil_append] at o1; obtain ⟨r1, r2⟩ := HKB.out w' (hW.trans b1); obtain ⟨r3, r4⟩ := HKL.out w' (.slice A' N c') (hW.trans b1))
        refine bodyPost_ret (results_none rfl _ _ _) rfl ?_
        obtain ⟨f1, f2⟩ := HFIN.out A' c' w' o1 (hW.trans b1)
        exact ⟨rfl, ch, A', N, c', by rw [HE.out, HLF.out]; exact f1, Lib.hid ⟨HTK.out, HCR.out⟩, f2⟩
      · have hn0 : ¬ (nd : Int) = 0 := by omega
        have hn1 : ((nd : Int) == 0) = false := by rw [beq_eq_false_iff_ne]; exact hn0
        by_cases hlt : costR xs zs N < sv
        · have HLF := Lib.hid (leafR_yes (st := (sl, sv)) hrt (.inr hlt))
          generalize costR xs zs N = cst at *
          clear hrt hE0
          go_wp2_with (at_builtin; refine wp_append_ints _ rfl _ _ _ rfl 2 W.heap.size Tryd.underlying26 info64 _ 0 0 _ rfl he (some ⟨gC, 0, none⟩) N cC zs rfl HCI.out (by omega) hW.size ?_; intro A' c' w' o1 u1 b1 _; simp only [Nat.zero_add, List.nil_append] at o1; obtain ⟨r1, r2⟩ := HKB.out w' (hW.trans b1); obtain ⟨r3, r4⟩ := HKL.out w' (.slice A' N c') (hW.trans b1))
          refine bodyPost_ret (results_none rfl _ _ _) rfl ?_
          obtain ⟨f1, f2⟩ := HFIN.out A' c' w' o1 (hW.trans b1)
          exact ⟨rfl, ch, A', N, c', by rw [HE.out, HLF.out]; exact f1, Lib.hid ⟨HTK.out, HCR.out⟩, f2⟩
        · have HLF := Lib.hid (show leafR xs N r zs (sl, sv) = (sl, sv) by
            unfold leafR
            rw [if_neg]
            rintro ⟨_, h2 | h2⟩
            · rw [HSL.out] at h2; exact h0 h2
            · exact hlt h2)
          generalize costR xs zs N = cst at *
          clear hrt hE0 HFIN
          go_wp2_with fail
          refine bodyPost_ret (results_none rfl _ _ _) rfl ?_
          exact ⟨rfl, ch, D, nd, cd, by rw [HE.out, HLF.out]; exact ⟨KG.out, HA2.out, HOC2.out, KB.out, oD, KL.out, SD.out⟩, Lib.hid ⟨HTK.out, HCR.out⟩, hu⟩
  | succ f ih =>
    intro zs ch st D nd cd w hS hbase hnb hch htk hcr
    have IH := Lib.hid ih
    have HCH := Lib.hid hch
    have HLC := Lib.hid hS.oC.len
    have HCB := Lib.hid (costR_bd (xs := xs) (zs := zs) (fun k hk => by rcases HCH.out k hk with ⟨_, h2⟩ | ⟨_, _, h2⟩ <;> omega) HCO.out zs.length (Nat.le_refl _))
    have HI1 := Lib.hid (fun (ch' : List Int) (st' : List Int × Int) (D' : Option Addr) (nd' cd' : Nat) (w' : World) (h1 : RSt base g gC gB gL A n c N cC xs w' ch' st' D' nd' cd') (h2 : base ≤ w'.heap.size) (h3 : zs.length = r) (h4 : ch'.take (zs.length + 1) = zs ++ [-1]) (h5 : ch'.getD r 0 = -1) =>
      ih (zs ++ [-1]) ch' st' D' nd' cd' w' h1 h2 (by rw [List.length_append, List.length_singleton]; omega) (HCH.out.root h3) (by rw [List.length_append, List.length_singleton]; exact h4) h5)
    have HI2 := Lib.hid (fun (k : Nat) (hk : k < n) (ch' : List Int) (st' : List Int × Int) (D' : Option Addr) (nd' cd' : Nat) (w' : World) (h1 : RSt base g gC gB gL A n c N cC xs w' ch' st' D' nd' cd') (h2 : base ≤ w'.heap.size) (h3 : zs.length ≠ r) (h4 : ch'.take (zs.length + 1) = zs ++ [(k : Int)]) (h5 : ch'.getD r 0 = -1) =>
      ih (zs ++ [(k : Int)]) ch' st' D' nd' cd' w' h1 h2 (by rw [List.length_append, List.length_singleton]; omega) (HCH.out.arc h3 (by rw [HX.out]; exact hk)) (by rw [List.length_append, List.length_singleton]; exact h4) h5)
    have HK1 := Lib.hid (show costR xs (zs ++ [-1]) (zs.length + 1) = costR xs zs zs.length from costR_snoc)
    have HK2 := Lib.hid (fun (k : Nat) => show costR xs (zs ++ [(k : Int)]) (zs.length + 1) = costR xs zs zs.length + (xs.getD k default).cost from by
      rw [costR_snoc, if_neg (by omega), Int.toNat_natCast])
    have HB1 := Lib.hid (fun (ch' : List Int) (x : Int) (h : ch'.take (zs.length + 1) = zs ++ [x]) => take_back h)
    have HL1 := Lib.hid (show (zs ++ [(-1 : Int)]).length = zs.length + 1 by rw [List.length_append, List.length_singleton])
    have HL2 := Lib.hid (fun (k : Nat) => show (zs ++ [(k : Int)]).length = zs.length + 1 by rw [List.length_append, List.length_singleton])
    have HR1 := Lib.hid (fun (h : zs.length = r) => show rtF xs N r (f + 1) zs st = rtF xs N r f (zs ++ [-1]) st from by rw [rtF, if_pos h])
    have HR2 := Lib.hid (fun (h : zs.length ≠ r) => show rtF xs N r (f + 1) zs st = rtTo xs zs.length (rtF xs N r f) zs st n from by rw [rtF, if_neg h, HX.out])
    have HTK := Lib.hid htk
    have HCR := Lib.hid hcr
    have HS := Lib.hid hS
    have p0 := hS.kg.cell 0
    have p1 := hS.kg.cell 1
    clear hch htk hcr hS ih
    generalize hzt : zs.length = t at *
    have HZT := Lib.hid hzt
    clear hzt
    have hnn : ((t : Int) == (N : Int)) = false := by rw [beq_eq_false_iff_ne]; omega
    have htN : t < N := by omega
    have hcb1 := HCB.out.1
    have hcb2 := HCB.out.2
    generalize hcst : costR xs zs t = cst at *
    clear hcst
    by_cases hroot : t = r
    · have HROOT := Lib.hid hroot
      have hrr : ((t : Int) == (r : Int)) = true := by rw [beq_iff_eq]; omega
      have HC := HI1.out ch st D nd cd w HS.out hbase hroot (by rw [take_snoc_get HLC.out htN, HTK.out, hroot, HCR.out]) HCR.out
      rw [HL1.out, HK1.out, show ((t + 1 : Nat) : Int) = (t : Int) + 1 by omega] at HC
      have HC := Lib.hid HC
      clear hroot
      go_enter Tryd.func43, Tryd.ntmps43
      go_wp2_with fail
      refine HC.out.mono ?_
      rintro e w1 ⟨rfl, ch', D', nd', cd', f1, f2, f3⟩
      have HF2 := Lib.hid f2.out
      clear f2
      go_wp2_with fail
      refine bodyPost_ret (results_none rfl _ _ _) rfl ?_
      exact ⟨rfl, ch', D', nd', cd', by rw [HR1.out HROOT.out]; exact f1, Lib.hid ⟨HB1.out ch' _ HF2.out.1, HF2.out.2⟩, f3⟩
    · have HROOT := Lib.hid hroot
      have hrr : ((t : Int) == (r : Int)) = false := by rw [beq_eq_false_iff_ne]; omega
      have hS := HS.out
      have hu0 := Upd.refl (S3r gC gB gL) w
      clear hroot
      go_enter Tryd.func43, Tryd.ntmps43
      go_wp2_with fail
      clear p0 p1
      go_loopg [64] n (fun rr kv wi => ∃ (k : Nat) (ch' : List Int) (D' : Option Addr) (nd' cd' : Nat), rr = n - k ∧ k ≤ n ∧ kv = .int .i64 k ∧ RSt base g gC gB gL A n c N cC xs wi ch' (rtTo xs t (rtF xs N r f) zs st k) D' nd' cd' ∧ Hid (ch'.take t = zs ∧ ch'.getD r 0 = -1) ∧ Upd (S3r gC gB gL) w wi)
      case atStart => exact ⟨0, ch, D, nd, cd, rfl, Nat.zero_le _, rfl, hS, Lib.hid ⟨HTK.out, HCR.out⟩, hu0⟩
      case round =>
        clear hS hu0
        obtain ⟨k, ch', D', nd', cd', hrr2, hk, rfl, hS, HH, hu⟩ := hrel
        have HR := Lib.hid hrr2
        clear hrr2
        by_cases hlk : k < n
        · have hlk' : (k : Int) < (n : Int) := by omega
          have HNX := Lib.hid (show rtTo xs t (rtF xs N r f) zs st (k + 1) = if (xs.getD k default).to_ = (t : Int) then rtF xs N r f (zs ++ [(k : Int)]) (rtTo xs t (rtF xs N r f) zs st k) else rtTo xs t (rtF xs N r f) zs st k from rfl)
          generalize rtTo xs t (rtF xs N r f) zs st k = st' at *
          obtain ⟨ad, rfl, _, ca⟩ := hS.arcs.at_ hlk
          have c1 := ca.2.1
          have p1 := hS.kg.cell 1
          have HSS := Lib.hid (hS.store HG1.out HG2.out HG3.out HAS.out t (k : Int))
          have HLC2 := Lib.hid hS.oC.len
          obtain ⟨ad', hA', _, ca'⟩ := HSS.out.arcs.at_ hlk
          injection hA' with hA'
          subst hA'
          have c3 := ca'.2.2.2
          have p2 := HSS.out.kg.cell 1
          have cC0 := OwnI.cell hS.oC htN
          have fC0 := OwnI.free hS.oC t
          have hq := (HV.out k hlk).2
          have HK := Lib.hid (HK2.out k)
          have HSU := Lib.hid (hu.setCell (p := ⟨gC, t, none⟩) (.inl (.inl rfl)) (.int .i64 (k : Int)))
          clear ca ca'
          generalize (xs.getD k default).to_ = tq at *
          generalize (xs.getD k default).cost = q at *
          by_cases hto : tq = (t : Int)
          · have htt : (tq == (t : Int)) = true := by rw [beq_iff_eq]; exact hto
            have HNX2 := Lib.hid (show rtTo xs t (rtF xs N r f) zs st (k + 1) = rtF xs N r f (zs ++ [(k : Int)]) st' by rw [HNX.out]; exact if_pos hto)
            have HC := HI2.out k hlk (ch'.set t (k : Int)) st' D' nd' cd' _ HSS.out (by have := HSU.out.size; omega) HROOT.out (by rw [take_set_snoc HLC2.out htN, HH.out.1]) (by rw [getD_set_ne HROOT.out]; exact HH.out.2)
            have hl2 := HL2.out k
            rw [hl2, HK.out, show ((t + 1 : Nat) : Int) = (t : Int) + 1 by omega] at HC
            have HC := Lib.hid HC
            clear hto hl2
            generalize ch'.getD t 0 = z at *
            go_wp2_with fail
            refine HC.out.mono ?_
            rintro e w1 ⟨rfl, ch2, D2, nd2, cd2, f1, f2, f3⟩
            have HF2 := Lib.hid f2.out
            have hu2 := Upd.then HSU.out f3 (fun _ _ h => h)
            clear f2 f3 c1 c3 p1 p2 cC0 fC0 hS hu
            go_wp2_with fail
            go_roundg (n - (k + 1))
            case measure => rw [HR.out]; omega
            case rel => exact ⟨k + 1, ch2, D2, nd2, cd2, rfl, by omega, by go_num, by rw [HNX2.out]; exact f1, Lib.hid ⟨HB1.out ch2 _ HF2.out.1, HF2.out.2⟩, hu2⟩
          · have htt : (tq == (t : Int)) = false := by rw [beq_eq_false_iff_ne]; exact hto
            have HNX2 := Lib.hid (show rtTo xs t (rtF xs N r f) zs st (k + 1) = st' by rw [HNX.out]; exact if_neg hto)
            clear hto c3 p2 cC0 fC0
            go_wp2_with fail
            go_roundg (n - (k + 1))
            case measure => rw [HR.out]; omega
            case rel => exact ⟨k + 1, ch', D', nd', cd', rfl, by omega, by go_num, by rw [HNX2.out]; exact hS, HH, hu⟩
        · obtain rfl : n = k := by omega
          go_wp2_with fail
          go_end0
          exact ⟨rfl, ch', D', nd', cd', by rw [HR2.out HROOT.out]; exact hS, HH, hu⟩
end Go.Proofs.YtigaopfhjimpmaaDoor
