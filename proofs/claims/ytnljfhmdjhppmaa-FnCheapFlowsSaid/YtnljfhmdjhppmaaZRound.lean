/- A round with a loss of the program: the walk. -/
import Derived.Test.YtnljfhmdjhppmaaZLeast
import Derived.Test.YtnljfhmdjhppmaaJ4
import Derived.Test.YtnljfhmdjhppmaaZReverse
import Derived.Test.YtnljfhmdjhppmaaZGrid
import Derived.Deep.RegionHeld3
namespace Go.Proofs.Ytnljfhmdjhppmaa
open Go.RowKit

theorem zerosR_rep (N : Nat) : (madeCells (Value.int .i64 0).cells (N * 1)).toList = (List.replicate N (0 : Int)).map (Value.int .i64) := by
  show (madeCells #[Value.int .i64 0] (N * 1)).toList = _
  rw [toList_madeCells_one]; simp
/-- truths behind the first k -/
def trues (N k : Nat) : List Value := List.replicate k (.bool true) ++ List.replicate (N - k) (.bool false)
theorem trues_set {N k : Nat} (h : k < N) : (trues N k).set k (.bool true) = trues N (k + 1) := by
  unfold trues
  rw [List.set_append_right _ _ (by simp)]
  simp only [List.length_replicate, Nat.sub_self]
  rw [show N - k = N - (k + 1) + 1 by omega, List.replicate_succ, List.set_cons_zero, List.replicate_succ' (n := k), List.append_assoc]
  rfl
theorem trues_all (N : Nat) : trues N N = (List.replicate N true).map Value.bool := by simp [trues]


theorem leastG_last {ls : List LinkR} {N : Nat} {st : LeastS} {s : LossS} {r e : Nat} (hls : LinksOk ls N) (h : LossOk ls N s r 0) (hst : RelT ls N st s) (hall : ∀ m, preN ls s e m < N ∧ 0 < s.t.getD (preN ls s e m) 0) {T base g : Nat} {w : World} (ho : OwnC T base 6 w (some ⟨g, 0, none⟩) N N (flatV (lastG (fun l => l.arc) LinkR.by_ LinkR.room ls) st.b)) (k : Nat) :
    preN ls s e k < N ∧ w.cell? ⟨g, preN ls s e k * 6 + 2, none⟩ = some (.int .i64 ((preN ls s e (k + 1) : Nat) : Int)) := by
  obtain ⟨h1, h2⟩ := hall k
  obtain ⟨p1, _, _⟩ := h.P _ h1 h2
  refine ⟨h1, ?_⟩
  have hb := hst.b _ h1
  unfold timeB at hb
  rw [if_neg (by omega)] at hb
  have hfr := (hls _ p1).1.1
  have e1 : lastG (fun l => l.arc) LinkR.by_ LinkR.room ls (((s.t.getD (preN ls s e k) 0 - 1) % ls.length : Nat) : Int) = cellsG (fun l => l.arc) LinkR.by_ LinkR.room (ls.getD ((s.t.getD (preN ls s e k) 0 - 1) % ls.length) default) := by
    unfold lastG; rw [if_neg (by omega), Int.toNat_natCast]
  rw [OwnC.cell ho (by omega), flatV_get (lastG (fun l => l.arc) LinkR.by_ LinkR.room ls) 6 (lastG_len _ _ _ ls) 0 st.b (preN ls s e k) 2 (by rw [hst.bl]; exact h1) (by omega), hb, e1, preN]
  unfold preT
  rw [Int.toNat_of_nonneg hfr]
  rfl
theorem least_lossE {ls : List LinkR} {N : Nat} (hN : 1 ≤ N) (hls : LinksOk ls N) (hne : ∀ k, k < ls.length → (ls.getD k default).fr ≠ (ls.getD k default).to_) : (leastR ls (loss0 N) N).e = lossE ls N := by
  obtain ⟨n, rfl⟩ : ∃ n, N = n + 1 := ⟨N - 1, by omega⟩
  exact relT_end hls hne n

theorem least_loss (B gK gl gx N : Nat) (cs : Array Value) (m q : Nat) (ls : List LinkR) (W w2 : World) (hN : N ≤ 16) (hls : LinksOk ls N) (hlc : LinksC ls) (hm : ls.length = m) (hm2 : m ≤ 96)
    (hKl : gK ≠ gl) (hK2 : gK < w2.heap.size) (hl2 : gl < w2.heap.size) (hBK : B ≤ gK) (hBl : B ≤ gl) (hx : gx < B) (hB2 : B ≤ w2.heap.size) (hB : Below B W w2)
    (okk : OwnC 4 B 1 w2 (some ⟨gK, 0, none⟩) N N ((List.replicate N true).map Value.bool)) (ol : OwnC 103 B 6 w2 (some ⟨gl, 0, none⟩) N N (flatV (lastG (fun l => l.arc) LinkR.by_ LinkR.room ls) (List.replicate N (-1)))) (hbx : Blk w2 gx 26 cs)
    (W7 : World) (gD : Nat) (L : Option Addr) (h27 : Below w2.heap.size w2 W7) (hD : OwnI 2 w2.heap.size W7 (some ⟨gD, 0, none⟩) N N (List.replicate N 0)) (hL : OwnC 103 w2.heap.size 6 W7 L m q (flatV LinkR.cells ls)) (hsep : ∀ ad, L = some ad → ad.block ≠ gD) :
    Calls Try.prog 47 #[.slice L m q, .slice (some ⟨gD, 0, none⟩) N N, .slice (some ⟨gK, 0, none⟩) N N, .slice (some ⟨gl, 0, none⟩) N N, .int .i64 N] W7 fun e w8 => e = .returned (.int .i64 (leastR ls (loss0 N) N).e) ∧ Below B W w8 ∧ Blk w8 gx 26 cs ∧ OwnC 103 B 6 w8 (some ⟨gl, 0, none⟩) N N (flatV (lastG (fun l => l.arc) LinkR.by_ LinkR.room ls) (leastR ls (loss0 N) N).b) := by
  have hs0 : LeastOk N (loss0 N) 0 := ⟨by simp [loss0], by simp [loss0], by simp [loss0], fun v hv => by
    show -0 ≤ (List.replicate N (0 : Int)).getD v 0 ∧ (List.replicate N (0 : Int)).getD v 0 ≤ 0
    simp [List.getD, hv]⟩
  have hgD := OwnI.lt hD rfl
  have hgD1 : w2.heap.size ≤ gD := hgD.1
  have hsz := h27.size
  refine (least_any (fun l => l.arc) LinkR.by_ LinkR.room B w2.heap.size gD gK gl N N L m q ls (loss0 N) W7 hN hN hls hlc hm hm2 hs0 hL (fun ad ha => ⟨hsep ad ha, by have := (OwnC.lt hL ha).1; omega, by have := (OwnC.lt hL ha).1; omega⟩) (by omega) (by omega) hKl (OwnI.low hD hB2) (OwnC.below okk h27) (OwnC.below ol h27)).mono ?_
  rintro e w8 ⟨rfl, _, _, oB, u8⟩
  exact ⟨rfl, (hB.trans (h27.mono hB2)).trans (u8.toBelow (by omega) (fun x hx hy => by rcases hy with e | e | e <;> omega)), (hbx.ext h27).upd u8 (by rintro (e | e | e) <;> omega), oB⟩
theorem netLinks_m (nodes : Int) (A : Option Addr) (n c m : Nat) (xs : List ArcR) (B : Option Addr) (d : Nat) (fl : List Int) (ls : List LinkR) (w : World) (h : ArcsAt w A n xs) (hn : n ≤ 48) (hy : IntsAt w B n fl)
    (hf : ∀ k, k < n → (0 ≤ fl.getD k 0 ∧ fl.getD k 0 ≤ 1000000) ∧ (0 ≤ (xs.getD k default).room ∧ (xs.getD k default).room ≤ 1000000) ∧ (-1000 ≤ (xs.getD k default).cost ∧ (xs.getD k default).cost ≤ 1000)) (hl : linksTo xs fl n = ls) (hm : ls.length = m) :
    Calls Try.prog 48 #[.agg #[.int .i64 nodes, .slice A n c], .slice B n d] w fun e w' => ∃ (L : Option Addr) (q : Nat), e = .returned (.slice L m q) ∧ OwnC 103 w.heap.size 6 w' L m q (flatV LinkR.cells ls) ∧ Below w.heap.size w w' :=
  (netLinks_any nodes A n c xs B d fl w h hn hy hf).mono fun e w' ⟨L, m', q, h1, h2, h3, h4⟩ => by
    rw [hl, hm] at h2
    rw [hl] at h3
    subst h2
    exact ⟨L, q, h1, h3, h4⟩

set_option maxRecDepth 100000 in
set_option maxHeartbeats 6400000 in
theorem lossRound_any (N : Nat) (A : Option Addr) (n c : Nat) (xs : List ArcR) (B : Option Addr) (d : Nat) (fl : List Int) (w : World) (h : ArcsAt w A n xs) (hn : n ≤ 48) (hy : IntsAt w B n fl) (hN1 : 2 ≤ N) (hN : N ≤ 16) (hls : LinksOk (linksTo xs fl n) N) (hlc : LinksC (linksTo xs fl n)) (hll : (linksTo xs fl n).length ≤ 96)
    (hne : ∀ k, k < (linksTo xs fl n).length → ((linksTo xs fl n).getD k default).fr ≠ ((linksTo xs fl n).getD k default).to_)
    (hf : ∀ k, k < n → (0 ≤ fl.getD k 0 ∧ fl.getD k 0 ≤ 1000000) ∧ (0 ≤ (xs.getD k default).room ∧ (xs.getD k default).room ≤ 1000000) ∧ (-1000 ≤ (xs.getD k default).cost ∧ (xs.getD k default).cost ≤ 1000))
    (p : Nat) (hp : lossE (linksTo xs fl n) N = -1 ∨ (1 ≤ p ∧ p ≤ N ∧ preN (linksTo xs fl n) (lossR (linksTo xs fl n) N N) (lossE (linksTo xs fl n) N).toNat (N + p) = preN (linksTo xs fl n) (lossR (linksTo xs fl n) N N) (lossE (linksTo xs fl n) N).toNat N ∧ ∀ m, 1 ≤ m → m < p → preN (linksTo xs fl n) (lossR (linksTo xs fl n) N N) (lossE (linksTo xs fl n) N).toNat (N + m) ≠ preN (linksTo xs fl n) (lossR (linksTo xs fl n) N N) (lossE (linksTo xs fl n) N).toNat N))
    (V : List Int) (hV : V = if lossE (linksTo xs fl n) N = -1 then [] else lossP (linksTo xs fl n) N p) :
    Calls Try.prog 46 #[.agg #[.int .i64 N, .slice A n c], .slice B n d] w fun e w' => ∃ (A' : Option Addr) (n' c' : Nat), e = .returned (.slice A' n' c') ∧ OwnI 2 w.heap.size w' A' n' c' V ∧ (V = [] → A' = none ∧ n' = 0 ∧ c' = 0) ∧ Below w.heap.size w w' := by
  have HV := Lib.hid hV
  have HF := Lib.hid hf
  have HLS := Lib.hid hls
  have HLC := Lib.hid hlc
  have HNE := Lib.hid hne
  have HP := Lib.hid hp
  have HLL := Lib.hid hll
  have hm96 := hll
  obtain ⟨ls, hls0⟩ : ∃ ls, linksTo xs fl n = ls := ⟨_, rfl⟩
  have HLE := Lib.hid hls0
  rw [hls0] at HV HLS HLC HNE HP HLL hm96
  clear hls0
  obtain ⟨m, hm0⟩ : ∃ m, ls.length = m := ⟨_, rfl⟩
  have HM := Lib.hid hm0
  rw [hm0] at hm96
  clear hm0
  obtain ⟨i0, hi0, hz0, hz1, hz2⟩ := info_parts infoLk
  obtain ⟨j0, hj0, hw0, hw1, hw2⟩ := info_parts infoB1
  have hW : Below w.heap.size w (w.alloc (.cells #[.int .i64 N, .slice A n c] 26)) := (Below.refl _ _).alloc (Nat.le_refl _) _
  have h3 := h.alloc (.cells #[.int .i64 N, .slice A n c] 26)
  have hy3 := hy.alloc (.cells #[.int .i64 N, .slice A n c] 26)
  have HB := Lib.hid (Blk.new w 26 #[.int .i64 N, .slice A n c])
  have hlt0 : w.heap.size < (w.alloc (.cells #[.int .i64 N, .slice A n c] 26)).heap.size := by simp
  have z2 := bools_rep N
  have z3 := zero6_rep N
  clear hf hls hlc hne hp hll hV h hy
  go_enter Try.func46, Try.ntmps46
  go_upto_region 1 with (fail)
  generalize w.alloc (.cells #[.int .i64 N, .slice A n c] 26) = W at *
  have q0 := HB.out.cell 0
  go_wp2_with (at_make; refine wpList_make_full _ rfl _ _ 68 rfl W.heap.size 4 j0 _ 1 Try.underlying68 hj0 hw0 hw1 .i64 .i64 _ _ N rfl rfl rfl rfl (by rw [hw2]; omega) (by simp [maxLen]; omega) (Nat.le_refl _) ?_; intro w1 o1 g1)
  have b1 : Below W.heap.size W w1 := Upd.ext ((Upd.refl _ _).grown g1 (by intro k hk; cases hk))
  have o2 : OwnC 4 W.heap.size 1 w1 (some ⟨W.heap.size, 0, none⟩) N N (trues N 0) := by
    rw [show trues N 0 = List.replicate N (.bool false) by simp [trues], ← z2]; exact o1
  clear o1 g1 q0
  go_loopg [17] N (fun r iv wr => ∃ (k : Nat), r = N - k ∧ k ≤ N ∧ iv = .int .i64 k ∧ OwnC 4 W.heap.size 1 wr (some ⟨W.heap.size, 0, none⟩) N N (trues N k) ∧ Below W.heap.size W wr)
  case atStart => exact ⟨0, rfl, by omega, rfl, o2, b1⟩
  case round =>
    clear o2 b1
    obtain ⟨k, hr, hk, rfl, ok, hbw⟩ := hrel
    have HR := Lib.hid hr
    clear hr
    by_cases hlt : k < N
    · have hfr := OwnC.free ok k
      have hcF := OwnC.cell ok (j := k) (by omega)
      have hlen : k < (trues N k).length := by unfold trues; simp; omega
      rw [List.getElem?_eq_getElem hlen] at hcF
      have ok2 := OwnC.set ok k (.bool true)
      rw [trues_set hlt] at ok2
      have hb2 := hbw.setCell (p := ⟨W.heap.size, k, none⟩) (Nat.le_refl _) (.bool true)
      have v2 : (k : Int) < (N : Int) := by omega
      generalize (trues N k)[k] = z at *
      go_wp2_with fail
      go_roundg (N - (k + 1))
      case measure => rw [HR.out]; omega
      case rel => exact ⟨k + 1, rfl, by omega, by go_num, ok2, hb2⟩
    · have e : N = k := by omega
      subst e
      rw [trues_all] at ok
      have q0 := (HB.out.below hbw hlt0).cell 0
      have hsz := hbw.size
      go_upto_region 7 with (fail)
      go_wp2_with (at_make; refine wpList_make_full _ rfl _ _ 69 rfl W.heap.size 103 i0 _ 6 Try.underlying69 hi0 hz0 hz1 .i64 .i64 _ _ N rfl rfl rfl rfl (by rw [hz2]; omega) (by simp [maxLen]; omega) hsz ?_; intro w2 o2 g2)
      have b2 : Below W.heap.size W w2 := hbw.trans ((show Below wr.heap.size wr w2 from Upd.ext ((Upd.refl _ _).grown g2 (by intro k hk; cases hk))).mono hsz)
      have b2' : Below wr.heap.size wr w2 := Upd.ext ((Upd.refl _ _).grown g2 (by intro k hk; cases hk))
      have okk := OwnC.below ok b2'
      have hgK := (OwnC.lt okk rfl)
      have hgl := (OwnC.lt o2 rfl)
      have hgl2 := (OwnC.lt ok rfl).2
      have o3 : OwnC 103 W.heap.size 6 w2 (some ⟨wr.heap.size, 0, none⟩) N N (flatV (lastG (fun l => l.arc) LinkR.by_ LinkR.room ls) (List.replicate N (-1))) := by
        have h := o2
        rw [z3, flatV_congr (f := fun _ => zero6) (g := lastG (fun l => l.arc) LinkR.by_ LinkR.room ls) (ys := List.replicate N (-1)) (by simp [lastG])] at h
        exact h
      obtain ⟨l0, hl0, hy0, hy1, hy2⟩ := info_parts info64
      have hmk1 := fun (w : World) => run_make (P := Try.prog) w 29 2 l0 _ Try.underlying29 hl0 hy0 .i64 .i64 (N : Int) (N : Int) (by omega) (Int.le_refl _) (by rw [hy2]; omega) (by omega)
      simp only [Int.toNat_natCast, hy1] at hmk1
      have z1 := zerosR_rep N
      have hO1 := fun (w' : World) => (show OwnI 2 w'.heap.size (w'.alloc (.cells (madeCells (Value.int .i64 0).cells (N * 1)) 2)) (some ⟨w'.heap.size, 0, none⟩) N N (List.replicate N 0) from by
        have hx : (madeCells (Value.int .i64 0).cells (N * 1)).size = N * 1 := by have := congrArg List.length z1; simpa using this
        have h := World.ownsRow_lit (e := 2) (base := w'.heap.size) (size := 1) w' (madeCells (Value.int .i64 0).cells (N * 1)) N (Nat.le_refl _) (by unfold maxLen; omega) hx
        rw [z1] at h
        exact h)
      generalize madeCells (Value.int .i64 0).cells (N * 1) = M1 at *
      have HO1 := Lib.hid hO1
      have hbx : Blk w2 w.heap.size 26 #[.int .i64 N, .slice A n c] := HB.out.below b2 hlt0
      have HBX := Lib.hid hbx
      have q0 := hbx.cell 0
      have q1 := hbx.cell 1
      have q2 := (hbx.alloc (.cells M1 2)).cell 0
      have q3 := (hbx.alloc (.cells M1 2)).cell 1
      have hs2 := b2.size
      have hs2' : W.heap.size ≤ w2.heap.size := b2.size
      have HNL := Lib.hid (fun (W' : World) (hW' : Below w2.heap.size w2 W') => netLinks_m N A n c m xs B d fl ls W' (h3.below (b2.trans (hW'.mono hs2))) hn (hy3.below (b2.trans (hW'.mono hs2))) HF.out HLE.out HM.out)
      have HLS' := Lib.hid (fun q => least_loss W.heap.size W.heap.size wr.heap.size w.heap.size N #[.int .i64 N, .slice A n c] m q ls W w2 hN HLS.out HLC.out HM.out hm96 (by omega) (by omega) hgl.2 (Nat.le_refl _) hsz hlt0 hs2' b2 okk o3 hbx)
      have HLA := Lib.hid (fun (w7 : World) (L : Option Addr) (q : Nat) (ol : OwnC 103 w2.drew.heap.size 6 w7 L m q (flatV LinkR.cells ls)) (b7 : Below w2.drew.heap.size w2.drew w7) => HLS'.out q (w7.alloc (.cells M1 2)) w7.heap.size L ((ext_trans (Below.drew (Below.refl _ w2)) b7).alloc b7.size _) (OwnI.low (HO1.out w7) b7.size) (OwnC.alloc ol _) (fun ad ha => by have := (OwnC.lt ol ha).2; omega))
      have HLZ := Lib.hid (fun (w7 : World) (L : Option Addr) (q : Nat) (ol : OwnC 103 (w2.alloc (.cells M1 2)).drew.heap.size 6 w7 L m q (flatV LinkR.cells ls)) (b7 : Below (w2.alloc (.cells M1 2)).drew.heap.size (w2.alloc (.cells M1 2)).drew w7) => HLS'.out q w7 w2.heap.size L ((((Below.refl _ w2).alloc (Nat.le_refl _) (.cells M1 2)).drew).trans (b7.mono (by show w2.heap.size ≤ (w2.alloc _).heap.size; simp))) (OwnI.below (OwnI.drew (HO1.out w2)) b7) (OwnC.low ol (by show w2.heap.size ≤ (w2.alloc _).heap.size; simp)) (fun ad ha => by have h := (OwnC.lt ol ha).1; have h2 : w2.heap.size + 1 ≤ ad.block := (by have e : (w2.alloc (.cells M1 2)).drew.heap.size = w2.heap.size + 1 := (by show (w2.alloc _).heap.size = _; simp); omega); omega))
      have HBA := Lib.hid (fun (w7 : World) (b7 : Below w2.drew.heap.size w2.drew w7) => (HBX.out.drew.ext b7 : Blk w7 w.heap.size 26 #[.int .i64 N, .slice A n c]))
      have HBB := Lib.hid (fun (w7 : World) (b7 : Below (w2.alloc (.cells M1 2)).drew.heap.size (w2.alloc (.cells M1 2)).drew w7) => ((HBX.out.alloc (.cells M1 2)).drew.ext b7 : Blk w7 w.heap.size 26 #[.int .i64 N, .slice A n c]))
      have HLE2 := Lib.hid (least_lossE (ls := ls) (N := N) (by omega) HLS.out HNE.out)
      clear hbx hbw ok okk o3 o2 g2 b2' hO1 hgK hgl hgl2 b2 HLS' HO1 HM h3 hy3
      go_wp2_with fail
      go_cut [8] (fun s8 wx => s8 = .int .i64 (leastR ls (loss0 N) N).e ∧ Below W.heap.size W wx ∧ Blk wx w.heap.size 26 #[.int .i64 N, .slice A n c] ∧ OwnC 103 W.heap.size 6 wx (some ⟨wr.heap.size, 0, none⟩) N N (flatV (lastG (fun l => l.arc) LinkR.by_ LinkR.room ls) (leastR ls (loss0 N) N).b))
      case first =>
        go_region_held3 (fun w' => w'.cell? ⟨w.heap.size, 0, none⟩ = some (.int .i64 N) ∧ w'.cell? ⟨w.heap.size, 1, none⟩ = some (.slice A n c))
          (first
            | exact ⟨q0, q1⟩
            | exact ⟨q2, q3⟩
            | exact ⟨q4, q5⟩
            | exact ⟨q6, q7⟩
            | exact ⟨q8, q9⟩)
          (first
            | (go_at_call 48; refine (HNL.out _ (by first | exact Below.drew (Below.refl _ _) | exact Below.drew ((Below.refl _ _).alloc (Nat.le_refl _) _))).mono ?_; rintro e w7 ⟨L, q, rfl, ol, b7⟩; have hB7 : Blk w7 w.heap.size 26 #[.int .i64 N, .slice A n c] := (by first | exact HBA.out _ b7 | exact HBB.out _ b7); have q4 := hB7.cell 0; have q5 := hB7.cell 1; have q6 := (hB7.alloc (.cells M1 2)).cell 0; have q7 := (hB7.alloc (.cells M1 2)).cell 1; have HOL7 := Lib.hid ol; have HB7 := Lib.hid b7; clear ol b7 hB7)
            | (go_at_call 47; (first | (with_reducible refine (HLA.out _ _ _ HOL7.out HB7.out).mono ?_) | (with_reducible refine (HLZ.out _ _ _ HOL7.out HB7.out).mono ?_)); rintro e w8 ⟨rfl, b8, hB8, oB⟩; have q8 := hB8.cell 0; have q9 := hB8.cell 1; have HB8 := Lib.hid b8; have HBK8 := Lib.hid hB8; have HO8 := Lib.hid oB; clear oB b8 hB8))
        all_goals
          go_wp2_with fail
          go_meet
          exact ⟨rfl, HB8.out, HBK8.out, HO8.out⟩
      case rest =>
        obtain ⟨rfl, b8, hB8, o8⟩ := hcut
        rw [HLE2.out]
        clear HLE2 HNL HLA HLZ HBA HBB HBX q0 q1 q2 q3 HF
        have HOK := Lib.hid (loss_r HLS.out HNE.out (N := N) N)
        have HRT := Lib.hid (relT_r HLS.out HNE.out (N := N) N)
        have HLO := Lib.hid (lossE_ok (ls := ls) (N := N) (by omega) HLS.out HNE.out)
        have q0 := hB8.cell 0
        have hbw0 := below_ext hW hW.size b8
        obtain ⟨wl, rfl⟩ : ∃ wl : World, wl = wr := ⟨_, rfl⟩
        by_cases hE : lossE ls N = -1
        · have HV2 := Lib.hid (HV.out.trans (if_pos hE))
          rw [hE]
          clear HP HLO hE
          go_wp2_with fail
          go_ret
          exact ⟨none, 0, 0, rfl, by rw [HV2.out]; exact OwnI.nil_ _ _ _, fun _ => ⟨rfl, rfl, rfl⟩, hbw0⟩
        · obtain ⟨hp1, hp2, hp3, hp4⟩ := HP.out.resolve_left hE
          obtain ⟨e, he1, he2, he3⟩ := HLO.out.resolve_left hE
          obtain ⟨p', rfl⟩ : ∃ p', p = p' + 1 := ⟨p - 1, by omega⟩
          have hV2 := HV.out.trans (if_neg hE)
          unfold lossP at hV2
          rw [he1, Int.toNat_natCast] at hp3 hp4 hV2
          rw [Nat.add_sub_cancel] at hV2
          have hback := (back_ok HLS.out HOK.out (by omega) he2 he3).1
          have HST := Lib.hid (fun (W : World) (oW : OwnC 103 w.heap.size 6 W (some ⟨wl.heap.size, 0, none⟩) N N (flatV (lastG (fun l => l.arc) LinkR.by_ LinkR.room ls) (leastR ls (loss0 N) N).b)) (k : Nat) => leastG_last HLS.out HOK.out HRT.out hback oW k)
          rw [he1]
          have o8 := OwnC.low o8 hW.size
          clear HP HLO hE he1 he3 HV HOK HRT hback HLS HNE HLC HLL
          generalize (leastR ls (loss0 N) N).b = bb at *
          generalize lossR ls N N = s at *
          have HP3 := Lib.hid hp3
          have HP4 := Lib.hid hp4
          have HV2 := Lib.hid hV2
          clear hp3 hp4 hV2
          have heN : (e : Int) = ((preN ls s e 0 : Nat) : Int) := rfl
          rw [heN]
          clear heN
          go_wp2_with fail
          go_loop [8, 9] (fun ev tv => ∃ (k : Nat), k ≤ N ∧ ev = .int .i64 ((preN ls s e k : Nat) : Int) ∧ tv = .int .i64 k) (fun ev tv => N - (intOf tv).toNat)
          case atStart => exact ⟨0, by omega, rfl, rfl⟩
          case round =>
            obtain ⟨k, hk, rfl, rfl⟩ := hrel
            by_cases hlt : k < N
            · obtain ⟨h2, h4⟩ := HST.out _ o8 k
              generalize hy : preN ls s e (k + 1) = y at *
              have HY := Lib.hid hy
              clear hy
              generalize preN ls s e k = x at *
              have v2 : (x : Int) < (N : Int) := by omega
              go_wp2_with fail
              go_round
              case rel => exact ⟨k + 1, by omega, by rw [HY.out], by go_num⟩
              case measure => simp [intOf]; omega
            · have e9 : N = k := by omega
              subst e9
              have HNA := Lib.hid (fun i => preN_add ls s e N i)
              have HSX := Lib.hid (fun (W : World) (oW : OwnC 103 w.heap.size 6 W (some ⟨wl.heap.size, 0, none⟩) N N (flatV (lastG (fun l => l.arc) LinkR.by_ LinkR.room ls) bb)) (i : Nat) => HST.out W oW (N + i))
              simp only [HNA.out] at HSX HP3 HP4
              have hadd : ∀ i, N + i + 1 = N + (i + 1) := fun i => rfl
              simp only [hadd, HNA.out] at HSX
              clear HST HNA hadd
              generalize preN ls s e N = x at *
              have hx0 : preN ls s x 0 = x := rfl
              have he : OwnI 2 wc.heap.size (wc.alloc (.cells #[] 2)) (some ⟨wc.heap.size, 0, none⟩) 0 0 (backTo ls s x 0) := World.ownsRow_lit (e := 2) (base := wc.heap.size) (size := 1) wc #[] 0 (Nat.le_refl _) (Nat.zero_le _) rfl
              have hb4 := (Below.refl wc.heap.size wc).alloc (Nat.le_refl _) (.cells #[] 2)
              have o84 := OwnC.below o8 hb4
              obtain ⟨g2, g4⟩ := HSX.out _ o84 0
              rw [hx0] at g2 g4
              have v2 : (x : Int) < (N : Int) := by omega
              clear hx0
              go_wp2_with fail
              generalize wc.alloc (.cells #[] 2) = W4 at *
              obtain ⟨wo, rfl⟩ : ∃ wo : World, wo = wc := ⟨_, rfl⟩
              go_loopg [10, 11] p' (fun r bv av wi => ∃ (k : Nat) (Q : Option Addr) (c : Nat), r = p' - k ∧ k ≤ p' ∧ bv = .slice Q k c ∧ av = .int .i64 ((preN ls s x (k + 1) : Nat) : Int) ∧ OwnI 2 wo.heap.size wi Q k c (backTo ls s x k) ∧ Below wo.heap.size wo wi)
              case atStart => exact ⟨0, _, 0, rfl, by omega, rfl, rfl, he, hb4⟩
              case round =>
                clear he hb4 o84 g4
                obtain ⟨k, Q, c9, hr, hk, rfl, rfl, ob, hbx⟩ := hrel
                have HR := Lib.hid hr
                clear hr
                have hsz := hbx.size
                by_cases hlt : k < p'
                · have hne := HP4.out (k + 1) (by omega) (by omega)
                  have HBS := Lib.hid (backTo_succ ls s x k)
                  have HSY := Lib.hid (fun (W : World) (oW : OwnC 103 w.heap.size 6 W (some ⟨wl.heap.size, 0, none⟩) N N (flatV (lastG (fun l => l.arc) LinkR.by_ LinkR.room ls) bb)) => HSX.out W oW (k + 1))
                  generalize hy2 : preN ls s x (k + 1 + 1) = y2 at *
                  have HY2 := Lib.hid hy2
                  clear hy2
                  generalize preN ls s x (k + 1) = y at *
                  have hfb : ((y : Int) == (x : Int)) = false := by rw [beq_eq_false_iff_ne]; omega
                  go_wp2_with (at_builtin; (refine wp_append_int _ _ rfl _ _ _ rfl 2 wo.heap.size Try.underlying29 info64 Q k c9 _ rfl ob rfl (by omega) hsz ?_; intro g5 c5 w6 o6 u6 b6 hg6; have hb6 := hbx.trans b6; obtain ⟨f2, f4⟩ := HSY.out _ (OwnC.below o8 hb6); have v5 : (y : Int) < (N : Int) := (by omega)))
                  go_roundg (p' - (k + 1))
                  case measure => rw [HR.out]; omega
                  case rel => exact ⟨k + 1, _, c5, rfl, by omega, rfl, by rw [HY2.out], by rw [HBS.out]; exact o6, hbx.trans b6⟩
                · have e8 : p' = k := by omega
                  subst e8
                  have hpx := HP3.out
                  rw [hpx]
                  have hfb : ((x : Int) == (x : Int)) = true := beq_self_eq_true _
                  clear hpx
                  go_wp2_with fail
                  refine (reverse_any wo.heap.size Q p' c9 _ _ ob (by omega)).mono ?_
                  rintro e w9 ⟨rfl, o9, u9⟩
                  have hb9 := below_blk hbx hbx.size u9 ob (Nat.le_refl _)
                  have oo : OwnI 2 w9.heap.size (w9.alloc (.cells #[.int .i64 x] 2)) (some ⟨w9.heap.size, 0, none⟩) 1 1 [(x : Int)] := World.ownsRow_lit (e := 2) (base := w9.heap.size) (size := 1) w9 #[.int .i64 x] 1 (Nat.le_refl _) (by simp [maxLen]) rfl
                  have hi9 := OwnI.ints (OwnI.alloc o9 (.cells #[.int .i64 x] 2))
                  have hb10 := (Below.refl w9.heap.size w9).alloc (Nat.le_refl _) (.cells #[.int .i64 x] 2)
                  go_wp2_with (at_builtin; refine wp_append_ints _ rfl _ _ _ rfl 2 w9.heap.size Try.underlying29 info64 (some ⟨w9.heap.size, 0, none⟩) 1 1 [(x : Int)] rfl oo Q p' c9 _ rfl hi9 (by omega) hb10.size ?_; intro A' c' w10 o10 u10 b10 hA')
                  go_ret
                  exact ⟨A', 1 + p', c', rfl, by rw [HV2.out]; exact OwnI.low o10 (Nat.le_trans hbw0.size hb9.size), (fun h => by rw [HV2.out] at h; cases h), below_ext hbw0 hbw0.size (ext_trans hb9 (hb10.trans b10))⟩
end Go.Proofs.Ytnljfhmdjhppmaa
