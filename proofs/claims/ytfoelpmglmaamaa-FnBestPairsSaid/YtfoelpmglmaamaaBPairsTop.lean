/- Best pairs: the contracts. -/
import Derived.Test.YtfoelpmglmaamaaBPairsS
namespace Go.Proofs.Ytfoelpmglmaamaa
open Go.RowKit

def bpPV (a : Int) (cs : List Int) : List Int := if bpOk a cs = true then bpPs cs a.toNat else []
def bpUV (a : Int) (cs : List Int) : List Int := if bpOk a cs = true then bpUs cs a.toNat else []
def bpVV (a : Int) (cs : List Int) : List Int := if bpOk a cs = true then bpVs cs a.toNat else []
def bpIV (a : Int) (cs : List Int) : Int := if bpOk a cs = true then (bpRest cs a.toNat).getD 0 0 else 0
theorem bpV_no {a : Int} {cs : List Int} (h : bpOk a cs = false) : bpPV a cs = [] ∧ bpUV a cs = [] ∧ bpVV a cs = [] ∧ bpIV a cs = 0 := by
  unfold bpPV bpUV bpVV bpIV
  rw [h]; exact ⟨rfl, rfl, rfl, rfl⟩
theorem bpV_yes {S : Nat} {cs : List Int} (h : bpOk S cs = true) : bpPV S cs = bpPs cs S ∧ bpUV S cs = bpUs cs S ∧ bpVV S cs = bpVs cs S ∧ bpIV S cs = (bpRest cs S).getD 0 0 := by
  unfold bpPV bpUV bpVV bpIV
  rw [h]; exact ⟨rfl, rfl, rfl, rfl⟩
theorem bpOk_iff {a : Int} {cs : List Int} : bpOk a cs = true ↔ (1 ≤ a ∧ a ≤ 16) ∧ (cs.length : Int) = a * a ∧ (cs.all fun x => inB x (-1000000) 1000000) = true := by
  unfold bpOk
  rw [Bool.and_eq_true, Bool.and_eq_true, decide_eq_true_iff, inB_iff, and_assoc]
theorem bpPs_len (cs : List Int) (S : Nat) : (bpPs cs S).length ≤ S := (bpP_ok cs (bpRest cs S) S S).1
theorem bpPV_len (a : Int) (cs : List Int) : (bpPV a cs).length ≤ 1048576 := by
  unfold bpPV
  split
  · rename_i h
    have h1 := bpPs_len cs a.toNat
    have h2 := (bpOk_iff.1 h).1
    omega
  · exact Nat.zero_le _
theorem bpUV_len (a : Int) (cs : List Int) : (bpUV a cs).length ≤ 1048576 := by
  unfold bpUV
  split
  · rename_i h
    have h1 := bpPs_len cs a.toNat
    have h2 := (bpOk_iff.1 h).1
    unfold bpUs
    rw [uT_len]
    omega
  · exact Nat.zero_le _
theorem lgJ_len (cs ro v : List Int) (S k : Nat) : ∀ j, (lgJ cs ro v S k j).length = v.length
  | 0 => rfl
  | j + 1 => by rw [lgJ, List.length_set, lgJ_len cs ro v S k j]
theorem lgK_len (cs ro v : List Int) (S : Nat) : ∀ k, (lgK cs ro v S k).length = v.length
  | 0 => rfl
  | k + 1 => by rw [lgK, lgJ_len, lgK_len cs ro v S k]
theorem lgT_len (cs ro : List Int) (S : Nat) : ∀ t, (lgT cs ro S t).length = S
  | 0 => by simp [lgT]
  | t + 1 => by rw [lgT, lgK_len, lgT_len cs ro S t]
theorem bpVV_len (a : Int) (cs : List Int) : (bpVV a cs).length ≤ 1048576 := by
  unfold bpVV
  split
  · rename_i h
    have h2 := (bpOk_iff.1 h).1
    unfold bpVs
    rw [lgT_len]
    omega
  · exact Nat.zero_le _
def RetBP (T : Nat) (a : Int) (cs : List Int) (w : World) (e : Ending) (w' : World) : Prop :=
  ∃ (P : Option Addr) (p cp : Nat) (U : Option Addr) (u cu : Nat) (V : Option Addr) (v cv : Nat), e = .returned (.tuple #[.slice P p cp, .int .i64 (bpIV a cs), .slice U u cu, .slice V v cv, .bool (bpOk a cs)]) ∧ OwnI T w.heap.size w' P p cp (bpPV a cs) ∧ OwnI T w.heap.size w' U u cu (bpUV a cs) ∧ OwnI T w.heap.size w' V v cv (bpVV a cs) ∧ Sep P U ∧ Sep P V ∧ Sep U V ∧ Below w.heap.size w w'
theorem RetBP.no {T : Nat} {a : Int} {cs : List Int} {w w' : World} {e : Ending} (h : bpOk a cs = false) (he : e = .returned (.tuple #[.slice none 0 0, .int .i64 0, .slice none 0 0, .slice none 0 0, .bool false])) (hb : Below w.heap.size w w') : RetBP T a cs w e w' := by
  obtain ⟨h1, h2, h3, h4⟩ := bpV_no h
  refine ⟨none, 0, 0, none, 0, 0, none, 0, 0, ?_, ?_, ?_, ?_, fun x y hx => (by cases hx), fun x y hx => (by cases hx), fun x y hx => (by cases hx), hb⟩
  · rw [he, h4, h]
  · rw [h1]; exact OwnI.nil_ _ _ _
  · rw [h2]; exact OwnI.nil_ _ _ _
  · rw [h3]; exact OwnI.nil_ _ _ _
theorem RetBP.yes {T S : Nat} {cs : List Int} {w w' : World} {e : Ending} (h : bpOk S cs = true) (hr : ∃ (P U V : Option Addr) (p cp cu cv : Nat), e = .returned (.tuple #[.slice P p cp, .int .i64 ((bpRest cs S).getD 0 0), .slice U p cu, .slice V S cv, .bool true]) ∧ OwnI T w.heap.size w' P p cp (bpPs cs S) ∧ OwnI T w.heap.size w' U p cu (bpUs cs S) ∧ OwnI T w.heap.size w' V S cv (bpVs cs S) ∧ Sep P U ∧ Sep P V ∧ Sep U V ∧ Below w.heap.size w w') : RetBP T S cs w e w' := by
  obtain ⟨h1, h2, h3, h4⟩ := bpV_yes h
  obtain ⟨P, U, V, p, cp, cu, cv, e1, o1, o2, o3, s1, s2, s3, hb⟩ := hr
  exact ⟨P, p, cp, U, p, cu, V, S, cv, by rw [e1, h4, h], by rw [h1]; exact o1, by rw [h2]; exact o2, by rw [h3]; exact o3, s1, s2, s3, hb⟩

set_option maxRecDepth 100000 in
set_option maxHeartbeats 1600000 in
theorem implBestPairs_r (a : Int) (A : Option Addr) (n c : Nat) (cs : List Int) (w : World) (h : IntsAt w A n cs) (hl : n ≤ 1048576) :
    Calls Try.prog 10 #[.int .i64 a, .slice A n c] w (RetBP 2 a cs w) := by
  have HL := Lib.hid h.len
  cases hok : bpOk a cs
  · have HOK := Lib.hid hok
    clear hok
    have hm : ∀ v : Nat, v < 2 → v < 2 := fun _ h => h
    cases hin : inB a 1 16
    · go_enter Try.func10, Try.ntmps10
      go_wp2_with (go_at_call 24; refine (within_any _ _ _ _).mono ?_; rw [hin]; rintro e w' ⟨rfl, rfl⟩)
      (try simp only [Exit.inBlock, Exit.then])
      refine bodyPost_ret (results_tmp5 rfl _ _ _) rfl ?_
      exact RetBP.no HOK.out rfl (Below.refl _ _)
    · obtain ⟨a0, a1⟩ := inB_iff.1 hin
      obtain ⟨S, rfl⟩ := Int.eq_ofNat_of_zero_le (show 0 ≤ a by omega)
      have hsq : (S : Int) * (S : Int) = ((S * S : Nat) : Int) := by push_cast; rfl
      have hS256 : S * S ≤ 256 := Nat.mul_le_mul (show S ≤ 16 by omega) (show S ≤ 16 by omega)
      by_cases hsn : n = S * S
      · cases hall : (cs.all fun x => inB x (-1000000) 1000000)
        · have hd : ((n : Int) == (S : Int) * (S : Int)) = true := by rw [hsq, hsn]; exact beq_self_eq_true _
          have hd2 : ((S : Int) * (S : Int)) = (n : Int) := by rw [hsq, hsn]
          clear hsn hsq
          go_enter Try.func10, Try.ntmps10
          go_wp2_with (first | (go_at_call 24; refine (within_any _ _ _ _).mono ?_; rw [hin]; rintro e w' ⟨rfl, rfl⟩) | (go_at_call 25; refine (size_any _ _).mono ?_; rintro e w' ⟨rfl, rfl⟩) | (go_at_call 26; refine (allWithin_any _ _ _ cs _ _ _ h hl).mono ?_; rw [hall]; rintro e w' ⟨rfl, rfl⟩))
          (try simp only [Exit.inBlock, Exit.then])
          refine bodyPost_ret (results_tmp5 rfl _ _ _) rfl ?_
          exact RetBP.no HOK.out rfl (Below.refl _ _)
        · exfalso
          have := HOK.out
          rw [bpOk_iff.2 ⟨⟨a0, a1⟩, by rw [HL.out, hsq, hsn], hall⟩] at this
          cases this
      · have hd2 : ¬ ((n : Int) = (S : Int) * (S : Int)) := by rw [hsq]; omega
        have hw : IntKind.i64.wrap ((S : Int) * (S : Int)) = (S : Int) * (S : Int) := IntWalk.i64_in _ (by omega)
        clear hsn hsq
        go_enter Try.func10, Try.ntmps10
        go_wp2_with (first | (go_at_call 24; refine (within_any _ _ _ _).mono ?_; rw [hin]; rintro e w' ⟨rfl, rfl⟩) | (go_at_call 25; refine (size_any _ _).mono ?_; rintro e w' ⟨rfl, rfl⟩))
        (try simp only [Exit.inBlock, Exit.then])
        refine bodyPost_ret (results_tmp5 rfl _ _ _) rfl ?_
        exact RetBP.no HOK.out rfl (Below.refl _ _)
  · obtain ⟨⟨a0, a1⟩, h2, h3⟩ := bpOk_iff.1 hok
    obtain ⟨S, rfl⟩ := Int.eq_ofNat_of_zero_le (show 0 ≤ a by omega)
    rw [HL.out, show (S : Int) * (S : Int) = ((S * S : Nat) : Int) by push_cast; rfl] at h2
    exact (implBest_any A n c S cs w h (by omega) (by omega) (by omega) h3).mono fun e w' hr => RetBP.yes hok hr

set_option maxRecDepth 100000 in
set_option maxHeartbeats 1600000 in
theorem specBestPairs_r (a : Int) (A : Option Addr) (n c : Nat) (cs : List Int) (w : World) (h : IntsAt w A n cs) (hl : n ≤ 1048576) :
    Calls Try.prog 15 #[.int .i64 a, .slice A n c] w (RetBP 2 a cs w) := by
  have HL := Lib.hid h.len
  cases hok : bpOk a cs
  · have HOK := Lib.hid hok
    clear hok
    cases hin : inB a 1 16
    · go_enter Try.func15, Try.ntmps15
      go_wp2_with (go_at_call 31; refine (l00In_any _ _ _ _).mono ?_; rw [hin]; rintro e w' ⟨rfl, rfl⟩)
      (try simp only [Exit.inBlock, Exit.then])
      refine bodyPost_ret (results_tmp5 rfl _ _ _) rfl ?_
      exact RetBP.no HOK.out rfl (Below.refl _ _)
    · obtain ⟨a0, a1⟩ := inB_iff.1 hin
      obtain ⟨S, rfl⟩ := Int.eq_ofNat_of_zero_le (show 0 ≤ a by omega)
      have hsq : (S : Int) * (S : Int) = ((S * S : Nat) : Int) := by push_cast; rfl
      have hS256 : S * S ≤ 256 := Nat.mul_le_mul (show S ≤ 16 by omega) (show S ≤ 16 by omega)
      by_cases hsn : n = S * S
      · have hd2 : ((S : Int) * (S : Int)) = (n : Int) := by rw [hsq, hsn]
        have HNA := Lib.hid (show ¬ ∀ j, j < n → inB (cs.getD j 0) (-1000000) 1000000 = true from fun hj => by
          have hall : (cs.all fun x => inB x (-1000000) 1000000) = true := by
            rw [List.all_eq_true]
            intro x hx
            obtain ⟨i, hi, rfl⟩ := List.getElem_of_mem hx
            have := hj i (by rw [← HL.out]; exact hi)
            simp only [List.getD, List.getElem?_eq_getElem hi, Option.getD_some] at this
            exact this
          have := HOK.out
          rw [bpOk_iff.2 ⟨⟨a0, a1⟩, by rw [HL.out, hsq, hsn], hall⟩] at this
          cases this)
        have hn256 : n ≤ 256 := by omega
        clear hsn hsq
        go_enter Try.func15, Try.ntmps15
        go_wp2_with (go_at_call 31; refine (l00In_any _ _ _ _).mono ?_; rw [hin]; rintro e w' ⟨rfl, rfl⟩)
        obtain ⟨wo, rfl⟩ : ∃ wo : World, wo = w := ⟨_, rfl⟩
        go_loopg [45] n (fun r cv wi => ∃ (k : Nat), r = n - k ∧ k ≤ n ∧ cv = .int .i64 k ∧ Hid (∀ j, j < k → inB (cs.getD j 0) (-1000000) 1000000 = true) ∧ wo = wi)
        case atStart => exact ⟨0, rfl, Nat.zero_le _, rfl, Lib.hid (fun j hj => absurd hj (Nat.not_lt_zero j)), rfl⟩
        case round =>
          obtain ⟨k, hr, hk, rfl, HI, hw2⟩ := hrel
          have HR0 := Lib.hid hr
          clear hr
          subst hw2
          by_cases hlk : k < n
          · have hlk' : (k : Int) < (n : Int) := by omega
            obtain ⟨ad, rfl, _, hc3⟩ := h.at_ hlk
            cases hci : inB (cs.getD k 0) (-1000000) 1000000
            · generalize cs.getD k 0 = x at *
              go_wp2_with (go_at_call 31; refine (l00In_any _ _ _ _).mono ?_; rw [hci]; rintro e w' ⟨rfl, rfl⟩)
              (try simp only [Exit.inBlock, Exit.then])
              refine bodyPost_ret (results_tmp5 rfl _ _ _) rfl ?_
              exact RetBP.no HOK.out rfl (Below.refl _ _)
            · have HI2 := Lib.hid (show ∀ j, j < k + 1 → inB (cs.getD j 0) (-1000000) 1000000 = true from fun j hj => by
                by_cases e : j = k
                · subst e; exact hci
                · exact HI.out j (by omega))
              generalize cs.getD k 0 = x at *
              go_wp2_with (go_at_call 31; refine (l00In_any _ _ _ _).mono ?_; rw [hci]; rintro e w' ⟨rfl, rfl⟩)
              go_roundg (n - (k + 1))
              case measure => rw [HR0.out]; omega
              case rel => exact ⟨k + 1, rfl, by omega, by go_num, HI2, rfl⟩
          · exact absurd (fun j hj => HI.out j (by omega)) HNA.out
      · have hd2 : ¬ ((n : Int) = (S : Int) * (S : Int)) := by rw [hsq]; omega
        have hw : IntKind.i64.wrap ((S : Int) * (S : Int)) = (S : Int) * (S : Int) := IntWalk.i64_in _ (by omega)
        clear hsn hsq
        go_enter Try.func15, Try.ntmps15
        go_wp2_with (go_at_call 31; refine (l00In_any _ _ _ _).mono ?_; rw [hin]; rintro e w' ⟨rfl, rfl⟩)
        (try simp only [Exit.inBlock, Exit.then])
        refine bodyPost_ret (results_tmp5 rfl _ _ _) rfl ?_
        exact RetBP.no HOK.out rfl (Below.refl _ _)
  · obtain ⟨⟨a0, a1⟩, h2, h3⟩ := bpOk_iff.1 hok
    obtain ⟨S, rfl⟩ := Int.eq_ofNat_of_zero_le (show 0 ≤ a by omega)
    rw [HL.out, show (S : Int) * (S : Int) = ((S * S : Nat) : Int) by push_cast; rfl] at h2
    exact (specBest_any A n c S cs w h (by omega) (by omega) (by omega) h3).mono fun e w' hr => RetBP.yes hok hr
end Go.Proofs.Ytfoelpmglmaamaa
