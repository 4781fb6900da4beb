/- Complex numbers as texts: what is between the commas (plain), ReadComplex. -/
import Derived.Test.YtnjipckpkcandaaDoorText
namespace Go.Proofs.YtnjipckpkcandaaDoor
open Go.RowKit
theorem indexByte_mid (c : UInt8) : ∀ (x t : List UInt8), c ∉ x → Lib.indexByte (x ++ c :: t) c = (x.length : Int)
  | [], t, _ => by simp [Lib.indexByte]
  | b :: x, t, h => by
    have h1 : c ∉ x := fun e => h (List.mem_cons_of_mem _ e)
    have h2 : (b == c) = false := by
      rw [beq_eq_false_iff_ne]
      intro e; apply h; rw [e]; exact List.mem_cons_self ..
    rw [List.cons_append, Lib.indexByte, h2, indexByte_mid c x t h1]
    simp
theorem join_two (x y : List UInt8) (r : List (List UInt8)) : Lib.join (x :: y :: r) [44] = x ++ 44 :: Lib.join (y :: r) [44] := by
  rw [Lib.join_cons, Lib.join_cons]
  simp [Lib.joinTail]
theorem splitK_join : ∀ (ws : List (List UInt8)) (k : Nat), ws.length = k + 1 → (∀ x ∈ ws, (44 : UInt8) ∉ x) → Lib.splitK [44] 0 k (Lib.join ws [44]) = ws
  | [], k, h, _ => by simp at h
  | [x], k, h, _ => by
    have : k = 0 := by simpa using h.symm
    rw [this, Lib.join_one]; rfl
  | x :: y :: r, k, h, hc => by
    obtain ⟨k, rfl⟩ : ∃ j, k = j + 1 := ⟨k - 1, by simp at h; omega⟩
    have hi : Lib.index (Lib.join (x :: y :: r) [44]) [44] = (x.length : Int) := by
      rw [join_two, ← index_byte]
      exact indexByte_mid 44 x _ (hc x (List.mem_cons_self ..))
    rw [Lib.splitK, hi]
    have hne : ((x.length : Int) == -1) = false := by rw [beq_eq_false_iff_ne]; omega
    rw [hne]
    have ih := splitK_join (y :: r) k (by simp at h ⊢; omega) (fun z hz => hc z (List.mem_cons_of_mem _ hz))
    rw [join_two]
    simp only [Int.toNat_natCast, Nat.add_zero, Bool.false_eq_true, if_false, List.length_cons, List.length_nil, Nat.zero_add]
    rw [List.take_left', List.drop_append]
    · rw [List.drop_eq_nil_of_le (by omega)]; simp [ih]
    · rfl
theorem count_join : ∀ (ws : List (List UInt8)), ws ≠ [] → (∀ x ∈ ws, (44 : UInt8) ∉ x) → (Lib.join ws [44]).count 44 + 1 = ws.length
  | [], h, _ => absurd rfl h
  | [x], _, hc => by
    rw [Lib.join_one, List.count_eq_zero_of_not_mem (hc x (List.mem_cons_self ..))]; rfl
  | x :: y :: r, _, hc => by
    have ih := count_join (y :: r) (by simp) (fun z hz => hc z (List.mem_cons_of_mem _ hz))
    rw [join_two, List.count_append, List.count_eq_zero_of_not_mem (hc x (List.mem_cons_self ..)), List.count_cons_self, List.length_cons]
    omega
theorem hexD_no (d : Nat) (h : d < 16) : hexD d ≠ 44 := by
  have : ∀ d, d < 16 → hexD d ≠ 44 := by decide
  exact this d h
theorem wordL_no (z : Nat × Nat) : (44 : UInt8) ∉ wordL z := by
  have key : ∀ b j, (44 : UInt8) ∉ hexL b j := by
    intro b j h
    unfold hexL at h
    obtain ⟨i, _, hi⟩ := List.mem_map.1 h
    exact hexD_no _ (digit_lt _) hi
  unfold wordL
  rw [List.mem_append]
  rintro (h | h)
  · exact key _ _ h
  · exact key _ _ h
/-- the pieces between commas -/
theorem split_words {zs : List (Nat × Nat)} (h : zs ≠ []) : Lib.countB (textB zs) ⟨#[44]⟩ + 1 = zs.length ∧ Lib.splitB ⟨#[44]⟩ 0 (Lib.countB (textB zs) ⟨#[44]⟩) (textB zs) = zs.map wordS := by
  have ht : textB zs = ⟨(Lib.join (zs.map wordL) [44]).toArray⟩ := by
    cases zs with
    | nil => exact absurd rfl h
    | cons a t => rfl
  have hw : ∀ x ∈ zs.map wordL, (44 : UInt8) ∉ x := by
    intro x hx
    obtain ⟨z, _, rfl⟩ := List.mem_map.1 hx
    exact wordL_no z
  have hc : Lib.countB (textB zs) ⟨#[44]⟩ + 1 = zs.length := by
    have e : Lib.countB (textB zs) ⟨#[44]⟩ = (Lib.join (zs.map wordL) [44]).count 44 := by
      rw [ht]
      show Lib.count (Lib.join (zs.map wordL) [44]) [44] = _
      rw [Lib.count_one]
    rw [e, count_join _ (by simpa using h) hw, List.length_map]
  refine ⟨hc, ?_⟩
  have hd := Lib.splitB_data ⟨#[44]⟩ 0 (Lib.countB (textB zs) ⟨#[44]⟩) (textB zs)
  have e2 : (textB zs).data.toList = Lib.join (zs.map wordL) [44] := by rw [ht]
  rw [e2] at hd
  have e3 : Lib.splitK (⟨#[44]⟩ : ByteArray).data.toList 0 (Lib.countB (textB zs) ⟨#[44]⟩) (Lib.join (zs.map wordL) [44]) = zs.map wordL := splitK_join _ _ (by rw [List.length_map]; exact hc.symm) hw
  rw [e3] at hd
  have inj : ∀ l : List ByteArray, (l.map (·.data.toList)).map (fun l => (⟨l.toArray⟩ : ByteArray)) = l := by
    intro l
    rw [List.map_map]
    conv => rhs; rw [← List.map_id l]
    apply List.map_congr_left
    intro x _
    rfl
  rw [← inj (Lib.splitB _ _ _ _), hd, List.map_map]
  rfl
theorem text_none {zs : List (Nat × Nat)} (h : zs ≠ []) : ¬ textB zs = noneS := by
  intro e
  have h1 : (textB zs).data.toList.count 44 + 1 = zs.length := by
    have := (split_words h).1
    have e2 : Lib.countB (textB zs) ⟨#[44]⟩ = (textB zs).data.toList.count 44 := Lib.count_one 44 _
    rw [e2] at this
    exact this
  rw [e] at h1
  have h2 : zs.length = 1 := by rw [← h1]; decide
  match zs, h2 with
  | [z], _ =>
    have h3 : (textB [z]).size = 16 := by
      show ((Lib.join [wordL z] [44]).toArray).size = 16
      rw [Lib.join_one]; simp [wordL_len]
    rw [e] at h3
    exact absurd h3 (by decide)
/-- the texts between commas of a text of complex numbers -/
theorem divided_none (w : World) : Calls Tryd.prog 39 #[.string noneS] w fun e w' => e = .returned (.slice none 0 0) ∧ w = w' := by
  have d1 : (noneS.toList == [110, 111, 110, 101]) = true := by decide +kernel
  go_enter Tryd.func39, Tryd.ntmps39
  go_wp2_with fail
  go_ret
  exact ⟨rfl, rfl⟩
theorem divided_any (zs : List (Nat × Nat)) (h : zs ≠ []) (hn : zs.length ≤ 200) (w : World) : Calls Tryd.prog 39 #[.string (textB zs)] w fun e w' => e = .returned (.slice (some ⟨w.heap.size, 0, none⟩) zs.length zs.length) ∧ w' = w.alloc (.cells ((zs.map wordS).map Value.string).toArray 9) := by
  have d1 : ((textB zs).toList == [110, 111, 110, 101]) = false := by
    rw [beq_eq_false_iff_ne]
    intro e
    apply text_none h
    rw [ByteArray.toList_eq] at e
    generalize textB zs = s at e
    obtain ⟨⟨l⟩⟩ := s
    replace e : l = [110, 111, 110, 101] := e
    rw [e]; rfl
  have hsz : (textB zs).size < 4294967281 := by
    have ht : textB zs = ⟨(Lib.join (zs.map wordL) [44]).toArray⟩ := by
      cases zs with
      | nil => exact absurd rfl h
      | cons a t => rfl
    have hb := joinL_len (zs.map wordL) (by intro x hx; obtain ⟨z, _, rfl⟩ := List.mem_map.1 hx; exact wordL_len z)
    rw [List.length_map] at hb
    rw [ht]
    show ((Lib.join (zs.map wordL) [44]).toArray).size < _
    simp only [List.size_toArray]
    omega
  have S := split_any (textB zs) 44 w hsz
  obtain ⟨h1, h2⟩ := split_words h
  rw [h2, h1] at S
  have HS := Lib.hid S
  clear S h1 h2 hsz h
  generalize textB zs = s at *
  go_enter Tryd.func39, Tryd.ntmps39
  go_wp2_with fail
  refine HS.out.mono ?_
  rintro e w1 ⟨rfl, rfl⟩
  go_wp2_with fail
  go_ret
  exact ⟨rfl, by rw [List.map_map]⟩
theorem bitsB_bitsB (b : Nat) : bitsB (bitsB b) = bitsB b := by
  unfold bitsB
  cases h : nanK .f32 b
  · simp [h]
  · rw [if_pos rfl, if_pos (by decide +kernel)]
theorem word_left (z : Nat × Nat) : (wordS z).extract 0 8 = hexS (bitsB z.1) := by
  apply ByteArray.ext
  show (wordL z).toArray.extract 0 8 = (hexL (bitsB z.1) 8).toArray
  simp only [List.extract_toArray, List.extract_eq_take_drop, List.drop_zero]
  unfold wordL
  rw [List.take_left' (hexL_len _ _)]
theorem word_right (z : Nat × Nat) : (wordS z).extract 8 16 = hexS (bitsB z.2) := by
  apply ByteArray.ext
  show (wordL z).toArray.extract 8 16 = (hexL (bitsB z.2) 8).toArray
  simp only [List.extract_toArray, List.extract_eq_take_drop]
  unfold wordL
  rw [List.drop_left' (hexL_len _ _), List.take_of_length_le (by rw [hexL_len]; omega)]
theorem word_size (z : Nat × Nat) : (wordS z).size = 16 := by
  show (wordL z).toArray.size = 16
  simp [wordL_len]
/-- the words' canonical bits -/
def canon (z : Nat × Nat) : Nat × Nat := (bitsB z.1, bitsB z.2)
def ReadV (T : Nat) (zs : List (Nat × Nat)) (w : World) (e : Ending) (w' : World) : Prop :=
  ∃ (S : Option Addr) (c : Nat), e = .returned (.tuple #[.slice S zs.length c, .bool true]) ∧ OwnC T w.heap.size 1 w' S zs.length c ((zs.map canon).map cplx) ∧ Below w.heap.size w w'
set_option maxRecDepth 100000 in
set_option maxHeartbeats 1600000 in
theorem readComplex_any (zs : List (Nat × Nat)) (hf : Fit32 zs) (hn : zs.length ≤ 200) (w : World) :
    Calls Tryd.prog 17 #[.string (textB zs)] w (ReadV 24 zs w) := by
  by_cases h0 : zs = []
  · subst h0
    have H := Lib.hid (divided_none w)
    have A := fun W => Lib.hid (areNumbers_any 0 (by omega) W)
    go_enter Tryd.func17, Tryd.ntmps17
    go_wp2_with fail
    refine H.out.mono ?_
    rintro e w1 ⟨rfl, rfl⟩
    go_wp2_with fail
    refine (A _).out.mono ?_
    rintro e w1 ⟨rfl, rfl⟩
    go_wp2_with fail
    go_loopg [20, 5, 7, 8, 9, 10, 11] 0 (fun r iv ov _ _ _ _ _ wr => iv = .int .i64 0 ∧ ov = .slice none 0 0 ∧ wr = w)
    case atStart => exact ⟨rfl, rfl, rfl⟩
    case round =>
      obtain ⟨rfl, rfl, rfl⟩ := hrel
      go_wp2_with fail
      go_ret2
      exact ⟨none, 0, rfl, OwnC.nil_ _ _ _ _, Below.refl _ _⟩
  · have H := Lib.hid (divided_any zs h0 hn w)
    have A := fun W => Lib.hid (areNumbers_any zs.length hn W)
    have HF := Lib.hid hf
    have h9 : zs.length ≤ 200 := hn
    clear hf h0
    obtain ⟨n, hN⟩ : ∃ n, n = zs.length := ⟨_, rfl⟩
    have HN := Lib.hid hN
    rw [← hN] at H A h9
    show Calls Tryd.prog 17 #[.string (textB zs)] w (ReadV 24 zs w)
    unfold ReadV
    rw [← HN.out]
    clear hN hn
    generalize textB zs = s at *
    have kb := Blk.new w 9 ((zs.map wordS).map Value.string).toArray
    have hb1 : Below w.heap.size w (w.alloc (.cells ((zs.map wordS).map Value.string).toArray 9)) := (Below.refl _ _).alloc (Nat.le_refl _) _
    have hz1 : (w.alloc (.cells ((zs.map wordS).map Value.string).toArray 9)).heap.size = w.heap.size + 1 := by simp
    go_enter Tryd.func17, Tryd.ntmps17
    go_wp2_with fail
    refine H.out.mono ?_
    rintro e w1 ⟨rfl, hw1⟩
    rw [← hw1] at kb hb1 hz1
    clear hw1
    generalize hG : w.heap.size = g at *
    have HG := Lib.hid hG
    clear hG
    have hgl := kb.lt
    go_wp2_with fail
    refine (A _).out.mono ?_
    rintro e w2 ⟨rfl, rfl⟩
    go_wp2_with fail
    go_loopg [5, 7, 8, 9, 10, 11, 20] n (fun r ov _ _ _ _ _ iv wr => ∃ (j : Nat) (S : Option Addr) (c : Nat), r = n - j ∧ j ≤ n ∧ iv = .int .i64 (j : Int) ∧ ov = .slice S j c ∧ OwnC 24 w1.heap.size 1 wr S j c (((zs.take j).map canon).map cplx) ∧ Below w1.heap.size w1 wr)
    case atStart => exact ⟨0, none, 0, rfl, Nat.zero_le _, rfl, rfl, OwnC.nil_ _ _ _ _, Below.refl _ _⟩
    case round =>
      obtain ⟨j, S, c, hr, hj, rfl, rfl, hown, hb⟩ := hrel
      have HR := Lib.hid hr
      clear hr
      by_cases hlt : j < n
      · have hjz : j < zs.length := by rw [← HN.out]; exact hlt
        have hcell := (kb.below hb hgl).cell j
        rw [List.getElem?_toArray, List.getElem?_map, List.getElem?_map, List.getElem?_eq_getElem hjz] at hcell
        have htake : zs.take (j + 1) = zs.take j ++ [zs[j]] := List.take_succ_eq_append_getElem hjz
        have hfit := HF.out zs[j] (List.getElem_mem _)
        have HT := Lib.hid htake
        clear htake
        generalize zs[j] = z at *
        replace hcell : wr.cell? ⟨g, j, none⟩ = some (.string (wordS z)) := hcell
        have hA := fun W => Lib.hid (fromHex_any (bitsB z.1) (bitsB_lt hfit.1) (bitsB_bitsB _) W)
        have hB := fun W => Lib.hid (fromHex_any (bitsB z.2) (bitsB_lt hfit.2) (bitsB_bitsB _) W)
        have s1 : (wordS z).size = 16 := word_size z
        have HL := Lib.hid (word_left z)
        have HRt := Lib.hid (word_right z)
        have hwz := hb.size
        have HK := Lib.hid (show canon z = (bitsB z.1, bitsB z.2) from rfl)
        generalize bitsB z.1 = a at *
        generalize bitsB z.2 = b at *
        generalize wordS z = t at *
        go_wp2_with fail
        rw [HL.out]
        refine (hA _).out.mono ?_
        rintro e w3 ⟨rfl, rfl⟩
        go_wp2_with fail
        rw [HRt.out]
        refine (hB _).out.mono ?_
        rintro e w3 ⟨rfl, rfl⟩
        go_wp2_with (at_builtin; refine wp_append_val wr (.complex .f32 _ _) rfl rfl _ _ _ rfl 24 w1.heap.size Tryd.underlying25 _ 8 infoCx rfl (by decide) _ _ _ _ rfl hown rfl (by omega) hwz ?_; intro g5 c5 w5 o5 u5 b5 hg5)
        go_roundg (n - (j + 1))
        case measure => rw [HR.out]; omega
        case rel =>
          refine ⟨j + 1, _, _, rfl, by omega, by go_num, rfl, ?_, hb.trans b5⟩
          rw [HT.out, List.map_append, List.map_append]
          show OwnC _ _ _ _ _ _ _ (_ ++ [cplx (canon z)])
          rw [HK.out]
          exact o5
      · obtain rfl : n = j := by omega
        have hfull : zs.take n = zs := List.take_of_length_le (by rw [← HN.out]; exact Nat.le_refl _)
        rw [hfull] at hown
        have HO := Lib.hid hown
        clear hfull hown
        go_wp2_with fail
        go_ret2
        exact ⟨S, c, rfl, by rw [HG.out]; exact HO.out.low (by omega), by rw [HG.out]; exact hb1.trans (hb.mono (by omega))⟩
end Go.Proofs.YtnjipckpkcandaaDoor
