/- The table of rows: the program's small functions, and a step of a region that appends a list of floats. -/
import Derived.Test.YtbbcddbdinmaaaaTabZ
import Derived.Deep.RegionLaw
import Derived.Deep.AppendLies
namespace Go.Proofs.Ytbbcddbdinmaaaa
open Go.RowKit

theorem flts_news {w : World} {ad : Addr} {n : Nat} {bs : List Nat} (h : FltsAt w (some ad) n bs) : ∀ j u, (bs.map (Value.float .f32))[j]? = some u → w.cell? (ad.add j) = some u := by
  intro j u hu
  have hj : j < bs.length := by
    rcases Nat.lt_or_ge j bs.length with h1 | h1
    · exact h1
    · rw [List.getElem?_eq_none (by simpa using h1)] at hu; cases hu
  obtain ⟨ad', e, _, hc⟩ := h.at_ (k := j) (by rw [← h.len]; exact hj)
  injection e with e
  subst e
  rw [hc]
  rw [List.getElem?_map, List.getElem?_eq_getElem hj] at hu
  simpa [List.getD, List.getElem?_eq_getElem hj] using hu
theorem step_app_flts {P : Program} {ops : Array Oper} {o : Oper} {a : Act} {K : Act → World → Prop} {Q : Exit → Act → World → Prop} {E : Prop} {w : World} (hgd : o.guard = none) (s x : Operand) (t : TypeId)
    (ho : o.op = .call { callee := .builtin .append, args := #[s, x], argTypes := #[t, t] })
    (T base : Nat) (ht : P.underlying t = some (.slice T)) (hinfo : (P.info? T).map (fun i => (i.zero, i.size, i.bytes)) = some (some (.float .f32 0), 1, 4))
    (A : Option Addr) (n c : Nat) (zs : List Nat) (hs : a.eval s = .slice A n c) (hown : OwnF T base w A n c zs)
    (ad : Addr) (m d : Nat) (ys : List Nat) (hx : a.eval x = .slice (some ad) m d) (hr : FltsAt w (some ad) m ys) (hm : 0 < m) (hn : n + m ≤ 10000) (hbase : base ≤ w.heap.size)
    (h : ∀ (g c' : Nat) (w' : World), OwnF T base w' (some ⟨g, 0, none⟩) (n + m) c' (zs ++ ys) → Upd (blk A) w w' → (blk A g ∨ g = w.heap.size) → K (a.put o.dst (.slice (some ⟨g, 0, none⟩) (n + m) c')) w') :
    if Region.wanted o (yielded ops a.tmps) = true then Oper.wp P o a w K Q else E := by
  obtain ⟨i0, hi, hz0, hz1, hz2⟩ := info_parts hinfo
  refine step_append_lies w hgd s x t ho base T i0 _ 1 4 ht hi hz0 hz1 hz2 rfl (by decide) (.slice A n c) n (zs.map (Value.float .f32)) hs hown ad m d (ys.map (Value.float .f32)) hx (by simp [hr.len]) (flts_news hr) (flts_oneCell _ _) hm (by unfold maxLen; omega) (by omega) hbase w.heap.size rfl ?_
  intro g c' w' h2 h3 h4 _
  refine h g c' w' (by unfold OwnF; rw [List.map_append]; exact h2) (updGF h3) ?_
  rcases h4 with h4 | h4
  · left
    cases A with
    | none => cases h4
    | some ad' => simp only [Value.ownBlock, Option.some.injEq] at h4; exact ⟨ad', rfl, h4⟩
  · exact .inr h4
/-- a part of a list of floats -/
theorem flts_row {w : World} {ad : Addr} {n V m i : Nat} {ns gs : List Nat} (h : FltsAt w (some ad) n ns) (hi : i < m) (hV : 0 < V) (hn : n = V * m) : FltsAt w (some (ad.add (i * V))) V (upV V m ns gs i V) := by
  have hle : i * V + V ≤ n := by
    rw [hn, Nat.mul_comm V m, ← Nat.succ_mul]
    exact Nat.mul_le_mul_right V hi
  refine ⟨upV_len _ _ _ _ _ _, fun _ => ?_⟩
  obtain ⟨ad', e, hlt, hc⟩ := h.2 (by omega)
  injection e with e
  subst e
  refine ⟨_, rfl, by rw [block_add]; exact hlt, fun j hj => ?_⟩
  rw [add_add', hc (i * V + j) (by omega)]
  simp [upV, List.getD, hj, cellV, hi]
theorem unit_eq {m i : Nat} (hi : i < m) : (List.replicate m 0).set i 1065353216 = upU i m := by
  apply List.ext_getElem?
  intro j
  rw [List.getElem?_set]
  by_cases h : j < m
  · by_cases e : i = j
    · subst e; simp [upU, h, cellU, oneF]
    · simp [upU, h, cellU, e, Ne.symm e]
  · simp only [upU]
    rw [List.getElem?_eq_none (show ((List.range m).map (cellU i)).length ≤ j by simp; omega)]
    by_cases e : i = j
    · omega
    · simp [e]; omega
theorem upU_last (m : Nat) : upU m m ++ [0] = List.replicate (m + 1) 0 := by
  have : upU m m = List.replicate m 0 := by
    apply List.ext_getElem?
    intro j
    by_cases h : j < m
    · have hne : ¬ j = m := by omega
      simp [upU, h, cellU, hne]
    · simp [upU, h]
  rw [this, List.replicate_succ']
/-- the numbers grown by several appends -/
theorem TabSt.numsTo' {gO : Nat} {V : Int} {w w' : World} {N : Option Addr} {nn cn : Nat} {nums : List Nat} {Q : Option Addr} {qn cq : Nat} {bas : List Int} (h : TabSt gO V w N nn cn nums Q qn cq bas) {N' : Option Addr} {nn' cn' : Nat} {nums' : List Nat} (o : OwnF 34 (gO + 1) w' N' nn' cn' nums') (u : Upd (fun b => blk N b ∨ w.heap.size ≤ b) w w') :
    TabSt gO V (w'.setCell ⟨gO, 1, none⟩ (.slice N' nn' cn')) N' nn' cn' nums' Q qn cq bas := by
  have hlt := h.k.lt
  have hk : Blk w' gO 27 #[.int .i64 V, .slice N nn cn, .slice Q qn cq] := h.k.upd u (fun hb => by
    rcases hb with ⟨ad, h1, h2⟩ | hb
    · have := (h.oN.lt h1).1; omega
    · omega)
  have hs : Sep N Q := own_neF h.oN (show OwnC 2 (gO + 1) 1 w Q qn cq (bas.map (Value.int .i64)) from h.oQ) (by decide)
  have hq : OwnI 2 (gO + 1) w' Q qn cq bas := OwnI.upd h.oQ u (fun ad ha hb => by
    rcases hb with ⟨ad', h1, h2⟩ | hb
    · exact hs ad' ad h1 ha h2
    · have := (h.oQ.lt ha).2; omega)
  exact ⟨hk.set 1 _, o.far (p := ⟨gO, 1, none⟩) (fun ad ha => by have := (o.lt ha).1; show ad.block ≠ gO; omega) _, hq.far (p := ⟨gO, 1, none⟩) (fun ad ha => by have := (hq.lt ha).1; show ad.block ≠ gO; omega) _⟩

set_option maxRecDepth 100000 in
set_option maxHeartbeats 1000000 in
theorem row_any (V m : Nat) (ad : Addr) (n c : Nat) (B : Option Addr) (mb d : Nat) (G : Option Addr) (p g : Nat) (i : Nat) (w : World) (hV : 1 ≤ V ∧ V ≤ 8) (hm : m ≤ 8) (hi : i < m) (hn : n = V * m) (hc : n ≤ c ∧ c ≤ maxLen) :
    Calls Try.prog 76 #[.agg #[.int .i64 V, .slice (some ad) n c, .slice B mb d, .slice G p g], .int .i64 i] w fun e w' => ∃ c', e = .returned (.slice (some (ad.add (i * V))) V c') ∧ Below w.heap.size w w' := by
  have hle : i * V + V ≤ n := by
    rw [hn, Nat.mul_comm V m, ← Nat.succ_mul]
    exact Nat.mul_le_mul_right V hi
  have hn64 : n ≤ 64 := by rw [hn]; exact Nat.mul_le_mul hV.2 hm
  obtain ⟨hc1, hc2⟩ := hc
  have hc3 : c ≤ 9223372036854775807 := hc2
  obtain ⟨P, hP⟩ : ∃ P : Nat, i * V = P := ⟨_, rfl⟩
  obtain ⟨R, hR⟩ : ∃ R : Nat, P + V = R := ⟨_, rfl⟩
  have hm1 : (i : Int) * (V : Int) = (P : Int) := by rw [← hP]; push_cast; rfl
  have hm2 : ((i : Int) + 1) * (V : Int) = (R : Int) := by rw [Int.add_mul, hm1, Int.one_mul]; omega
  have hw1 : IntKind.i64.wrap (P : Int) = (P : Int) := IntWalk.i64_in _ (by omega)
  have hw2 : IntKind.i64.wrap (R : Int) = (R : Int) := IntWalk.i64_in _ (by omega)
  have hw3 : IntKind.i64.wrap ((i : Int) + 1) = (i : Int) + 1 := IntWalk.i64_in _ (by omega)
  rw [hP] at hle ⊢
  have hPR : P ≤ R := by omega
  have hPRs : P < R := by omega
  have hRc : R ≤ c := by omega
  have HRP := Lib.hid (show R - P = V by omega)
  have hW : Below w.heap.size w (w.alloc (.cells #[.int .i64 V, .slice (some ad) n c, .slice B mb d, .slice G p g] 43)) := (Below.refl _ _).alloc (Nat.le_refl _) _
  have hPRi : (P : Int) ≤ (R : Int) := by omega
  have hRci : (R : Int) ≤ (c : Int) := by omega
  have hP0 : (0 : Int) ≤ (P : Int) := by omega
  clear hn hP hR hle
  go_enter Try.func76, Try.ntmps76
  go_wp2_with fail
  all_goals first | (exfalso; omega) | skip
  go_ret
  exact ⟨c - P, by show Ending.returned (Value.slice (some (ad.add P)) (R - P) (c - P)) = _; rw [HRP.out], hW⟩
end Go.Proofs.Ytbbcddbdinmaaaa
