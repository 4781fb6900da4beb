/- append(x, make([]float32, k)...): zeros behind a slice of floats that is one's own. -/
import Derived.Test.YtbbcddbdinmaaaaTabPlain
import Derived.Lib.AppendZerosOnto
namespace Go.Proofs.Ytbbcddbdinmaaaa
open Go.RowKit

theorem zero_cells (k : Nat) : (Builtin.zeroCells (Value.float .f32 0).cells k).toList = (List.replicate k 0).map (Value.float .f32) := by
  apply List.ext_getElem?
  intro j
  by_cases h : j < k
  · simp [Builtin.zeroCells, Value.cells, h, Nat.mod_one]
  · rw [List.getElem?_eq_none (by simp [Builtin.zeroCells, Value.cells]; omega), List.getElem?_eq_none (by simp; omega)]
theorem zero_cells_size (k : Nat) : (Builtin.zeroCells (Value.float .f32 0).cells k).size = k := by simp [Builtin.zeroCells, Value.cells]
theorem wp_append_zeros {P : Program} {ops : Array Oper} {rest : List Oper} {o : Oper} {a : Act} {Q : Exit → Act → World → Prop} (w : World)
    (hgd : o.guard = none) (s x : Operand) (t tn : TypeId) (ho : o.op = .call { callee := .builtin .append, args := #[s, x], argTypes := #[t, tn] }) (kn : IntKind) (htn : P.underlying tn = some (.int kn))
    (T base : Nat) (ht : P.underlying t = some (.slice T)) (hinfo : (P.info? T).map (fun i => (i.zero, i.size, i.bytes)) = some (some (.float .f32 0), 1, 4))
    (g n c : Nat) (zs : List Nat) (hs : a.eval s = .slice (some ⟨g, 0, none⟩) n c) (hown : OwnF T base w (some ⟨g, 0, none⟩) n c zs) (k : Nat) (hx : a.eval x = .int .i64 k) (hk : 0 < k)
    (hn : n + k ≤ 100000) (hbase : base ≤ w.heap.size)
    (h : ∀ (g' c' : Nat) (w' : World), OwnF T base w' (some ⟨g', 0, none⟩) (n + k) c' (zs ++ List.replicate k 0) → Upd (blk (some ⟨g, 0, none⟩)) w w' → (g' = g ∨ g' = w.heap.size) → wpList P ops Q rest (a.put o.dst (.slice (some ⟨g', 0, none⟩) (n + k) c')) w') :
    wpList P ops Q (o :: rest) a w := by
  obtain ⟨i0, hi, hz0, hz1, hz2⟩ := info_parts hinfo
  have hzl := hown.len
  have key : ∃ (g' c' : Nat) (w' : World), (Builtin.append_ #[t, tn] o.type #[.slice (some ⟨g, 0, none⟩) n c, .int .i64 k]).run P w = .ok (.slice (some ⟨g', 0, none⟩) (n + k) c') w' ∧ OwnF T base w' (some ⟨g', 0, none⟩) (n + k) c' (zs ++ List.replicate k 0) ∧ Upd (blk (some ⟨g, 0, none⟩)) w w' ∧ (g' = g ∨ g' = w.heap.size) := by
    rcases hown.2 with ⟨h1, _⟩ | ⟨g2, cap, cur, h1, hbg, hg, hnc, hcm, hcs, htake⟩
    · cases h1
    · injection h1 with e1 e2 e3
      injection e1 with e1
      injection e1 with e1
      subst e1
      subst e3
      have hkw : IntKind.i64.wrap (k : Int) = k := by rw [IntKind.wrap_i64]; omega
      have hneg : ¬ ((k : Int) < 0) := by omega
      have hk0 : k ≠ 0 := by omega
      have h48i : ¬ (281474976710656 < (k : Int) * (4 : Int)) := by omega
      have hlen : (zs.map (Value.float .f32) ++ List.replicate k (Value.float .f32 0)).length = (n + k) * 1 := by simp [hzl]
      have hmap : (zs ++ List.replicate k 0).map (Value.float .f32) = zs.map (Value.float .f32) ++ List.replicate k (Value.float .f32 0) := by simp
      rw [Nat.mul_one] at htake hcs
      by_cases hroom : n + k ≤ c
      · have hst := run_storeCells_at P g n T (List.replicate k (Value.float .f32 0)) 0 cur w hg (by rw [hcs]; simpa using hroom) (fun u hu => by rw [List.eq_of_mem_replicate hu]; rfl)
        simp only [Nat.add_zero, List.length_replicate] at hst
        refine ⟨g, c, w.setRow g (cur.toList.take n ++ List.replicate k (Value.float .f32 0) ++ cur.toList.drop (n + k)).toArray, ?_, ?_, ?_, .inl rfl⟩
        · have hzc : (Builtin.zeroCells (Value.float .f32 0).cells k).toList = List.replicate k (Value.float .f32 0) := by rw [zero_cells]; simp
          simp [Builtin.append_, run_underlying ht, run_underlying htn, sizeOf, typeInfo, zeroValue, hi, hz0, hz1, hz2, asInt, asIntOf, hkw, hneg, hk0, h48i, hroom, Addr.add_lit, hzc, hst]
        · unfold OwnF
          rw [hmap]
          refine ⟨hlen, .inr ⟨g, c, _, rfl, hbg, setRow_heap w g cur _ T _ hg, hroom, hcm, ?_, ?_⟩⟩
          · simp only [List.size_toArray, List.length_append, List.length_take, List.length_drop, Array.length_toList, List.length_replicate]
            omega
          · show List.take ((n + k) * 1) (cur.toList.take n ++ List.replicate k (Value.float .f32 0) ++ cur.toList.drop (n + k)) = _
            rw [htake, ← hlen]
            exact List.take_left
        · exact ⟨rfl, rfl, rfl, by simp, fun b _ hb => setRow_other w g b _ (fun e => hb ⟨_, rfl, e.symm⟩)⟩
      · have hold : (Builtin.firstCells i0.size n (.slice (some ⟨g, 0, none⟩) n c)).run P w.drew = .ok (zs.map (Value.float .f32)).toArray w.drew :=
          run_firstCells_some (P := P) w.drew i0.size n ⟨g, 0, none⟩ n c (zs.map (Value.float .f32)) (by rw [hz1]; simp [hzl]) (World.ownsRow.cells (OwnF.drew hown) (g := g) rfl)
        have hr := Lib.run_append_grow_zeros (P := P) w t tn o.type T i0 _ .i64 kn ht htn hi hz0 (some ⟨g, 0, none⟩) n c (zs.map (Value.float .f32)) hold k hk (by rw [hz1]; omega) (by omega) (by omega) (by rw [hz2]; omega) (by rw [hz2]; exact growslice_fits (by omega) (by omega))
        have hge := grownCap_ge w (n + k) c T
        have hcm2 : grownCap w (n + k) c T ≤ maxLen := grownCap_le_maxLen w (n + k) c T (by unfold maxLen; omega)
        refine ⟨_, _, _, hr, ?_, ?_, .inr rfl⟩
        · unfold OwnF
          rw [hmap]
          refine ⟨hlen, .inr ⟨w.heap.size, _, _, rfl, hbase, heap_alloc_new w.drew _, hge, hcm2, ?_, ?_⟩⟩
          · simp only [Array.size_append, List.size_toArray, List.length_map, zero_cells_size, hzl]
            omega
          · simp only [Array.toList_append, zero_cells, List.map_replicate]
            rw [← hlen]
            exact List.take_left
        · exact (Upd.refl _ w).drew.alloc _
  obtain ⟨g', c', w', hrun, h2, h3, h5⟩ := key
  refine wpList_plain hgd fun _ hK => ?_
  unfold Oper.wp execOp
  simp only [ho, resolve, invoke, builtin, Sem.run_bind, Sem.run_pure, Result.andThen_ok, List.map_toArray, List.map_cons, List.map_nil, hs, hx, hrun]
  exact hK _ _ (h g' c' w' h2 h3 h5)
end Go.Proofs.Ytbbcddbdinmaaaa
