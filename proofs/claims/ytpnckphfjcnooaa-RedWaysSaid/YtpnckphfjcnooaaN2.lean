/- Nodes: what the walks of red want. -/
import Derived.Test.YtpnckphfjcnooaaN1
import Derived.Test.YtpnckphfjcnooaaTInts
namespace Go.Proofs.Ytpnckphfjcnooaa
open Go Go.RowKit
set_option linter.unusedSimpArgs false
theorem box_nd (L : List Value) (w : World) : (Instr.box 41 (.agg L.toArray)).run Try.prog w = .ok (.pointer (some ⟨w.heap.size, 0, none⟩)) (w.alloc (.cells L.toArray 41)) := rfl
theorem alloc_nd (w : World) : (Instr.alloc 41 true (.tuple #[])).run Try.prog w = .ok (.pointer (some ⟨w.heap.size, 0, none⟩)) (w.alloc (.cells (ndR nd0 (.slice none 0 0)).toArray 41)) := by kernel_rfl
theorem nd_info (x : Nd) (kv : Value) : (Try.prog.info? 41).map (·.size) = some (ndR x kv).toArray.size := by kernel_rfl
theorem build_leaf (a b : Int) (w : World) : (Instr.build 41 #[(1, .int .i64 a), (3, .int .i64 a), (4, .int .i64 b), (6, .int .i64 (-1))]).run Try.prog w = .ok (.agg (ndR ⟨0, a, false, a, b, [], -1⟩ (.slice none 0 0)).toArray) w := by kernel_rfl
theorem build_nd (l a : Int) (w : World) : (Instr.build 41 #[(0, .int .i64 l), (1, .int .i64 a)]).run Try.prog w = .ok (.agg (ndR ⟨l, a, false, 0, 0, [], 0⟩ (.slice none 0 0)).toArray) w := by kernel_rfl
theorem build_red (l a : Int) (w : World) : (Instr.build 41 #[(0, .int .i64 l), (1, .int .i64 a), (2, .bool true)]).run Try.prog w = .ok (.agg (ndR ⟨l, a, true, 0, 0, [], 0⟩ (.slice none 0 0)).toArray) w := by kernel_rfl
theorem run_ndSlice (x : Nd) (kv : Value) (w : World) : (Instr.buildSlice 37 1 #[(0, .agg (ndR x kv).toArray)]).run Try.prog w = .ok (.slice (some ⟨w.heap.size, 0, none⟩) 1 1) (w.alloc (.cells (ndR x kv).toArray 41)) := by kernel_rfl
theorem run_ints2 (x y : Int) (w : World) : (Instr.buildSlice 22 2 #[(0, .int .i64 x), (1, .int .i64 y)]).run Try.prog w = .ok (.slice (some ⟨w.heap.size, 0, none⟩) 2 2) (w.alloc (.cells #[.int .i64 x, .int .i64 y] 3)) := by kernel_rfl
theorem run_ints3 (x y z : Int) (w : World) : (Instr.buildSlice 22 3 #[(0, .int .i64 x), (1, .int .i64 y), (2, .int .i64 z)]).run Try.prog w = .ok (.slice (some ⟨w.heap.size, 0, none⟩) 3 3) (w.alloc (.cells #[.int .i64 x, .int .i64 y, .int .i64 z] 3)) := by kernel_rfl
theorem info_nd2 : (Try.prog.info? 41).map (fun i => (i.zero, i.size, i.bytes)) = some (some (.agg (ndR nd0 (.slice none 0 0)).toArray), 7, 72) := by kernel_rfl
section
variable {P : Program} {ops : Array Oper} {rest : List Oper} {o : Oper} {a : Act} {w : World} {Q : Exit → Act → World → Prop}
/-- One cell of a block. -/
theorem wpList_store_cellJ (hgd : o.guard = none) (ty : TypeId) (x y : Operand) (ho : o.op = .store ty x y) (g j : Nat) (v : Value) (hx : a.eval x = .pointer (some ⟨g, j, none⟩)) (hy : a.eval y = v) (t : TypeId) (L : List Value) (hj : j < L.length) (hg : w.heap[g]? = some (.cells L.toArray t (0, 0)))
    (hi : (P.info? ty).map (·.size) = some 1) (hv : v.cells = #[v]) (h1 : v.oneCell' = true)
    (h : ∀ w', Hid (w'.heap[g]? = some (.cells (L.set j v).toArray t (0, 0))) → Hid (∀ k, k ≠ g → w'.heap[k]? = w.heap[k]?) → (∀ k w0, k ≤ g → Below k w0 w → Below k w0 w') → wpList P ops Q rest (a.put o.dst undef) w') : wpList P ops Q (o :: rest) a w := by
  have e0 : L = L.take j ++ ([L[j]] ++ L.drop (j + 1)) := by
    have := List.take_append_drop j L
    rw [List.drop_eq_getElem_cons hj] at this
    exact this.symm
  have e1 : L.take j ++ ([v] ++ L.drop (j + 1)) = L.set j v := by
    rw [List.set_eq_take_append_cons_drop, if_pos hj]
    rfl
  refine wpList_store_part hgd _ x y ho g j v hx hy t (L.take j) [L[j]] [v] (L.drop (j + 1)) hv (by rw [List.length_take]; omega) (by rw [← e0]; exact hg) hi rfl (fun z hz => by simp at hz; subst hz; exact h1) ?_
  intro w' b1 b2 b3
  have hb1 := b1.out
  rw [e1] at hb1
  exact h w' (Lib.hid hb1) b2 b3
end
section
variable {ops : Array Oper} {rest : List Oper} {o : Oper} {a : Act} {w : World} {Q : Exit → Act → World → Prop}
theorem wpList_ndSlice (hw : Region.wanted o (yielded ops a.tmps) = true) (y : Operand) (x : Nd) (kv : Value) (ho : o.op = .buildSlice 37 1 #[(0, y)]) (hy : a.eval y = .agg (ndR x kv).toArray)
    (h : ∀ w', Aft w w' → Hid (w'.heap[w.heap.size]? = some (.cells (ndR x kv).toArray 41 (0, 0))) → wpList Try.prog ops Q rest (a.put o.dst (.slice (some ⟨w.heap.size, 0, none⟩) 1 1)) w') : wpList Try.prog ops Q (o :: rest) a w := by
  unfold wpList
  rw [if_pos hw]
  refine .inl (wp_noOut ?_)
  unfold Oper.wp execOp
  simp only [ho, hy, Sem.run_bind, List.map_toArray, List.map_cons, List.map_nil, run_ndSlice x kv w, Result.andThen_ok, Sem.run_pure]
  exact h _ (Aft.alloc w _) (heap_alloc_new w _)
theorem wpList_ints2 (hw : Region.wanted o (yielded ops a.tmps) = true) (y1 y2 : Operand) (x1 x2 : Int) (ho : o.op = .buildSlice 22 2 #[(0, y1), (1, y2)]) (hy : a.eval y1 = .int .i64 x1) (hz : a.eval y2 = .int .i64 x2)
    (h : ∀ w', Aft w w' → Hid (OwnI w' w.heap.size (.slice (some ⟨w.heap.size, 0, none⟩) 2 2) [x1, x2]) → wpList Try.prog ops Q rest (a.put o.dst (.slice (some ⟨w.heap.size, 0, none⟩) 2 2)) w') : wpList Try.prog ops Q (o :: rest) a w := by
  unfold wpList
  rw [if_pos hw]
  refine .inl (wp_noOut ?_)
  unfold Oper.wp execOp
  simp only [ho, hy, hz, Sem.run_bind, List.map_toArray, List.map_cons, List.map_nil, run_ints2 x1 x2 w, Result.andThen_ok, Sem.run_pure]
  exact h _ (Aft.alloc w _) (Lib.hid (own_blk (xs := zv [x1, x2]) (heap_alloc_new w _) (Nat.le_refl _) (show 2 ≤ maxLen by decide)))
theorem wpList_ints3 (hw : Region.wanted o (yielded ops a.tmps) = true) (y1 y2 y3 : Operand) (x1 x2 x3 : Int) (ho : o.op = .buildSlice 22 3 #[(0, y1), (1, y2), (2, y3)]) (hy : a.eval y1 = .int .i64 x1) (hz : a.eval y2 = .int .i64 x2) (hz3 : a.eval y3 = .int .i64 x3)
    (h : ∀ w', Aft w w' → Hid (OwnI w' w.heap.size (.slice (some ⟨w.heap.size, 0, none⟩) 3 3) [x1, x2, x3]) → wpList Try.prog ops Q rest (a.put o.dst (.slice (some ⟨w.heap.size, 0, none⟩) 3 3)) w') : wpList Try.prog ops Q (o :: rest) a w := by
  unfold wpList
  rw [if_pos hw]
  refine .inl (wp_noOut ?_)
  unfold Oper.wp execOp
  simp only [ho, hy, hz, hz3, Sem.run_bind, List.map_toArray, List.map_cons, List.map_nil, run_ints3 x1 x2 x3 w, Result.andThen_ok, Sem.run_pure]
  exact h _ (Aft.alloc w _) (Lib.hid (own_blk (xs := zv [x1, x2, x3]) (heap_alloc_new w _) (Nat.le_refl _) (show 3 ≤ maxLen by decide)))
/-- One node more at the end. -/
theorem wpList_snocN (hgd : o.guard = none) (s x : Operand) (ho : o.op = .call { callee := .builtin .append, args := #[s, x], argTypes := #[37, 37] }) (base : Nat) (v : Value) (ps : List (Nd × Value)) (hs : a.eval s = v) (hown : OwnN w base v ps) (gx : Nat) (z : Nd) (kv : Value) (hx : a.eval x = .slice (some ⟨gx, 0, none⟩) 1 1)
    (hg : w.heap[gx]? = some (.cells (ndR z kv).toArray 41 (0, 0))) (hk : OwnI w base kv z.ks) (hl : ps.length ≤ 1000000) (hb : base ≤ w.heap.size)
    (h : ∀ g c w', Hid (OwnN w' base (.slice (some ⟨g, 0, none⟩) (ps.length + 1) c) (ps ++ [(z, kv)])) → Hid (Fr (fun b => v.ownBlock = some b) w w') → Hid (v.ownBlock = some g ∨ w.heap.size ≤ g) → wpList Try.prog ops Q rest (a.put o.dst (.slice (some ⟨g, 0, none⟩) (ps.length + 1) c)) w') : wpList Try.prog ops Q (o :: rest) a w := by
  obtain ⟨i0, hi0, hz1, hz2, hz3⟩ := info_parts info_nd2
  obtain ⟨ka, kc, rfl⟩ := hk.shape
  have hro := hown.row.2
  rw [ndRs_length] at hro
  refine wpList_append_lies w hgd s x 37 ho base 41 i0 _ 7 72 Try.underlying37 hi0 hz1 hz2 hz3 rfl (by decide) v ps.length (ndRs ps).flatten hs hro ⟨gx, 0, none⟩ 1 1 (ndR z (.slice ka z.ks.length kc)) hx rfl (fun j u hu => by
    rw [Addr.add_lit, Nat.zero_add]
    exact cell_part hg hu) ndR_one (by decide) (by unfold maxLen; omega) (by omega) hb _ rfl ?_
  intro g c w' k1 k2 k3 k4
  have hf : Fr (fun b => v.ownBlock = some b) w w' := Fr.of_grown k2 fun k hk => hk
  refine h g c w' (Lib.hid ⟨⟨?_, ?_⟩, fun p hp => ?_⟩) (Lib.hid hf) (Lib.hid ?_)
  · rw [ndRs_append]
    exact hown.row.1.append (Row.one rfl ndR_one)
  · rw [ndRs_length, List.length_append, ndRs_append, List.flatten_append]
    simpa [ndRs] using k1
  · rcases List.mem_append.1 hp with hp | hp
    · exact hown.kids hf p hp
    · rw [List.mem_singleton.1 hp]
      exact hk.fr hf fun g hg e => own_ne2 hown.row.2 hk (by decide) hg e
  · rcases k3 with h | h
    · exact .inl h
    · exact .inr (by omega)
end
end Go.Proofs.Ytpnckphfjcnooaa
