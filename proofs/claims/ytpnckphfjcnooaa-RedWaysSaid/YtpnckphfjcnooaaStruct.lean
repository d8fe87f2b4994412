/- Blocks that hold a struct with keys in it: a part reads as the key; a store of the whole; two results in blocks. -/
import Derived.Test.YtpnckphfjcnooaaDerive
import Derived.Lib.BufferMore
import Derived.Deep.MidRow
namespace Go.Proofs.Ytpnckphfjcnooaa
open Go Go.RowKit
theorem Rd.part {w : World} {g t : Nat} {fr : Nat × Nat} {L : List Value} (pre post : List Value) (X : List (BitVec 8)) (n : Nat) (h : w.heap[g]? = some (.cells L.toArray t fr)) (hn : pre.length = n) (hX : X.length = 32) (hL : L = pre ++ (bv X ++ post)) :
    Rd w (.slice (some ⟨g, n, none⟩) 32 32) (bv X) := by
  refine ⟨some ⟨g, n, none⟩, 32, by rw [bv_length, hX], by rw [bv_length]; omega, by omega, (fun h => by cases h), fun ad ha j u hu => ?_⟩
  cases ha
  rw [Addr.add_lit]
  subst hL hn
  simp only [World.cell?, h, List.getElem?_toArray]
  have hj := (List.getElem?_eq_some_iff.1 hu).1
  rw [List.getElem?_append_right (by omega), Nat.add_sub_cancel_left, List.getElem?_append_left hj]
  exact hu
theorem cell_part {w : World} {g t : Nat} {fr : Nat × Nat} {L : List Value} {n : Nat} {u : Value} (h : w.heap[g]? = some (.cells L.toArray t fr)) (hu : L[n]? = some u) : w.cell? ⟨g, n, none⟩ = some u := by
  simp only [World.cell?, h, List.getElem?_toArray]
  exact hu
/-- A block's cell is written. -/
theorem block_setCell {w : World} {g t : Nat} {fr : Nat × Nat} {L : List Value} {n : Nat} (h : w.heap[g]? = some (.cells L.toArray t fr)) (u : Value) : (w.setCell ⟨g, n, none⟩ u).heap[g]? = some (.cells (L.set n u).toArray t fr) := by
  rw [Lib.heap_setCell_same h u]
  simp
/-- A store of a whole struct, or array, into a block. -/
theorem wpList_store_rowZ {P : Program} {ops : Array Oper} {rest : List Oper} {o : Oper} {a : Act} {w : World} {Q : Exit → Act → World → Prop} (hgd : o.guard = none) (ty : TypeId) (x y : Operand) (ho : o.op = .store ty x y)
    (g : Nat) (cells : Array Value) (hx : a.eval x = .pointer (some ⟨g, 0, none⟩)) (hy : a.eval y = .agg cells)
    (t : TypeId) (old : Array Value) (hg : w.heap[g]? = some (.cells old t (0, 0))) (hi : (P.info? ty).map (·.size) = some cells.size)
    (hold : old.size = cells.size) (h1 : cells.all (·.oneCell') = true)
    (h : ∀ w', Hid (w'.heap[g]? = some (.cells cells t (0, 0))) → Hid (∀ k, k ≠ g → w'.heap[k]? = w.heap[k]?) → (∀ k w0, k ≤ g → Below k w0 w → Below k w0 w') → wpList P ops Q rest (a.put o.dst undef) w') : wpList P ops Q (o :: rest) a w :=
  wpList_store_row hgd ty x y ho g cells hx hy t old hg hi hold h1 (h _ (show _ = _ from setRow_heap _ _ _ _ _ _ hg) (show _ from fun k hk => setRow_other w g k _ hk) fun _ _ hk hb => below_setRow hb hk _)
theorem all_one {L : List Value} (h : ∀ u ∈ L, u.oneCell' = true) : L.toArray.all (·.oneCell') = true := Array.all_eq_true_iff_forall_mem.2 fun u hu => h u (by simpa using hu)
/-- A new variable: the world behind it stays a letter. -/
theorem wpList_allocO {P : Program} {ops : Array Oper} {rest : List Oper} {o : Oper} {a : Act} {w : World} {Q : Exit → Act → World → Prop} (hgd : o.guard = none) (ty : TypeId) (ho : o.op = .alloc ty) (obj : Obj)
    (hv : ∀ w1, (Instr.alloc ty true (.tuple #[])).run P w1 = .ok (.pointer (some ⟨w1.heap.size, 0, none⟩)) (w1.alloc obj))
    (h : ∀ w', Aft w w' → Hid (w'.heap[w.heap.size]? = some obj) → w'.heap.size = w.heap.size + 1 → wpList P ops Q rest (a.put o.dst (.pointer (some ⟨w.heap.size, 0, none⟩))) w') : wpList P ops Q (o :: rest) a w :=
  wpList_plain hgd fun K hK => by
    unfold Oper.wp execOp
    simp only [ho, Sem.run_bind, hv, Result.andThen_ok, Sem.run_pure]
    exact hK _ _ (h _ (Aft.alloc w obj) (heap_alloc_new w obj) (World.size_alloc w obj))
theorem wpList_boxO {P : Program} {ops : Array Oper} {rest : List Oper} {o : Oper} {a : Act} {w : World} {Q : Exit → Act → World → Prop} (hgd : o.guard = none) (ty : TypeId) (x : Operand) (ho : o.op = .box ty x) (v : Value) (hx : a.eval x = v) (obj : Obj)
    (hv : ∀ w1, (Instr.box ty v).run P w1 = .ok (.pointer (some ⟨w1.heap.size, 0, none⟩)) (w1.alloc obj))
    (h : ∀ w', Aft w w' → Hid (w'.heap[w.heap.size]? = some obj) → w'.heap.size = w.heap.size + 1 → wpList P ops Q rest (a.put o.dst (.pointer (some ⟨w.heap.size, 0, none⟩))) w') : wpList P ops Q (o :: rest) a w :=
  wpList_plain hgd fun K hK => by
    unfold Oper.wp execOp
    simp only [ho, hx, Sem.run_bind, hv, Result.andThen_ok, Sem.run_pure]
    exact hK _ _ (h _ (Aft.alloc w obj) (heap_alloc_new w obj) (World.size_alloc w obj))
theorem below_set1 {k g n : Nat} {w0 w : World} (h : Below k w0 w) (hk : k ≤ g) (u : Value) : Below k w0 (w.setCell ⟨g, n, none⟩ u) :=
  ⟨h.os, h.tape, h.output, by have := Below.size h; simpa [World.setCell] using this, fun j hj => (Below.heap_setCell _ _ _ _ (by show j ≠ g; omega)).trans (Below.block h j hj)⟩
theorem below_sets {k g : Nat} (hk : k ≤ g) : ∀ (vs : List Value) (n : Nat) {w0 w : World}, Below k w0 w → Below k w0 (w.setCells g n vs)
  | [], _, _, _, h => h
  | v :: vs, n, _, _, h => below_sets hk vs (n + 1) (below_set1 h hk v)
theorem heap_sets {g k : Nat} (hk : k ≠ g) : ∀ (vs : List Value) (n : Nat) (w : World), (w.setCells g n vs).heap[k]? = w.heap[k]?
  | [], _, _ => rfl
  | _ :: vs, n, _ => (heap_sets hk vs (n + 1) _).trans (Below.heap_setCell _ _ _ _ hk)
theorem block_setCells {g t : Nat} {fr : Nat × Nat} (post : List Value) : ∀ (vs old pre : List Value) (w : World), old.length = vs.length → w.heap[g]? = some (.cells (pre ++ (old ++ post)).toArray t fr) → (w.setCells g pre.length vs).heap[g]? = some (.cells (pre ++ (vs ++ post)).toArray t fr)
  | [], [], pre, w, _, h => h
  | v :: vs, o :: old, pre, w, hl, h => by
    have h1 := block_setCell (n := pre.length) h v
    rw [List.set_append_right _ _ (Nat.le_refl _), Nat.sub_self] at h1
    have h2 : (w.setCell ⟨g, pre.length, none⟩ v).heap[g]? = some (.cells ((pre ++ [v]) ++ (old ++ post)).toArray t fr) := by rw [h1]; simp
    have ih := block_setCells post vs old (pre ++ [v]) (w.setCell ⟨g, pre.length, none⟩ v) (by simpa using hl) h2
    rw [List.length_append] at ih
    show ((w.setCell ⟨g, pre.length, none⟩ v).setCells g (pre.length + 1) vs).heap[g]? = _
    rw [show pre.length + 1 = pre.length + [v].length from rfl, ih]
    simp
  | [], _ :: _, _, _, hl, _ => by simp at hl
  | _ :: _, [], _, _, hl, _ => by simp at hl
theorem there_part {w : World} {g t : Nat} (pre old post : List Value) (h : w.heap[g]? = some (.cells (pre ++ (old ++ post)).toArray t (0, 0))) : w.there g pre.length old.length := fun j hj => by
  refine ⟨?_, ?_⟩
  · rw [cell_part (n := pre.length + j) (u := old[j]) h (by rw [List.getElem?_append_right (by omega), Nat.add_sub_cancel_left, List.getElem?_append_left hj, List.getElem?_eq_getElem hj])]
    rfl
  · simp [World.frozen?, h]
/-- A store into a part of a struct that lies in a block: the world behind it stays a letter. -/
theorem wpList_store_part {P : Program} {ops : Array Oper} {rest : List Oper} {o : Oper} {a : Act} {w : World} {Q : Exit → Act → World → Prop} (hgd : o.guard = none) (ty : TypeId) (x y : Operand) (ho : o.op = .store ty x y)
    (g n : Nat) (v : Value) (hx : a.eval x = .pointer (some ⟨g, n, none⟩)) (hy : a.eval y = v)
    (t : TypeId) (pre old vs post : List Value) (hv : v.cells = vs.toArray) (hn : pre.length = n) (hg : w.heap[g]? = some (.cells (pre ++ (old ++ post)).toArray t (0, 0))) (hi : (P.info? ty).map (·.size) = some vs.length)
    (hold : old.length = vs.length) (h1 : ∀ u ∈ vs, u.oneCell' = true)
    (h : ∀ w', Hid (w'.heap[g]? = some (.cells (pre ++ (vs ++ post)).toArray t (0, 0))) → Hid (∀ k, k ≠ g → w'.heap[k]? = w.heap[k]?) → (∀ k w0, k ≤ g → Below k w0 w → Below k w0 w') → wpList P ops Q rest (a.put o.dst undef) w') : wpList P ops Q (o :: rest) a w :=
  wpList_plain hgd fun K hK => by
    subst hn
    have ht := there_part pre old post hg
    rw [hold] at ht
    have hr : (storeVar ty ⟨g, pre.length, none⟩ v).run P w = .ok () (w.setCells g pre.length vs) := by
      have := run_storeCells_cells (P := P) g pre.length vs 0 w (fun j hj => by simpa using (ht j hj).1) (fun j hj => by simpa using (ht j hj).2) h1
      cases hq : P.info? ty with
      | none => simp [hq] at hi
      | some i =>
        have hs : vs.length = i.size := by simp [hq] at hi; omega
        simp only [Nat.add_zero] at this
        simp [storeVar, sizeOf, typeInfo, hq, hv, hs, this]
    unfold Oper.wp execOp
    simp only [ho, hx, hy, Instr.storeAt, Instr.sureAddr, Sem.run_bind, Sem.run_pure, Result.andThen_ok, hr]
    exact hK _ _ (h _ (show _ = _ from block_setCells post vs old pre w hold hg) (show _ from fun k hk => heap_sets hk vs _ w) fun k w0 hk hb => below_sets hk vs _ hb)
theorem results_cell2 {P : Program} {fn : Func} {p1 p2 q : Tmp} {ty1 ty2 : TypeId} (h : fn.results = #[.cell p1 ty1, .cell p2 ty2, .tmp q]) (tmps : Array Value) (w : World) (g1 g2 : Nat) (t1 t2 : TypeId) (cs1 cs2 : Array Value) (fr1 fr2 : Nat × Nat) (d1 d2 : TypeDesc)
    (hp1 : tmps.getD p1 undef = .pointer (some ⟨g1, 0, none⟩)) (hp2 : tmps.getD p2 undef = .pointer (some ⟨g2, 0, none⟩)) (hg1 : w.heap[g1]? = some (.cells cs1 t1 fr1)) (hg2 : w.heap[g2]? = some (.cells cs2 t2 fr2))
    (hu1 : P.underlying ty1 = some d1) (hd1 : (match d1 with | .struct _ | .array _ _ => true | _ => false) = true) (hi1 : (P.info? ty1).map (·.size) = some cs1.size)
    (hu2 : P.underlying ty2 = some d2) (hd2 : (match d2 with | .struct _ | .array _ _ => true | _ => false) = true) (hi2 : (P.info? ty2).map (·.size) = some cs2.size) :
    (results fn tmps).run P w = .ok (.tuple #[.agg cs1, .agg cs2, tmps.getD q undef]) w := by
  have hp1' : tmps[p1]?.getD undef = .pointer (some ⟨g1, 0, none⟩) := by simpa using hp1
  have hp2' : tmps[p2]?.getD undef = .pointer (some ⟨g2, 0, none⟩) := by simpa using hp2
  simp [results, h, hp1', hp2', asAddr, run_loadVar_row w g1 t1 ty1 cs1 fr1 d1 hg1 hu1 hd1 hi1, run_loadVar_row w g2 t2 ty2 cs2 fr2 d2 hg2 hu2 hd2 hi2]
theorem results_tmp_cell_tmp {P : Program} {fn : Func} {p q r : Tmp} {ty : TypeId} (h : fn.results = #[.tmp r, .cell p ty, .tmp q]) (tmps : Array Value) (w : World) (g : Nat) (t : TypeId) (cs : Array Value) (fr : Nat × Nat) (d : TypeDesc)
    (hp : tmps.getD p undef = .pointer (some ⟨g, 0, none⟩)) (hg : w.heap[g]? = some (.cells cs t fr))
    (hu : P.underlying ty = some d) (hd : (match d with | .struct _ | .array _ _ => true | _ => false) = true) (hi : (P.info? ty).map (·.size) = some cs.size) :
    (results fn tmps).run P w = .ok (.tuple #[tmps.getD r undef, .agg cs, tmps.getD q undef]) w := by
  have hp' : tmps[p]?.getD undef = .pointer (some ⟨g, 0, none⟩) := by simpa using hp
  simp [results, h, hp', asAddr, run_loadVar_row w g t ty cs fr d hg hu hd hi]
section
variable {ops : Array Oper} {w0 : World} {Kd : Nat → Nat} {Q : Exit → Act → World → Prop} {n k : Nat} {o : Oper} {l : List Oper} {a : Act} {w : World}
end
theorem own_blk {w : World} {base g e : Nat} {xs : List Value} (hg : w.heap[g]? = some (.cells xs.toArray e (0, 0))) (hb : base ≤ g) (hm : xs.length ≤ maxLen) : w.ownsRow base e 1 (.slice (some ⟨g, 0, none⟩) xs.length xs.length) xs.length xs :=
  ⟨by simp, .inr ⟨g, xs.length, xs.toArray, rfl, hb, hg, Nat.le_refl _, hm, by simp, by simp⟩⟩
section
variable {P : Program} {ops : Array Oper} {C : World → Prop} {E : Nat → Bool} {Q : Exit → Act → World → Prop} {n k : Nat} {o : Oper} {l : List Oper} {a : Act} {w : World}
theorem lx_load_agg (hE : E k = false) (hw : Region.wanted o (yielded ops a.tmps) = true) (ty : TypeId) (x : Operand) (ho : o.op = .load ty x) (ad : Addr) (hx : a.eval x = .pointer (some ad)) (cs : Array Value)
    (hl : ∀ w', C w' → (loadVar ty ad).run P w' = .ok (.agg cs) w') (h : wpLx P ops C E Q n (k + 1) l (a.put o.dst (.agg cs)) w) : wpLx P ops C E Q (n + 1) k (o :: l) a w := by
  simp only [wpLx, stepL, hw, if_true, hE]
  refine ⟨.agg cs, fun w' hw' => .inl ?_, h⟩
  unfold execOp
  simp only [ho, hx, Instr.loadAt, Instr.sureAddr, Sem.run_bind, Sem.run_pure, Result.andThen_ok, hl w' hw']
end
end Go.Proofs.Ytpnckphfjcnooaa

