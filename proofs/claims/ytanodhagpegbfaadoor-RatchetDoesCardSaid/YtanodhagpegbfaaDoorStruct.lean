/- Blocks that hold a struct with keys in it: a part reads as the key; a store of the whole; two results in blocks. -/
import Derived.Test.YtanodhagpegbfaaDoorDerive
import Derived.Lib.BufferMore
import Derived.Deep.MidRow
namespace Go.Proofs.YtanodhagpegbfaaDoor
open Go Go.RowKit
theorem Rd.part {w : World} {g t : Nat} {fr : Nat × Nat} {L : List Value} (pre post : List Value) (X : List (BitVec 8)) (n : Nat) (h : w.heap[g]? = some (.cells L.toArray t fr)) (hn : pre.length = n) (hX : X.length = 32) (hL : L = pre ++ (bv X ++ post)) :
    Rd w (.slice (some ⟨g, n, none⟩) 32 32) (bv X) := by
  refine ⟨some ⟨g, n, none⟩, 32, by rw [bv_length, hX], by rw [bv_length]; omega, by omega, (fun h => by cases h), fun ad ha j u hu => ?_⟩
  cases ha
  rw [Addr.add_lit]
  subst hL hn
  simp only [World.cell?, h, List.getElem?_toArray]
  have hj := (List.getElem?_eq_some_iff.1 hu).1
  rw [List.getElem?_append_right (by omega), Nat.add_sub_cancel_left, List.getElem?_append_left hj]
  exact hu
theorem cell_part {w : World} {g t : Nat} {fr : Nat × Nat} {L : List Value} {n : Nat} {u : Value} (h : w.heap[g]? = some (.cells L.toArray t fr)) (hu : L[n]? = some u) : w.cell? ⟨g, n, none⟩ = some u := by
  simp only [World.cell?, h, List.getElem?_toArray]
  exact hu
/-- A block's cell is written. -/
theorem block_setCell {w : World} {g t : Nat} {fr : Nat × Nat} {L : List Value} {n : Nat} (h : w.heap[g]? = some (.cells L.toArray t fr)) (u : Value) : (w.setCell ⟨g, n, none⟩ u).heap[g]? = some (.cells (L.set n u).toArray t fr) := by
  rw [Lib.heap_setCell_same h u]
  simp
theorem key_of_len {X : List (BitVec 8)} (hX : X.length = 32) : X = (List.range 32).map fun i => X.getD i 0 := by
  apply List.ext_getElem (by simp [hX])
  intro i h1 h2
  simp [List.getElem?_eq_getElem h1]
theorem bv_of_len {X : List (BitVec 8)} (hX : X.length = 32) : bv X = (List.range 32).map fun i => .int .u8 (bn (X.getD i 0)) := by
  conv => lhs; rw [key_of_len hX]
  simp [bv]
theorem key_at {X : List (BitVec 8)} (hX : X.length = 32) (post : List Value) : (bv X ++ post)[32]? = post[0]? := by
  rw [List.getElem?_append_right (by rw [bv_length]; omega), bv_length, hX]
/-- A store of a whole struct, or array, into a block. -/
theorem wpList_store_rowZ {P : Program} {ops : Array Oper} {rest : List Oper} {o : Oper} {a : Act} {w : World} {Q : Exit → Act → World → Prop} (hgd : o.guard = none) (ty : TypeId) (x y : Operand) (ho : o.op = .store ty x y)
    (g : Nat) (cells : Array Value) (hx : a.eval x = .pointer (some ⟨g, 0, none⟩)) (hy : a.eval y = .agg cells)
    (t : TypeId) (old : Array Value) (hg : w.heap[g]? = some (.cells old t (0, 0))) (hi : (P.info? ty).map (·.size) = some cells.size)
    (hold : old.size = cells.size) (h1 : cells.all (·.oneCell') = true)
    (h : ∀ w', Hid (w'.heap[g]? = some (.cells cells t (0, 0))) → Hid (∀ k, k ≠ g → w'.heap[k]? = w.heap[k]?) → (∀ k w0, k ≤ g → Below k w0 w → Below k w0 w') → wpList P ops Q rest (a.put o.dst undef) w') : wpList P ops Q (o :: rest) a w :=
  wpList_store_row hgd ty x y ho g cells hx hy t old hg hi hold h1 (h _ (show _ = _ from setRow_heap _ _ _ _ _ _ hg) (show _ from fun k hk => setRow_other w g k _ hk) fun _ _ hk hb => below_setRow hb hk _)
theorem all_one {L : List Value} (h : ∀ u ∈ L, u.oneCell' = true) : L.toArray.all (·.oneCell') = true := Array.all_eq_true_iff_forall_mem.2 fun u hu => h u (by simpa using hu)
theorem wpList_store_keyZ {ops : Array Oper} {rest : List Oper} {o : Oper} {a : Act} {w : World} {Q : Exit → Act → World → Prop} (hgd : o.guard = none) (x y : Operand) (ho : o.op = .store 23 x y)
    (g : Nat) (X : List (BitVec 8)) (hX : X.length = 32) (hx : a.eval x = .pointer (some ⟨g, 0, none⟩)) (hy : a.eval y = .agg (bv X).toArray) (old : Array Value) (hg : w.heap[g]? = some (.cells old 23 (0, 0))) (hold : old.size = 32)
    (h : ∀ w', Hid (w'.heap[g]? = some (.cells (bv X).toArray 23 (0, 0))) → Hid (∀ k, k ≠ g → w'.heap[k]? = w.heap[k]?) → (∀ k w0, k ≤ g → Below k w0 w → Below k w0 w') → wpList Tryd.prog ops Q rest (a.put o.dst undef) w') : wpList Tryd.prog ops Q (o :: rest) a w :=
  wpList_store_rowZ hgd _ x y ho g (bv X).toArray hx hy _ old hg (key_info hX) (by rw [hold, List.size_toArray, bv_length, hX]) (all_one (bv_one X)) h
theorem wpList_store_keyZ0 {ops : Array Oper} {rest : List Oper} {o : Oper} {a : Act} {w : World} {Q : Exit → Act → World → Prop} (hgd : o.guard = none) (x y : Operand) (ho : o.op = .store 23 x y)
    (g : Nat) (hx : a.eval x = .pointer (some ⟨g, 0, none⟩)) (hy : a.eval y = .agg key0) (old : Array Value) (hg : w.heap[g]? = some (.cells old 23 (0, 0))) (hold : old.size = 32)
    (h : ∀ w', Hid (w'.heap[g]? = some (.cells (bv (List.replicate 32 0)).toArray 23 (0, 0))) → Hid (∀ k, k ≠ g → w'.heap[k]? = w.heap[k]?) → (∀ k w0, k ≤ g → Below k w0 w → Below k w0 w') → wpList Tryd.prog ops Q rest (a.put o.dst undef) w') : wpList Tryd.prog ops Q (o :: rest) a w :=
  wpList_store_keyZ hgd x y ho g (List.replicate 32 0) List.length_replicate hx (hy.trans (by rw [key0_bv])) old hg hold h
/-- A new variable: the world behind it stays a letter. -/
theorem wpList_allocO {P : Program} {ops : Array Oper} {rest : List Oper} {o : Oper} {a : Act} {w : World} {Q : Exit → Act → World → Prop} (hgd : o.guard = none) (ty : TypeId) (ho : o.op = .alloc ty) (obj : Obj)
    (hv : ∀ w1, (Instr.alloc ty true (.tuple #[])).run P w1 = .ok (.pointer (some ⟨w1.heap.size, 0, none⟩)) (w1.alloc obj))
    (h : ∀ w', Aft w w' → Hid (w'.heap[w.heap.size]? = some obj) → w'.heap.size = w.heap.size + 1 → wpList P ops Q rest (a.put o.dst (.pointer (some ⟨w.heap.size, 0, none⟩))) w') : wpList P ops Q (o :: rest) a w :=
  wpList_plain hgd fun K hK => by
    unfold Oper.wp execOp
    simp only [ho, Sem.run_bind, hv, Result.andThen_ok, Sem.run_pure]
    exact hK _ _ (h _ (Aft.alloc w obj) (heap_alloc_new w obj) (World.size_alloc w obj))
theorem wpList_boxO {P : Program} {ops : Array Oper} {rest : List Oper} {o : Oper} {a : Act} {w : World} {Q : Exit → Act → World → Prop} (hgd : o.guard = none) (ty : TypeId) (x : Operand) (ho : o.op = .box ty x) (v : Value) (hx : a.eval x = v) (obj : Obj)
    (hv : ∀ w1, (Instr.box ty v).run P w1 = .ok (.pointer (some ⟨w1.heap.size, 0, none⟩)) (w1.alloc obj))
    (h : ∀ w', Aft w w' → Hid (w'.heap[w.heap.size]? = some obj) → w'.heap.size = w.heap.size + 1 → wpList P ops Q rest (a.put o.dst (.pointer (some ⟨w.heap.size, 0, none⟩))) w') : wpList P ops Q (o :: rest) a w :=
  wpList_plain hgd fun K hK => by
    unfold Oper.wp execOp
    simp only [ho, hx, Sem.run_bind, hv, Result.andThen_ok, Sem.run_pure]
    exact hK _ _ (h _ (Aft.alloc w obj) (heap_alloc_new w obj) (World.size_alloc w obj))
theorem below_set1 {k g n : Nat} {w0 w : World} (h : Below k w0 w) (hk : k ≤ g) (u : Value) : Below k w0 (w.setCell ⟨g, n, none⟩ u) :=
  ⟨h.os, h.tape, h.output, by have := Below.size h; simpa [World.setCell] using this, fun j hj => (Below.heap_setCell _ _ _ _ (by show j ≠ g; omega)).trans (Below.block h j hj)⟩
theorem below_sets {k g : Nat} (hk : k ≤ g) : ∀ (vs : List Value) (n : Nat) {w0 w : World}, Below k w0 w → Below k w0 (w.setCells g n vs)
  | [], _, _, _, h => h
  | v :: vs, n, _, _, h => below_sets hk vs (n + 1) (below_set1 h hk v)
theorem heap_sets {g k : Nat} (hk : k ≠ g) : ∀ (vs : List Value) (n : Nat) (w : World), (w.setCells g n vs).heap[k]? = w.heap[k]?
  | [], _, _ => rfl
  | _ :: vs, n, _ => (heap_sets hk vs (n + 1) _).trans (Below.heap_setCell _ _ _ _ hk)
theorem block_setCells {g t : Nat} {fr : Nat × Nat} (post : List Value) : ∀ (vs old pre : List Value) (w : World), old.length = vs.length → w.heap[g]? = some (.cells (pre ++ (old ++ post)).toArray t fr) → (w.setCells g pre.length vs).heap[g]? = some (.cells (pre ++ (vs ++ post)).toArray t fr)
  | [], [], pre, w, _, h => h
  | v :: vs, o :: old, pre, w, hl, h => by
    have h1 := block_setCell (n := pre.length) h v
    rw [List.set_append_right _ _ (Nat.le_refl _), Nat.sub_self] at h1
    have h2 : (w.setCell ⟨g, pre.length, none⟩ v).heap[g]? = some (.cells ((pre ++ [v]) ++ (old ++ post)).toArray t fr) := by rw [h1]; simp
    have ih := block_setCells post vs old (pre ++ [v]) (w.setCell ⟨g, pre.length, none⟩ v) (by simpa using hl) h2
    rw [List.length_append] at ih
    show ((w.setCell ⟨g, pre.length, none⟩ v).setCells g (pre.length + 1) vs).heap[g]? = _
    rw [show pre.length + 1 = pre.length + [v].length from rfl, ih]
    simp
  | [], _ :: _, _, _, hl, _ => by simp at hl
  | _ :: _, [], _, _, hl, _ => by simp at hl
theorem there_part {w : World} {g t : Nat} (pre old post : List Value) (h : w.heap[g]? = some (.cells (pre ++ (old ++ post)).toArray t (0, 0))) : w.there g pre.length old.length := fun j hj => by
  refine ⟨?_, ?_⟩
  · rw [cell_part (n := pre.length + j) (u := old[j]) h (by rw [List.getElem?_append_right (by omega), Nat.add_sub_cancel_left, List.getElem?_append_left hj, List.getElem?_eq_getElem hj])]
    rfl
  · simp [World.frozen?, h]
/-- A store into a part of a struct that lies in a block: the world behind it stays a letter. -/
theorem wpList_store_part {P : Program} {ops : Array Oper} {rest : List Oper} {o : Oper} {a : Act} {w : World} {Q : Exit → Act → World → Prop} (hgd : o.guard = none) (ty : TypeId) (x y : Operand) (ho : o.op = .store ty x y)
    (g n : Nat) (v : Value) (hx : a.eval x = .pointer (some ⟨g, n, none⟩)) (hy : a.eval y = v)
    (t : TypeId) (pre old vs post : List Value) (hv : v.cells = vs.toArray) (hn : pre.length = n) (hg : w.heap[g]? = some (.cells (pre ++ (old ++ post)).toArray t (0, 0))) (hi : (P.info? ty).map (·.size) = some vs.length)
    (hold : old.length = vs.length) (h1 : ∀ u ∈ vs, u.oneCell' = true)
    (h : ∀ w', Hid (w'.heap[g]? = some (.cells (pre ++ (vs ++ post)).toArray t (0, 0))) → Hid (∀ k, k ≠ g → w'.heap[k]? = w.heap[k]?) → (∀ k w0, k ≤ g → Below k w0 w → Below k w0 w') → wpList P ops Q rest (a.put o.dst undef) w') : wpList P ops Q (o :: rest) a w :=
  wpList_plain hgd fun K hK => by
    subst hn
    have ht := there_part pre old post hg
    rw [hold] at ht
    have hr : (storeVar ty ⟨g, pre.length, none⟩ v).run P w = .ok () (w.setCells g pre.length vs) := by
      have := run_storeCells_cells (P := P) g pre.length vs 0 w (fun j hj => by simpa using (ht j hj).1) (fun j hj => by simpa using (ht j hj).2) h1
      cases hq : P.info? ty with
      | none => simp [hq] at hi
      | some i =>
        have hs : vs.length = i.size := by simp [hq] at hi; omega
        simp only [Nat.add_zero] at this
        simp [storeVar, sizeOf, typeInfo, hq, hv, hs, this]
    unfold Oper.wp execOp
    simp only [ho, hx, hy, Instr.storeAt, Instr.sureAddr, Sem.run_bind, Sem.run_pure, Result.andThen_ok, hr]
    exact hK _ _ (h _ (show _ = _ from block_setCells post vs old pre w hold hg) (show _ from fun k hk => heap_sets hk vs _ w) fun k w0 hk hb => below_sets hk vs _ hb)
theorem results_cell2 {P : Program} {fn : Func} {p1 p2 q : Tmp} {ty1 ty2 : TypeId} (h : fn.results = #[.cell p1 ty1, .cell p2 ty2, .tmp q]) (tmps : Array Value) (w : World) (g1 g2 : Nat) (t1 t2 : TypeId) (cs1 cs2 : Array Value) (fr1 fr2 : Nat × Nat) (d1 d2 : TypeDesc)
    (hp1 : tmps.getD p1 undef = .pointer (some ⟨g1, 0, none⟩)) (hp2 : tmps.getD p2 undef = .pointer (some ⟨g2, 0, none⟩)) (hg1 : w.heap[g1]? = some (.cells cs1 t1 fr1)) (hg2 : w.heap[g2]? = some (.cells cs2 t2 fr2))
    (hu1 : P.underlying ty1 = some d1) (hd1 : (match d1 with | .struct _ | .array _ _ => true | _ => false) = true) (hi1 : (P.info? ty1).map (·.size) = some cs1.size)
    (hu2 : P.underlying ty2 = some d2) (hd2 : (match d2 with | .struct _ | .array _ _ => true | _ => false) = true) (hi2 : (P.info? ty2).map (·.size) = some cs2.size) :
    (results fn tmps).run P w = .ok (.tuple #[.agg cs1, .agg cs2, tmps.getD q undef]) w := by
  have hp1' : tmps[p1]?.getD undef = .pointer (some ⟨g1, 0, none⟩) := by simpa using hp1
  have hp2' : tmps[p2]?.getD undef = .pointer (some ⟨g2, 0, none⟩) := by simpa using hp2
  simp [results, h, hp1', hp2', asAddr, run_loadVar_row w g1 t1 ty1 cs1 fr1 d1 hg1 hu1 hd1 hi1, run_loadVar_row w g2 t2 ty2 cs2 fr2 d2 hg2 hu2 hd2 hi2]
theorem results_tmp_cell_tmp {P : Program} {fn : Func} {p q r : Tmp} {ty : TypeId} (h : fn.results = #[.tmp r, .cell p ty, .tmp q]) (tmps : Array Value) (w : World) (g : Nat) (t : TypeId) (cs : Array Value) (fr : Nat × Nat) (d : TypeDesc)
    (hp : tmps.getD p undef = .pointer (some ⟨g, 0, none⟩)) (hg : w.heap[g]? = some (.cells cs t fr))
    (hu : P.underlying ty = some d) (hd : (match d with | .struct _ | .array _ _ => true | _ => false) = true) (hi : (P.info? ty).map (·.size) = some cs.size) :
    (results fn tmps).run P w = .ok (.tuple #[tmps.getD r undef, .agg cs, tmps.getD q undef]) w := by
  have hp' : tmps[p]?.getD undef = .pointer (some ⟨g, 0, none⟩) := by simpa using hp
  simp [results, h, hp', asAddr, run_loadVar_row w g t ty cs fr d hg hu hd hi]
section
variable {ops : Array Oper} {w0 : World} {Kd : Nat → Nat} {Q : Exit → Act → World → Prop} {n k : Nat} {o : Oper} {l : List Oper} {a : Act} {w : World}
theorem lf_load_key (hk : Kd k = 0) (hw : Region.wanted o (yielded ops a.tmps) = true) (x : Operand) (ho : o.op = .load 23 x)
    (g q : Nat) (hx : a.eval x = .pointer (some ⟨g, q, none⟩)) (X : List (BitVec 8)) (hr : Rd w0 (.slice (some ⟨g, q, none⟩) 32 32) (bv X)) (hX : X.length = 32)
    (h : wpFx Tryd.prog ops w0 Kd Q n (k + 1) l (a.put o.dst (.agg (bv X).toArray)) w) : wpFx Tryd.prog ops w0 Kd Q (n + 1) k (o :: l) a w := by
  have hup := wpFx_up (P := Tryd.prog) (ops := ops) (w0 := w0) (Kd := Kd) (Q := Q) n (k + 1) l
  simp only [wpFx_succ, stepF, hw, if_true, hk]
  rw [if_neg (by omega)]
  refine ⟨none, fun _ => .agg (bv X).toArray, fun _ => rfl, fun w1 hw1 _ => .inl ?_, fun w1 g hw1 _ => hup _ _ _ hw1 h⟩
  unfold execOp
  simp only [ho, hx, Instr.loadAt, Instr.sureAddr, Sem.run_bind, Sem.run_pure, Result.andThen_ok, run_loadVar_key w1 g q 32 32 X (hr.grow hw1) hX]
end
theorem own_blk {w : World} {base g e : Nat} {xs : List Value} (hg : w.heap[g]? = some (.cells xs.toArray e (0, 0))) (hb : base ≤ g) (hm : xs.length ≤ maxLen) : w.ownsRow base e 1 (.slice (some ⟨g, 0, none⟩) xs.length xs.length) xs.length xs :=
  ⟨by simp, .inr ⟨g, xs.length, xs.toArray, rfl, hb, hg, Nat.le_refl _, hm, by simp, by simp⟩⟩
section
variable {P : Program} {ops : Array Oper} {C : World → Prop} {E : Nat → Bool} {Q : Exit → Act → World → Prop} {n k : Nat} {o : Oper} {l : List Oper} {a : Act} {w : World}
theorem lx_load_agg (hE : E k = false) (hw : Region.wanted o (yielded ops a.tmps) = true) (ty : TypeId) (x : Operand) (ho : o.op = .load ty x) (ad : Addr) (hx : a.eval x = .pointer (some ad)) (cs : Array Value)
    (hl : ∀ w', C w' → (loadVar ty ad).run P w' = .ok (.agg cs) w') (h : wpLx P ops C E Q n (k + 1) l (a.put o.dst (.agg cs)) w) : wpLx P ops C E Q (n + 1) k (o :: l) a w := by
  simp only [wpLx, stepL, hw, if_true, hE]
  refine ⟨.agg cs, fun w' hw' => .inl ?_, h⟩
  unfold execOp
  simp only [ho, hx, Instr.loadAt, Instr.sureAddr, Sem.run_bind, Sem.run_pure, Result.andThen_ok, hl w' hw']
end
/-- A source's cells. -/
def drawsL (seed : List (BitVec 8)) (N : Nat) : List Value := bv seed ++ [.int .u64 (N : Int)]
theorem drawsL_length {seed : List (BitVec 8)} (h : seed.length = 32) (N : Nat) : (drawsL seed N).length = 33 := by simp [drawsL, h, bv_length]
theorem draws_info {seed : List (BitVec 8)} (h : seed.length = 32) (N : Nat) : (Tryd.prog.info? 39).map (·.size) = some (drawsL seed N).toArray.size := by
  rw [List.size_toArray, drawsL_length h]; kernel_rfl
theorem drawsL_one (seed : List (BitVec 8)) (N : Nat) : ∀ u ∈ drawsL seed N, u.oneCell' = true := by
  intro u hu
  rcases List.mem_append.1 hu with h | h
  · exact bv_one seed u h
  · obtain rfl := List.mem_singleton.1 h
    rfl
theorem draws_n {w : World} {g t : Nat} {fr : Nat × Nat} {seed : List (BitVec 8)} {N : Nat} (h : w.heap[g]? = some (.cells (drawsL seed N).toArray t fr)) (hs : seed.length = 32) : w.cell? ⟨g, 32, none⟩ = some (.int .u64 (N : Int)) :=
  cell_part h (key_at hs _)
theorem draws_seed {w : World} {g t : Nat} {fr : Nat × Nat} {seed : List (BitVec 8)} {N : Nat} (h : w.heap[g]? = some (.cells (drawsL seed N).toArray t fr)) (hs : seed.length = 32) : Rd w (.slice (some ⟨g, 0, none⟩) 32 32) (bv seed) :=
  Rd.part [] _ seed 0 h rfl hs rfl
theorem draws_set {w : World} {g t : Nat} {fr : Nat × Nat} {seed : List (BitVec 8)} {N M : Nat} {z : Int} (h : w.heap[g]? = some (.cells (drawsL seed N).toArray t fr)) (hs : seed.length = 32) (hz : z = (M : Int)) :
    (w.setCell ⟨g, 32, none⟩ (.int .u64 z)).heap[g]? = some (.cells (drawsL seed M).toArray t fr) := by
  subst hz
  rw [block_setCell h]
  congr 3
  unfold drawsL
  rw [List.set_append_right _ _ (by rw [bv_length]; omega), bv_length, hs]
  rfl
theorem box_draws (L : List Value) (w : World) : (Instr.box 39 (.agg L.toArray)).run Tryd.prog w = .ok (.pointer (some ⟨w.heap.size, 0, none⟩)) (w.alloc (.cells L.toArray 39)) := rfl
theorem build_draws1 {X : List (BitVec 8)} (hX : X.length = 32) (w : World) : (Instr.build 39 #[(0, .agg (bv X).toArray)]).run Tryd.prog w = .ok (.agg (drawsL X 0).toArray) w := by
  unfold drawsL
  rw [bv_of_len hX]
  generalize (fun i => Value.int .u8 (bn (X.getD i 0))) = f
  kernel_rfl
theorem build_draws2 {X : List (BitVec 8)} (hX : X.length = 32) (N : Nat) (w : World) : (Instr.build 39 #[(0, .agg (bv X).toArray), (1, .int .u64 (N : Int))]).run Tryd.prog w = .ok (.agg (drawsL X N).toArray) w := by
  unfold drawsL
  rw [bv_of_len hX]
  generalize (fun i => Value.int .u8 (bn (X.getD i 0))) = f
  generalize (N : Int) = z
  kernel_rfl
theorem build_draws0 (w : World) : (Instr.build 39 #[]).run Tryd.prog w = .ok (.agg (drawsL (List.replicate 32 0) 0).toArray) w := by kernel_rfl
theorem alloc_key (w : World) : (Instr.alloc 23 true (.tuple #[])).run Tryd.prog w = .ok (.pointer (some ⟨w.heap.size, 0, none⟩)) (w.alloc (.cells key0 23)) := by kernel_rfl
theorem alloc_draws (w : World) : (Instr.alloc 39 true (.tuple #[])).run Tryd.prog w = .ok (.pointer (some ⟨w.heap.size, 0, none⟩)) (w.alloc (.cells (drawsL (List.replicate 32 0) 0).toArray 39)) := by kernel_rfl
theorem draws_old {seed : List (BitVec 8)} {N : Nat} (h : seed.length = 32) : (drawsL seed N).toArray.size = 33 := by rw [List.size_toArray, drawsL_length h]
theorem wpList_store_drawsZ {ops : Array Oper} {rest : List Oper} {o : Oper} {a : Act} {w : World} {Q : Exit → Act → World → Prop} (hgd : o.guard = none) (x y : Operand) (ho : o.op = .store 39 x y)
    (g : Nat) (seed : List (BitVec 8)) (N : Nat) (hX : seed.length = 32) (hx : a.eval x = .pointer (some ⟨g, 0, none⟩)) (hy : a.eval y = .agg (drawsL seed N).toArray) (old : Array Value) (hg : w.heap[g]? = some (.cells old 39 (0, 0))) (hold : old.size = 33)
    (h : ∀ w', Hid (w'.heap[g]? = some (.cells (drawsL seed N).toArray 39 (0, 0))) → Hid (∀ k, k ≠ g → w'.heap[k]? = w.heap[k]?) → (∀ k w0, k ≤ g → Below k w0 w → Below k w0 w') → wpList Tryd.prog ops Q rest (a.put o.dst undef) w') : wpList Tryd.prog ops Q (o :: rest) a w :=
  wpList_store_rowZ hgd _ x y ho g (drawsL seed N).toArray hx hy _ old hg (draws_info hX N) (by rw [hold, draws_old hX]) (all_one (drawsL_one seed N)) h
def draws0 : Array Value := #[.int .u8 0, .int .u8 0, .int .u8 0, .int .u8 0, .int .u8 0, .int .u8 0, .int .u8 0, .int .u8 0, .int .u8 0, .int .u8 0, .int .u8 0, .int .u8 0, .int .u8 0, .int .u8 0, .int .u8 0, .int .u8 0, .int .u8 0, .int .u8 0, .int .u8 0, .int .u8 0, .int .u8 0, .int .u8 0, .int .u8 0, .int .u8 0, .int .u8 0, .int .u8 0, .int .u8 0, .int .u8 0, .int .u8 0, .int .u8 0, .int .u8 0, .int .u8 0, .int .u64 0]
theorem draws0_eq : draws0 = (drawsL (List.replicate 32 0) 0).toArray := by kernel_rfl
theorem wpList_store_drawsZ0 {ops : Array Oper} {rest : List Oper} {o : Oper} {a : Act} {w : World} {Q : Exit → Act → World → Prop} (hgd : o.guard = none) (x y : Operand) (ho : o.op = .store 39 x y)
    (g : Nat) (hx : a.eval x = .pointer (some ⟨g, 0, none⟩)) (hy : a.eval y = .agg draws0) (old : Array Value) (hg : w.heap[g]? = some (.cells old 39 (0, 0))) (hold : old.size = 33)
    (h : ∀ w', Hid (w'.heap[g]? = some (.cells (drawsL (List.replicate 32 0) 0).toArray 39 (0, 0))) → Hid (∀ k, k ≠ g → w'.heap[k]? = w.heap[k]?) → (∀ k w0, k ≤ g → Below k w0 w → Below k w0 w') → wpList Tryd.prog ops Q rest (a.put o.dst undef) w') : wpList Tryd.prog ops Q (o :: rest) a w :=
  wpList_store_drawsZ hgd x y ho g (List.replicate 32 0) 0 List.length_replicate hx (hy.trans (by rw [draws0_eq])) old hg hold h
theorem key0_size : key0.size = 32 := by kernel_rfl
theorem drawsZ_size : (drawsL (List.replicate 32 0) 0).toArray.size = 33 := by kernel_rfl
theorem wpList_store_drawsN {ops : Array Oper} {rest : List Oper} {o : Oper} {a : Act} {w : World} {Q : Exit → Act → World → Prop} (hgd : o.guard = none) (x y : Operand) (ho : o.op = .store 37 x y)
    (g : Nat) (seed : List (BitVec 8)) (N M : Nat) (z : Int) (hz : z = (M : Int)) (hX : seed.length = 32) (hx : a.eval x = .pointer (some ⟨g, 32, none⟩)) (hy : a.eval y = .int .u64 z) (hg : w.heap[g]? = some (.cells (drawsL seed N).toArray 39 (0, 0)))
    (h : ∀ w', Hid (w'.heap[g]? = some (.cells (drawsL seed M).toArray 39 (0, 0))) → Hid (∀ k, k ≠ g → w'.heap[k]? = w.heap[k]?) → (∀ k w0, k ≤ g → Below k w0 w → Below k w0 w') → wpList Tryd.prog ops Q rest (a.put o.dst undef) w') : wpList Tryd.prog ops Q (o :: rest) a w := by
  subst hz
  exact wpList_store_part hgd _ x y ho g 32 (.int .u64 (M : Int)) hx hy _ (bv seed) [.int .u64 (N : Int)] [.int .u64 (M : Int)] [] rfl (by rw [bv_length, hX]) hg (by kernel_rfl) rfl (fun u hu => by obtain rfl := List.mem_singleton.1 hu; rfl) h
theorem part_key {L : List Value} (pre post : List Value) (X : List (BitVec 8)) (n : Nat) (hn : pre.length = n) (hX : X.length = 32) (hL : L = pre ++ (bv X ++ post)) (w : World) : (Go.part 23 L.toArray n).run Tryd.prog w = .ok (.agg (bv X).toArray) w := by
  subst hL hn
  have he : ((pre ++ (bv X ++ post)).toArray.extract pre.length (pre.length + 32)) = (bv X).toArray := by
    apply Array.toList_inj.1
    have h32 : 32 = (bv X).length := by rw [bv_length, hX]
    simp [h32]
  unfold Go.part
  rw [Sem.run_bind, Tryd.isAgg23]
  simp only [Result.andThen_ok, if_true, Sem.run_bind, Tryd.sizeOf23, he, Sem.run_pure]
theorem part_int {L : List Value} (t : TypeId) (k : IntKind) (ht : Tryd.prog.underlying t = some (.int k)) (n : Nat) (u : Value) (h : L[n]? = some u) (w : World) : (Go.part t L.toArray n).run Tryd.prog w = .ok u w := by
  unfold Go.part isAgg
  simp only [Sem.run_bind, run_underlying ht, Result.andThen_ok, Sem.run_pure, Bool.false_eq_true, if_false, List.getElem?_toArray, h]
set_option maxRecDepth 100000 in
theorem run_eq_keyD (d : Nat) {X Y : List (BitVec 8)} (hx : X.length = 32) (hy : Y.length = 32) (w : World) : (Op.equalIn (d + 2) 23 (.agg (bv X).toArray) (.agg (bv Y).toArray)).run Tryd.prog w = .ok (decide (X = Y)) w := by
  have h := run_equalIn_ints (P := Tryd.prog) w (d + 2) d rfl 23 5 32 .u8 Tryd.underlying23 Tryd.underlying5 (by kernel_rfl) (X.map bn) (Y.map bn) (by simpa using hx) (by simpa using hy)
  have e : ∀ Z : List (BitVec 8), (bv Z) = (Z.map bn).map (Value.int .u8) := fun Z => by simp [bv]
  rw [e, e, h]
  congr 1
  by_cases hXY : X = Y
  · subst hXY; simp
  · have : ¬ X.map bn = Y.map bn := fun h => hXY ((List.map_inj_right (fun _ _ h => bn_inj h)).1 h)
    simp [hXY, this]
theorem guard_draws (op : BinOp) (x y : Operand) (cs ds : Array Value) (w : World) : (eqGuard op 39 x y (.agg cs) (.agg ds)).run Tryd.prog w = .ok () w := run_eqGuard_agg w op _ x y cs ds Tryd.eqGuardType39
set_option maxRecDepth 100000 in
theorem run_eq_draws {X Y : List (BitVec 8)} {N M : Nat} (hX : X.length = 32) (hY : Y.length = 32) (w : World) : (Op.equalIn 10000 39 (.agg (drawsL X N).toArray) (.agg (drawsL Y M).toArray)).run Tryd.prog w = .ok (decide (X = Y ∧ N = M)) w := by
  rw [run_equalIn_struct w 9999 _ _ _ (by rw [Program.fieldsOf, Tryd.underlying39]) Tryd.stoodInHeld39]
  have p1 := fun w => part_key (L := drawsL X N) [] _ X 0 rfl hX rfl w
  have p2 := fun w => part_key (L := drawsL Y M) [] _ Y 0 rfl hY rfl w
  have p3 := fun w => part_int (L := drawsL X N) 37 .u64 Tryd.underlying37 32 _ (key_at hX _) w
  have p4 := fun w => part_int (L := drawsL Y M) 37 .u64 Tryd.underlying37 32 _ (key_at hY _) w
  have q1 := fun w => run_eq_keyD 9997 hX hY w
  have q2 := fun (a b : Int) w => run_equalIn_int (P := Tryd.prog) w 9998 37 .u64 .u64 a b Tryd.underlying37
  simp only [Program.fieldsOf, Tryd.underlying39, Op.eqFields, Sem.run_bind, Sem.run_ite, p1, p2, p3, p4, q1, q2, Result.andThen_ok]
  by_cases h1 : X = Y <;> by_cases h2 : N = M <;> simp [h1, h2] <;> omega
theorem run_eql_draws {X Y : List (BitVec 8)} {N M : Nat} (hX : X.length = 32) (hY : Y.length = 32) (b : Bool) (hb : decide (X = Y ∧ N = M) = b) (w : World) : (Go.binOp .eql 39 (.agg (drawsL X N).toArray) (.agg (drawsL Y M).toArray)).run Tryd.prog w = .ok (.bool b) w := by
  rw [run_eql_struct, run_eq_draws hX hY, ← hb]
  rfl
end Go.Proofs.YtanodhagpegbfaaDoor
