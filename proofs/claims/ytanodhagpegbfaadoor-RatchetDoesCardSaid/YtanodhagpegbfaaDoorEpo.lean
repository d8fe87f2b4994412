/- An epoch, as cells in a block. -/
import Derived.Test.YtanodhagpegbfaaDoorLed
namespace Go.Proofs.YtanodhagpegbfaaDoor
open Go Go.RowKit
structure Epo where
  N : Nat
  I : List (BitVec 8)
  A : List (BitVec 8)
  C : List (BitVec 8)
  M : List (BitVec 8)
  H : List (BitVec 8)
structure Epo.Ok (e : Epo) : Prop where
  N : e.N < 18446744073709551616
  I : e.I.length = 32
  A : e.A.length = 32
  C : e.C.length = 32
  M : e.M.length = 32
  H : e.H.length = 32
def epoL (e : Epo) : List Value := .int .u64 (e.N : Int) :: (bv e.I ++ (bv e.A ++ (bv e.C ++ (bv e.M ++ bv e.H))))
def zE : Epo := ⟨0, List.replicate 32 0, List.replicate 32 0, List.replicate 32 0, List.replicate 32 0, List.replicate 32 0⟩
theorem zE_ok : zE.Ok := ⟨by decide, List.length_replicate, List.length_replicate, List.length_replicate, List.length_replicate, List.length_replicate⟩
theorem epoL_length {e : Epo} (h : e.Ok) : (epoL e).length = 161 := by
  simp only [epoL, List.length_cons, List.length_append, bv_length, h.I, h.A, h.C, h.M, h.H]
theorem epo_info {e : Epo} (h : e.Ok) : (Tryd.prog.info? 55).map (·.size) = some (epoL e).toArray.size := by
  rw [List.size_toArray, epoL_length h]; kernel_rfl
theorem epo_old {e : Epo} (h : e.Ok) : (epoL e).toArray.size = 161 := by rw [List.size_toArray, epoL_length h]
theorem epoL_one (e : Epo) : ∀ u ∈ epoL e, u.oneCell' = true := by
  intro u hu
  rcases List.mem_cons.1 hu with rfl | h
  · rfl
  rcases List.mem_append.1 h with h | h
  · exact bv_one _ u h
  rcases List.mem_append.1 h with h | h
  · exact bv_one _ u h
  rcases List.mem_append.1 h with h | h
  · exact bv_one _ u h
  rcases List.mem_append.1 h with h | h
  · exact bv_one _ u h
  · exact bv_one _ u h
section
variable {w : World} {g t : Nat} {fr : Nat × Nat} {e : Epo}
theorem epo_n (h : w.heap[g]? = some (.cells (epoL e).toArray t fr)) : w.cell? ⟨g, 0, none⟩ = some (.int .u64 (e.N : Int)) := cell_part h rfl
theorem epo_I (h : w.heap[g]? = some (.cells (epoL e).toArray t fr)) (ho : e.Ok) : Rd w (.slice (some ⟨g, 1, none⟩) 32 32) (bv e.I) := Rd.part [.int .u64 (e.N : Int)] _ e.I 1 h rfl ho.I rfl
theorem epo_A (h : w.heap[g]? = some (.cells (epoL e).toArray t fr)) (ho : e.Ok) : Rd w (.slice (some ⟨g, 33, none⟩) 32 32) (bv e.A) := Rd.part (.int .u64 (e.N : Int) :: bv e.I) (bv e.C ++ (bv e.M ++ bv e.H)) e.A 33 h (by simp [bv_length, ho.I]) ho.A (by simp [epoL])
theorem epo_C (h : w.heap[g]? = some (.cells (epoL e).toArray t fr)) (ho : e.Ok) : Rd w (.slice (some ⟨g, 65, none⟩) 32 32) (bv e.C) := Rd.part (.int .u64 (e.N : Int) :: (bv e.I ++ bv e.A)) (bv e.M ++ bv e.H) e.C 65 h (by simp [bv_length, ho.I, ho.A]) ho.C (by simp [epoL])
theorem epo_H (h : w.heap[g]? = some (.cells (epoL e).toArray t fr)) (ho : e.Ok) : Rd w (.slice (some ⟨g, 129, none⟩) 32 32) (bv e.H) := Rd.part (.int .u64 (e.N : Int) :: (bv e.I ++ (bv e.A ++ (bv e.C ++ bv e.M)))) [] e.H 129 h (by simp [bv_length, ho.I, ho.A, ho.C, ho.M]) ho.H (by simp [epoL])
end
theorem box_epoch (L : List Value) (w : World) : (Instr.box 55 (.agg L.toArray)).run Tryd.prog w = .ok (.pointer (some ⟨w.heap.size, 0, none⟩)) (w.alloc (.cells L.toArray 55)) := rfl
theorem alloc_epoch (w : World) : (Instr.alloc 55 true (.tuple #[])).run Tryd.prog w = .ok (.pointer (some ⟨w.heap.size, 0, none⟩)) (w.alloc (.cells (epoL zE).toArray 55)) := by kernel_rfl
theorem build_epoch0 (w : World) : (Instr.build 55 #[]).run Tryd.prog w = .ok (.agg (epoL zE).toArray) w := by kernel_rfl
/-- The epoch with a number and a Hash alone. -/
def nhE (N : Nat) (H : List (BitVec 8)) : Epo := ⟨N, List.replicate 32 0, List.replicate 32 0, List.replicate 32 0, List.replicate 32 0, H⟩
theorem nhE_ok {N : Nat} {H : List (BitVec 8)} (hN : N < 18446744073709551616) (hH : H.length = 32) : (nhE N H).Ok := ⟨hN, List.length_replicate, List.length_replicate, List.length_replicate, List.length_replicate, hH⟩
theorem build_epoch2 {X : List (BitVec 8)} (hX : X.length = 32) (N : Nat) (w : World) : (Instr.build 55 #[(0, .int .u64 (N : Int)), (5, .agg (bv X).toArray)]).run Tryd.prog w = .ok (.agg (epoL (nhE N X)).toArray) w := by
  unfold epoL nhE
  simp only
  rw [bv_of_len hX]
  generalize (fun i => Value.int .u8 (bn (X.getD i 0))) = f
  generalize (N : Int) = z
  kernel_rfl
theorem wpList_store_epoZ {ops : Array Oper} {rest : List Oper} {o : Oper} {a : Act} {w : World} {Q : Exit → Act → World → Prop} (hgd : o.guard = none) (x y : Operand) (ho : o.op = .store 55 x y)
    (g : Nat) (e : Epo) (he : e.Ok) (hx : a.eval x = .pointer (some ⟨g, 0, none⟩)) (hy : a.eval y = .agg (epoL e).toArray) (old : Epo) (hg : w.heap[g]? = some (.cells (epoL old).toArray 55 (0, 0))) (hold : old.Ok)
    (h : ∀ w', Hid (w'.heap[g]? = some (.cells (epoL e).toArray 55 (0, 0))) → Hid (∀ k, k ≠ g → w'.heap[k]? = w.heap[k]?) → (∀ k w0, k ≤ g → Below k w0 w → Below k w0 w') → wpList Tryd.prog ops Q rest (a.put o.dst undef) w') : wpList Tryd.prog ops Q (o :: rest) a w :=
  wpList_store_rowZ hgd _ x y ho g (epoL e).toArray hx hy _ _ hg (epo_info he) (by rw [epo_old hold, epo_old he]) (all_one (epoL_one e)) h
section
variable {ops : Array Oper} {rest : List Oper} {o : Oper} {a : Act} {w : World} {Q : Exit → Act → World → Prop} (hgd : o.guard = none) (x y : Operand) (ho : o.op = .store 23 x y) (g : Nat) (e : Epo) (he : e.Ok) (X : List (BitVec 8)) (hX : X.length = 32)
  (hy : a.eval y = .agg (bv X).toArray) (hg : w.heap[g]? = some (.cells (epoL e).toArray 55 (0, 0)))
theorem key_size1 (hX : X.length = 32) : (Tryd.prog.info? 23).map (·.size) = some (bv X).length := by rw [bv_length, hX]; kernel_rfl
include hgd ho he hX hy hg
theorem wpList_store_epoI (hx : a.eval x = .pointer (some ⟨g, 1, none⟩))
    (h : ∀ w', Hid (w'.heap[g]? = some (.cells (epoL { e with I := X }).toArray 55 (0, 0))) → Hid (∀ k, k ≠ g → w'.heap[k]? = w.heap[k]?) → (∀ k w0, k ≤ g → Below k w0 w → Below k w0 w') → wpList Tryd.prog ops Q rest (a.put o.dst undef) w') : wpList Tryd.prog ops Q (o :: rest) a w :=
  wpList_store_part hgd _ x y ho g 1 (.agg (bv X).toArray) hx hy _ [.int .u64 (e.N : Int)] (bv e.I) (bv X) (bv e.A ++ (bv e.C ++ (bv e.M ++ bv e.H))) rfl rfl hg (key_size1 X hX) (by rw [bv_length, bv_length, hX, he.I]) (bv_one X) h
theorem wpList_store_epoA (hx : a.eval x = .pointer (some ⟨g, 33, none⟩))
    (h : ∀ w', Hid (w'.heap[g]? = some (.cells (epoL { e with A := X }).toArray 55 (0, 0))) → Hid (∀ k, k ≠ g → w'.heap[k]? = w.heap[k]?) → (∀ k w0, k ≤ g → Below k w0 w → Below k w0 w') → wpList Tryd.prog ops Q rest (a.put o.dst undef) w') : wpList Tryd.prog ops Q (o :: rest) a w :=
  wpList_store_part hgd _ x y ho g 33 (.agg (bv X).toArray) hx hy _ (.int .u64 (e.N : Int) :: bv e.I) (bv e.A) (bv X) (bv e.C ++ (bv e.M ++ bv e.H)) rfl (by simp [bv_length, he.I]) hg (key_size1 X hX) (by rw [bv_length, bv_length, hX, he.A]) (bv_one X) h
theorem wpList_store_epoC (hx : a.eval x = .pointer (some ⟨g, 65, none⟩))
    (h : ∀ w', Hid (w'.heap[g]? = some (.cells (epoL { e with C := X }).toArray 55 (0, 0))) → Hid (∀ k, k ≠ g → w'.heap[k]? = w.heap[k]?) → (∀ k w0, k ≤ g → Below k w0 w → Below k w0 w') → wpList Tryd.prog ops Q rest (a.put o.dst undef) w') : wpList Tryd.prog ops Q (o :: rest) a w :=
  wpList_store_part hgd _ x y ho g 65 (.agg (bv X).toArray) hx hy _ (.int .u64 (e.N : Int) :: (bv e.I ++ bv e.A)) (bv e.C) (bv X) (bv e.M ++ bv e.H) rfl (by simp [bv_length, he.I, he.A]) (by simpa [epoL] using hg) (key_size1 X hX) (by rw [bv_length, bv_length, hX, he.C]) (bv_one X) (fun w' h1 => h w' (by simpa [epoL] using h1))
theorem wpList_store_epoM (hx : a.eval x = .pointer (some ⟨g, 97, none⟩))
    (h : ∀ w', Hid (w'.heap[g]? = some (.cells (epoL { e with M := X }).toArray 55 (0, 0))) → Hid (∀ k, k ≠ g → w'.heap[k]? = w.heap[k]?) → (∀ k w0, k ≤ g → Below k w0 w → Below k w0 w') → wpList Tryd.prog ops Q rest (a.put o.dst undef) w') : wpList Tryd.prog ops Q (o :: rest) a w :=
  wpList_store_part hgd _ x y ho g 97 (.agg (bv X).toArray) hx hy _ (.int .u64 (e.N : Int) :: (bv e.I ++ (bv e.A ++ bv e.C))) (bv e.M) (bv X) (bv e.H) rfl (by simp [bv_length, he.I, he.A, he.C]) (by simpa [epoL] using hg) (key_size1 X hX) (by rw [bv_length, bv_length, hX, he.M]) (bv_one X) (fun w' h1 => h w' (by simpa [epoL] using h1))
end
theorem guard_epoch (op : BinOp) (x y : Operand) (cs ds : Array Value) (w : World) : (eqGuard op 55 x y (.agg cs) (.agg ds)).run Tryd.prog w = .ok () w := run_eqGuard_agg w op _ x y cs ds Tryd.eqGuardType55
set_option maxRecDepth 100000 in
theorem run_eql_epo {e : Epo} (h : e.Ok) (w : World) : (Go.binOp .eql 55 (.agg (epoL e).toArray) (.agg (epoL e).toArray)).run Tryd.prog w = .ok (.bool true) w := by
  have p0 := fun w => part_int (L := epoL e) 37 .u64 Tryd.underlying37 0 _ rfl w
  have p1 := fun w => part_key (L := epoL e) [.int .u64 (e.N : Int)] _ e.I 1 rfl h.I rfl w
  have p2 := fun w => part_key (L := epoL e) (.int .u64 (e.N : Int) :: bv e.I) (bv e.C ++ (bv e.M ++ bv e.H)) e.A 33 (by simp [bv_length, h.I]) h.A (by simp [epoL]) w
  have p3 := fun w => part_key (L := epoL e) (.int .u64 (e.N : Int) :: (bv e.I ++ bv e.A)) (bv e.M ++ bv e.H) e.C 65 (by simp [bv_length, h.I, h.A]) h.C (by simp [epoL]) w
  have p4 := fun w => part_key (L := epoL e) (.int .u64 (e.N : Int) :: (bv e.I ++ (bv e.A ++ bv e.C))) (bv e.H) e.M 97 (by simp [bv_length, h.I, h.A, h.C]) h.M (by simp [epoL]) w
  have p5 := fun w => part_key (L := epoL e) (.int .u64 (e.N : Int) :: (bv e.I ++ (bv e.A ++ (bv e.C ++ bv e.M)))) [] e.H 129 (by simp [bv_length, h.I, h.A, h.C, h.M]) h.H (by simp [epoL]) w
  have q1 := fun w => run_eq_keyD 9997 h.I h.I w
  have q2 := fun w => run_eq_keyD 9997 h.A h.A w
  have q3 := fun w => run_eq_keyD 9997 h.C h.C w
  have q4 := fun w => run_eq_keyD 9997 h.M h.M w
  have q5 := fun w => run_eq_keyD 9997 h.H h.H w
  have q0 := fun (a b : Int) w => run_equalIn_int (P := Tryd.prog) w 9998 37 .u64 .u64 a b Tryd.underlying37
  rw [run_eql_struct, run_equalIn_struct w 9999 _ _ _ (by rw [Program.fieldsOf, Tryd.underlying55]) Tryd.stoodInHeld55]
  simp only [Program.fieldsOf, Tryd.underlying55, Op.eqFields, Sem.run_bind, Sem.run_ite, p0, p1, p2, p3, p4, p5, q0, q1, q2, q3, q4, q5, Result.andThen_ok]
  simp
end Go.Proofs.YtanodhagpegbfaaDoor
