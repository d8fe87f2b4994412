import Derived.Test.YtanodhagpegbfaaDoorA4
import Derived.Lib.AppendZerosOnto
import Derived.Test.YtanodhagpegbfaaDoorA3
/- law03.MacEqual, walked whole. -/
namespace Go.Proofs.YtanodhagpegbfaaDoor
open Go Go.RowKit
/-- 'append' in an operation that is guarded. -/
theorem wpList_append_rdG {P : Program} {w : World} {ops : Array Oper} {rest : List Oper} {o : Oper} {a : Act} {Q : Exit → Act → World → Prop} (hw : Region.wanted o (yielded ops a.tmps) = true) (s x : Operand) (t : TypeId)
    (ho : o.op = .call { callee := .builtin .append, args := #[s, x], argTypes := #[t, t] })
    (base : Nat) (e : TypeId) (z : Value) (bytes : Nat) (ht : P.underlying t = some (.slice e)) (hinfo : (P.info? e).map (fun i => (i.zero, i.size, i.bytes)) = some (some z, 1, bytes)) (hzs : z.cells.size = 1)
    (v vx : Value) (xs news : List Value) (hs : a.eval s = v) (hx : a.eval x = vx) (hown : w.ownsRow base e 1 v xs.length xs) (hrd : Rd w vx news) (h1 : ∀ u ∈ news, u.oneCell' = true)
    (hbytes : (xs.length + news.length) * bytes ≤ 140737488355328) (hlen : xs.length + news.length ≤ 140737488355328) (hbase : base ≤ w.heap.size)
    (h : ∀ v' w', w'.ownsRow base e 1 v' (xs ++ news).length (xs ++ news) → w.grownBy w' v.ownBlock → wpList P ops Q rest (a.put o.dst v') w') : wpList P ops Q (o :: rest) a w := by
  unfold wpList
  rw [if_pos hw]
  exact .inl (wp_noOut (wp_append_rd s x t ho base e z bytes ht hinfo hzs v vx xs news hs hx hown hrd h1 hbytes hlen hbase h))
theorem bv_set (a : List (BitVec 8)) (k : Nat) (y : BitVec 8) : (bv a).set k (.int .u8 (bn y)) = bv (a.set k y) := by simp [bv, List.map_set]
theorem bn_zero (y : BitVec 8) : (bn y == 0) = decide (y = 0) := by
  by_cases h : y = 0
  · subst h; rfl
  · have : bn y ≠ 0 := fun e => h (bn_inj (y := 0) (by rw [e]; rfl))
    rw [decide_eq_false h]
    exact beq_eq_false_iff_ne.2 this
attribute [local go_sem] bn_xor
end Go.Proofs.YtanodhagpegbfaaDoor
/- 'append(s, make([]byte, n)...)', s the call's own, as the model has it: with a number in the place of a slice. Of whatever program. -/
namespace Go.Proofs.YtanodhagpegbfaaDoor
open Go Go.RowKit
theorem zeroCells_byte (n : Nat) : (Builtin.zeroCells #[Value.int .u8 0] n).toList = List.replicate n (Value.int .u8 0) := by
  unfold Builtin.zeroCells
  apply List.ext_getElem?
  intro i
  by_cases hi : i < n
  · simp [hi, Nat.mod_one]
  · simp [hi]
theorem run_append_no_zeros {P : Program} (w : World) (t tn ty e : TypeId) (i : TypeInfo) (kn : IntKind) (ht : P.underlying t = some (.slice e)) (htn : P.underlying tn = some (.int kn)) (hi : P.info? e = some i)
    (b : Option Addr) (sLen sCap : Nat) (h : sLen ≤ sCap) : (Builtin.append_ #[t, tn] ty #[.slice b sLen sCap, .int .i64 0]).run P w = .ok (.slice b sLen sCap) w := by
  have hw : IntKind.i64.wrap (0 : Int) = 0 := by rw [IntKind.wrap_i64]; omega
  cases b <;> simp [Builtin.append_, run_underlying ht, run_underlying htn, sizeOf, typeInfo, hi, asInt, asIntOf, hw, h, storeCells]
theorem run_append_room_zeros {P : Program} (w : World) (t tn ty e : TypeId) (i : TypeInfo) (kn : IntKind) (ht : P.underlying t = some (.slice e)) (htn : P.underlying tn = some (.int kn)) (hi : P.info? e = some i) (hz : i.zero = some (Value.int .u8 0)) (hsize : i.size = 1) (hby : i.bytes = 1)
    (g sLen sCap : Nat) (cur : Array Value) (hg : w.heap[g]? = some (.cells cur e (0, 0))) (k : Nat) (hk : k ≠ 0) (h : sLen + k ≤ sCap) (hcs : cur.size = sCap) (h48 : k ≤ 1000000) :
    (Builtin.append_ #[t, tn] ty #[.slice (some ⟨g, 0, none⟩) sLen sCap, .int .i64 k]).run P w =
      .ok (.slice (some ⟨g, 0, none⟩) (sLen + k) sCap) (w.setRow g (cur.toList.take sLen ++ List.replicate k (Value.int .u8 0) ++ cur.toList.drop (sLen + k)).toArray) := by
  have hw : IntKind.i64.wrap (k : Int) = k := by rw [IntKind.wrap_i64]; omega
  have hneg : ¬ ((k : Int) < 0) := by omega
  have h48i : ¬ (281474976710656 < (k : Int)) := by omega
  have hst := run_storeCells_at P g sLen e (List.replicate k (Value.int .u8 0)) 0 cur w hg (by simp; omega) (by intro v hv; rw [List.mem_replicate] at hv; rw [hv.2]; rfl)
  simp only [Nat.add_zero, List.length_replicate] at hst
  have hcells : (Value.int .u8 0).cells = #[Value.int .u8 0] := rfl
  simp [Builtin.append_, run_underlying ht, run_underlying htn, sizeOf, typeInfo, zeroValue, hi, hz, hsize, hby, asInt, asIntOf, hw, h, hneg, h48i, hk, hcells, zeroCells_byte, Addr.add_lit, hst]
theorem run_append_own_zeros {P : Program} (w : World) (base : Nat) (t tn ty e : TypeId) (i : TypeInfo) (kn : IntKind) (ht : P.underlying t = some (.slice e)) (htn : P.underlying tn = some (.int kn)) (hi : P.info? e = some i) (hz : i.zero = some (Value.int .u8 0)) (hsize : i.size = 1) (hby : i.bytes = 1)
    (v : Value) (xs : List Value) (hown : w.ownsRow base e 1 v xs.length xs) (k : Nat) (hlen : xs.length + k ≤ 1000000) (hbase : base ≤ w.heap.size) :
    ∃ v' w', (Builtin.append_ #[t, tn] ty #[v, .int .i64 k]).run P w = .ok v' w' ∧ w'.ownsRow base e 1 v' (xs ++ List.replicate k (Value.int .u8 0)).length (xs ++ List.replicate k (Value.int .u8 0)) ∧ w.grownBy w' v.ownBlock := by
  by_cases hk : k = 0
  · subst hk
    refine ⟨v, w, ?_, by simpa using hown, ⟨rfl, rfl, rfl, Nat.le_refl _, fun _ _ _ => rfl⟩⟩
    rcases hown.2 with ⟨rfl, h0⟩ | ⟨g, cap, cur, rfl, _, _, hnc, _⟩
    · exact run_append_no_zeros w t tn ty e i kn ht htn hi none 0 0 (Nat.le_refl _)
    · exact run_append_no_zeros w t tn ty e i kn ht htn hi _ _ _ hnc
  · have hl2 : (xs ++ List.replicate k (Value.int .u8 0)).length = xs.length + k := by simp
    rw [hl2]
    have hlen2 : (xs ++ List.replicate k (Value.int .u8 0)).length = (xs.length + k) * 1 := by rw [hl2, Nat.mul_one]
    have grown : ∀ (old : Nat), old < xs.length + k → ∀ (row : Option Nat),
        (w.drew.alloc (.cells (xs.toArray ++ Builtin.zeroCells (Value.int .u8 0).cells k ++ Builtin.zeroCells (Value.int .u8 0).cells (grownCap w (xs.length + k) old e - (xs.length + k))) e)).ownsRow base e 1
          (.slice (some ⟨w.heap.size, 0, none⟩) (xs.length + k) (grownCap w (xs.length + k) old e)) (xs.length + k) (xs ++ List.replicate k (Value.int .u8 0)) ∧
        w.grownBy (w.drew.alloc (.cells (xs.toArray ++ Builtin.zeroCells (Value.int .u8 0).cells k ++ Builtin.zeroCells (Value.int .u8 0).cells (grownCap w (xs.length + k) old e - (xs.length + k))) e)) row := by
      intro old ho row
      have hge := grownCap_ge w (xs.length + k) old e
      have hcm : grownCap w (xs.length + k) old e ≤ maxLen := grownCap_le_maxLen w (xs.length + k) old e (by unfold maxLen; omega)
      have hz1 : (Value.int IntKind.u8 0).cells.size = 1 := rfl
      refine ⟨⟨hlen2, .inr ⟨w.heap.size, _, _, rfl, hbase, heap_alloc_new w.drew _, hge, hcm, ?_, ?_⟩⟩, ⟨rfl, rfl, rfl, by simp, fun j hj _ => Below.heap_alloc w.drew _ j hj⟩⟩
      · simp only [Array.size_append, List.size_toArray, size_zeroCells, hz1]
        omega
      · have hzk : (Builtin.zeroCells (Value.int .u8 0).cells k).toList = List.replicate k (Value.int .u8 0) := zeroCells_byte k
        simp only [Array.toList_append, hzk]
        rw [← hlen2]
        exact List.take_left
    rcases hown.2 with ⟨rfl, h0⟩ | ⟨g, cap, cur, rfl, hbg, hg, hnc, hcm, hcs, htake⟩
    · have hx : xs = [] := List.eq_nil_of_length_eq_zero h0
      subst hx
      have hr := Lib.run_append_nil_zeros (P := P) w t tn ty e i (Value.int .u8 0) .i64 kn ht htn hi hz k (by omega) (by omega) (by simp at hlen; omega) (by rw [hby]; simp at hlen; omega)
      have hgr := grown 0 (by omega) (Value.ownBlock (.slice none 0 0))
      simp only [List.length_nil, Nat.zero_add, List.nil_append, Array.empty_append] at hgr ⊢
      exact ⟨_, _, hr, hgr.1, hgr.2⟩
    · by_cases hroom : xs.length + k ≤ cap
      · have hcs' : cur.size = cap := by simpa using hcs
        have hr := run_append_room_zeros (P := P) w t tn ty e i kn ht htn hi hz hsize hby g xs.length cap cur hg k hk hroom hcs' (by omega)
        refine ⟨_, _, hr, ⟨hlen2, .inr ⟨g, cap, _, rfl, hbg, setRow_heap w g cur _ e _ hg, hroom, hcm, ?_, ?_⟩⟩, ⟨rfl, rfl, rfl, by simp, fun k _ hk => setRow_other w g k _ (fun e => hk (by simp [Value.ownBlock, e]))⟩⟩
        · simp only [List.size_toArray, List.length_append, List.length_take, List.length_drop, Array.length_toList, List.length_replicate]
          omega
        · have ht' : cur.toList.take xs.length = xs := by simpa using htake
          rw [ht', ← hlen2]
          exact List.take_left
      · have holds : ∀ j u, xs[j]? = some u → w.cell? ((⟨g, 0, none⟩ : Addr).add j) = some u := hown.cells (g := g) rfl
        have hf : (Builtin.firstCells i.size xs.length (.slice (some ⟨g, 0, none⟩) xs.length cap)).run P w.drew = .ok xs.toArray w.drew := by
          have hl := run_loadCells_list (P := P) w.drew ⟨g, 0, none⟩ xs (fun j u hu => holds j u hu)
          rw [hsize]
          simpa [Builtin.firstCells] using hl
        have hr := Lib.run_append_grow_zeros (P := P) w t tn ty e i (Value.int .u8 0) .i64 kn ht htn hi hz (some ⟨g, 0, none⟩) xs.length cap xs hf k (by omega) (by omega) (by omega) (by omega) (by rw [hby]; omega) (by rw [hby]; exact growslice_fits (by omega) (by omega))
        have hgr := grown cap (by omega) (Value.ownBlock (.slice (some ⟨g, 0, none⟩) xs.length cap))
        exact ⟨_, _, hr, hgr.1, hgr.2⟩
theorem wpList_append_zeros {P : Program} {w : World} {ops : Array Oper} {rest : List Oper} {o : Oper} {a : Act} {Q : Exit → Act → World → Prop} (hgd : o.guard = none) (s x : Operand) (t tn : TypeId)
    (ho : o.op = .call { callee := .builtin .append, args := #[s, x], argTypes := #[t, tn] })
    (base : Nat) (e : TypeId) (kn : IntKind) (ht : P.underlying t = some (.slice e)) (htn : P.underlying tn = some (.int kn)) (hinfo : (P.info? e).map (fun i => (i.zero, i.size, i.bytes)) = some (some (Value.int .u8 0), 1, 1))
    (v : Value) (xs : List Value) (k : Nat) (hs : a.eval s = v) (hx : a.eval x = .int .i64 (k : Int)) (hown : w.ownsRow base e 1 v xs.length xs) (hlen : xs.length + k ≤ 1000000) (hbase : base ≤ w.heap.size)
    (h : ∀ v' w', w'.ownsRow base e 1 v' (xs ++ List.replicate k (Value.int .u8 0)).length (xs ++ List.replicate k (Value.int .u8 0)) → w.grownBy w' v.ownBlock → wpList P ops Q rest (a.put o.dst v') w') : wpList P ops Q (o :: rest) a w := by
  obtain ⟨i, hi, hz1, hz2, hz3⟩ := info_parts hinfo
  obtain ⟨v', w', hr, h2, h3⟩ := run_append_own_zeros (P := P) w base t tn o.type e i kn ht htn hi hz1 hz2 hz3 v xs hown k hlen hbase
  exact Lib.wpList_append_run w hgd s x t tn ho v _ hs hx v' w' hr (h v' w' h2 h3)
end Go.Proofs.YtanodhagpegbfaaDoor
/- law03.MacKeys, walked whole. -/
namespace Go.Proofs.YtanodhagpegbfaaDoor
open Go Go.RowKit
theorem key64_sum (k : List (BitVec 8)) (h : 64 < k.length) : key64 K0 (digest K0 k) = key64 K0 k := by
  unfold key64
  rw [if_pos (by rw [digest_length]; omega), if_neg (by omega)]
theorem RdAll.twoA (w : World) (v1 v2 : Value) (l1 l2 : List (BitVec 8)) (t : Nat) (h1 : Rd w v1 (bv l1)) (h2 : Rd w v2 (bv l2)) : RdAll (w.alloc (.cells #[v1, v2] t)) (.slice (some ⟨w.heap.size, 0, none⟩) 2 2) [l1, l2] :=
  RdAll.two (heap_alloc_new w _) (h1.grow (Aft.alloc w _)) (h2.grow (Aft.alloc w _))
theorem bv_zeros (n : Nat) : List.replicate n (Value.int .u8 0) = bv (List.replicate n 0) := by simp [bv, bn]
set_option maxRecDepth 100000 in
theorem run_neq_key (X : List (BitVec 8)) (hx : X.length = 32) (w : World) : (Go.binOp .neq 23 (.agg (bv X).toArray) (.agg (bv X).toArray)).run Tryd.prog w = .ok (.bool false) w := by
  have heq := run_eq_key X X hx hx
  simp only [decide_true] at heq
  simp [go_sem, heq]
set_option maxRecDepth 100000 in
theorem run_eql_key (X : List (BitVec 8)) (hx : X.length = 32) (w : World) : (Go.binOp .eql 23 (.agg (bv X).toArray) (.agg (bv X).toArray)).run Tryd.prog w = .ok (.bool true) w := by
  have heq := run_eq_key X X hx hx
  simp only [decide_true] at heq
  simp [go_sem, heq]
theorem guard_key (op : BinOp) (x y : Operand) (cs ds : Array Value) (w : World) : (eqGuard op 23 x y (.agg cs) (.agg ds)).run Tryd.prog w = .ok () w := by
  have hq := Tryd.eqGuardType23
  cases op <;> simp [eqGuard, run_program, hq]
/-- An operation on two values, whose outcome is known. -/
theorem lf_bin {P : Program} {ops : Array Oper} {w0 : World} {Kd : Nat → Nat} {Q : Exit → Act → World → Prop} {n k : Nat} {o : Oper} {l : List Oper} {a : Act} {w : World} (hk : Kd k = 0) (hw : Region.wanted o (yielded ops a.tmps) = true)
    (op : BinOp) (t t2 : TypeId) (x y : Operand) (ho : o.op = .binOp op t x y t2) (vx vy v : Value) (hx : a.eval x = vx) (hy : a.eval y = vy) (hr : ∀ w1, (Go.binOp op t vx vy).run P w1 = .ok v w1) (hg : ∀ w1, (eqGuard op t x y vx vy).run P w1 = .ok () w1)
    (h : wpFx P ops w0 Kd Q n (k + 1) l (a.put o.dst v) w) : wpFx P ops w0 Kd Q (n + 1) k (o :: l) a w := by
  have hup := wpFx_up (P := P) (ops := ops) (w0 := w0) (Kd := Kd) (Q := Q) n (k + 1) l
  simp only [wpFx_succ, stepF, hw, if_true, hk]
  rw [if_neg (by omega)]
  refine ⟨none, fun _ => v, fun _ => rfl, fun w1 hw1 _ => .inl ?_, fun w1 g hw1 _ => hup _ _ _ hw1 h⟩
  unfold execOp
  simp only [ho, hx, hy, Sem.run_bind, hg, hr, Result.andThen_ok, Sem.run_pure]
end Go.Proofs.YtanodhagpegbfaaDoor
/- mac.Expand's own function: the next bytes. -/
namespace Go.Proofs.YtanodhagpegbfaaDoor
open Go Go.RowKit
theorem bn_succ (t : BitVec 8) : IntKind.u8.wrap (bn t + 1) = bn (t + 1) := by
  have := t.isLt
  have h1 : (1 : BitVec 8).toNat = 1 := rfl
  unfold bn
  rw [IntKind.wrap_u8, BitVec.toNat_add, h1]
  omega
theorem RdAll.three {w : World} {v1 v2 v3 : Value} {g : Nat} {t : TypeId} {fr : Nat × Nat} {l1 l2 l3 : List (BitVec 8)} (hg : w.heap[g]? = some (.cells #[v1, v2, v3] t fr)) (h1 : Rd w v1 (bv l1)) (h2 : Rd w v2 (bv l2)) (h3 : Rd w v3 (bv l3)) : RdAll w (.slice (some ⟨g, 0, none⟩) 3 3) [l1, l2, l3] := by
  refine ⟨[v1, v2, v3], ⟨some ⟨g, 0, none⟩, 3, rfl, Nat.le_refl _, by omega, (fun h => by cases h), fun ad ha j u hu => ?_⟩, rfl, fun i u hu => ?_⟩
  · cases ha
    match j with
    | 0 => cases hu; simp [World.cell?, hg, Addr.add]
    | 1 => cases hu; simp [World.cell?, hg, Addr.add]
    | 2 => cases hu; simp [World.cell?, hg, Addr.add]
    | j + 3 => simp at hu
  · match i with
    | 0 => cases hu; exact h1
    | 1 => cases hu; exact h2
    | 2 => cases hu; exact h3
    | i + 3 => simp at hu
theorem one_cell_at {w : World} {g t : Nat} {v : Value} (h : w.heap[g]? = some (.cells #[v] t (0, 0))) : w.cell? ⟨g, 0, none⟩ = some v ∧ w.frozen? ⟨g, 0, none⟩ = false :=
  ⟨by rw [cell_of_row w g 0 _ _ _ h]; rfl, frozen_of_row w g 0 _ _ h⟩
theorem one_cell_set {w : World} {g t : Nat} {v : Value} (u : Value) (h : w.heap[g]? = some (.cells #[v] t (0, 0))) : (w.setCell ⟨g, 0, none⟩ u).heap[g]? = some (.cells #[u] t (0, 0)) := by
  rw [heap_setCell_same w g 0 _ _ u h]
  rfl
theorem rd_byte {w : World} {g t : Nat} {x : BitVec 8} {fr : Nat × Nat} (h : w.heap[g]? = some (.cells #[.int .u8 (bn x)] t fr)) : Rd w (.slice (some ⟨g, 0, none⟩) 1 1) (bv [x]) := by
  refine ⟨some ⟨g, 0, none⟩, 1, rfl, Nat.le_refl _, by omega, (fun h => by cases h), fun ad ha j u hu => ?_⟩
  cases ha
  match j with
  | 0 => cases hu; simp [World.cell?, h, Addr.add]
  | j + 1 => simp [bv] at hu
def moreS (B : Nat) (j : Nat) : Prop := j = B + 2 ∨ j = B + 3
attribute [local go_sem] bn_succ
set_option maxRecDepth 100000 in
set_option maxHeartbeats 2000000 in
theorem more_any (B : Nat) (k info T : List (BitVec 8)) (t : BitVec 8) (vi vl : Value) (w : World) (hK : TabK K0 2 w) (hB : 2 < B) (hk : k.length = 32)
    (h1 : w.heap[B]? = some (.cells (bv k).toArray 23 (0, 0))) (h2 : w.heap[B + 1]? = some (.cells #[vi] 24 (0, 0))) (h3 : w.heap[B + 2]? = some (.cells #[vl] 24 (0, 0))) (h4 : w.heap[B + 3]? = some (.cells #[.int .u8 (bn t)] 5 (0, 0)))
    (hi : Rd w vi (bv info)) (hl : Rd w vl (bv T)) (hvi : ∀ g, vi.ownBlock = some g → bv info ≠ [] → ¬ moreS B g) (hvl : ∀ g, vl.ownBlock = some g → ¬ moreS B g) (hil : info.length ≤ 1000000000) (hTl : T.length ≤ 32) :
    Calls Tryd.prog 65 #[.pointer (some ⟨B + 3, 0, none⟩), .pointer (some ⟨B, 0, none⟩), .pointer (some ⟨B + 2, 0, none⟩), .pointer (some ⟨B + 1, 0, none⟩)] w fun e w' =>
      ∃ g, e = .returned (.slice (some ⟨g, 0, none⟩) 32 32) ∧ w.heap.size ≤ g ∧ w'.heap[g]? = some (.cells (bv (macOf K0 k (T ++ (info ++ [t + 1])))).toArray 23 (0, 0)) ∧
        w'.heap[B + 2]? = some (.cells #[.slice (some ⟨g, 0, none⟩) 32 32] 24 (0, 0)) ∧ w'.heap[B + 3]? = some (.cells #[.int .u8 (bn (t + 1))] 5 (0, 0)) ∧ Fr (moreS B) w w' := by
  have HK := Lib.hid hK
  have H1 := Lib.hid h1
  have H2 := Lib.hid h2
  have H3 := Lib.hid h3
  have H4 := Lib.hid h4
  have HI := Lib.hid hi
  have HL := Lib.hid hl
  clear hK
  obtain ⟨c4, f4⟩ := one_cell_at h4
  obtain ⟨al, cl, rfl, -, -, -, -⟩ := hl
  obtain ⟨ai, ci, rfl, -, -, -, -⟩ := hi
  have HVI := Lib.hid hvi
  have HVL := Lib.hid hvl
  clear h1 h2 h3 h4 hvi hvl
  go_enter Tryd.func65, Tryd.ntmps65
  go_wp2_with fail
  have hb3 : ∀ j, j ≠ B + 3 → (w.setCell ⟨B + 3, 0, none⟩ (.int .u8 (bn (t + 1)))).heap[j]? = w.heap[j]? := fun j hj => Below.heap_setCell _ _ _ _ hj
  have H4a := Lib.hid (one_cell_set (.int .u8 (bn (t + 1))) H4.out)
  have H1a := Lib.hid ((hb3 B (by omega)).trans H1.out)
  have H2a := Lib.hid ((hb3 (B + 1) (by omega)).trans H2.out)
  have H3a := Lib.hid ((hb3 (B + 2) (by omega)).trans H3.out)
  have HIa := Lib.hid (HI.out.setCell (p := ⟨B + 3, 0, none⟩) (fun g hg hx => fun e => HVI.out g hg hx (.inr e)) (.int .u8 (bn (t + 1))))
  have HLa := Lib.hid (HL.out.setCell (p := ⟨B + 3, 0, none⟩) (fun g hg _ => fun e => HVL.out g hg (.inr e)) (.int .u8 (bn (t + 1))))
  have HFa := Lib.hid ((Fr.refl (moreS B) w).setCell (p := ⟨B + 3, 0, none⟩) (.inr rfl) (.int .u8 (bn (t + 1))))
  clear hb3
  show Code.wp _ _ _ _ (w.setCell ⟨B + 3, 0, none⟩ (.int .u8 (bn (t + 1))))
  generalize w.setCell ⟨B + 3, 0, none⟩ (.int .u8 (bn (t + 1))) = w1 at *
  have ht1 : t + 1#8 = t + 1 := rfl
  rw [ht1]
  generalize hT1 : t + 1 = t1 at *
  have HT1 := Lib.hid hT1
  clear hT1
  have hal := fun wx : World => run_sliceAt_key wx B
  have HKlen := Lib.hid hk
  have HIl := Lib.hid hil
  have HTl := Lib.hid hTl
  clear c4 f4 ht1 hk hil hTl
  refine wp_region_lexF (fun i => ([0, 0, 0, 0, 1, 1, 2, 1, 3] : List Nat).getD i 0) 9 (by kernel_rfl) (by kernel_rfl) ?_; intro wr hwr
  have HWr := Lib.hid (show Aft w1 wr by rw [hwr]; exact (Below.refl _ _).drew)
  clear hwr
  have L2 := fun u : Later wr.heap.size wr => (one_cell_at (Aft.get (Aft.trans HWr.out u.h) H3a.out)).1
  have L1 := fun u : Later wr.heap.size wr => (one_cell_at (Aft.get (Aft.trans HWr.out u.h) H2a.out)).1
  have L0 := fun u : Later wr.heap.size wr => (one_cell_at (Aft.get (Aft.trans HWr.out u.h) H4a.out)).1
  repeat (first | (refine lf_skip (by go_big_quiet_skip; exact wpQuiet_nil trivial) (by kernel_rfl) ?_; simp only [Act.put, List.setIfInBounds_toArray, List.set_cons_succ, List.set_cons_zero]) | (refine lf_quiet rfl (by go_big_quiet_want; exact quiet_false (by assumption)) (by kernel_rfl) rfl ?_; intro Kx hKx; go_big_quiet_op; go_big_quiet_on))
  refine lf_fresh (.cells #[.int .u8 (bn t1)] 5) (fun g => .slice (some ⟨g, 0, none⟩) 1 1) rfl (by kernel_rfl) (fun w1 => by kernel_rfl) ?_
  intro wa ga ha1 ha2 ha3
  simp only [Act.put, List.setIfInBounds_toArray, List.set_cons_succ, List.set_cons_zero]
  have HA3 := Lib.hid ha3
  have HRa := Lib.hid ha1
  clear ha1 ha2 ha3
  refine lf_fresh (.cells #[.slice al (bv T).length cl, .slice ai (bv info).length ci, .slice (some ⟨ga, 0, none⟩) 1 1] 24) (fun g => .slice (some ⟨g, 0, none⟩) 3 3) rfl (by kernel_rfl) (fun w1 => by kernel_rfl) ?_
  intro wb gb hb1 hb2 hb3
  simp only [Act.put, List.setIfInBounds_toArray, List.set_cons_succ, List.set_cons_zero]
  have HB3 := Lib.hid hb3
  have HAb := Lib.hid hb1
  clear hb1 hb2 hb3
  refine lf_eff rfl (by go_big_quiet_want; exact quiet_false (by assumption)) (by kernel_rfl) ?_
  intro wc hc Kx hKx
  have HAc := Lib.hid (Aft.trans HAb.out hc)
  have HRc := Lib.hid (Aft.trans HRa.out HAc.out)
  have H1c := Lib.hid (Aft.trans HWr.out HRc.out)
  have hm := mac_any (.slice (some ⟨B, 0, none⟩) 32 32) _ k [T, info, [t1]] wc (TabK_fr HK.out (HFa.out.trans (Fr.of_below H1c.out)) (fun h => by rcases h with h | h <;> omega)) (Rd.of_key (Aft.get H1c.out H1a.out) HKlen.out)
    (RdAll.three (Aft.get hc HB3.out) (HLa.out.grow H1c.out) (HIa.out.grow H1c.out) (rd_byte (Aft.get HAc.out HA3.out))) (by have := HKlen.out; omega) (by simp) (by have := HIl.out; have := HTl.out; simp; omega)
  rw [show ([T, info, [t1]] : List (List (BitVec 8))).flatten = T ++ (info ++ [t1]) by simp] at hm
  have hxl := macOf_length K0 k (T ++ (info ++ [t1]))
  generalize hX : macOf K0 k (T ++ (info ++ [t1])) = X at *
  have HX := Lib.hid hX
  clear hX
  have HM := Lib.hid hm
  have HXL := Lib.hid hxl
  clear hm hxl hc
  go_wp2_with fail
  refine HM.out.mono ?_
  rintro e wd ⟨rfl, hd⟩
  go_wp2_with fail
  refine ⟨hd, ?_⟩
  have HRd := Lib.hid (Aft.trans HRc.out hd)
  clear hd
  refine lf_fresh (.cells key0 23) (fun g => .pointer (some ⟨g, 0, none⟩)) rfl (by kernel_rfl) (fun w1 => by kernel_rfl) ?_
  intro we ge he1 he2 he3
  simp only [Act.put, List.setIfInBounds_toArray, List.set_cons_succ, List.set_cons_zero]
  have HRe := Lib.hid (Aft.trans HRd.out he1)
  have hxs : (bv X).toArray.size = 32 := by rw [List.size_toArray, bv_length, HXL.out]
  refine lf_store rfl (by kernel_rfl) 23 (.tmp 5) (.tmp 14) rfl ge (bv X).toArray rfl rfl _ key0 HRe.out he2 he3 (by rw [hxs]; kernel_rfl) (by rw [hxs]; rfl) (Array.all_eq_true_iff_forall_mem.2 fun u hu => bv_one X u (by simpa using hu)) ?_
  intro wf hf1 hf2 hf3
  simp only [Act.put]
  refine lf_done ?_
  intro wg hg
  have HRg := Lib.hid (Aft.trans hf2 hg)
  have HKg := Lib.hid (Aft.get hg hf1.out)
  have H1g := Lib.hid (Aft.trans HWr.out HRg.out)
  have H3g := Lib.hid (Aft.get H1g.out H3a.out)
  have H4g := Lib.hid (Aft.get H1g.out H4a.out)
  obtain ⟨c3, f3⟩ := one_cell_at H3g.out
  have hal2 := fun wx : World => run_sliceAt_key wx ge
  have HE2 := Lib.hid (show w1.heap.size ≤ ge by have := Below.size HWr.out; omega)
  clear hf1 hf2 hf3 hg he1 he2 he3 hxs
  go_wp2_with fail
  have hl3 := heap_lt H3a.out
  have hE := HE2.out
  go_ret
  refine ⟨ge, rfl, Nat.le_trans HFa.out.size hE, ?_, one_cell_set _ H3g.out, ?_, ?_⟩
  · rw [HT1.out, HX.out]; exact (Below.heap_setCell _ _ _ _ (show ge ≠ B + 2 by omega)).trans HKg.out
  · rw [HT1.out]; exact (Below.heap_setCell _ _ _ _ (show B + 3 ≠ B + 2 by omega)).trans H4g.out
  · exact (HFa.out.trans (Fr.of_below H1g.out)).setCell (p := ⟨B + 2, 0, none⟩) (.inl rfl) _
end Go.Proofs.YtanodhagpegbfaaDoor
/- mac.Expand: bytes of a key. -/
namespace Go.Proofs.YtanodhagpegbfaaDoor
open Go Go.RowKit
def expT (K : Nat → BitVec 32) (k info : List (BitVec 8)) : Nat → List (BitVec 8)
  | 0 => []
  | i + 1 => macOf K k (expT K k info i ++ (info ++ [BitVec.ofNat 8 (i + 1)]))
def expOut (K : Nat → BitVec 32) (k info : List (BitVec 8)) : Nat → List (BitVec 8)
  | 0 => []
  | i + 1 => expOut K k info i ++ expT K k info (i + 1)
theorem expT_length (K : Nat → BitVec 32) (k info : List (BitVec 8)) : ∀ i, (expT K k info i).length ≤ 32
  | 0 => by simp [expT]
  | i + 1 => by rw [expT, macOf_length]; omega
theorem expOut_length (K : Nat → BitVec 32) (k info : List (BitVec 8)) : ∀ i, (expOut K k info i).length = 32 * i
  | 0 => rfl
  | i + 1 => by rw [expOut, List.length_append, expOut_length K k info i, expT, macOf_length]; omega
structure expInv (w : World) (B : Nat) (k inf : List (BitVec 8)) (vi : Value) (m : Nat) (v : Value) (wr : World) : Prop where
  key : wr.heap[B]? = some (.cells (bv k).toArray 23 (0, 0))
  info : wr.heap[B + 1]? = some (.cells #[vi] 24 (0, 0))
  last : ∃ vl, wr.heap[B + 2]? = some (.cells #[vl] 24 (0, 0)) ∧ Rd wr vl (bv (expT K0 k inf m)) ∧ ∀ g, vl.ownBlock = some g → ¬ moreS B g
  turn : wr.heap[B + 3]? = some (.cells #[.int .u8 (bn (BitVec.ofNat 8 m))] 5 (0, 0))
  own : wr.ownsRow (B + 4) 5 1 v (bv (expOut K0 k inf m)).length (bv (expOut K0 k inf m))
  aft : Aft w wr
def mkRow (n : Nat) : Array Value := madeCells #[.int .u8 0] n
theorem mkRow_size (n : Nat) : (mkRow n).size = n := by rw [mkRow, size_madeCells]
theorem exp_start (w : World) (k inf : List (BitVec 8)) (vi : Value) (c : Nat) (hc : c ≤ maxLen) :
    expInv w w.heap.size k inf vi 0 (.slice (some ⟨w.heap.size + 4, 0, none⟩) 0 c) (((((w.alloc (.cells (bv k).toArray 23)).alloc (.cells #[vi] 24)).alloc (.cells #[.slice none 0 0] 24)).alloc (.cells #[.int .u8 0] 5)).alloc (.cells (mkRow c) 5)) := by
  have a0 := heap_alloc_new w (.cells (bv k).toArray 23)
  have a1 := heap_alloc_new (w.alloc (.cells (bv k).toArray 23)) (.cells #[vi] 24)
  have a2 := heap_alloc_new ((w.alloc (.cells (bv k).toArray 23)).alloc (.cells #[vi] 24)) (.cells #[.slice none 0 0] 24)
  have a3 := heap_alloc_new (((w.alloc (.cells (bv k).toArray 23)).alloc (.cells #[vi] 24)).alloc (.cells #[.slice none 0 0] 24)) (.cells #[.int .u8 0] 5)
  have b0 := Aft.alloc w (.cells (bv k).toArray 23)
  have b1 := Aft.alloc (w.alloc (.cells (bv k).toArray 23)) (.cells #[vi] 24)
  have b2 := Aft.alloc ((w.alloc (.cells (bv k).toArray 23)).alloc (.cells #[vi] 24)) (.cells #[.slice none 0 0] 24)
  have b3 := Aft.alloc (((w.alloc (.cells (bv k).toArray 23)).alloc (.cells #[vi] 24)).alloc (.cells #[.slice none 0 0] 24)) (.cells #[.int .u8 0] 5)
  have b4 := Aft.alloc ((((w.alloc (.cells (bv k).toArray 23)).alloc (.cells #[vi] 24)).alloc (.cells #[.slice none 0 0] 24)).alloc (.cells #[.int .u8 0] 5)) (.cells (mkRow c) 5)
  have hm := World.ownsRow_made (base := w.heap.size + 4) (e := 5) (size := 1) ((((w.alloc (.cells (bv k).toArray 23)).alloc (.cells #[vi] 24)).alloc (.cells #[.slice none 0 0] 24)).alloc (.cells #[.int .u8 0] 5)) (mkRow c) c (by simp only [World.size_alloc]; omega) hc (by rw [mkRow_size, Nat.mul_one])
  simp only [World.size_alloc, Nat.add_assoc, Nat.reduceAdd] at a1 a2 a3 hm
  exact ⟨Aft.get (Aft.trans b1 (Aft.trans b2 (Aft.trans b3 b4))) a0, Aft.get (Aft.trans b2 (Aft.trans b3 b4)) a1, ⟨_, Aft.get (Aft.trans b3 b4) a2, Rd.nil _, fun g hg => by simp [Value.ownBlock] at hg⟩, Aft.get b4 a3, hm, Aft.trans b0 (Aft.trans b1 (Aft.trans b2 (Aft.trans b3 b4)))⟩
theorem ofNat_succ (m : Nat) : BitVec.ofNat 8 m + 1 = BitVec.ofNat 8 (m + 1) := by
  apply BitVec.eq_of_toNat_eq
  rw [BitVec.toNat_add, BitVec.toNat_ofNat, BitVec.toNat_ofNat]
  have h1 : (1 : BitVec 8).toNat = 1 := rfl
  rw [h1]
  omega
theorem cut_whole {P : Program} {t e : TypeId} (ht : P.underlying t = some (.slice e)) {ao : Option Addr} {len cap n : Nat} (hn : n ≤ cap) (w : World) {i : TypeInfo} (hi : P.info? e = some i) :
    (Instr.slice t (.slice ao len cap) none (some (.int .i64 (n : Int))) (some (.int .i64 (n : Int)))).run P w = .ok (.slice ao n n) w := by
  have he : P.elem t = e := by simp [Program.elem, ht]
  rw [run_slice_hm w t ao len cap (by rw [he]; exact ht) .i64 .i64 (n : Int) (n : Int) (by omega) (by omega) (by omega), he, run_sizeOf w hi]
  simp only [Result.andThen, sliced, Int.toNat_natCast, Nat.zero_mul, Nat.sub_zero]
  cases ao <;> simp [Addr.add]
theorem Rd.whole {w : World} {ao : Option Addr} {cap len : Nat} {xs : List Value} (h : Rd w (.slice ao len cap) xs) {n : Nat} (hn : n ≤ xs.length) : Rd w (.slice ao n n) (xs.take n) := by
  obtain ⟨ao', cap', hv, h1, h2, h3, h4⟩ := h
  cases hv
  refine ⟨ao, n, by rw [List.length_take, Nat.min_eq_left hn], by rw [List.length_take]; omega, by omega, fun e => (by have := h3 e; omega), fun ad ha j u hu => h4 ad ha j u ?_⟩
  rw [List.getElem?_take] at hu
  split at hu
  · exact hu
  · cases hu
theorem exp_step {w wr w2 w3 : World} {k inf : List (BitVec 8)} {vi v v3 : Value} {m g : Nat} (h : expInv w w.heap.size k inf vi m v wr) (hg : wr.heap.size ≤ g)
    (h1 : w2.heap[g]? = some (.cells (bv (expT K0 k inf (m + 1))).toArray 23 (0, 0))) (h2 : w2.heap[w.heap.size + 2]? = some (.cells #[.slice (some ⟨g, 0, none⟩) 32 32] 24 (0, 0)))
    (h3 : w2.heap[w.heap.size + 3]? = some (.cells #[.int .u8 (bn (BitVec.ofNat 8 m + 1))] 5 (0, 0))) (hf : Fr (moreS w.heap.size) wr w2)
    (k1 : w3.ownsRow (w.heap.size + 4) 5 1 v3 (bv (expOut K0 k inf m) ++ bv (expT K0 k inf (m + 1))).length (bv (expOut K0 k inf m) ++ bv (expT K0 k inf (m + 1)))) (k2 : w2.grownBy w3 v.ownBlock) : expInv w w.heap.size k inf vi (m + 1) v3 w3 := by
  have hsz := hf.size
  have hl4 := heap_lt h.turn
  have own : ∀ b, v.ownBlock = some b → w.heap.size + 4 ≤ b ∧ b < wr.heap.size := fun b hb => own_lt h.own hb
  have keep : ∀ b, b < w2.heap.size → v.ownBlock ≠ some b → w3.heap[b]? = w2.heap[b]? := fun b hb hne => k2.block b hb (fun e => hne e.symm)
  have low : ∀ b, b < w.heap.size + 4 → v.ownBlock ≠ some b := fun b hb e => by have := (own b e).1; omega
  have hgn : v.ownBlock ≠ some g := fun e => by have := (own g e).2; omega
  have hg2 := heap_lt h1
  have hkg := (keep g hg2 hgn).trans h1
  have hXl : (expT K0 k inf (m + 1)).length = 32 := by rw [expT, macOf_length]
  refine ⟨(keep _ (by omega) (low _ (by omega))).trans ((hf.block _ (by omega) (by unfold moreS; omega)).trans h.key), (keep _ (by omega) (low _ (by omega))).trans ((hf.block _ (by omega) (by unfold moreS; omega)).trans h.info), ⟨_, (keep _ (by omega) (low _ (by omega))).trans h2, Rd.of_key hkg hXl, fun b hb => ?_⟩, ?_, ?_, ?_⟩
  · simp only [Value.ownBlock, Option.some.injEq] at hb
    subst hb
    unfold moreS; omega
  · rw [← ofNat_succ]; exact (keep _ (by omega) (low _ (by omega))).trans h3
  · rw [expOut, bv_append]; exact k1
  · have ha := h.aft
    exact ⟨k2.os.trans (hf.os.trans ha.os), k2.tape.trans (hf.tape.trans ha.tape), k2.output.trans (hf.output.trans ha.output), by have := Below.size ha; have := k2.size; omega, fun b hb => (keep b (by have := Below.size ha; omega) (low b (by omega))).trans ((hf.block b (by have := Below.size ha; omega) (by unfold moreS; omega)).trans (Below.block ha b hb))⟩
theorem box_key (k : List (BitVec 8)) (w : World) : (Instr.box 23 (.agg (bv k).toArray)).run Tryd.prog w = .ok (.pointer (some ⟨w.heap.size, 0, none⟩)) (w.alloc (.cells (bv k).toArray 23)) := rfl
set_option maxRecDepth 100000 in
set_option maxHeartbeats 2000000 in
theorem expand_any (k info : List (BitVec 8)) (vi : Value) (n : Nat) (w : World) (hK : TabK K0 2 w) (hk : k.length = 32) (hi : Rd w vi (bv info)) (hil : info.length ≤ 1048576) (hn : n ≤ 8160) :
    Calls Tryd.prog 19 #[.agg (bv k).toArray, vi, .int .i64 (n : Int)] w fun e w' =>
      ∃ ao, e = .returned (.tuple #[.slice ao n n, .int .i64 0]) ∧ ∃ m, n ≤ 32 * m ∧ Rd w' (.slice ao n n) (bv ((expOut K0 k info m).take n)) ∧ Below w.heap.size w w' := by
  have HK := Lib.hid hK
  have HI := Lib.hid hi
  have HKl := Lib.hid hk
  have hbk := box_key k
  obtain ⟨ai, ci, rfl, -, -, -, -⟩ := hi
  obtain ⟨iB, hiB, hz1, hz2, hz3⟩ := info_parts info_byte
  have hmk : ∀ w, (Instr.makeSlice 24 (.int .i64 0) (.int .i64 ((n : Int) + 64))).run Tryd.prog w = .ok (.slice (some ⟨w.heap.size, 0, none⟩) 0 (n + 64)) (w.alloc (.cells (mkRow (n + 64)) 5)) := fun w => by
    have := run_make (P := Tryd.prog) w 24 5 iB (.int .u8 0) Tryd.underlying24 hiB hz1 .i64 .i64 0 ((n : Int) + 64) (by omega) (by omega) (by rw [hz3]; omega) (by omega)
    rw [this, hz2, show ((n : Int) + 64).toNat = n + 64 by omega, Nat.mul_one]
    rfl
  clear hz1 hz2 hz3 hiB
  have hil' : ¬ (1048576 : Int) < ((bv info).length : Nat) := by rw [bv_length]; omega
  have HIl := Lib.hid hil
  have hn0 : ¬ (n : Int) < 0 := by omega
  have hn1 : ¬ (8160 : Int) < (n : Int) := by omega
  clear hK hk hil
  go_enter Tryd.func19, Tryd.ntmps19
  go_wp2_with fail
  go_loopw [11] (fun v11 wr => ∃ m : Nat, 32 * m < n + 32 ∧ expInv w w.heap.size k info (.slice ai (bv info).length ci) m v11 wr) (fun v _ => n - lenV v)
  case atStart => exact ⟨0, by omega, exp_start w k info _ (n + 64) (by unfold maxLen; omega)⟩
  case round =>
    obtain ⟨m, hm, hinv⟩ := hrel
    obtain ⟨ao, co, rfl⟩ := own_shape hinv.own
    have hol := expOut_length K0 k info m
    have HInv := Lib.hid hinv
    have HOL := Lib.hid (show (bv (expOut K0 k info m)).length = 32 * m by rw [bv_length, hol])
    clear hinv hol
    by_cases hlt : 32 * m < n
    · have hlt' : ((bv (expOut K0 k info m)).length : Int) < (n : Int) := by rw [HOL.out]; omega
      have hgl : 2 < w.heap.size := by obtain ⟨_, cs, fr, h1, _⟩ := HK.out; exact heap_lt h1
      obtain ⟨vl, hl1, hl2, hl3⟩ := HInv.out.last
      have hmore := more_any w.heap.size k info (expT K0 k info m) (BitVec.ofNat 8 m) (.slice ai (bv info).length ci) vl wr (TabK_fr HK.out (Fr.of_below (S := fun _ => False) HInv.out.aft) (fun h => h)) hgl HKl.out HInv.out.key HInv.out.info hl1 HInv.out.turn (HI.out.grow HInv.out.aft) hl2 (fun g hg hx => by have := HI.out.lt hg hx; unfold moreS; omega) hl3 (by have := HIl.out; omega) (expT_length K0 k info m)
      have HM := Lib.hid hmore
      clear hmore hl1 hl2 hl3
      go_wp2_with fail
      refine HM.out.mono ?_
      rintro e w2 ⟨g, rfl, hge, h1, h2, h3, hfr⟩
      rw [ofNat_succ] at h1
      have HXl := Lib.hid (show (expT K0 k info (m + 1)).length = 32 by rw [expT, macOf_length])
      have HX := Lib.hid (show w2.heap[g]? = some (.cells (bv (expT K0 k info (m + 1))).toArray 23 (0, 0)) from h1)
      have HO2 := Lib.hid (ownsRow_fr HInv.out.own hfr (fun b hb => by have := (own_lt HInv.out.own hb).1; unfold moreS; omega))
      have HRk := Lib.hid (Rd.of_key HX.out HXl.out)
      have HE := Lib.hid (fun (v3 : Value) (w3 : World) k1 k2 => exp_step (v3 := v3) (w3 := w3) HInv.out hge HX.out h2 h3 hfr k1 k2)
      have HZ := Lib.hid (show w.heap.size + 4 ≤ w2.heap.size by have := heap_lt HInv.out.turn; have := hfr.size; have := heap_lt h1; omega)
      clear h1 h2 h3 hfr hge
      go_wp2_with ((at_builtin; refine wpList_append_rd rfl _ _ 24 rfl (w.heap.size + 4) 5 (.int .u8 0) 1 Tryd.underlying24 info_byte rfl (.slice ao (bv (expOut K0 k info m)).length co) (.slice (some ⟨g, 0, none⟩) 32 32) (bv (expOut K0 k info m)) (bv (expT K0 k info (m + 1))) rfl rfl HO2.out HRk.out (bv_one _) (by have := HOL.out; have := HXl.out; rw [bv_length (expT K0 k info (m + 1))]; omega) (by have := HOL.out; have := HXl.out; rw [bv_length (expT K0 k info (m + 1))]; omega) HZ.out ?_; intro v3 w3 k1 k2 k3; have hinv3 := HE.out v3 w3 k1 k2; clear k1 k2 k3))
      go_roundw
      case rel => exact ⟨m + 1, by omega, hinv3⟩
      case measure =>
        have hh := hinv3.own
        obtain ⟨a3, c3, rfl⟩ := own_shape hh
        have := expOut_length K0 k info (m + 1)
        have := HOL.out
        simp only [lenV, bv_length] at *
        omega
    · have hlt' : ¬ ((bv (expOut K0 k info m)).length : Int) < (n : Int) := by rw [HOL.out]; omega
      obtain ⟨iB, hiB, -, -, -⟩ := info_parts info_byte
      have hRd := Rd.of_own HInv.out.own
      have hsl := hRd.sl
      have hcut := fun wx => cut_whole (P := Tryd.prog) (ao := ao) (len := (bv (expOut K0 k info m)).length) (cap := co) (n := n) Tryd.underlying24 (by rw [HOL.out] at hsl; omega) wx hiB
      have HRd := Lib.hid (hRd.whole (n := n) (by rw [HOL.out]; omega))
      clear hRd hsl hiB
      go_wp2_with fail
      go_returns
      exact ⟨ao, rfl, m, by omega, by rw [bv_take]; exact HRd.out, HInv.out.aft⟩
end Go.Proofs.YtanodhagpegbfaaDoor
/- law03.MacPrefix, walked whole. -/
namespace Go.Proofs.YtanodhagpegbfaaDoor
open Go Go.RowKit
theorem expOut_prefix (K : Nat → BitVec 32) (k inf : List (BitVec 8)) (m : Nat) : ∀ j n, n ≤ 32 * m → (expOut K k inf (m + j)).take n = (expOut K k inf m).take n
  | 0, _, _ => rfl
  | j + 1, n, h => by
    rw [← Nat.add_assoc, expOut, List.take_append_of_le_length (by rw [expOut_length]; omega)]
    exact expOut_prefix K k inf m j n h
end Go.Proofs.YtanodhagpegbfaaDoor
/- A key as an argument, opened. -/
namespace Go.Proofs.YtanodhagpegbfaaDoor
open Go Go.RowKit Go.ChangeShapes Go.WideShapes
set_option maxRecDepth 100000
theorem okWide_array {P : Program} {w : World} {r : Reach} {base : Nat} {t : TypeId} {v : Value} {n : Nat} {e : TypeId} (ht : P.underlying t = some (.array n e)) (h : Value.okWide P w r base t v) : ∃ cs, v = .agg cs ∧ cs.size = P.cellsOf t := by
  simp only [Value.okWide, ht] at h
  obtain ⟨cs, h1, h2, _⟩ := h
  exact ⟨cs, h1, h2⟩
theorem open_keyV {H : Type} {enc : TypeId × Value → H} {w : World} {base : Nat} {spare : Nat → Bool} {held : Bool} {v : Value} {d : DataW H} {ps : List MemPlace} {W2 : World} {r : Reach} (hok : Value.okWide Tryd.prog W2 r base 23 v) (h : DataW.Trod enc Tryd.prog w 0 spare held 23 v d ps) :
    ∃ k : List (BitVec 8), v = .agg (bv k).toArray ∧ k.length = 32 := by
  obtain ⟨cs, rfl, hcs⟩ := okWide_array Tryd.underlying23 hok
  obtain ⟨fuel, hf⟩ := h
  have hsz : cs.size = 32 := by rw [hcs]; kernel_rfl
  have g := ints_of_array Tryd.underlying23 Tryd.underlying5 (by kernel_rfl) hf
  obtain ⟨Z, hZ⟩ := Deep.choose_lt (α := Int) (n := 32) (p := fun i z => cs[i]? = some (.int .u8 z) ∧ (Lit.int .u8 z).wf = true) (fun i hi => by
    obtain ⟨z, h1, h2⟩ := g i hi
    exact ⟨z, by simpa [Value.cells] using h1, h2⟩)
  refine ⟨(List.range 32).map fun i => BitVec.ofInt 8 (Z i), ?_, by simp⟩
  congr 1
  apply Array.ext_getElem?
  intro i
  by_cases hi : i < 32
  · rw [(hZ i hi).1]
    simp only [bv, List.map_map, List.getElem?_toArray, List.getElem?_map, List.getElem?_range hi, Option.map_some, Function.comp]
    rw [← bn_of (hZ i hi).2]
  · rw [Array.getElem?_eq_none (by omega), Array.getElem?_eq_none (by simp [bv]; omega)]
end Go.Proofs.YtanodhagpegbfaaDoor

