import Derived.Test.YtpnckphfjcnooaaA4
import Derived.Lib.AppendZerosOnto
import Derived.Test.YtpnckphfjcnooaaA3
/- law03.MacEqual, walked whole. -/
namespace Go.Proofs.Ytpnckphfjcnooaa
open Go Go.RowKit
/-- 'append' in an operation that is guarded. -/
theorem wpList_append_rdG {P : Program} {w : World} {ops : Array Oper} {rest : List Oper} {o : Oper} {a : Act} {Q : Exit → Act → World → Prop} (hw : Region.wanted o (yielded ops a.tmps) = true) (s x : Operand) (t : TypeId)
    (ho : o.op = .call { callee := .builtin .append, args := #[s, x], argTypes := #[t, t] })
    (base : Nat) (e : TypeId) (z : Value) (bytes : Nat) (ht : P.underlying t = some (.slice e)) (hinfo : (P.info? e).map (fun i => (i.zero, i.size, i.bytes)) = some (some z, 1, bytes)) (hzs : z.cells.size = 1)
    (v vx : Value) (xs news : List Value) (hs : a.eval s = v) (hx : a.eval x = vx) (hown : w.ownsRow base e 1 v xs.length xs) (hrd : Rd w vx news) (h1 : ∀ u ∈ news, u.oneCell' = true)
    (hbytes : (xs.length + news.length) * bytes ≤ 140737488355328) (hlen : xs.length + news.length ≤ 140737488355328) (hbase : base ≤ w.heap.size)
    (h : ∀ v' w', w'.ownsRow base e 1 v' (xs ++ news).length (xs ++ news) → w.grownBy w' v.ownBlock → wpList P ops Q rest (a.put o.dst v') w') : wpList P ops Q (o :: rest) a w := by
  unfold wpList
  rw [if_pos hw]
  exact .inl (wp_noOut (wp_append_rd s x t ho base e z bytes ht hinfo hzs v vx xs news hs hx hown hrd h1 hbytes hlen hbase h))
end Go.Proofs.Ytpnckphfjcnooaa
/- 'append(s, make([]byte, n)...)', s the call's own, as the model has it: with a number in the place of a slice. Of whatever program. -/
namespace Go.Proofs.Ytpnckphfjcnooaa
open Go Go.RowKit
theorem zeroCells_byte (n : Nat) : (Builtin.zeroCells #[Value.int .u8 0] n).toList = List.replicate n (Value.int .u8 0) := by
  unfold Builtin.zeroCells
  apply List.ext_getElem?
  intro i
  by_cases hi : i < n
  · simp [hi, Nat.mod_one]
  · simp [hi]
theorem run_append_no_zeros {P : Program} (w : World) (t tn ty e : TypeId) (i : TypeInfo) (kn : IntKind) (ht : P.underlying t = some (.slice e)) (htn : P.underlying tn = some (.int kn)) (hi : P.info? e = some i)
    (b : Option Addr) (sLen sCap : Nat) (h : sLen ≤ sCap) : (Builtin.append_ #[t, tn] ty #[.slice b sLen sCap, .int .i64 0]).run P w = .ok (.slice b sLen sCap) w := by
  have hw : IntKind.i64.wrap (0 : Int) = 0 := by rw [IntKind.wrap_i64]; omega
  cases b <;> simp [Builtin.append_, run_underlying ht, run_underlying htn, sizeOf, typeInfo, hi, asInt, asIntOf, hw, h, storeCells]
theorem run_append_room_zeros {P : Program} (w : World) (t tn ty e : TypeId) (i : TypeInfo) (kn : IntKind) (ht : P.underlying t = some (.slice e)) (htn : P.underlying tn = some (.int kn)) (hi : P.info? e = some i) (hz : i.zero = some (Value.int .u8 0)) (hsize : i.size = 1) (hby : i.bytes = 1)
    (g sLen sCap : Nat) (cur : Array Value) (hg : w.heap[g]? = some (.cells cur e (0, 0))) (k : Nat) (hk : k ≠ 0) (h : sLen + k ≤ sCap) (hcs : cur.size = sCap) (h48 : k ≤ 1000000) :
    (Builtin.append_ #[t, tn] ty #[.slice (some ⟨g, 0, none⟩) sLen sCap, .int .i64 k]).run P w =
      .ok (.slice (some ⟨g, 0, none⟩) (sLen + k) sCap) (w.setRow g (cur.toList.take sLen ++ List.replicate k (Value.int .u8 0) ++ cur.toList.drop (sLen + k)).toArray) := by
  have hw : IntKind.i64.wrap (k : Int) = k := by rw [IntKind.wrap_i64]; omega
  have hneg : ¬ ((k : Int) < 0) := by omega
  have h48i : ¬ (281474976710656 < (k : Int)) := by omega
  have hst := run_storeCells_at P g sLen e (List.replicate k (Value.int .u8 0)) 0 cur w hg (by simp; omega) (by intro v hv; rw [List.mem_replicate] at hv; rw [hv.2]; rfl)
  simp only [Nat.add_zero, List.length_replicate] at hst
  have hcells : (Value.int .u8 0).cells = #[Value.int .u8 0] := rfl
  simp [Builtin.append_, run_underlying ht, run_underlying htn, sizeOf, typeInfo, zeroValue, hi, hz, hsize, hby, asInt, asIntOf, hw, h, hneg, h48i, hk, hcells, zeroCells_byte, Addr.add_lit, hst]
theorem run_append_own_zeros {P : Program} (w : World) (base : Nat) (t tn ty e : TypeId) (i : TypeInfo) (kn : IntKind) (ht : P.underlying t = some (.slice e)) (htn : P.underlying tn = some (.int kn)) (hi : P.info? e = some i) (hz : i.zero = some (Value.int .u8 0)) (hsize : i.size = 1) (hby : i.bytes = 1)
    (v : Value) (xs : List Value) (hown : w.ownsRow base e 1 v xs.length xs) (k : Nat) (hlen : xs.length + k ≤ 1000000) (hbase : base ≤ w.heap.size) :
    ∃ v' w', (Builtin.append_ #[t, tn] ty #[v, .int .i64 k]).run P w = .ok v' w' ∧ w'.ownsRow base e 1 v' (xs ++ List.replicate k (Value.int .u8 0)).length (xs ++ List.replicate k (Value.int .u8 0)) ∧ w.grownBy w' v.ownBlock := by
  by_cases hk : k = 0
  · subst hk
    refine ⟨v, w, ?_, by simpa using hown, ⟨rfl, rfl, rfl, Nat.le_refl _, fun _ _ _ => rfl⟩⟩
    rcases hown.2 with ⟨rfl, h0⟩ | ⟨g, cap, cur, rfl, _, _, hnc, _⟩
    · exact run_append_no_zeros w t tn ty e i kn ht htn hi none 0 0 (Nat.le_refl _)
    · exact run_append_no_zeros w t tn ty e i kn ht htn hi _ _ _ hnc
  · have hl2 : (xs ++ List.replicate k (Value.int .u8 0)).length = xs.length + k := by simp
    rw [hl2]
    have hlen2 : (xs ++ List.replicate k (Value.int .u8 0)).length = (xs.length + k) * 1 := by rw [hl2, Nat.mul_one]
    have grown : ∀ (old : Nat), old < xs.length + k → ∀ (row : Option Nat),
        (w.drew.alloc (.cells (xs.toArray ++ Builtin.zeroCells (Value.int .u8 0).cells k ++ Builtin.zeroCells (Value.int .u8 0).cells (grownCap w (xs.length + k) old e - (xs.length + k))) e)).ownsRow base e 1
          (.slice (some ⟨w.heap.size, 0, none⟩) (xs.length + k) (grownCap w (xs.length + k) old e)) (xs.length + k) (xs ++ List.replicate k (Value.int .u8 0)) ∧
        w.grownBy (w.drew.alloc (.cells (xs.toArray ++ Builtin.zeroCells (Value.int .u8 0).cells k ++ Builtin.zeroCells (Value.int .u8 0).cells (grownCap w (xs.length + k) old e - (xs.length + k))) e)) row := by
      intro old ho row
      have hge := grownCap_ge w (xs.length + k) old e
      have hcm : grownCap w (xs.length + k) old e ≤ maxLen := grownCap_le_maxLen w (xs.length + k) old e (by unfold maxLen; omega)
      have hz1 : (Value.int IntKind.u8 0).cells.size = 1 := rfl
      refine ⟨⟨hlen2, .inr ⟨w.heap.size, _, _, rfl, hbase, heap_alloc_new w.drew _, hge, hcm, ?_, ?_⟩⟩, ⟨rfl, rfl, rfl, by simp, fun j hj _ => Below.heap_alloc w.drew _ j hj⟩⟩
      · simp only [Array.size_append, List.size_toArray, size_zeroCells, hz1]
        omega
      · have hzk : (Builtin.zeroCells (Value.int .u8 0).cells k).toList = List.replicate k (Value.int .u8 0) := zeroCells_byte k
        simp only [Array.toList_append, hzk]
        rw [← hlen2]
        exact List.take_left
    rcases hown.2 with ⟨rfl, h0⟩ | ⟨g, cap, cur, rfl, hbg, hg, hnc, hcm, hcs, htake⟩
    · have hx : xs = [] := List.eq_nil_of_length_eq_zero h0
      subst hx
      have hr := Lib.run_append_nil_zeros (P := P) w t tn ty e i (Value.int .u8 0) .i64 kn ht htn hi hz k (by omega) (by omega) (by simp at hlen; omega) (by rw [hby]; simp at hlen; omega)
      have hgr := grown 0 (by omega) (Value.ownBlock (.slice none 0 0))
      simp only [List.length_nil, Nat.zero_add, List.nil_append, Array.empty_append] at hgr ⊢
      exact ⟨_, _, hr, hgr.1, hgr.2⟩
    · by_cases hroom : xs.length + k ≤ cap
      · have hcs' : cur.size = cap := by simpa using hcs
        have hr := run_append_room_zeros (P := P) w t tn ty e i kn ht htn hi hz hsize hby g xs.length cap cur hg k hk hroom hcs' (by omega)
        refine ⟨_, _, hr, ⟨hlen2, .inr ⟨g, cap, _, rfl, hbg, setRow_heap w g cur _ e _ hg, hroom, hcm, ?_, ?_⟩⟩, ⟨rfl, rfl, rfl, by simp, fun k _ hk => setRow_other w g k _ (fun e => hk (by simp [Value.ownBlock, e]))⟩⟩
        · simp only [List.size_toArray, List.length_append, List.length_take, List.length_drop, Array.length_toList, List.length_replicate]
          omega
        · have ht' : cur.toList.take xs.length = xs := by simpa using htake
          rw [ht', ← hlen2]
          exact List.take_left
      · have holds : ∀ j u, xs[j]? = some u → w.cell? ((⟨g, 0, none⟩ : Addr).add j) = some u := hown.cells (g := g) rfl
        have hf : (Builtin.firstCells i.size xs.length (.slice (some ⟨g, 0, none⟩) xs.length cap)).run P w.drew = .ok xs.toArray w.drew := by
          have hl := run_loadCells_list (P := P) w.drew ⟨g, 0, none⟩ xs (fun j u hu => holds j u hu)
          rw [hsize]
          simpa [Builtin.firstCells] using hl
        have hr := Lib.run_append_grow_zeros (P := P) w t tn ty e i (Value.int .u8 0) .i64 kn ht htn hi hz (some ⟨g, 0, none⟩) xs.length cap xs hf k (by omega) (by omega) (by omega) (by omega) (by rw [hby]; omega) (by rw [hby]; exact growslice_fits (by omega) (by omega))
        have hgr := grown cap (by omega) (Value.ownBlock (.slice (some ⟨g, 0, none⟩) xs.length cap))
        exact ⟨_, _, hr, hgr.1, hgr.2⟩
theorem wpList_append_zeros {P : Program} {w : World} {ops : Array Oper} {rest : List Oper} {o : Oper} {a : Act} {Q : Exit → Act → World → Prop} (hgd : o.guard = none) (s x : Operand) (t tn : TypeId)
    (ho : o.op = .call { callee := .builtin .append, args := #[s, x], argTypes := #[t, tn] })
    (base : Nat) (e : TypeId) (kn : IntKind) (ht : P.underlying t = some (.slice e)) (htn : P.underlying tn = some (.int kn)) (hinfo : (P.info? e).map (fun i => (i.zero, i.size, i.bytes)) = some (some (Value.int .u8 0), 1, 1))
    (v : Value) (xs : List Value) (k : Nat) (hs : a.eval s = v) (hx : a.eval x = .int .i64 (k : Int)) (hown : w.ownsRow base e 1 v xs.length xs) (hlen : xs.length + k ≤ 1000000) (hbase : base ≤ w.heap.size)
    (h : ∀ v' w', w'.ownsRow base e 1 v' (xs ++ List.replicate k (Value.int .u8 0)).length (xs ++ List.replicate k (Value.int .u8 0)) → w.grownBy w' v.ownBlock → wpList P ops Q rest (a.put o.dst v') w') : wpList P ops Q (o :: rest) a w := by
  obtain ⟨i, hi, hz1, hz2, hz3⟩ := info_parts hinfo
  obtain ⟨v', w', hr, h2, h3⟩ := run_append_own_zeros (P := P) w base t tn o.type e i kn ht htn hi hz1 hz2 hz3 v xs hown k hlen hbase
  exact Lib.wpList_append_run w hgd s x t tn ho v _ hs hx v' w' hr (h v' w' h2 h3)
end Go.Proofs.Ytpnckphfjcnooaa
/- law03.MacKeys, walked whole. -/
namespace Go.Proofs.Ytpnckphfjcnooaa
open Go Go.RowKit
theorem RdAll.twoA (w : World) (v1 v2 : Value) (l1 l2 : List (BitVec 8)) (t : Nat) (h1 : Rd w v1 (bv l1)) (h2 : Rd w v2 (bv l2)) : RdAll (w.alloc (.cells #[v1, v2] t)) (.slice (some ⟨w.heap.size, 0, none⟩) 2 2) [l1, l2] :=
  RdAll.two (heap_alloc_new w _) (h1.grow (Aft.alloc w _)) (h2.grow (Aft.alloc w _))
/-- An operation on two values, whose outcome is known. -/
theorem lf_bin {P : Program} {ops : Array Oper} {w0 : World} {Kd : Nat → Nat} {Q : Exit → Act → World → Prop} {n k : Nat} {o : Oper} {l : List Oper} {a : Act} {w : World} (hk : Kd k = 0) (hw : Region.wanted o (yielded ops a.tmps) = true)
    (op : BinOp) (t t2 : TypeId) (x y : Operand) (ho : o.op = .binOp op t x y t2) (vx vy v : Value) (hx : a.eval x = vx) (hy : a.eval y = vy) (hr : ∀ w1, (Go.binOp op t vx vy).run P w1 = .ok v w1) (hg : ∀ w1, (eqGuard op t x y vx vy).run P w1 = .ok () w1)
    (h : wpFx P ops w0 Kd Q n (k + 1) l (a.put o.dst v) w) : wpFx P ops w0 Kd Q (n + 1) k (o :: l) a w := by
  have hup := wpFx_up (P := P) (ops := ops) (w0 := w0) (Kd := Kd) (Q := Q) n (k + 1) l
  simp only [wpFx_succ, stepF, hw, if_true, hk]
  rw [if_neg (by omega)]
  refine ⟨none, fun _ => v, fun _ => rfl, fun w1 hw1 _ => .inl ?_, fun w1 g hw1 _ => hup _ _ _ hw1 h⟩
  unfold execOp
  simp only [ho, hx, hy, Sem.run_bind, hg, hr, Result.andThen_ok, Sem.run_pure]
end Go.Proofs.Ytpnckphfjcnooaa
/- mac.Expand's own function: the next bytes. -/
namespace Go.Proofs.Ytpnckphfjcnooaa
open Go Go.RowKit
theorem RdAll.three {w : World} {v1 v2 v3 : Value} {g : Nat} {t : TypeId} {fr : Nat × Nat} {l1 l2 l3 : List (BitVec 8)} (hg : w.heap[g]? = some (.cells #[v1, v2, v3] t fr)) (h1 : Rd w v1 (bv l1)) (h2 : Rd w v2 (bv l2)) (h3 : Rd w v3 (bv l3)) : RdAll w (.slice (some ⟨g, 0, none⟩) 3 3) [l1, l2, l3] := by
  refine ⟨[v1, v2, v3], ⟨some ⟨g, 0, none⟩, 3, rfl, Nat.le_refl _, by omega, (fun h => by cases h), fun ad ha j u hu => ?_⟩, rfl, fun i u hu => ?_⟩
  · cases ha
    match j with
    | 0 => cases hu; simp [World.cell?, hg, Addr.add]
    | 1 => cases hu; simp [World.cell?, hg, Addr.add]
    | 2 => cases hu; simp [World.cell?, hg, Addr.add]
    | j + 3 => simp at hu
  · match i with
    | 0 => cases hu; exact h1
    | 1 => cases hu; exact h2
    | 2 => cases hu; exact h3
    | i + 3 => simp at hu
theorem one_cell_at {w : World} {g t : Nat} {v : Value} (h : w.heap[g]? = some (.cells #[v] t (0, 0))) : w.cell? ⟨g, 0, none⟩ = some v ∧ w.frozen? ⟨g, 0, none⟩ = false :=
  ⟨by rw [cell_of_row w g 0 _ _ _ h]; rfl, frozen_of_row w g 0 _ _ h⟩
theorem one_cell_set {w : World} {g t : Nat} {v : Value} (u : Value) (h : w.heap[g]? = some (.cells #[v] t (0, 0))) : (w.setCell ⟨g, 0, none⟩ u).heap[g]? = some (.cells #[u] t (0, 0)) := by
  rw [heap_setCell_same w g 0 _ _ u h]
  rfl
end Go.Proofs.Ytpnckphfjcnooaa
/- mac.Expand: bytes of a key. -/
namespace Go.Proofs.Ytpnckphfjcnooaa
open Go Go.RowKit
theorem cut_whole {P : Program} {t e : TypeId} (ht : P.underlying t = some (.slice e)) {ao : Option Addr} {len cap n : Nat} (hn : n ≤ cap) (w : World) {i : TypeInfo} (hi : P.info? e = some i) :
    (Instr.slice t (.slice ao len cap) none (some (.int .i64 (n : Int))) (some (.int .i64 (n : Int)))).run P w = .ok (.slice ao n n) w := by
  have he : P.elem t = e := by simp [Program.elem, ht]
  rw [run_slice_hm w t ao len cap (by rw [he]; exact ht) .i64 .i64 (n : Int) (n : Int) (by omega) (by omega) (by omega), he, run_sizeOf w hi]
  simp only [Result.andThen, sliced, Int.toNat_natCast, Nat.zero_mul, Nat.sub_zero]
  cases ao <;> simp [Addr.add]
theorem Rd.whole {w : World} {ao : Option Addr} {cap len : Nat} {xs : List Value} (h : Rd w (.slice ao len cap) xs) {n : Nat} (hn : n ≤ xs.length) : Rd w (.slice ao n n) (xs.take n) := by
  obtain ⟨ao', cap', hv, h1, h2, h3, h4⟩ := h
  cases hv
  refine ⟨ao, n, by rw [List.length_take, Nat.min_eq_left hn], by rw [List.length_take]; omega, by omega, fun e => (by have := h3 e; omega), fun ad ha j u hu => h4 ad ha j u ?_⟩
  rw [List.getElem?_take] at hu
  split at hu
  · exact hu
  · cases hu
end Go.Proofs.Ytpnckphfjcnooaa
/- law03.MacPrefix, walked whole. -/
namespace Go.Proofs.Ytpnckphfjcnooaa
open Go Go.RowKit
end Go.Proofs.Ytpnckphfjcnooaa
/- A key as an argument, opened. -/
namespace Go.Proofs.Ytpnckphfjcnooaa
open Go Go.RowKit Go.ChangeShapes Go.WideShapes
set_option maxRecDepth 100000
end Go.Proofs.Ytpnckphfjcnooaa

