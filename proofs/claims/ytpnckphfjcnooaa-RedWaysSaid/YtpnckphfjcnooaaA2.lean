import Derived.Test.YtpnckphfjcnooaaA1
import Derived.Laws.CopyOwn
import Derived.Laws.BytesString
namespace Go.Proofs.Ytpnckphfjcnooaa
open Go Go.RowKit
theorem run_sliceAt_low {P : Program} {t n e : Nat} (ht : P.underlying t = some (.array n e)) (hs : (P.info? e).map (·.size) = some 1) (b l : Nat) (hl : l < n) (x : Int) (hx : x = (l : Int)) (w : World) :
    (Instr.sliceAt t (.pointer (some ⟨b, 0, none⟩)) (some (.int .i64 x)) none none).run P w = .ok (.slice (some ⟨b, l, none⟩) (n - l) (n - l)) w := by
  subst hx
  obtain ⟨i0, hi0, hz⟩ := Option.map_eq_some_iff.1 hs
  have hn : P.arrayLen t = n := by simp [Program.arrayLen, ht]
  have he : P.elem t = e := by simp [Program.elem, ht]
  have ht' : P.underlying t = some (.array (P.arrayLen t) (P.elem t)) := by rw [hn, he]; exact ht
  rw [run_sliceAt_array_l w t _ ht' .i64 (l : Int) (by omega) (by rw [hn]; omega), he, hn]
  have : ¬ n = l := by omega
  have hc : P.cellsOf e = 1 := by simp [Program.cellsOf, hi0, hz]
  simp [run_sizeOf w hi0, slicedAt, hc, this, Addr.add]
  intro h0; exact h0.symm
theorem Rd.lit (w : World) (cs : Array Value) (t n : Nat) (hn : cs.size = n) (hm : n ≤ maxLen) : Rd (w.alloc (.cells cs t)) (.slice (some ⟨w.heap.size, 0, none⟩) n n) cs.toList :=
  Rd.of_own (World.ownsRow_lit (base := 0) w cs n (Nat.zero_le _) hm (by omega))
end Go.Proofs.Ytpnckphfjcnooaa
/- Arrays of integers: '==' of two of them; a field of a struct's value. Of whatever program. -/
namespace Go.Proofs.Ytpnckphfjcnooaa
open Go Go.RowKit
theorem all_range_ints : ∀ (xs ys : List Int), xs.length = ys.length → ((List.range xs.length).all fun i => xs.getD i 0 == ys.getD i 0) = (xs == ys)
  | [], [], _ => rfl
  | x :: xs, y :: ys, h => by
    have ih := all_range_ints xs ys (by simpa using h)
    rw [List.length_cons, List.range_succ_eq_map, List.all_cons, List.all_map]
    simp only [List.getD_cons_zero, Function.comp_def, List.getD_cons_succ, ih]
    simp [List.cons_beq_cons]
  | [], _ :: _, h => by simp at h
  | _ :: _, [], h => by simp at h
theorem run_equalIn_ints {P : Program} (w : World) (D d : Nat) (hD : D = d + 2) (t e n : Nat) (k : IntKind) (ht : P.underlying t = some (.array n e)) (he : P.underlying e = some (.int k)) (hs : (P.info? e).map (·.size) = some 1)
    (xs ys : List Int) (hx : xs.length = n) (hy : ys.length = n) :
    (Op.equalIn D t (.agg (xs.map (.int k)).toArray) (.agg (ys.map (.int k)).toArray)).run P w = .ok (xs == ys) w := by
  subst hD
  obtain ⟨i0, hi0, hz⟩ := Option.map_eq_some_iff.1 hs
  have hc : P.cellsOf e = 1 := by simp [Program.cellsOf, hi0, hz]
  have hsz : ∀ w, (sizeOf e).run P w = .ok 1 w := fun w => by rw [run_sizeOf w hi0, hc]
  rw [← all_range_ints xs ys (hx.trans hy.symm), hx, List.range_eq_range', Op.equalIn]
  simp only [Sem.run_bind, run_underlying ht, Result.andThen_ok, hsz, Std.Legacy.Range.forIn_eq_forIn_range', Std.Legacy.Range.size, Nat.sub_zero, Nat.add_sub_cancel, Nat.div_one]
  have hl : ∀ i ∈ List.range' 0 n 1, i < n := fun i hi => by simpa using (List.mem_range'_1.1 hi).2
  generalize List.range' 0 n 1 = l at hl ⊢
  induction l with
  | nil => simp
  | cons i l ih =>
    have hi : i < n := hl i (by simp)
    have px : (part e (xs.map (.int k)).toArray (i * 1)).run P w = .ok (.int k (xs.getD i 0)) w := by
      simp [part, isAgg, run_underlying he, List.getD, List.getElem?_eq_getElem (show i < xs.length by omega)]
    have py : (part e (ys.map (.int k)).toArray (i * 1)).run P w = .ok (.int k (ys.getD i 0)) w := by
      simp [part, isAgg, run_underlying he, List.getD, List.getElem?_eq_getElem (show i < ys.length by omega)]
    have pe : (Op.equalIn (d + 1) e (.int k (xs.getD i 0)) (.int k (ys.getD i 0))).run P w = .ok (xs.getD i 0 == ys.getD i 0) w := run_equalIn_int w d e k k _ _ he
    simp only [List.forIn_cons, Sem.run_bind, px, py, pe, Result.andThen_ok, List.all_cons]
    cases hb : (xs.getD i 0 == ys.getD i 0)
    · simp
    · simp only [Bool.not_true, Bool.false_eq_true, if_false, Sem.run_pure, Result.andThen_ok, Bool.true_and]
      exact ih fun j hj => hl j (by simp [hj])
end Go.Proofs.Ytpnckphfjcnooaa
namespace Go.Proofs.Ytpnckphfjcnooaa
open Go Go.RowKit
deriving instance DecidableEq for St
end Go.Proofs.Ytpnckphfjcnooaa
/- A sum in progress, of any bytes: what it is behind more bytes. Lists of byte slices. No program here. -/
namespace Go.Proofs.Ytpnckphfjcnooaa
open Go Go.RowKit
/-- A slice of byte slices reads as a list of lists. -/
def RdAll (w : World) (v : Value) (ps : List (List (BitVec 8))) : Prop := ∃ vs, Rd w v vs ∧ vs.length = ps.length ∧ ∀ i v, vs[i]? = some v → Rd w v (bv (ps.getD i []))
theorem RdAll.fr {w w' : World} {v : Value} {ps : List (List (BitVec 8))} (h : RdAll w v ps) {S : Nat → Prop} (hf : Fr S w w') (hn : ∀ k, k < w.heap.size → ¬ S k) : RdAll w' v ps := by
  obtain ⟨vs, h1, h2, h3⟩ := h
  exact ⟨vs, h1.fr hf (fun g hg hx => hn g (h1.lt hg hx)), h2, fun i v hv => (h3 i v hv).fr hf (fun g hg hx => hn g ((h3 i v hv).lt hg hx))⟩
theorem RdAll.below {w w' : World} {v : Value} {ps : List (List (BitVec 8))} (h : RdAll w v ps) (hb : Below w.heap.size w w') : RdAll w' v ps := h.fr (Fr.of_below (S := fun _ => False) hb) (fun _ _ h => h)
theorem RdAll.shape {w : World} {v : Value} {ps : List (List (BitVec 8))} (h : RdAll w v ps) : ∃ ao cap, v = .slice ao ps.length cap ∧ ps.length ≤ 9223372036854775807 := by
  obtain ⟨vs, ⟨ao, cap, rfl, r1, r2, r3, r4⟩, h2, h3⟩ := h
  exact ⟨ao, cap, by rw [h2], by omega⟩
theorem RdAll.cell {w : World} {v : Value} {ps : List (List (BitVec 8))} (h : RdAll w v ps) {i : Nat} (hi : i < ps.length) : ∃ g o cap u, v = .slice (some ⟨g, o, none⟩) ps.length cap ∧ w.cell? ⟨g, o + i, none⟩ = some u ∧ Rd w u (bv (ps.getD i [])) := by
  obtain ⟨vs, h1, h2, h3⟩ := h
  obtain ⟨g, o, cap, rfl, r1, r2, r3, r4⟩ := h1.at (by omega)
  have hv : vs[i]? = some (vs[i]'(by omega)) := List.getElem?_eq_getElem (by omega)
  exact ⟨g, o, cap, _, by rw [h2], r4 i _ hv, h3 i _ hv⟩
end Go.Proofs.Ytpnckphfjcnooaa
namespace Go.Proofs.Ytpnckphfjcnooaa
open Go Go.RowKit
theorem RdAll.elem_lt {w wr : World} {ao : Option Addr} {n cap : Nat} {ps : List (List (BitVec 8))} (h : RdAll w (.slice ao n cap) ps) (hb : Below w.heap.size w wr) {i g o : Nat} (hi : i < ps.length) {u : Value} (hao : ao = some ⟨g, o, none⟩) (hc : wr.cell? ⟨g, o + i, none⟩ = some u) :
    ∀ g, u.ownBlock = some g → bv (ps.getD i []) ≠ [] → g < w.heap.size := by
  obtain ⟨g', o', cap', u', hv, hc', hu'⟩ := h.cell hi
  subst hao
  cases hv
  have := hb.cell (p := ⟨g, o + i, none⟩) (World.block_lt_of_cell? w _ hc')
  rw [hc, hc'] at this
  cases this
  exact fun g hg hx => hu'.lt hg hx
end Go.Proofs.Ytpnckphfjcnooaa
namespace Go.Proofs.Ytpnckphfjcnooaa
open Go Go.RowKit
theorem wpList_store_rowX {P : Program} {ops : Array Oper} {rest : List Oper} {o : Oper} {a : Act} {w : World} {Q : Exit → Act → World → Prop} (hgd : o.guard = none) (ty : TypeId) (x y : Operand) (ho : o.op = .store ty x y)
    (g : Nat) (cells : Array Value) (hx : a.eval x = .pointer (some ⟨g, 0, none⟩)) (hy : a.eval y = .agg cells)
    (t : TypeId) (old : Array Value) (hg : w.heap[g]? = some (.cells old t (0, 0))) (hi : (P.info? ty).map (·.size) = some cells.size)
    (hold : old.size = cells.size) (h1 : cells.all (·.oneCell') = true)
    (h : ∀ w', Hid (w'.heap[g]? = some (.cells cells t (0, 0))) → (∀ k w0, k ≤ g → Below k w0 w → Below k w0 w') → wpList P ops Q rest (a.put o.dst undef) w') : wpList P ops Q (o :: rest) a w :=
  wpList_store_row hgd ty x y ho g cells hx hy t old hg hi hold h1 (h _ (show _ = _ from setRow_heap _ _ _ _ _ _ hg) fun _ _ hk hb => below_setRow hb hk _)
theorem results_cell_tmp {P : Program} {fn : Func} {p q : Tmp} {ty : TypeId} (h : fn.results = #[.cell p ty, .tmp q]) (tmps : Array Value) (w : World) (g : Nat) (t : TypeId) (cs : Array Value) (fr : Nat × Nat) (d : TypeDesc)
    (hp : tmps.getD p undef = .pointer (some ⟨g, 0, none⟩)) (hg : w.heap[g]? = some (.cells cs t fr))
    (hu : P.underlying ty = some d) (hd : (match d with | .struct _ | .array _ _ => true | _ => false) = true) (hi : (P.info? ty).map (·.size) = some cs.size) :
    (results fn tmps).run P w = .ok (.tuple #[.agg cs, tmps.getD q undef]) w := by
  have hp' : tmps[p]?.getD undef = .pointer (some ⟨g, 0, none⟩) := by simpa using hp
  simp [results, h, hp', asAddr, run_loadVar_row w g t ty cs fr d hg hu hd hi]
end Go.Proofs.Ytpnckphfjcnooaa
namespace Go.Proofs.Ytpnckphfjcnooaa
open Go Go.RowKit
end Go.Proofs.Ytpnckphfjcnooaa
namespace Go.Proofs.Ytpnckphfjcnooaa
open Go Go.RowKit
/-- The bytes as a string. -/
def bstr (xs : List (BitVec 8)) : ByteArray := ⟨(xs.map UInt8.ofBitVec).toArray⟩
theorem push_bytes : ∀ (xs : List (BitVec 8)) (s : List UInt8), (xs.map bn).foldl (fun (r : ByteArray) n => r.push (UInt8.ofNat n.toNat)) ⟨s.toArray⟩ = ⟨(s ++ xs.map UInt8.ofBitVec).toArray⟩
  | [], s => by simp
  | x :: xs, s => by
    have e : (ByteArray.push ⟨s.toArray⟩ (UInt8.ofNat (bn x).toNat)) = ⟨(s ++ [UInt8.ofBitVec x]).toArray⟩ := by
      have : UInt8.ofNat (bn x).toNat = UInt8.ofBitVec x := by
        unfold bn
        apply UInt8.toNat_inj.1
        simp
      rw [this]
      simp [ByteArray.push]
    rw [List.map_cons, List.foldl_cons, e, push_bytes xs]
    simp
theorem run_str {P : Program} {src dst e : Nat} (hs : P.underlying src = some (.slice e)) (he : P.underlying e = some (.int .u8)) (hd : P.underlying dst = some .string) {w : World} {v : Value} {xs : List (BitVec 8)} (h : Rd w v (bv xs)) :
    (convert src dst v).run P w = .ok (.string (bstr xs)) w := by
  obtain ⟨ao, cap, rfl, h1, h2, h3, h4⟩ := h
  rw [run_convert_bytes_string w src dst e _ _ _ hs he hd]
  cases ao with
  | none =>
    have hc := h3 rfl
    have : xs = [] := List.eq_nil_of_length_eq_zero (by rw [bv_length] at h1; omega)
    subst this
    simp [Conv.bytesToString, bstr]
    rfl
  | some ad =>
    have hl := run_loadCells_list (P := P) w ad (bv xs) (h4 ad rfl)
    have hm : bv xs = (xs.map bn).map (Value.int .u8) := by simp [bv]
    rw [run_bytesToString w ad (bv xs).length cap (xs.map bn) (by rw [← hm]; exact hl)]
    have := push_bytes xs []
    simp only [List.nil_append] at this
    rw [show (ByteArray.empty) = ⟨([] : List UInt8).toArray⟩ from rfl, this]
    rfl
end Go.Proofs.Ytpnckphfjcnooaa

