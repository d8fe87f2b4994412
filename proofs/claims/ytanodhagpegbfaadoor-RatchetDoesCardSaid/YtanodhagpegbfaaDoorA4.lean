import Derived.Test.YtanodhagpegbfaaDoorA3
import Derived.Laws.CopyOwn
/- law02.ShaRest, walked whole. -/
namespace Go.Proofs.YtanodhagpegbfaaDoor
open Go Go.RowKit
theorem bv_nilN : (bv ([] : List (BitVec 8))).length = 0 := rfl
theorem RdAll.blk {w : World} {v : Value} {g : Nat} {t : TypeId} {fr : Nat × Nat} {l : List (BitVec 8)} (hg : w.heap[g]? = some (.cells #[v] t fr)) (h : Rd w v (bv l)) : RdAll w (.slice (some ⟨g, 0, none⟩) 1 1) [l] := by
  refine ⟨[v], ⟨some ⟨g, 0, none⟩, 1, rfl, Nat.le_refl _, by omega, (fun h => by cases h), fun ad ha j u hu => ?_⟩, rfl, fun i u hu => ?_⟩
  · cases ha
    cases j with
    | zero => cases hu; simp [World.cell?, hg, Addr.add]
    | succ j => simp at hu
  · cases i with
    | zero => cases hu; exact h
    | succ i => simp at hu
end Go.Proofs.YtanodhagpegbfaaDoor
/- law02.ShaParts, walked whole. -/
namespace Go.Proofs.YtanodhagpegbfaaDoor
open Go Go.RowKit
section
variable {P : Program} {ops : Array Oper} {w0 : World} {Kd : Nat → Nat} {Q : Exit → Act → World → Prop} {n k : Nat} {o : Oper} {l : List Oper} {a : Act} {w : World}
theorem lf_load_row (hk : Kd k = 0) (hw : Region.wanted o (yielded ops a.tmps) = true) (ty : TypeId) (x : Operand) (ho : o.op = .load ty x)
    (g : Nat) (hx : a.eval x = .pointer (some ⟨g, 0, none⟩)) (t : TypeId) (cs : Array Value) (fr : Nat × Nat) (d : TypeDesc) (hg : w0.heap[g]? = some (.cells cs t fr))
    (hu : P.underlying ty = some d) (hd : (match d with | .struct _ | .array _ _ => true | _ => false) = true) (hi : (P.info? ty).map (·.size) = some cs.size)
    (h : wpFx P ops w0 Kd Q n (k + 1) l (a.put o.dst (.agg cs)) w) : wpFx P ops w0 Kd Q (n + 1) k (o :: l) a w := by
  have hup := wpFx_up (P := P) (ops := ops) (w0 := w0) (Kd := Kd) (Q := Q) n (k + 1) l
  simp only [wpFx_succ, stepF, hw, if_true, hk]
  rw [if_neg (by omega)]
  refine ⟨none, fun _ => .agg cs, fun _ => rfl, fun w1 hw1 _ => .inl ?_, fun w1 g hw1 _ => hup _ _ _ hw1 h⟩
  unfold execOp
  simp only [ho, hx, Instr.loadAt, Instr.sureAddr, Sem.run_bind, Sem.run_pure, Result.andThen_ok, run_loadVar_row w1 g t ty cs fr d (hw1.get hg) hu hd hi]
theorem wp_append_rd {K : Act → World → Prop} (s x : Operand) (t : TypeId)
    (ho : o.op = .call { callee := .builtin .append, args := #[s, x], argTypes := #[t, t] })
    (base : Nat) (e : TypeId) (z : Value) (bytes : Nat) (ht : P.underlying t = some (.slice e)) (hinfo : (P.info? e).map (fun i => (i.zero, i.size, i.bytes)) = some (some z, 1, bytes)) (hzs : z.cells.size = 1)
    (v vx : Value) (xs news : List Value) (hs : a.eval s = v) (hx : a.eval x = vx) (hown : w.ownsRow base e 1 v xs.length xs) (hrd : Rd w vx news) (h1 : ∀ u ∈ news, u.oneCell' = true)
    (hbytes : (xs.length + news.length) * bytes ≤ 140737488355328) (hlen : xs.length + news.length ≤ 140737488355328) (hbase : base ≤ w.heap.size)
    (h : ∀ v' w', w'.ownsRow base e 1 v' (xs ++ news).length (xs ++ news) → w.grownBy w' v.ownBlock → K (a.put o.dst v') w') : o.wp P a w K noOut :=
  wp_of_list (ops := #[]) (wpList_append_rd rfl s x t ho base e z bytes ht hinfo hzs v vx xs news hs hx hown hrd h1 hbytes hlen hbase fun v' w' k1 k2 _ => ⟨rfl, h v' w' k1 k2⟩)
end
theorem info_slice : (Tryd.prog.info? 24).map (fun i => (i.zero, i.size, i.bytes)) = some (some (.slice none 0 0), 1, 24) := by kernel_rfl
theorem RdAll.one_cell {w : World} {vs : List Value} {ps : List (List (BitVec 8))} (h : ∀ i v, vs[i]? = some v → Rd w v (bv (ps.getD i []))) : ∀ u ∈ vs, u.oneCell' = true := by
  intro u hu
  obtain ⟨i, hi⟩ := List.getElem?_of_mem hu
  obtain ⟨ao, cap, rfl, _⟩ := h i u hi
  rfl
theorem RdAll.join {w : World} {v : Value} {vs ws : List Value} {ps qs : List (List (BitVec 8))} (h : Rd w v (vs ++ ws)) (h1 : vs.length = ps.length) (h2 : ws.length = qs.length)
    (e1 : ∀ i v, vs[i]? = some v → Rd w v (bv (ps.getD i []))) (e2 : ∀ i v, ws[i]? = some v → Rd w v (bv (qs.getD i []))) : RdAll w v (ps ++ qs) := by
  refine ⟨vs ++ ws, h, by simp [h1, h2], fun i u hu => ?_⟩
  by_cases hi : i < vs.length
  · rw [List.getElem?_append_left hi] at hu
    have := e1 i u hu
    rw [List.getD_eq_getElem?_getD] at this ⊢
    rwa [List.getElem?_append_left (by omega)]
  · rw [List.getElem?_append_right (by omega)] at hu
    have := e2 _ u hu
    rw [List.getD_eq_getElem?_getD] at this ⊢
    rwa [List.getElem?_append_right (by omega), ← h1]
set_option maxRecDepth 100000 in
theorem wpList_store_keyX {ops : Array Oper} {rest : List Oper} {o : Oper} {a : Act} {w : World} {Q : Exit → Act → World → Prop} (hgd : o.guard = none) (x y : Operand) (ho : o.op = .store 23 x y)
    (g : Nat) (X : List (BitVec 8)) (hX : X.length = 32) (hx : a.eval x = .pointer (some ⟨g, 0, none⟩)) (hy : a.eval y = .agg (bv X).toArray)
    (hg : w.heap[g]? = some (.cells key0 23 (0, 0)))
    (h : ∀ w', Hid (w'.heap[g]? = some (.cells (bv X).toArray 23 (0, 0))) → (∀ k w0, k ≤ g → Below k w0 w → Below k w0 w') → wpList Tryd.prog ops Q rest (a.put o.dst undef) w') : wpList Tryd.prog ops Q (o :: rest) a w := by
  have hxl : (bv X).toArray.size = 32 := by rw [List.size_toArray, bv_length]; exact hX
  exact wpList_store_rowX hgd _ x y ho g (bv X).toArray hx hy _ key0 hg (by rw [hxl]; kernel_rfl) (by rw [hxl]; rfl) (Array.all_eq_true_iff_forall_mem.2 fun u hu => bv_one X u (by simpa using hu)) h
set_option maxRecDepth 100000 in
theorem run_eq_key (X Y : List (BitVec 8)) (hx : X.length = 32) (hy : Y.length = 32) (w : World) : (Op.equalIn 10000 23 (.agg (bv X).toArray) (.agg (bv Y).toArray)).run Tryd.prog w = .ok (decide (X = Y)) w := by
  have h := run_equalIn_ints (P := Tryd.prog) w 10000 9998 (by omega) 23 5 32 .u8 Tryd.underlying23 Tryd.underlying5 (by kernel_rfl) (X.map bn) (Y.map bn) (by simpa using hx) (by simpa using hy)
  have e : ∀ Z : List (BitVec 8), (bv Z) = (Z.map bn).map (Value.int .u8) := fun Z => by simp [bv]
  rw [e, e, h]
  congr 1
  by_cases hXY : X = Y
  · subst hXY; simp
  · simp only [hXY, decide_false, beq_eq_false_iff_ne]
    exact fun e => hXY (List.map_inj_right (fun x y e => bn_inj e) |>.1 e)
end Go.Proofs.YtanodhagpegbfaaDoor
/- mac.held: a key, held against a byte. -/
namespace Go.Proofs.YtanodhagpegbfaaDoor
open Go Go.RowKit
/-- A key of at most 64 bytes. -/
def key64 (K : Nat → BitVec 32) (k : List (BitVec 8)) : List (BitVec 8) := if k.length ≤ 64 then k else digest K k
def heldB (k : List (BitVec 8)) (b : BitVec 8) : List (BitVec 8) := (List.range 64).map fun j => k.getD j 0 ^^^ b
theorem heldB_length (k : List (BitVec 8)) (b : BitVec 8) : (heldB k b).length = 64 := by simp [heldB]
def heldRow (k : List (BitVec 8)) (b : BitVec 8) (i : Nat) (j : Nat) : Value := .int .u8 (bn (if j < i then k.getD j 0 ^^^ b else k.getD j 0))
theorem heldRow_at (k : List (BitVec 8)) (b : BitVec 8) (i : Nat) : heldRow k b i i = .int .u8 (bn (k.getD i 0)) := by unfold heldRow; rw [if_neg (by omega)]
theorem bn_xor (x y : BitVec 8) : bits .xor .u8 (bn x) (bn y) = bn (x ^^^ y) := by
  have e : ∀ x : BitVec 8, BitVec.ofInt 8 (bn x) = x := fun x => by
    apply BitVec.eq_of_toNat_eq
    have := x.isLt
    unfold bn
    rw [BitVec.toNat_ofInt]
    omega
  show IntKind.u8.wrap ((BitVec.ofInt 8 (bn x) ^^^ BitVec.ofInt 8 (bn y)).toNat : Int) = _
  rw [e, e]
  have := (x ^^^ y).isLt
  unfold bn
  rw [IntKind.wrap_u8]
  omega
theorem heldRow_step (k : List (BitVec 8)) (b : BitVec 8) (i : Nat) : ∀ j, j < 64 → (if j = i then Value.int .u8 (bn (k[i]?.getD 0 ^^^ b)) else heldRow k b i j) = heldRow k b (i + 1) j := by
  intro j _
  rw [← List.getD_eq_getElem?_getD]
  unfold heldRow
  by_cases h : j = i
  · subst h; rw [if_pos rfl, if_pos (by omega)]
  · rw [if_neg h]
    by_cases h2 : j < i
    · rw [if_pos h2, if_pos (by omega)]
    · rw [if_neg h2, if_neg (by omega)]
def zRow : Array Value := madeCells #[.int .u8 0] 64
theorem zRow_arr : zRow = (List.replicate 64 (Value.int .u8 0)).toArray := by
  have : zRow.toList = List.replicate 64 (.int .u8 0) := toList_madeCells_one _ 64
  rw [← this]
theorem held_start {w : World} {g t : Nat} (k : List (BitVec 8)) {b : BitVec 8} (hk : k.length ≤ 64) (h : w.heap[g]? = some (.cells (splice (List.replicate 64 (Value.int .u8 0)) 0 (bv k)).toArray t (0, 0))) : w.rowIs g t 64 (heldRow k b 0) := by
  refine ⟨_, h, ?_, fun i hi => ?_⟩
  · rw [List.size_toArray, length_splice _ _ _ (by simp [bv_length]; omega)]; simp
  · unfold heldRow
    rw [if_neg (by omega)]
    simp only [splice, List.take_zero, List.nil_append, Nat.zero_add, List.getElem?_toArray]
    by_cases h2 : i < k.length
    · rw [List.getElem?_append_left (by rw [bv_length]; exact h2)]
      simp [bv, List.getD, List.getElem?_eq_getElem h2]
    · rw [List.getElem?_append_right (by rw [bv_length]; omega)]
      rw [List.getElem?_drop, bv_length, List.getElem?_replicate_of_lt (by omega), List.getD, List.getElem?_eq_none (show k.length ≤ i by omega)]
      rfl
theorem held_end {wr : World} {g t : Nat} (k : List (BitVec 8)) (b : BitVec 8) {B : Nat} (hB : B ≤ g) (h : wr.rowIs g t 64 (heldRow k b 64)) : wr.ownsRow B t 1 (.slice (some ⟨g, 0, none⟩) 64 64) 64 (bv (heldB k b)) := by
  obtain ⟨cs, h1, h2, h3⟩ := h
  refine ⟨by rw [bv_length, heldB_length], .inr ⟨g, 64, cs, rfl, hB, h1, Nat.le_refl _, by decide, h2, ?_⟩⟩
  apply List.ext_getElem?
  intro i
  by_cases hi : i < 64
  · have h4 := h3 i hi
    rw [List.getElem?_take_of_lt (by omega), Array.getElem?_toList, h4]
    unfold heldRow
    rw [if_pos hi]
    simp [bv, heldB, hi]
  · rw [List.getElem?_eq_none (by rw [List.length_take]; omega), List.getElem?_eq_none (by rw [bv_length, heldB_length]; omega)]
theorem Rd.addr {w : World} {ao : Option Addr} {n cap : Nat} {xs : List Value} (h : Rd w (.slice ao n cap) xs) (hx : 0 < xs.length) : ∃ ad, ao = some ad ∧ ∀ j u, xs[j]? = some u → w.cell? (ad.add j) = some u := by
  obtain ⟨ao', cap', hv, h1, h2, h3, h4⟩ := h
  cases hv
  cases ao with
  | none => have := h3 rfl; omega
  | some ad => exact ⟨ad, rfl, fun j u hu => h4 ad rfl j u hu⟩
theorem aft_set {w wr : World} (h : Aft w wr) {p : Addr} (hp : w.heap.size ≤ p.block) (u : Value) : Aft w (wr.setCell p u) :=
  ⟨h.os, h.tape, h.output, by have := Below.size h; simpa [World.setCell] using this, fun k hk => (Below.heap_setCell _ _ _ _ (by omega)).trans (Below.block h k hk)⟩
theorem Rd.of_key {w : World} {g t : Nat} {X : List (BitVec 8)} (h : w.heap[g]? = some (.cells (bv X).toArray t (0, 0))) (hX : X.length = 32) : Rd w (.slice (some ⟨g, 0, none⟩) 32 32) (bv X) := by
  refine ⟨some ⟨g, 0, none⟩, 32, by rw [bv_length, hX], by rw [bv_length]; omega, by omega, (fun h => by cases h), fun ad ha j u hu => ?_⟩
  cases ha
  rw [Addr.add_lit]
  simp only [World.cell?, h, Nat.zero_add, List.getElem?_toArray]
  exact hu
attribute [local go_sem] bn_xor
set_option maxRecDepth 100000 in
set_option maxHeartbeats 1000000 in
theorem held_any (v : Value) (ks : List (BitVec 8)) (b : BitVec 8) (w : World) (hK : TabK K0 2 w) (hrd : Rd w v (bv ks)) (hlen : ks.length ≤ 1099511627776) :
    Calls Tryd.prog 78 #[v, .int .u8 (bn b)] w (RetSl 64 fun v' w' => w'.ownsRow w.heap.size 5 1 v' 64 (bv (heldB (key64 K0 ks) b)) ∧ Below w.heap.size w w') := by
  have HK := Lib.hid hK
  have HR := Lib.hid hrd
  obtain ⟨ao, cap, rfl, -, -, -, -⟩ := hrd
  clear hK
  by_cases hl : ks.length ≤ 64
  · have hl' : ¬ (64 : Int) < ((bv ks).length : Nat) := by rw [bv_length]; omega
    have hkey : key64 K0 ks = ks := if_pos hl
    rw [hkey]
    clear hkey
    go_enter Tryd.func78, Tryd.ntmps78
    have hlk : ks.length ≤ 64 := hl
    have hrk : Rd w (.slice ao (bv ks).length cap) (bv ks) := HR.out
    have hbk : Aft w w := Aft.refl _
    have hnk : (bv ks).length = (bv ks).length := rfl
    have HLk := Lib.hid hlk
    have HRk := Lib.hid hrk
    have HBk := Lib.hid hbk
    clear hlk hrk hbk
    obtain ⟨iB, hiB, hz1, hz2, hz3⟩ := info_parts info_byte
    have hmk : ∀ w, (Instr.makeSlice 24 (.int .i64 64) (.int .i64 64)).run Tryd.prog w = .ok (.slice (some ⟨w.heap.size, 0, none⟩) 64 64) (w.alloc (.cells zRow 5)) := fun w => by
      have := run_make (P := Tryd.prog) w 24 5 iB (.int .u8 0) Tryd.underlying24 hiB hz1 .i64 .i64 64 64 (by omega) (by omega) (by rw [hz3]; omega) (by omega)
      rw [this, hz2]; rfl
    clear hz1 hz2 hz3 hiB
    have HZ := Lib.hid (show (w.alloc (.cells zRow 5)).heap[w.heap.size]? = some (.cells (List.replicate 64 (Value.int .u8 0)).toArray 5 (0, 0)) by rw [heap_alloc_new, zRow_arr])
    have HKL := Lib.hid (bv_length ks)
    have HNk := Lib.hid hnk
    clear hnk
    have HBz := Lib.hid (show Below w.heap.size w (w.alloc (.cells zRow 5)) from Aft.alloc _ _)
    have HRz := Lib.hid (HRk.out.grow HBz.out)
    go_wp2_with ((refine wpList_copy_splice rfl (.tmp 16) (.tmp 17) 24 24 rfl 5 Tryd.underlying24 (by kernel_rfl) _ _ 64 64 (bv ks).length cap rfl rfl w.heap.size 0 (List.replicate 64 (Value.int .u8 0)) 5 HZ.out (bv ks) (by show _ = min _ _; have := HLk.out; have := HKL.out; have := HNk.out; omega) (fun h => ⟨rfl, HRz.out.addr h⟩) (by have := HLk.out; simp [bv_length]; omega) (bv_one _) w.heap.size w HBz.out (Nat.le_refl _) ?_; intro wm k1 k2; have hrow := held_start (b := b) ks HLk.out k1.out; have HBm := Lib.hid (Aft.trans HBk.out (show Aft w wm from k2)); have HRow := Lib.hid hrow; clear k1 k2 hrow))
    go_loopw [21] (fun v21 wr => ∃ i : Nat, i ≤ 64 ∧ v21 = .int .i64 i ∧ wr.rowIs w.heap.size 5 64 (heldRow ks b i) ∧ Aft w wr) (fun v _ => 64 - (intOf v).toNat)
    case atStart => exact ⟨0, by omega, rfl, HRow.out, HBm.out⟩
    case round =>
      obtain ⟨i, hi, rfl, hrow, hbw⟩ := hrel
      by_cases hlt : i < 64
      · have hlt' : (i : Int) < 64 := by omega
        have c0 := World.rowIs.cell hrow (i := i) hlt
        have fz := World.rowIs.frozen hrow i
        rw [heldRow_at] at c0
        go_wp2_with fail
        go_roundw
        case rel => exact ⟨i + 1, by omega, by go_num, (World.rowIs.set hrow i _).congr (heldRow_step ks b i), aft_set hbw (Below.size HBk.out) _⟩
        case measure => simp [intOf]; omega
      · obtain rfl : i = 64 := by omega
        have hlt' : ¬ ((64 : Nat) : Int) < 64 := by omega
        go_wp2_with fail
        go_ret
        exact ⟨_, _, rfl, held_end ks b (Below.size HBk.out) hrow, hbw⟩
  · have hl' : (64 : Int) < ((bv ks).length : Nat) := by rw [bv_length]; omega
    have hkey : key64 K0 ks = digest K0 ks := if_neg hl
    have hxl := digest_length K0 ks
    rw [hkey]
    generalize hX : digest K0 ks = X at hxl ⊢
    have HX := Lib.hid hX
    clear hkey hX
    go_enter Tryd.func78, Tryd.ntmps78
    go_wp2_with fail
    have hb1 : Aft w (w.alloc (.cells #[.slice ao (bv ks).length cap] 24)) := Aft.alloc _ _
    refine (sum_any K0 _ [ks] _ (TabK_fr HK.out (Fr.of_below (S := fun _ => False) hb1) (fun h => h)) (RdAll.one w _ ks _ HR.out) (by simp; omega)).mono ?_
    rintro e w3 ⟨rfl, hb3⟩
    rw [show ([ks] : List (List (BitVec 8))).flatten = ks by simp, HX.out]
    have HXL := Lib.hid hxl
    have HB3 := Lib.hid (show Below w.heap.size w w3 from Aft.trans hb1 hb3)
    have HS3 := Lib.hid (heap_alloc_new w3 (.cells key0 23))
    clear hxl hb1 hb3
    obtain ⟨iB, hiB, hz1, hz2, hz3⟩ := info_parts info_byte
    have hmk : ∀ w, (Instr.makeSlice 24 (.int .i64 64) (.int .i64 64)).run Tryd.prog w = .ok (.slice (some ⟨w.heap.size, 0, none⟩) 64 64) (w.alloc (.cells zRow 5)) := fun w => by
      have := run_make (P := Tryd.prog) w 24 5 iB (.int .u8 0) Tryd.underlying24 hiB hz1 .i64 .i64 64 64 (by omega) (by omega) (by rw [hz3]; omega) (by omega)
      rw [this, hz2]; rfl
    clear hz1 hz2 hz3 hiB
    have hlk : X.length ≤ 64 := by rw [HXL.out]; omega
    have hnk : (bv X).length = 32 := by rw [bv_length, HXL.out]
    have HLk := Lib.hid hlk
    have HKL := Lib.hid (bv_length X)
    have HNk := Lib.hid hnk
    clear hlk hnk
    go_wp2_with (first
      | (refine wpList_store_keyX rfl (.tmp 5) (.tmp 13) rfl w3.heap.size X HXL.out rfl rfl HS3.out ?_; intro wk q2 q3; have HBk := Lib.hid (show Aft w wk from q3 w.heap.size w HB3.out.size (HB3.out.alloc HB3.out.size _)); have HRk := Lib.hid (Rd.of_key q2.out HXL.out); have HZ := Lib.hid (show (wk.alloc (.cells zRow 5)).heap[wk.heap.size]? = some (.cells (List.replicate 64 (Value.int .u8 0)).toArray 5 (0, 0)) by rw [heap_alloc_new, zRow_arr]); have HBz := Lib.hid (show Below wk.heap.size wk (wk.alloc (.cells zRow 5)) from Aft.alloc _ _); have HRz := Lib.hid (HRk.out.grow HBz.out); clear q2 q3)
      | (refine wpList_copy_splice rfl (.tmp 16) (.tmp 17) 24 24 rfl 5 Tryd.underlying24 (by kernel_rfl) _ _ 64 64 32 32 rfl rfl wk.heap.size 0 (List.replicate 64 (Value.int .u8 0)) 5 HZ.out (bv X) (by show _ = min _ _; have := HLk.out; have := HKL.out; have := HNk.out; omega) (fun h => ⟨rfl, HRz.out.addr h⟩) (by have := HLk.out; simp [bv_length]; omega) (bv_one _) wk.heap.size wk HBz.out (Nat.le_refl _) ?_; intro wm k1 k2; have hrow := held_start (b := b) X HLk.out k1.out; have HBm := Lib.hid (Aft.trans HBk.out (show Aft wk wm from k2)); have HRow := Lib.hid hrow; clear k1 k2 hrow))
    go_loopw [21] (fun v21 wr => ∃ i : Nat, i ≤ 64 ∧ v21 = .int .i64 i ∧ wr.rowIs wk.heap.size 5 64 (heldRow X b i) ∧ Aft w wr) (fun v _ => 64 - (intOf v).toNat)
    case atStart => exact ⟨0, by omega, rfl, HRow.out, HBm.out⟩
    case round =>
      obtain ⟨i, hi, rfl, hrow, hbw⟩ := hrel
      by_cases hlt : i < 64
      · have hlt' : (i : Int) < 64 := by omega
        have c0 := World.rowIs.cell hrow (i := i) hlt
        have fz := World.rowIs.frozen hrow i
        rw [heldRow_at] at c0
        go_wp2_with fail
        go_roundw
        case rel => exact ⟨i + 1, by omega, by go_num, (World.rowIs.set hrow i _).congr (heldRow_step X b i), aft_set hbw (Below.size HBk.out) _⟩
        case measure => simp [intOf]; omega
      · obtain rfl : i = 64 := by omega
        have hlt' : ¬ ((64 : Nat) : Int) < 64 := by omega
        go_wp2_with fail
        go_ret
        exact ⟨_, _, rfl, held_end X b (Below.size HBk.out) hrow, hbw⟩
end Go.Proofs.YtanodhagpegbfaaDoor
/- mac.Mac: a sum with a key. -/
namespace Go.Proofs.YtanodhagpegbfaaDoor
open Go Go.RowKit
/-- A sum with a key. -/
def macOf (K : Nat → BitVec 32) (k d : List (BitVec 8)) : List (BitVec 8) := digest K (heldB (key64 K k) 92 ++ digest K (heldB (key64 K k) 54 ++ d))
theorem macOf_length (K : Nat → BitVec 32) (k d : List (BitVec 8)) : (macOf K k d).length = 32 := digest_length K _
theorem RdAll.two {w : World} {v1 v2 : Value} {g : Nat} {t : TypeId} {fr : Nat × Nat} {l1 l2 : List (BitVec 8)} (hg : w.heap[g]? = some (.cells #[v1, v2] t fr)) (h1 : Rd w v1 (bv l1)) (h2 : Rd w v2 (bv l2)) : RdAll w (.slice (some ⟨g, 0, none⟩) 2 2) [l1, l2] := by
  refine ⟨[v1, v2], ⟨some ⟨g, 0, none⟩, 2, rfl, Nat.le_refl _, by omega, (fun h => by cases h), fun ad ha j u hu => ?_⟩, rfl, fun i u hu => ?_⟩
  · cases ha
    match j with
    | 0 => cases hu; simp [World.cell?, hg, Addr.add]
    | 1 => cases hu; simp [World.cell?, hg, Addr.add]
    | j + 2 => simp at hu
  · match i with
    | 0 => cases hu; exact h1
    | 1 => cases hu; exact h2
    | i + 2 => simp at hu
theorem run_sliceAt_key (w : World) (b : Nat) : (Instr.sliceAt 23 (.pointer (some ⟨b, 0, none⟩)) none none none).run Tryd.prog w = .ok (.slice (some ⟨b, 0, none⟩) 32 32) w := by kernel_rfl
theorem b54 : (54 : Int) = bn 54 := by decide
theorem b92 : (92 : Int) = bn 92 := by decide
set_option maxRecDepth 100000 in
set_option maxHeartbeats 2000000 in
theorem mac_any (vk vp : Value) (k : List (BitVec 8)) (ps : List (List (BitVec 8))) (w : World) (hK : TabK K0 2 w) (hrk : Rd w vk (bv k)) (hrp : RdAll w vp ps)
    (hk : k.length ≤ 1099511627776) (hp : ps.length ≤ 1099511627776) (hd : ps.flatten.length ≤ 1000000000000) :
    Calls Tryd.prog 49 #[vk, vp] w fun e w' => e = .returned (.agg (bv (macOf K0 k ps.flatten)).toArray) ∧ Below w.heap.size w w' := by
  have HK := Lib.hid hK
  have HR := Lib.hid hrk
  have HP := Lib.hid hrp
  have HD := Lib.hid hd
  obtain ⟨aok, capk, rfl, -, -, -, -⟩ := hrk
  obtain ⟨aop, capp, rfl, -⟩ := hrp.shape
  clear hK hrp hd
  go_enter Tryd.func49, Tryd.ntmps49
  have hba : Aft w (w.alloc (.cells key0 23)) := Aft.alloc _ _
  have hh := held_any (.slice aok (bv k).length capk) k 54 (w.alloc (.cells key0 23)) (TabK_fr HK.out (Fr.of_below (S := fun _ => False) hba) (fun h => h)) (HR.out.grow hba) hk
  rw [← b54] at hh
  have HH := Lib.hid hh
  clear hh hba
  go_wp2_with fail
  refine HH.out.mono ?_
  rintro e w2 ⟨a2, c2, rfl, ho2, hb2⟩
  have HR4 := Lib.hid ((Below.block hb2 w.heap.size (by rw [World.size_alloc]; omega)).trans (heap_alloc_new w (.cells key0 23)))
  have HB2 := Lib.hid (show Aft w w2 from Aft.trans (Aft.alloc w _) hb2)
  have hRd2 := Rd.of_own ho2
  have hl2 := heldB_length (key64 K0 k) 54
  generalize hI : heldB (key64 K0 k) 54 = I at ho2 hRd2 hl2
  have HI := Lib.hid hI
  have HRd2 := Lib.hid (show Rd w2 (.slice a2 64 c2) (bv I) from hRd2)
  have HL2 := Lib.hid hl2
  have HOwn := Lib.hid (World.ownsRow_lit (base := w2.heap.size) (e := 24) (size := 1) w2 #[.slice a2 64 c2] 1 (Nat.le_refl _) (by decide) rfl)
  obtain ⟨vs, hv1, hv2, hv3⟩ := HP.out
  have HV1 := Lib.hid (hv1.grow (Aft.trans HB2.out (Aft.alloc w2 (.cells #[.slice a2 64 c2] 24))))
  have HV2 := Lib.hid hv2
  have HV3 := Lib.hid hv3
  have HPl := Lib.hid hp
  clear hI hRd2 hl2 ho2 hb2 hv1 hv2 hv3 hp
  go_wp2_with ((at_builtin; refine wpList_append_rd rfl _ _ 32 rfl w2.heap.size 24 (.slice none 0 0) 24 Tryd.underlying32 info_slice rfl (.slice (some ⟨w2.heap.size, 0, none⟩) 1 1) (.slice aop ps.length capp) [.slice a2 64 c2] vs rfl rfl HOwn.out HV1.out (RdAll.one_cell HV3.out) (by have := HPl.out; have := HV2.out; simp; omega) (by have := HPl.out; have := HV2.out; simp; omega) (by rw [World.size_alloc]; omega) ?_; intro v3 w3 k1 k2 k3; have hb3 := (show Below w2.heap.size w2 (w2.alloc (.cells #[.slice a2 64 c2] 24)) from Aft.alloc _ _).grown k2 (by rw [World.size_alloc]; omega) (fun g hg => by simp [Value.ownBlock] at hg; omega); have HB3 := Lib.hid (show Aft w2 w3 from hb3); have HW3 := Lib.hid (Aft.trans HB2.out hb3); have HALL := Lib.hid (RdAll.join (ps := [I]) (qs := ps) (Rd.of_own k1) rfl HV2.out (fun i v hv => (by cases i with | zero => cases hv; exact HRd2.out.grow hb3 | succ i => simp at hv)) (fun i v hv => (HV3.out i v hv).grow (Aft.trans HB2.out hb3))); clear k1 k2 k3 hb3))
  refine (sum_any K0 _ ([I] ++ ps) w3 (TabK_fr HK.out (Fr.of_below (S := fun _ => False) HW3.out) (fun h => h)) HALL.out (by have := HD.out; have := HL2.out; rw [show ([I] ++ ps).flatten = I ++ ps.flatten by simp, List.length_append]; omega)).mono ?_
  rintro e w4 ⟨rfl, hb4⟩
  rw [show ([I] ++ ps).flatten = I ++ ps.flatten by simp]
  generalize hJ : digest K0 (I ++ ps.flatten) = J
  have HJ := Lib.hid hJ
  have HJL := Lib.hid (show J.length = 32 by rw [← hJ]; exact digest_length K0 _)
  have HW4 := Lib.hid (show Below w.heap.size w w4 from Aft.trans HW3.out hb4)
  have HB4 := Lib.hid (Aft.trans HB3.out hb4)
  have HS4 := Lib.hid (heap_alloc_new w4 (.cells key0 23))
  clear hJ hb4
  go_wp2_with ((refine wpList_store_keyX rfl (.tmp 5) (.tmp 11) rfl w4.heap.size J HJL.out rfl rfl HS4.out ?_; intro w5 q2 q3; have HK5 := Lib.hid q2.out; have HW5 := Lib.hid (show Below w.heap.size w w5 from q3 w.heap.size w HW4.out.size (HW4.out.alloc HW4.out.size _)); have hs4 := Below.size HB4.out; have HB5 := Lib.hid (show Aft w2 w5 from q3 w2.heap.size w2 hs4 (Below.alloc HB4.out hs4 _)); clear q2 q3 hs4))
  have HR5 := Lib.hid ((Below.block HB5.out w.heap.size (heap_lt HR4.out)).trans HR4.out)
  have HKlen := Lib.hid hk
  have hal := fun wx : World => run_sliceAt_key wx w4.heap.size
  clear hk
  simp only [Act.put]
  refine wp_region_lexF (fun i => ([0, 2, 0, 1, 2] : List Nat).getD i 0) 5 (by kernel_rfl) (by kernel_rfl) ?_; intro wf hwf
  have HWf := Lib.hid (show Aft w5 wf by rw [hwf]; exact (Below.refl _ _).drew)
  have HBf := Lib.hid (show Below w.heap.size w wf by rw [hwf]; exact HW5.out.drew)
  clear hwf
  repeat (first | (refine lf_skip (by go_big_quiet_skip; exact wpQuiet_nil trivial) (by kernel_rfl) ?_; simp only [Act.put, List.setIfInBounds_toArray, List.set_cons_succ, List.set_cons_zero]) | (refine lf_quiet rfl (by go_big_quiet_want; exact quiet_false (by assumption)) (by kernel_rfl) rfl ?_; intro Kx hKx; go_big_quiet_op; go_big_quiet_on))
  refine lf_eff rfl (by go_big_quiet_want; exact quiet_false (by assumption)) (by kernel_rfl) ?_
  intro wg hg Kx hKx
  have HWg := Lib.hid (Aft.trans HWf.out hg)
  have HBg := Lib.hid (show Below w.heap.size w wg from Aft.trans HBf.out hg)
  have hh := held_any (.slice aok (bv k).length capk) k 92 wg (TabK_fr HK.out (Fr.of_below (S := fun _ => False) HBg.out) (fun h => h)) (HR.out.grow HBg.out) HKlen.out
  rw [← b92] at hh
  have HH2 := Lib.hid hh
  have hfg : Aft wf wg := hg
  clear hh hg
  go_wp2_with fail
  refine HH2.out.mono ?_
  rintro e w6 ⟨a6, c6, rfl, ho6, hb6⟩
  have hRd6 := Rd.of_own ho6
  have hl6 := heldB_length (key64 K0 k) 92
  generalize hO : heldB (key64 K0 k) 92 = O at ho6 hRd6 hl6
  have HO := Lib.hid hO
  have HRd6 := Lib.hid hRd6
  have HL6 := Lib.hid hl6
  have HB6 := Lib.hid (show Aft wf w6 from Aft.trans hfg hb6)
  go_wp2_with fail
  refine ⟨hb6, ?_⟩
  clear hO hRd6 hl6 ho6 hb6 hfg
  repeat (first | (refine lf_skip (by go_big_quiet_skip; exact wpQuiet_nil trivial) (by kernel_rfl) ?_; simp only [Act.put, List.setIfInBounds_toArray, List.set_cons_succ, List.set_cons_zero]) | (refine lf_quiet rfl (by go_big_quiet_want; exact quiet_false (by assumption)) (by kernel_rfl) rfl ?_; intro Kx hKx; go_big_quiet_op; go_big_quiet_on))
  refine lf_fresh (.cells #[.slice a6 64 c6, .slice (some ⟨w4.heap.size, 0, none⟩) 32 32] 24) (fun g => .slice (some ⟨g, 0, none⟩) 2 2) rfl (by kernel_rfl) (fun w1 => by kernel_rfl) ?_
  intro w7 g7 h71 h72 h73
  simp only [Act.put, List.setIfInBounds_toArray, List.set_cons_succ, List.set_cons_zero]
  have HB7 := Lib.hid (Aft.trans HB6.out h71)
  have HG7 := Lib.hid h73
  have HW67 := Lib.hid h71
  clear h71 h72 h73
  refine lf_eff rfl (by go_big_quiet_want; exact quiet_false (by assumption)) (by kernel_rfl) ?_
  intro w8 h8 Kx hKx
  have HB8 := Lib.hid (show Below w.heap.size w w8 from Aft.trans HBf.out (Aft.trans HB7.out h8))
  have hal2 := RdAll.two (h8.get HG7.out) (HRd6.out.grow (Aft.trans HW67.out h8)) (Rd.of_key (X := J) (t := 23) (Aft.get (Aft.trans HWf.out (Aft.trans HB7.out h8)) HK5.out) HJL.out)
  have hsum := sum_any K0 _ [O, J] w8 (TabK_fr HK.out (Fr.of_below (S := fun _ => False) HB8.out) (fun h => h)) hal2 (by have := HJL.out; have := HL6.out; simp; omega)
  rw [show ([O, J] : List (List (BitVec 8))).flatten = O ++ J by simp] at hsum
  generalize hX : digest K0 (O ++ J) = X at hsum
  have HX := Lib.hid hX
  have HXL := Lib.hid (show X.length = 32 by rw [← hX]; exact digest_length K0 _)
  have HSum := Lib.hid hsum
  have HA8 := Lib.hid h8
  clear hal2 hsum hX h8
  go_wp2_with fail
  refine HSum.out.mono ?_
  rintro e w9 ⟨rfl, hb9⟩
  have HW9 := Lib.hid (Aft.trans HWf.out (Aft.trans HB7.out (Aft.trans HA8.out hb9)))
  have HF9 := Lib.hid (show Aft wf w9 from Aft.trans HB7.out (Aft.trans HA8.out hb9))
  go_wp2_with fail
  refine ⟨hb9, ?_⟩
  clear hb9
  refine lf_done ?_
  intro wa ha
  have HWa := Lib.hid (Aft.trans HF9.out ha)
  have HS := Lib.hid (show wa.heap[w.heap.size]? = some (.cells key0 23 (0, 0)) from Aft.get (Aft.trans HWf.out HWa.out) HR5.out)
  have HBa := Lib.hid (show Below w.heap.size w wa from Aft.trans HBf.out HWa.out)
  clear ha
  go_wp2_with ((refine wpList_store_keyX rfl (.tmp 4) (.tmp 16) rfl w.heap.size X HXL.out rfl rfl HS.out ?_; intro wb q2 q3; have HKb := Lib.hid q2.out; have HBb := Lib.hid (q3 w.heap.size w (Nat.le_refl _) HBa.out); clear q2 q3))
  have hsz8 : (Tryd.prog.info? 23).map (·.size) = some (bv X).toArray.size := by rw [List.size_toArray, bv_length, HXL.out]; kernel_rfl
  refine bodyPost_ret (results_cell_row rfl _ _ w.heap.size 23 (bv X).toArray (0, 0) _ rfl HKb.out Tryd.underlying23 rfl hsz8) rfl ?_
  refine ⟨?_, HBb.out⟩
  rw [← HX.out]
  unfold macOf
  rw [HO.out, HI.out, HJ.out]
end Go.Proofs.YtanodhagpegbfaaDoor
/- law03.live: the chapter's example. -/
namespace Go.Proofs.YtanodhagpegbfaaDoor
open Go Go.RowKit
def msgA : List (BitVec 8) := [84, 104, 101, 32, 113, 117, 105, 99, 107, 32, 98, 114, 111, 119, 110, 32, 102, 111, 120, 32]
def msgB : List (BitVec 8) := [106, 117, 109, 112, 115, 32, 111, 118, 101, 114, 32, 116, 104, 101, 32, 108, 97, 122, 121, 32, 100, 111, 103]
def msgK : List (BitVec 8) := [107, 101, 121]
set_option maxRecDepth 100000 in
theorem mac_live : (macOf K0 msgK (msgA ++ msgB)).take 4 = [0xf7, 0xbc, 0x83, 0xf4] := by decide +kernel
theorem take4_cells {X : List (BitVec 8)} {a b c e : BitVec 8} (h : X.take 4 = [a, b, c, e]) :
    (bv X).toArray[0]? = some (.int .u8 (bn a)) ∧ (bv X).toArray[1]? = some (.int .u8 (bn b)) ∧ (bv X).toArray[2]? = some (.int .u8 (bn c)) ∧ (bv X).toArray[3]? = some (.int .u8 (bn e)) := by
  match X, h with
  | x0 :: x1 :: x2 :: x3 :: xs, h =>
    simp only [List.take_succ_cons, List.take_zero, List.cons.injEq, and_true] at h
    obtain ⟨rfl, rfl, rfl, rfl⟩ := h
    exact ⟨rfl, rfl, rfl, rfl⟩
def live3W (w : World) : World := (((w.alloc (.cells (bv msgK).toArray 5 (3, 4))).alloc (.cells (bv msgA).toArray 5 (20, 21))).alloc (.cells (bv msgB).toArray 5 (23, 24))).alloc (.cells #[.slice (some ⟨w.heap.size + 1, 0, none⟩) 20 20, .slice (some ⟨w.heap.size + 2, 0, none⟩) 23 23] 24)
theorem live3_start (w : World) : Rd (live3W w) (.slice (some ⟨w.heap.size, 0, none⟩) 3 3) (bv msgK) ∧ RdAll (live3W w) (.slice (some ⟨w.heap.size + 1 + 1 + 1, 0, none⟩) 2 2) [msgA, msgB] ∧ Aft w (live3W w) := by
  have h1 := Rd.litF w (bv msgK) 5 (3, 4) (by decide)
  have h2 := Rd.litF (w.alloc (.cells (bv msgK).toArray 5 (3, 4))) (bv msgA) 5 (20, 21) (by decide)
  have h3 := Rd.litF ((w.alloc (.cells (bv msgK).toArray 5 (3, 4))).alloc (.cells (bv msgA).toArray 5 (20, 21))) (bv msgB) 5 (23, 24) (by decide)
  simp only [World.size_alloc, Nat.add_assoc, Nat.reduceAdd] at h2 h3
  have g4 : (live3W w).heap[w.heap.size + 1 + 1 + 1]? = some (.cells #[.slice (some ⟨w.heap.size + 1, 0, none⟩) 20 20, .slice (some ⟨w.heap.size + 2, 0, none⟩) 23 23] 24 (0, 0)) := by
    have := heap_alloc_new (((w.alloc (.cells (bv msgK).toArray 5 (3, 4))).alloc (.cells (bv msgA).toArray 5 (20, 21))).alloc (.cells (bv msgB).toArray 5 (23, 24))) (.cells #[.slice (some ⟨w.heap.size + 1, 0, none⟩) 20 20, .slice (some ⟨w.heap.size + 2, 0, none⟩) 23 23] 24)
    rw [World.size_alloc, World.size_alloc, World.size_alloc] at this
    exact this
  have a1 := Aft.alloc w (.cells (bv msgK).toArray 5 (3, 4))
  have a2 := Aft.alloc (w.alloc (.cells (bv msgK).toArray 5 (3, 4))) (.cells (bv msgA).toArray 5 (20, 21))
  have a3 := Aft.alloc ((w.alloc (.cells (bv msgK).toArray 5 (3, 4))).alloc (.cells (bv msgA).toArray 5 (20, 21))) (.cells (bv msgB).toArray 5 (23, 24))
  have a4 := Aft.alloc (((w.alloc (.cells (bv msgK).toArray 5 (3, 4))).alloc (.cells (bv msgA).toArray 5 (20, 21))).alloc (.cells (bv msgB).toArray 5 (23, 24))) (.cells #[.slice (some ⟨w.heap.size + 1, 0, none⟩) 20 20, .slice (some ⟨w.heap.size + 2, 0, none⟩) 23 23] 24)
  exact ⟨h1.grow (Aft.trans a2 (Aft.trans a3 a4)), RdAll.two g4 (h2.grow (Aft.trans a3 a4)) (h3.grow a4), Aft.trans a1 (Aft.trans a2 (Aft.trans a3 a4))⟩
set_option maxRecDepth 100000 in
set_option maxHeartbeats 1000000 in
theorem live3_any (w : World) (hK : TabK K0 2 w) : Calls Tryd.prog 18 #[] w fun e w' => e = .returned (.bool true) ∧ Below w.heap.size w w' := by
  have HK := Lib.hid hK
  clear hK
  have hcv := fun (w : World) (C : Array Value) (n c : Nat) => Lib.run_convert_bytes_const (P := Tryd.prog) w 24 5 C n c Tryd.underlying24 Tryd.underlying5
  have hcv2 := fun (w : World) (o : Obj) (C : Array Value) (n c : Nat) => hcv (w.alloc o) C n c
  have hcv3 := fun (w : World) (o1 o2 : Obj) (C : Array Value) (n c : Nat) => hcv ((w.alloc o1).alloc o2) C n c
  simp only [World.size_alloc, Nat.add_assoc, Nat.reduceAdd] at hcv2 hcv3
  go_enter Tryd.func18, Tryd.ntmps18
  go_wp2_with fail
  obtain ⟨s1, s2, s3⟩ := live3_start w
  refine (mac_any _ _ msgK [msgA, msgB] (live3W w) (TabK_fr HK.out (Fr.of_below (S := fun _ => False) s3) (fun h => h)) s1 s2 (by decide) (by decide) (by decide)).mono ?_
  rintro e w3 ⟨rfl, hb3⟩
  rw [show ([msgA, msgB] : List (List (BitVec 8))).flatten = msgA ++ msgB from rfl]
  have hc := take4_cells mac_live
  have hl := macOf_length K0 msgK (msgA ++ msgB)
  generalize macOf K0 msgK (msgA ++ msgB) = Y at hc hl ⊢
  have HL := Lib.hid hl
  have HC := Lib.hid hc
  have HB3 := Lib.hid (show Below w.heap.size w w3 from Aft.trans s3 hb3)
  have HS3 := Lib.hid (heap_alloc_new w3 (.cells key0 23))
  clear hc hl s1 s2 s3 hb3 hcv hcv2 hcv3
  go_wp2_with ((refine wpList_store_keyX rfl (.tmp 1) (.tmp 9) rfl w3.heap.size Y HL.out rfl rfl HS3.out ?_; intro w4 q2 q3; have h14 := row_cells q2.out HC.out; have HB4 := Lib.hid (q3 w.heap.size w HB3.out.size (HB3.out.alloc HB3.out.size _)); clear q3; obtain ⟨c0, c1, c2, c3⟩ := h14))
  go_ret
  exact ⟨rfl, HB4.out⟩
end Go.Proofs.YtanodhagpegbfaaDoor
/- mac.Equal. -/
namespace Go.Proofs.YtanodhagpegbfaaDoor
open Go Go.RowKit
theorem bn_or (x y : BitVec 8) : bits .or .u8 (bn x) (bn y) = bn (x ||| y) := by
  have e : ∀ x : BitVec 8, BitVec.ofInt 8 (bn x) = x := fun x => by
    apply BitVec.eq_of_toNat_eq
    have := x.isLt
    unfold bn
    rw [BitVec.toNat_ofInt]
    omega
  show IntKind.u8.wrap ((BitVec.ofInt 8 (bn x) ||| BitVec.ofInt 8 (bn y)).toNat : Int) = _
  rw [e, e]
  have := (x ||| y).isLt
  unfold bn
  rw [IntKind.wrap_u8]
  omega
theorem Rd.cell_at {w : World} {g o n cap : Nat} {xs : List (BitVec 8)} (h : Rd w (.slice (some ⟨g, o, none⟩) n cap) (bv xs)) {i : Nat} (hi : i < xs.length) : w.cell? ⟨g, o + i, none⟩ = some (.int .u8 (bn (xs.getD i 0))) := by
  obtain ⟨ao', cap', hv, h1, h2, h3, h4⟩ := h
  cases hv
  have := h4 _ rfl i (.int .u8 (bn (xs.getD i 0))) (by simp [bv, List.getD, List.getElem?_eq_getElem hi])
  rwa [Addr.add_lit] at this
theorem Rd.some_of {w : World} {ao : Option Addr} {n cap : Nat} {xs : List Value} (h : Rd w (.slice ao n cap) xs) (hx : 0 < xs.length) : ∃ g o, ao = some ⟨g, o, none⟩ ∧ n = xs.length ∧ xs.length ≤ cap := by
  have hs := h.sl
  obtain ⟨g, o, cap', hv, _⟩ := h.at hx
  cases hv
  exact ⟨g, o, rfl, rfl, hs.2.1⟩
attribute [local go_sem] bn_xor bn_or
end Go.Proofs.YtanodhagpegbfaaDoor

