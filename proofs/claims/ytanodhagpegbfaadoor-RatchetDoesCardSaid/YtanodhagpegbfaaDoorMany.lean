/- draw.Many: a list of keys, drawn one behind the other. -/
import Derived.Test.YtanodhagpegbfaaDoorKeys
import Derived.Test.YtanodhagpegbfaaDoorDraw3
namespace Go.Proofs.YtanodhagpegbfaaDoor
open Go Go.RowKit
set_option linter.unusedSimpArgs false
/-- A slice of keys of its own: its row stands from base on. -/
def OwnK (w : World) (base : Nat) (v : Value) (ks : List (List (BitVec 8))) : Prop := (∀ k ∈ ks, k.length = 32) ∧ w.ownsRow base 23 32 v ks.length (ksL ks)
theorem OwnK.nil (w : World) (base : Nat) : OwnK w base (.slice none 0 0) [] := ⟨fun _ h => (by simp at h), World.ownsRow_nil w base _ 32⟩
theorem OwnK.lt {w : World} {base : Nat} {v : Value} {ks : List (List (BitVec 8))} (h : OwnK w base v ks) : ∀ g, v.ownBlock = some g → base ≤ g ∧ g < w.heap.size := h.2.lt
theorem OwnK.keep {w w' : World} {base : Nat} {v : Value} {ks : List (List (BitVec 8))} (h : OwnK w base v ks) (hk : ∀ g, v.ownBlock = some g → w'.heap[g]? = w.heap[g]?) : OwnK w' base v ks := by
  refine ⟨h.1, h.2.1, ?_⟩
  rcases h.2.2 with hn | ⟨g, cap, cur, rfl, hb, hg, hr⟩
  · exact .inl hn
  · exact .inr ⟨g, cap, cur, rfl, hb, (hk g rfl).trans hg, hr⟩
theorem OwnK.aft {w w' : World} {base : Nat} {v : Value} {ks : List (List (BitVec 8))} (h : OwnK w base v ks) (ha : Aft w w') : OwnK w' base v ks := h.keep fun g hg => ha.block g (h.lt g hg).2
theorem OwnK.mono {w : World} {base base' : Nat} {v : Value} {ks : List (List (BitVec 8))} (h : OwnK w base v ks) (hb : base' ≤ base) : OwnK w base' v ks := ⟨h.1, ownsRow_mono h.2 hb⟩
theorem OwnK.rd {w : World} {base : Nat} {v : Value} {ks : List (List (BitVec 8))} (h : OwnK w base v ks) : RdK w v ks := by
  rcases h.2.2 with ⟨rfl, hn⟩ | ⟨g, cap, cur, rfl, hb, hg, hn, hm, hc, ht⟩
  · have : ks = [] := List.eq_nil_of_length_eq_zero hn
    subst this
    exact RdK.nil w
  · refine ⟨some ⟨g, 0, none⟩, cap, rfl, hn, by simpa [maxLen] using hm, (fun h => by cases h), h.1, fun ad ha i hi => ?_⟩
    cases ha
    have hk : (ks.getD i []).length = 32 := by
      rw [List.getD_eq_getElem?_getD, List.getElem?_eq_getElem hi]
      exact h.1 _ (List.getElem_mem hi)
    refine ⟨_, 32, by rw [bv_length, hk], by rw [bv_length, hk]; exact Nat.le_refl _, by omega, (fun h => by cases h), fun ad ha j u hu => ?_⟩
    cases ha
    have hj : j < 32 := by
      have := (List.getElem?_eq_some_iff.1 hu).1
      rwa [bv_length, hk] at this
    rw [Deep.add_add]
    exact h.2.cells rfl _ u ((ksL_at h.1 i j hi hj).trans hu)
theorem info_keyE : (Tryd.prog.info? 23).map (fun i => (i.zero, i.size, i.bytes)) = some (some (.agg key0), 32, 32) := by kernel_rfl
theorem wp_append_key {o : Oper} {a : Act} {w : World} {K : Act → World → Prop} {Q : Exit → Act → World → Prop} (s x : Operand) (ho : o.op = .call { callee := .builtin .append, args := #[s, x], argTypes := #[47, 47] })
    (base : Nat) (v : Value) (ks : List (List (BitVec 8))) (hs : a.eval s = v) (hown : OwnK w base v ks) (g : Nat) (hx : a.eval x = .slice (some ⟨g, 0, none⟩) 1 1) (X : List (BitVec 8)) (hX : X.length = 32) (t : TypeId) (fr : Nat × Nat) (hg : w.heap[g]? = some (.cells (bv X).toArray t fr))
    (hl : ks.length ≤ 1000000) (hbase : base ≤ w.heap.size) (h : ∀ v' w', OwnK w' base v' (ks ++ [X]) → w.grownBy w' v.ownBlock → K (a.put o.dst v') w') : o.wp Tryd.prog a w K Q := by
  obtain ⟨i, hi, hz1, hz2, hz3⟩ := info_parts info_keyE
  have hXl : (bv X).length = 32 := by rw [bv_length, hX]
  refine wp_append_own w s x 47 ho base 23 i (.agg key0) 32 32 Tryd.underlying47 hi hz1 hz2 hz3 (by kernel_rfl) (by omega) v ks.length (ksL ks) hs hown.2 ⟨g, 0, none⟩ 1 1 (bv X) hx (by rw [hXl]) (fun j u hu => ?_) (bv_one X) (by unfold maxLen; omega) (by omega) hbase ?_
  · rw [Addr.add_lit, Nat.zero_add]
    exact cell_part hg hu
  · intro v' w' k1 k2 k3
    refine h v' w' ⟨fun k hk => ?_, ?_⟩ k2
    · rcases List.mem_append.1 hk with hk | hk
      · exact hown.1 k hk
      · rw [List.mem_singleton.1 hk]; exact hX
    · rw [List.length_append, List.length_singleton, ksL_append, show ksL [X] = bv X by simp [ksL]]
      exact k1
theorem run_keySlice {X : List (BitVec 8)} (hX : X.length = 32) (w : World) : (Instr.buildSlice 47 1 #[(0, .agg (bv X).toArray)]).run Tryd.prog w = .ok (.slice (some ⟨w.heap.size, 0, none⟩) 1 1) (w.alloc (.cells (bv X).toArray 23)) := by
  rw [bv_of_len hX]
  generalize (fun i => Value.int .u8 (bn (X.getD i 0))) = f
  kernel_rfl
theorem wp_keySlice {o : Oper} {a : Act} {w : World} {K : Act → World → Prop} {Q : Exit → Act → World → Prop} (x : Operand) (ho : o.op = .buildSlice 47 1 #[(0, x)]) (X : List (BitVec 8)) (hX : X.length = 32) (hx : a.eval x = .agg (bv X).toArray)
    (h : K (a.put o.dst (.slice (some ⟨w.heap.size, 0, none⟩) 1 1)) (w.alloc (.cells (bv X).toArray 23))) : o.wp Tryd.prog a w K Q := by
  unfold Oper.wp execOp
  simp only [ho, hx, Sem.run_bind, List.map_toArray, List.map_cons, List.map_nil, run_keySlice hX w, Result.andThen_ok, Sem.run_pure]
  exact h
theorem Led.duo {w0 w : World} {a b : Nat × Obj} {L : List (Nat × Obj)} (h : Led w0 w (a :: b :: L)) : Led w0 w [a, b] := by
  refine ⟨h.aft, fun i g o hi => ?_, fun i j g k o p hij hi hj => ?_⟩
  · match i, hi with
    | 0, hi => exact h.has 0 g o hi
    | 1, hi => exact h.has 1 g o hi
    | i + 2, hi => simp at hi
  · match i, j, hi, hj, hij with
    | 0, 1, hi, hj, hij => exact h.inc 0 1 g k o p hij hi hj
    | 0, 0, _, _, hij => exact absurd hij (Nat.lt_irrefl _)
    | 1, 0, _, _, hij => exact absurd hij (by omega)
    | 1, 1, _, _, hij => exact absurd hij (Nat.lt_irrefl _)
    | i + 2, _, hi, _, _ => simp at hi
    | _, j + 2, _, hj, _ => simp at hj
theorem Led.grown {w0 w w' : World} {L : List (Nat × Obj)} {row : Option Nat} (h : Led w0 w L) (hg : w.grownBy w' row) (hrow : ∀ k, row = some k → w0.heap.size ≤ k ∧ ∀ p ∈ L, p.1 ≠ k) : Led w0 w' L := by
  refine ⟨⟨hg.os.trans h.aft.os, hg.tape.trans h.aft.tape, hg.output.trans h.aft.output, Nat.le_trans h.aft.size hg.size, fun k hk => ?_⟩, fun i g o hi => ⟨?_, (h.has i g o hi).2⟩, h.inc⟩
  · exact (hg.block k (Nat.lt_of_lt_of_le hk h.aft.size) (fun e => by have := (hrow k e.symm).1; omega)).trans (h.aft.block k hk)
  · have hm : (g, o) ∈ L := List.mem_of_getElem? hi
    exact (hg.block g (heap_lt (h.get i hi)) (fun e => (hrow g e.symm).2 _ hm rfl)).trans (h.get i hi)
def manyL (seed : List (BitVec 8)) (N j : Nat) : List (List (BitVec 8)) := (List.range j).map fun i => nxK seed (N + i)
theorem manyL_length (seed : List (BitVec 8)) (N j : Nat) : (manyL seed N j).length = j := by simp [manyL]
theorem manyL_succ (seed : List (BitVec 8)) (N j : Nat) : manyL seed N (j + 1) = manyL seed N j ++ [nxK seed (N + j)] := by simp [manyL, List.range_succ]
def mnE (N : Nat) (n : Int) : Int := if N ≤ 4294967296 ∧ 0 ≤ n ∧ n ≤ 1000 then (if N + n.toNat ≤ 4294967296 then 0 else 8) else 1
def mnK (seed : List (BitVec 8)) (N : Nat) (n : Int) : List (List (BitVec 8)) := if mnE N n = 0 then manyL seed N n.toNat else []
def mnS (seed : List (BitVec 8)) (N : Nat) (n : Int) : List (BitVec 8) := if mnE N n = 0 then seed else List.replicate 32 0
def mnN (N : Nat) (n : Int) : Nat := if mnE N n = 0 then N + n.toNat else 0
theorem mnS_length {seed : List (BitVec 8)} (h : seed.length = 32) (N : Nat) (n : Int) : (mnS seed N n).length = 32 := by
  unfold mnS
  split
  · exact h
  · exact List.length_replicate
/-- What is drawn. -/
def ManySays (seed : List (BitVec 8)) (N : Nat) (n : Int) (w : World) (r : Ending) (w' : World) : Prop :=
  ∃ v, r = .returned (.tuple #[v, .agg (drawsL (mnS seed N n) (mnN N n)).toArray, .int .i64 (mnE N n)]) ∧ OwnK w' w.heap.size v (mnK seed N n) ∧ Aft w w'
theorem ManySays.bad {seed : List (BitVec 8)} {N : Nat} {n : Int} {w w' : World} {e : Int} (h : mnE N n = e) (h0 : e ≠ 0) (ha : Aft w w') : ManySays seed N n w (.returned (.tuple #[.slice none 0 0, .agg (drawsL (List.replicate 32 0) 0).toArray, .int .i64 e])) w' := by
  subst h
  refine ⟨.slice none 0 0, ?_, ?_, ha⟩
  · unfold mnS mnN
    rw [if_neg h0, if_neg h0]
  · unfold mnK
    rw [if_neg h0]
    exact OwnK.nil _ _
theorem ManySays.good {seed : List (BitVec 8)} {N m : Nat} {w w' : World} {v : Value} {B : Nat} (h1 : m ≤ 1000) (h2 : N + m ≤ 4294967296) (hv : OwnK w' B v (manyL seed N m)) (hB : w.heap.size ≤ B) (ha : Aft w w') : ManySays seed N (m : Int) w (.returned (.tuple #[v, .agg (drawsL seed (N + m)).toArray, .int .i64 0])) w' := by
  have h0 : mnE N (m : Int) = 0 := by
    unfold mnE
    rw [if_pos ⟨by omega, by omega, by omega⟩, if_pos (by simpa using h2)]
  refine ⟨v, ?_, ?_, ha⟩
  · unfold mnS mnN
    rw [h0, if_pos rfl, if_pos rfl, Int.toNat_natCast]
  · unfold mnK
    rw [if_pos h0, Int.toNat_natCast]
    exact hv.mono hB
theorem mnE_bad1 {N : Nat} {n : Int} (h : ¬ (N ≤ 4294967296 ∧ 0 ≤ n ∧ n ≤ 1000)) : mnE N n = 1 := if_neg h
theorem mnE_bad8 {N m : Nat} (h1 : m ≤ 1000) (h3 : N ≤ 4294967296) (h2 : ¬ N + m ≤ 4294967296) : mnE N (m : Int) = 8 := by
  unfold mnE
  rw [if_pos ⟨h3, by omega, by omega⟩, if_neg (by simpa using h2)]
set_option maxRecDepth 100000 in
set_option maxHeartbeats 4000000 in
theorem many_any (seed : List (BitVec 8)) (N : Nat) (n : Int) (w : World) (hK : TabK K0 2 w) (hs : seed.length = 32) (hN : N < 18446744073709551616) :
    Calls Tryd.prog 28 #[.agg (drawsL seed N).toArray, .int .i64 n] w (ManySays seed N n w) := by
  have HK := Lib.hid hK
  have HS := Lib.hid hs
  have HC := Lib.hid (fun (wx : World) => drawCheck_any seed N wx hs)
  have HX := Lib.hid (fun (M : Nat) (hM : M < 18446744073709551616) (wx : World) (h : Aft w wx) => next_any seed M wx (TabK_fr HK.out (Fr.of_below (S := fun _ => False) h) (fun h => h)) hs hM)
  unfold NextSays at HX
  have HL := Lib.hid (Led.start w)
  clear hK hs
  go_enter Tryd.func28, Tryd.ntmps28
  go_wp2_with (first | (refine wpList_boxO rfl 39 (.tmp 0) rfl (.agg (drawsL seed N).toArray) rfl (.cells (drawsL seed N).toArray 39) (box_draws _) ?_; intro wa aa gg zz; replace HL := Lib.hid (HL.out.alloc aa gg.out); clear aa gg zz; try simp only [List.nil_append, List.cons_append, List.set_cons_zero, List.set_cons_succ] at HL) | (refine wpList_allocO rfl 39 rfl (.cells (drawsL (List.replicate 32 0) 0).toArray 39) alloc_draws ?_; intro w' aa gg zz; replace HL := Lib.hid (HL.out.alloc aa gg.out); clear aa gg zz; try simp only [List.nil_append, List.cons_append, List.set_cons_zero, List.set_cons_succ] at HL) | (refine wpList_load_rowG (by kernel_rfl) 39 (.tmp 2) rfl _ rfl _ _ _ _ (HL.out.get 0 rfl) Tryd.underlying39 rfl (draws_info HS.out _) ?_))
  refine (HC.out _).mono ?_
  rintro r w2 ⟨rfl, h2⟩
  replace HL := Lib.hid (HL.out.call h2)
  clear h2
  by_cases hA : N ≤ 4294967296
  · rw [show drwChk N = 0 from if_pos hA]
    by_cases hB : n < 0
    · have HQ := Lib.hid (mnE_bad1 (N := N) (n := n) (by omega))
      go_wp2_with (first | (refine wpList_store_drawsZ0 rfl (.tmp 5) (.tmp 21) rfl _ rfl rfl _ (HL.out.get 1 rfl) drawsZ_size ?_; intro w' b1 b2 b3; replace HL := Lib.hid (HL.out.store 1 rfl b1 b2 b3); clear b1 b2 b3; try simp only [List.nil_append, List.cons_append, List.set_cons_zero, List.set_cons_succ] at HL))
      refine bodyPost_ret (results_tmp_cell_tmp rfl _ _ _ 39 _ (0, 0) _ rfl (HL.out.get 1 rfl) Tryd.underlying39 rfl (draws_info List.length_replicate 0)) rfl ?_
      exact ManySays.bad HQ.out (by decide) HL.out.aft
    by_cases hC : 1000 < n
    · have HQ := Lib.hid (mnE_bad1 (N := N) (n := n) (by omega))
      go_wp2_with (first | (refine wpList_store_drawsZ0 rfl (.tmp 5) (.tmp 21) rfl _ rfl rfl _ (HL.out.get 1 rfl) drawsZ_size ?_; intro w' b1 b2 b3; replace HL := Lib.hid (HL.out.store 1 rfl b1 b2 b3); clear b1 b2 b3; try simp only [List.nil_append, List.cons_append, List.set_cons_zero, List.set_cons_succ] at HL))
      refine bodyPost_ret (results_tmp_cell_tmp rfl _ _ _ 39 _ (0, 0) _ rfl (HL.out.get 1 rfl) Tryd.underlying39 rfl (draws_info List.length_replicate 0)) rfl ?_
      exact ManySays.bad HQ.out (by decide) HL.out.aft
    obtain ⟨m, rfl⟩ : ∃ m : Nat, n = (m : Int) := ⟨n.toNat, by omega⟩
    have HM := Lib.hid (show m ≤ 1000 by omega)
    have HA := Lib.hid hA
    go_wp2_with fail
    clear hA hB hC hN
    have HS1 := Lib.hid (show w.heap.size < wa.heap.size from HL.out.inc 0 1 _ _ _ _ (by decide) rfl rfl)
    go_loopw [1, 4] (fun v1 v4 wr => ∃ j : Nat, j ≤ m ∧ N + j ≤ 4294967296 ∧ v1 = .int .i64 ((m : Int) - (j : Int)) ∧ OwnK wr (wa.heap.size + 1) v4 (manyL seed N j) ∧ Led w wr [(w.heap.size, .cells (drawsL seed (N + j)).toArray 39), (wa.heap.size, .cells (drawsL (List.replicate 32 0) 0).toArray 39)]) (fun v _ _ => (intOf v).toNat)
    case atStart => exact ⟨0, by omega, HA.out, by go_num, OwnK.nil _ _, HL.out⟩
    case round =>
      clear HL
      obtain ⟨j, hj, hNj, rfl, hown, hL⟩ := hrel
      have HL := Lib.hid hL
      obtain ⟨ao, cap, rfl, -, -⟩ := hown.rd.shape
      rw [manyL_length] at hown ⊢
      have HOw := Lib.hid hown
      have HNE := Lib.hid hown.lt
      have hm1 : (m : Int) ≤ 1000 := by have := HM.out; omega
      clear hL hown
      by_cases hlt : j < m
      · have hlt' : (0 : Int) < (m : Int) - (j : Int) := by omega
        go_wp2_with (first | (refine wpList_load_rowG (by kernel_rfl) 39 (.tmp 2) rfl _ rfl _ _ _ _ (HL.out.get 0 rfl) Tryd.underlying39 rfl (draws_info HS.out _) ?_))
        refine (HX.out (N + j) (by omega) _ HL.out.aft).mono ?_
        rintro r w4 ⟨rfl, h4⟩
        replace HL := Lib.hid (HL.out.call h4)
        have HS4 := Lib.hid (Below.size h4)
        replace HOw := Lib.hid (HOw.out.aft h4)
        have HXl := Lib.hid (nxK_length seed (N + j))
        clear h4
        by_cases h8 : N + j < 4294967296
        · rw [show nxE (N + j) = 0 from if_pos h8, show nxS seed (N + j) = seed from if_pos h8, show nxN (N + j) = N + j + 1 from if_pos h8]
          have HXm := Lib.hid (manyL_succ seed N j)
          generalize nxK seed (N + j) = X at *
          have H8 := Lib.hid h8
          clear h8
          go_wp2_with (first | (refine wpList_allocO rfl 23 rfl (.cells key0 23) alloc_key ?_; intro w5 aa gg zz; have A5 := Lib.hid aa; have Z5 := Lib.hid zz; replace HL := Lib.hid (HL.out.alloc aa gg.out); clear aa gg zz; try simp only [List.nil_append, List.cons_append, List.set_cons_zero, List.set_cons_succ] at HL) | (refine wpList_allocO rfl 39 rfl (.cells (drawsL (List.replicate 32 0) 0).toArray 39) alloc_draws ?_; intro w6 aa gg zz; have A6 := Lib.hid (Aft.trans A5.out aa); replace HL := Lib.hid (HL.out.alloc aa gg.out); clear aa gg zz; try simp only [List.nil_append, List.cons_append, List.set_cons_zero, List.set_cons_succ] at HL) | (refine wpList_store_keyZ rfl (.tmp 7) (.tmp 29) rfl w4.heap.size X HXl.out rfl rfl _ (HL.out.get 2 rfl) key0_size ?_; intro w6b b1 b2 b3; have A6b := Lib.hid (b3 w4.heap.size w4 (Nat.le_refl _) A6.out); replace HL := Lib.hid (HL.out.store 2 rfl b1 b2 b3); clear b1 b2 b3; try simp only [List.nil_append, List.cons_append, List.set_cons_zero, List.set_cons_succ] at HL) | (refine wpList_store_drawsZ rfl (.tmp 8) (.tmp 30) rfl w5.heap.size seed (N + j + 1) HS.out rfl rfl _ (HL.out.get 3 rfl) drawsZ_size ?_; intro w7 b1 b2 b3; have A7 := Lib.hid (b3 w4.heap.size w4 (by have := Z5.out; omega) A6b.out); replace HL := Lib.hid (HL.out.store 3 rfl b1 b2 b3); clear b1 b2 b3; try simp only [List.nil_append, List.cons_append, List.set_cons_zero, List.set_cons_succ] at HL))
          replace HOw := Lib.hid (HOw.out.aft A7.out)
          refine wp_region_lex (fun w' => w'.heap[w4.heap.size]? = some (.cells (bv X).toArray 23 (0, 0)) ∧ w'.heap[w5.heap.size]? = some (.cells (drawsL seed (N + j + 1)).toArray 39 (0, 0))) (fun i => ([2, 3] : List Nat).contains i) 6 (by kernel_rfl) (by kernel_rfl) ⟨HL.out.get 2 rfl, HL.out.get 3 rfl⟩ ?_
          change wpLx _ _ _ _ _ _ _ _ _ w7.drew
          replace HL := Lib.hid (HL.out.call (show Aft w7 w7.drew from (Below.refl _ _).drew))
          replace HOw := Lib.hid (HOw.out.aft (show Aft w7 w7.drew from (Below.refl _ _).drew))
          generalize w7.drew = wd at *
          refine lx_quietT rfl (by go_big_quiet_want; exact quiet_false (by assumption)) (by kernel_rfl) rfl ?_
          intro Kx hKx
          go_big_quiet_op
          go_big_quiet_on
          refine lx_load_agg rfl (by kernel_rfl) 23 (.tmp 7) rfl ⟨w4.heap.size, 0, none⟩ rfl (bv X).toArray (fun w' h => run_loadVar_row w' _ _ _ _ _ _ h.1 Tryd.underlying23 rfl (key_info HXl.out)) ?_
          simp only [Act.put, List.setIfInBounds_toArray, List.set_cons_succ, List.set_cons_zero]
          refine lx_effT rfl (by go_big_quiet_want; exact quiet_false (by assumption)) (by kernel_rfl) ?_
          intro Kx hKx
          refine wp_keySlice (.tmp 37) rfl X HXl.out rfl ?_
          apply hKx
          have HLd := HL
          refine ⟨⟨Aft.get (Aft.alloc wd _) (HL.out.get 2 rfl), Aft.get (Aft.alloc wd _) (HL.out.get 3 rfl)⟩, ?_⟩
          simp only [Act.put, List.setIfInBounds_toArray, List.set_cons_succ, List.set_cons_zero]
          have HB := Lib.hid (heap_alloc_new wd (.cells (bv X).toArray 23))
          have HSz := Lib.hid (World.size_alloc wd (.cells (bv X).toArray 23))
          replace HL := Lib.hid (HL.out.call (Aft.alloc wd (.cells (bv X).toArray 23)))
          replace HOw := Lib.hid (HOw.out.aft (Aft.alloc wd (.cells (bv X).toArray 23)))
          generalize wd.alloc (.cells (bv X).toArray 23) = we at *
          clear hKx HLd
          refine lx_effT rfl (by go_big_quiet_want; exact quiet_false (by assumption)) (by kernel_rfl) ?_
          intro Ky hKy
          refine wp_append_key (.tmp 36) (.tmp 38) rfl (wa.heap.size + 1) _ (manyL seed N j) rfl HOw.out wd.heap.size rfl X HXl.out _ _ HB.out (by rw [manyL_length]; have := HM.out; omega) (heap_lt (HL.out.get 1 rfl)) ?_
          intro v' w8 k1 k2
          apply hKy
          have hq2 := heap_lt (HL.out.get 2 rfl)
          have hq3 := heap_lt (HL.out.get 3 rfl)
          have hz := Z5.out
          have hs4 := HS4.out
          have hne := HNE.out
          refine ⟨⟨(k2.block _ hq2 (fun e => by have := (hne _ e.symm).2; omega)).trans (HL.out.get 2 rfl), (k2.block _ hq3 (fun e => by have := (hne _ e.symm).2; omega)).trans (HL.out.get 3 rfl)⟩, ?_⟩
          have hs1 := HS1.out
          replace HL := Lib.hid (HL.out.duo.grown k2 (fun k hk => ⟨by have := (hne k hk).1; omega, fun p hp => by
            have := (hne k hk).1
            simp only [List.mem_cons, List.not_mem_nil, or_false] at hp
            rcases hp with rfl | rfl
            · show w.heap.size ≠ k
              omega
            · show wa.heap.size ≠ k
              omega⟩))
          have HK1 := Lib.hid k1
          clear k1 k2 hq2 hq3 hz hs4 hne hs1 hKy
          simp only [Act.put, List.setIfInBounds_toArray, List.set_cons_succ, List.set_cons_zero]
          refine lx_load_agg rfl (by kernel_rfl) 39 (.tmp 8) rfl ⟨w5.heap.size, 0, none⟩ rfl (drawsL seed (N + j + 1)).toArray (fun w' h => run_loadVar_row w' _ _ _ _ _ _ h.2 Tryd.underlying39 rfl (draws_info HS.out _)) ?_
          simp only [Act.put, List.setIfInBounds_toArray, List.set_cons_succ, List.set_cons_zero]
          refine lx_quietT rfl (by go_big_quiet_want; exact quiet_false (by assumption)) (by kernel_rfl) rfl ?_
          intro Kz hKz
          go_big_quiet_op
          go_big_quiet_on
          refine lx_done ?_
          go_wp2_with (first | (refine wpList_store_drawsZ rfl (.tmp 2) (.tmp 40) rfl w.heap.size seed (N + j + 1) HS.out rfl rfl _ (HL.out.get 0 rfl) (draws_old HS.out) ?_; intro w9 b1 b2 b3; have HK9 := Lib.hid (HK1.out.keep (fun g hg => b2.out g (by have := (HK1.out.lt g hg).1; have := HS1.out; omega))); replace HL := Lib.hid (HL.out.store 0 rfl b1 b2 b3); clear b1 b2 b3))
          go_roundw
          case rel => exact ⟨j + 1, by omega, by have := H8.out; omega, by go_num, by rw [HXm.out]; exact HK9.out, HL.out⟩
          case measure => simp [intOf]; omega
        · have h8' : N + j = 4294967296 := by omega
          have HQ := Lib.hid (mnE_bad8 (N := N) (m := m) HM.out HA.out (by omega))
          rw [show nxE (N + j) = 8 by unfold nxE; rw [if_neg (by omega), if_pos h8']]
          have HSl := Lib.hid (nxS_length HS.out (N + j))
          generalize nxK seed (N + j) = X at *
          generalize nxS seed (N + j) = S at *
          generalize nxN (N + j) = M at *
          go_wp2_with (first | (refine wpList_allocO rfl 23 rfl (.cells key0 23) alloc_key ?_; intro w' aa gg zz; replace HL := Lib.hid (HL.out.alloc aa gg.out); clear aa gg zz; try simp only [List.nil_append, List.cons_append, List.set_cons_zero, List.set_cons_succ] at HL) | (refine wpList_allocO rfl 39 rfl (.cells (drawsL (List.replicate 32 0) 0).toArray 39) alloc_draws ?_; intro w' aa gg zz; replace HL := Lib.hid (HL.out.alloc aa gg.out); clear aa gg zz; try simp only [List.nil_append, List.cons_append, List.set_cons_zero, List.set_cons_succ] at HL) | (refine wpList_store_keyZ rfl (.tmp 7) (.tmp 29) rfl _ X HXl.out rfl rfl _ (HL.out.get 2 rfl) key0_size ?_; intro w' b1 b2 b3; replace HL := Lib.hid (HL.out.store 2 rfl b1 b2 b3); clear b1 b2 b3; try simp only [List.nil_append, List.cons_append, List.set_cons_zero, List.set_cons_succ] at HL) | (refine wpList_store_drawsZ rfl (.tmp 8) (.tmp 30) rfl _ S M HSl.out rfl rfl _ (HL.out.get 3 rfl) drawsZ_size ?_; intro w' b1 b2 b3; replace HL := Lib.hid (HL.out.store 3 rfl b1 b2 b3); clear b1 b2 b3; try simp only [List.nil_append, List.cons_append, List.set_cons_zero, List.set_cons_succ] at HL) | (refine wpList_store_drawsZ0 rfl (.tmp 5) (.tmp 34) rfl _ rfl rfl _ (HL.out.get 1 rfl) drawsZ_size ?_; intro w' b1 b2 b3; replace HL := Lib.hid (HL.out.store 1 rfl b1 b2 b3); clear b1 b2 b3; try simp only [List.nil_append, List.cons_append, List.set_cons_zero, List.set_cons_succ] at HL))
          refine bodyPost_ret (results_tmp_cell_tmp rfl _ _ _ 39 _ (0, 0) _ rfl (HL.out.get 1 rfl) Tryd.underlying39 rfl (draws_info List.length_replicate 0)) rfl ?_
          exact ManySays.bad HQ.out (by decide) HL.out.aft
      · obtain rfl : j = m := by omega
        have hlt' : ¬ (0 : Int) < (j : Int) - (j : Int) := by omega
        have HNj := Lib.hid hNj
        go_wp2_with fail
        refine wp_region_lexF (fun i => ([0, 0, 0] : List Nat).getD i 0) 3 (by kernel_rfl) (by kernel_rfl) ?_; intro wq hwr
        have HAq := Lib.hid (show Aft wr wq by rw [hwr]; exact (Below.refl _ _).drew)
        replace HL := Lib.hid (HL.out.call HAq.out)
        replace HOw := Lib.hid (HOw.out.aft HAq.out)
        clear hwr HAq
        repeat (first | (refine lf_skip (by go_big_quiet_skip; exact wpQuiet_nil trivial) (by kernel_rfl) ?_; simp only [Act.put, List.setIfInBounds_toArray, List.set_cons_succ, List.set_cons_zero]) | (refine lf_quiet rfl (by go_big_quiet_want; exact quiet_false (by assumption)) (by kernel_rfl) rfl ?_; intro Kx hKx; go_big_quiet_op; go_big_quiet_on))
        refine lf_load_row rfl (by kernel_rfl) 39 (.tmp 2) rfl _ rfl _ _ _ _ (HL.out.get 0 rfl) Tryd.underlying39 rfl (draws_info HS.out _) ?_
        simp only [Act.put, List.setIfInBounds_toArray, List.set_cons_succ, List.set_cons_zero]
        repeat (first | (refine lf_skip (by go_big_quiet_skip; exact wpQuiet_nil trivial) (by kernel_rfl) ?_; simp only [Act.put, List.setIfInBounds_toArray, List.set_cons_succ, List.set_cons_zero]) | (refine lf_quiet rfl (by go_big_quiet_want; exact quiet_false (by assumption)) (by kernel_rfl) rfl ?_; intro Kx hKx; go_big_quiet_op; go_big_quiet_on))
        refine lf_done ?_
        intro wt ht
        replace HL := Lib.hid (HL.out.call ht)
        replace HOw := Lib.hid (HOw.out.aft ht)
        clear ht
        go_wp2_with (first | (refine wpList_store_drawsZ rfl (.tmp 5) (.tmp 42) rfl wa.heap.size seed (N + j) HS.out rfl rfl _ (HL.out.get 1 rfl) drawsZ_size ?_; intro w9 b1 b2 b3; replace HOw := Lib.hid (HOw.out.keep (fun g hg => b2.out g (by have := (HOw.out.lt g hg).1; omega))); replace HL := Lib.hid (HL.out.store 1 rfl b1 b2 b3); clear b1 b2 b3))
        refine bodyPost_ret (results_tmp_cell_tmp rfl _ _ _ 39 _ (0, 0) _ rfl (HL.out.get 1 rfl) Tryd.underlying39 rfl (draws_info HS.out _)) rfl ?_
        exact ManySays.good HM.out HNj.out HOw.out (by have := HS1.out; omega) HL.out.aft
  · rw [show drwChk N = 1 from if_neg hA]
    have HQ := Lib.hid (mnE_bad1 (N := N) (n := n) (by omega))
    go_wp2_with (first | (refine wpList_store_drawsZ0 rfl (.tmp 5) (.tmp 21) rfl _ rfl rfl _ (HL.out.get 1 rfl) drawsZ_size ?_; intro w' b1 b2 b3; replace HL := Lib.hid (HL.out.store 1 rfl b1 b2 b3); clear b1 b2 b3; try simp only [List.nil_append, List.cons_append, List.set_cons_zero, List.set_cons_succ] at HL))
    refine bodyPost_ret (results_tmp_cell_tmp rfl _ _ _ 39 _ (0, 0) _ rfl (HL.out.get 1 rfl) Tryd.underlying39 rfl (draws_info List.length_replicate 0)) rfl ?_
    exact ManySays.bad HQ.out (by decide) HL.out.aft
end Go.Proofs.YtanodhagpegbfaaDoor
