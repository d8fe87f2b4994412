/- ratchet.Check. -/
import Derived.Test.YtanodhagpegbfaaDoorBack
namespace Go.Proofs.YtanodhagpegbfaaDoor
open Go Go.RowKit Go.Shelf
attribute [local go_sem] Oper.semAt_some
/-- From the end: each turn below the one behind it. -/
def okB : Nat → List Nat → Bool
  | _, [] => true
  | b, g :: gs => decide (g < b) && okB g gs
def chkE (G : Nat) (zs : List Sk) : Int := if G ≤ 4294967296 ∧ zs.length ≤ 1024 ∧ okB G ((zs.map (·.1.1)).reverse) = true then 0 else 1
theorem sk_size (s : Sk) : (skL s).toArray.size = 33 := by rw [List.size_toArray, skL_length]
theorem okB_snoc : ∀ (gs : List Nat) (b g : Nat), okB b (gs ++ [g]) = (okB b gs && decide (g < gs.getLast?.getD b))
  | [], b, g => by
    show (decide (g < b) && true) = (true && decide (g < b))
    rw [Bool.and_true, Bool.true_and]
  | h :: gs, b, g => by
    rw [List.cons_append, okB, okB, okB_snoc gs h g, Bool.and_assoc]
    cases gs with
    | nil => rfl
    | cons y ys =>
      have e : (y :: ys).getLast? = some ((y :: ys).getLast (by simp)) := List.getLast?_eq_some_getLast (by simp)
      rw [List.getLast?_cons_cons, e]
      rfl
def gens (pre : List (Nat × Sk)) : List Nat := pre.map fun x => x.2.1.1
theorem gens_snoc (pre : List (Nat × Sk)) (x : Nat × Sk) : gens (pre ++ [x]) = gens pre ++ [x.2.1.1] := by simp [gens]
/-- The turn behind. -/
def lastG (G : Nat) (pre : List (Nat × Sk)) : Nat := (gens pre).getLast?.getD G
theorem lastG_snoc (G : Nat) (pre : List (Nat × Sk)) (x : Nat × Sk) : lastG G (pre ++ [x]) = x.2.1.1 := by simp [lastG, gens_snoc]
theorem okB_prefix : ∀ (xs ys : List Nat) (b : Nat), okB b (xs ++ ys) = true → okB b xs = true
  | [], _, _, _ => rfl
  | x :: xs, ys, b, h => by
    rw [List.cons_append, okB, Bool.and_eq_true] at h
    rw [okB, Bool.and_eq_true]
    exact ⟨h.1, okB_prefix xs ys x h.2⟩
theorem upto_prefix {α : Type} (f : Nat → α) {k m : Nat} (h : k ≤ m) : ∃ ys, upto f m = upto f k ++ ys := by
  obtain ⟨d, rfl⟩ := Nat.exists_eq_add_of_le h
  exact ⟨_, by unfold upto; rw [List.range_add, List.map_append]⟩
theorem gens_bwd (zs : List Sk) : gens (upto (bwd zs) zs.length) = (zs.map (·.1.1)).reverse := by
  apply List.ext_getElem
  · simp [gens, upto]
  · intro i h1 h2
    have hi : i < zs.length := by simpa [gens, upto] using h1
    simp only [gens, upto, bwd, List.map_map, List.getElem_map, List.getElem_range, Function.comp, List.getElem_reverse, List.length_map]
    rw [List.getElem?_eq_getElem (by omega)]
    rfl
theorem wpListIn_store_rowO {F : Fence} {n : Nat} {P : Program} {w : World} {ops : Array Oper} {rest : List Oper} {o : Oper} {a : Act} {Q : Exit → Act → World → Prop} (hg : o.guard = none) (ty : TypeId) (x y : Operand) (hop : o.op = .store ty x y)
    (g : Nat) (cells : Array Value) (hx : a.eval x = .pointer (some ⟨g, 0, none⟩)) (hy : a.eval y = .agg cells) (t : TypeId) (old : Array Value) (hgd : w.heap[g]? = some (.cells old t (0, 0))) (hi : (P.info? ty).map (·.size) = some cells.size)
    (hold : old.size = cells.size) (h1 : cells.all (·.oneCell') = true)
    (h : ∀ w', Hid (w'.heap[g]? = some (.cells cells t (0, 0))) → Hid (∀ k, k ≠ g → w'.heap[k]? = w.heap[k]?) → (∀ k w0, k ≤ g → Below k w0 w → Below k w0 w') → wpListIn F n P ops Q rest (a.put o.dst undef) w') : wpListIn F n P ops Q (o :: rest) a w := by
  refine wpListIn_plain hg fun K hK' => ?_
  unfold Oper.wpIn
  refine ⟨?_, ?_⟩
  · simp [Oper.about, hop]
  · rw [Oper.semAt_plain F _ _ (by rw [hop]; intro c hc'; cases hc')]
    simp only [execOp, hop, hx, hy, Instr.storeAt, Instr.sureAddr, Sem.run_bind, Sem.run_pure, Result.andThen_ok, run_storeVar_row w g t ty old cells hgd hi hold h1]
    exact hK' _ _ (h _ (show _ = _ from setRow_heap _ _ _ _ _ _ hgd) (show _ from fun k hk => setRow_other w g k _ hk) fun _ _ hk hb => below_setRow hb hk _)
set_option maxRecDepth 100000 in
set_option maxHeartbeats 2000000 in
theorem check_in (F : Fence) (n : Nat) (h53 : F.fn 53) (h84 : F.fn 84) (h104 : F.fn 104) (hro : F.round = none) (hn : 3 ≤ n)
    (C : List (BitVec 8)) (G : Nat) (a : Option Addr) (cap : Nat) (zs : List Sk) (w : World) (hC : C.length = 32) (hG : G < 18446744073709551616) (hz : zs.length ≤ 1048576) (hI : Sks w.heap.size w (.slice a zs.length cap) zs) :
    CallsIn F n Tryd.prog 53 #[.agg (ratL C G (.slice a zs.length cap)).toArray] w fun e W' => e = .returned (.int .i64 (chkE G zs)) ∧ Below w.heap.size w W' := by
  have h1 : 1 ≤ n := by omega
  have hbx := box_rat (ratL C G (.slice a zs.length cap))
  have hr0 := heap_alloc_new w (.cells (ratL C G (.slice a zs.length cap)).toArray 71)
  have hr1 := Aft.get (Aft.alloc (w.alloc (.cells (ratL C G (.slice a zs.length cap)).toArray 71)) (.cells #[.int .i64 0] 26)) hr0
  have hc1 := rat_n hr1 hC
  have hc2 := rat_l hr1 hC
  refine callsIn_of_wp_marks Tryd.func53 rfl h53 ?_ hro
  simp only [Tryd.ntmps53, List.size_toArray, List.length_cons, List.length_nil, Nat.reduceAdd, Nat.reduceSub, Array.replicate_succ, Array.replicate_zero, List.push_toArray, List.append_toArray, List.nil_append, List.cons_append]
  by_cases hA : (4294967296 : Int) < (G : Int)
  · gi_wp2
    obtain ⟨hce, -⟩ := one_cell_at (heap_alloc_new (w.alloc (.cells (ratL C G (.slice a zs.length cap)).toArray 71)) (.cells #[.int .i64 1] 26))
    simp only [World.size_alloc] at hce
    refine ⟨.int .i64 1, ?_, ?_, Aft.trans (Aft.alloc _ _) (Aft.alloc _ _)⟩
    · simp [results, Tryd.f53, go_sem, hce]
    · rw [show chkE G zs = 1 from if_neg (fun q => by omega)]
  by_cases hB : (1024 : Int) < (zs.length : Nat)
  · gi_wp2
    obtain ⟨hce, -⟩ := one_cell_at (heap_alloc_new (w.alloc (.cells (ratL C G (.slice a zs.length cap)).toArray 71)) (.cells #[.int .i64 1] 26))
    simp only [World.size_alloc] at hce
    refine ⟨.int .i64 1, ?_, ?_, Aft.trans (Aft.alloc _ _) (Aft.alloc _ _)⟩
    · simp [results, Tryd.f53, go_sem, hce]
    · rw [show chkE G zs = 1 from if_neg (fun q => by omega)]
  gi_wp2_with (gi_at_call 84; refine (back_in F (n - 1) h84 hro _ _ _ _).mono ?_; rintro e w' ⟨rfl, rfl⟩)
  have hB0 : Below w.heap.size w ((((w.alloc (.cells (ratL C G (.slice a zs.length cap)).toArray 71)).alloc (.cells #[.int .i64 0] 26)).alloc (.cells #[.int .u64 (G : Int)] 37)).alloc (.cells #[.slice a zs.length cap] 69)) :=
    Aft.trans (Aft.alloc _ _) (Aft.trans (Aft.alloc _ _) (Aft.trans (Aft.alloc _ _) (Aft.alloc _ _)))
  have hq1 := Aft.get (Aft.trans (Aft.alloc _ (.cells #[.int .u64 (G : Int)] 37)) (Aft.alloc _ (.cells #[.slice a zs.length cap] 69))) (heap_alloc_new (w.alloc (.cells (ratL C G (.slice a zs.length cap)).toArray 71)) (.cells #[.int .i64 0] 26))
  have hq2 := Aft.get (Aft.alloc _ (.cells #[.slice a zs.length cap] 69)) (heap_alloc_new ((w.alloc (.cells (ratL C G (.slice a zs.length cap)).toArray 71)).alloc (.cells #[.int .i64 0] 26)) (.cells #[.int .u64 (G : Int)] 37))
  have hq3 := heap_alloc_new (((w.alloc (.cells (ratL C G (.slice a zs.length cap)).toArray 71)).alloc (.cells #[.int .i64 0] 26)).alloc (.cells #[.int .u64 (G : Int)] 37)) (.cells #[.slice a zs.length cap] 69)
  have hsz : ((((w.alloc (.cells (ratL C G (.slice a zs.length cap)).toArray 71)).alloc (.cells #[.int .i64 0] 26)).alloc (.cells #[.int .u64 (G : Int)] 37)).alloc (.cells #[.slice a zs.length cap] 69)).heap.size = w.heap.size + 4 := by
    simp only [World.size_alloc]
  simp only [World.size_alloc] at hq1 hq2 hq3
  generalize ((((w.alloc (.cells (ratL C G (.slice a zs.length cap)).toArray 71)).alloc (.cells #[.int .i64 0] 26)).alloc (.cells #[.int .u64 (G : Int)] 37)).alloc (.cells #[.slice a zs.length cap] 69)) = W0 at *
  clear hbx hr0 hr1 hc1 hc2
  refine wpIn_rangeFunc_ownH hro h1 (gf := 104) (lb := #[.pointer (some ⟨w.heap.size + 1 + 1 + 1, 0, none⟩)]) rfl h104 (enters_of Tryd.func104 (by kernel_rfl) rfl)
    (back_stops F (n - 1) h104 hro (by omega) (w.heap.size + 1 + 1 + 1) w.heap.size _ zs hz W0 (by omega) (by omega) (one_cell_at hq3).1 (hI.below hB0))
    KpB.trans (KpB.put (by omega) (by omega)) (Below.refl _ _) (fun _ => rfl)
    (fun pre W => W.heap[w.heap.size + 1 + 1]? = some (.cells #[.int .u64 (lastG G pre : Int)] 37 (0, 0)) ∧ W.heap[w.heap.size + 1]? = some (.cells #[.int .i64 0] 26 (0, 0)) ∧ okB G (gens pre) = true ∧ Below w.heap.size w W ∧ w.heap.size + 4 ≤ W.heap.size)
    (fun c pre W => c = .ret ∧ W.heap[w.heap.size + 1]? = some (.cells #[.int .i64 1] 26 (0, 0)) ∧ okB G (gens pre) = false ∧ Below w.heap.size w W)
    (fun s A B row hs hg hr => ⟨(hg.block _ (heap_lt hs.1) (fun e => by have := (hr _ e.symm).1; omega)).trans hs.1, (hg.block _ (heap_lt hs.2.1) (fun e => by have := (hr _ e.symm).1; omega)).trans hs.2.1, hs.2.2.1, hs.2.2.2.1.grown hg hs.2.2.2.1.size (fun k e => by have := (hr _ e).1; omega), Nat.le_trans hs.2.2.2.2 hg.size⟩)
    (fun c s A B row hs hg hr => ⟨hs.1, (hg.block _ (heap_lt hs.2.1) (fun e => by have := (hr _ e.symm).1; omega)).trans hs.2.1, hs.2.2.1, hs.2.2.2.grown hg hs.2.2.2.size (fun k e => by have := (hr _ e).1; omega)⟩)
    ⟨hq2, hq1, rfl, hB0, by omega⟩
    (fun x a' W => ∃ Bx, w.heap.size + 4 ≤ Bx ∧ W.heap[Bx]? = some (.cells (skL x.2).toArray 73 (0, 0)) ∧ a' = { tmps := #[.agg (ratL C G (.slice a zs.length cap)).toArray, .pointer (some ⟨w.heap.size, 0, none⟩), .pointer (some ⟨w.heap.size + 1, 0, none⟩), .pointer (some ⟨w.heap.size + 1 + 1, 0, none⟩), undef, .pointer (some ⟨Bx, 0, none⟩), .pointer (some ⟨w.heap.size, 32, none⟩), .int .u64 (G : Int), .bool false, .bool false, .pointer (some ⟨w.heap.size, 33, none⟩), .slice a zs.length cap, .int .i64 (zs.length : Nat), .bool false, .bool false, .pointer (some ⟨w.heap.size, 32, none⟩), .int .u64 (G : Int), .pointer (some ⟨w.heap.size, 33, none⟩), .slice a zs.length cap, .func (.func 104) #[] #[.pointer (some ⟨w.heap.size + 1 + 1 + 1, 0, none⟩)], .int .i64 (x.1 : Int), .agg (skL x.2).toArray, undef, undef, undef, undef, undef, undef], defers := [] })
    (fun x a' s A B row hs hg hr => by
      obtain ⟨Bx, h1, h2, h3⟩ := hs
      refine ⟨Bx, h1, (hg.block Bx (heap_lt h2) (fun e => ?_)).trans h2, h3⟩
      obtain ⟨-, o, ho, hcc⟩ := hr _ e.symm
      rw [h2] at ho
      cases ho
      cases hcc)
    ?assign ?body ?done ?stop
  case assign =>
    rintro l pre x W K ⟨i1, i2, i3, i4, i5⟩ hK
    gi_wp2_with ((refine wpListIn_store_rowO rfl 73 (.tmp 5) (.tmp 21) rfl W.heap.size (skL x.2).toArray rfl rfl _ _ (heap_alloc_new W _) (by rw [sk_size]; kernel_rfl) (by rw [sk_size]; rfl) (all_one (skL_one x.2)) ?_; intro W1 b1 b2 b3))
    have hb1 := b1.out
    have hb2 := b2.out
    have e1 : ∀ (k : Nat) (o : Obj), W.heap[k]? = some o → W1.heap[k]? = some o := fun k o hk => (hb2 k (by have := heap_lt hk; omega)).trans (Aft.get (Aft.alloc W _) hk)
    have hbl := b3 W.heap.size W (Nat.le_refl _) (Aft.alloc W _)
    exact hK _ _ ⟨hbl.size, fun k o _ hk _ => e1 k o hk⟩ ⟨hbl.mono (by omega), hbl.block _ (by omega)⟩ ⟨e1 _ _ i1, e1 _ _ i2, i3, i4.trans (hbl.mono (by omega)), Nat.le_trans i5 hbl.size⟩ ⟨W.heap.size, i5, hb1, rfl⟩
  case body =>
    rintro l pre x a' W hl ⟨r, hr⟩ ⟨i1, i2, i3, i4, i5⟩ ⟨Bx, hBx, hbx, rfl⟩ hlt
    have c1 := cell_part (n := 0) hbx rfl
    obtain ⟨c2, f2⟩ := one_cell_at i1
    obtain ⟨c3, f3⟩ := one_cell_at i2
    by_cases hge : (lastG G pre : Int) ≤ (x.2.1.1 : Int)
    · gi_wp2
      refine ⟨(KeepsOthers.setCell _ _ _).from _, rfl, one_cell_set _ i2, ?_, i4.setCell (p := ⟨w.heap.size + 1, 0, none⟩) (by simp) _⟩
      rw [gens_snoc, okB_snoc]
      show (okB G (gens pre) && decide (x.2.1.1 < lastG G pre)) = false
      rw [i3, decide_eq_false (by omega)]
      rfl
    · gi_wp2
      refine ⟨(KeepsOthers.setCell _ _ _).from _, ⟨(Below.refl _ W).setCell (p := ⟨w.heap.size + 1 + 1, 0, none⟩) (by simp; omega) _, Below.heap_setCell _ _ _ _ (by simp)⟩, ?_, (Below.heap_setCell _ _ _ _ (by simp)).trans i2, ?_, i4.setCell (p := ⟨w.heap.size + 1 + 1, 0, none⟩) (by simp; omega) _, Nat.le_trans i5 (KeepsOthers.setCell _ _ _).size⟩
      · rw [lastG_snoc]
        exact one_cell_set _ i1
      · rw [gens_snoc, okB_snoc]
        show (okB G (gens pre) && decide (x.2.1.1 < lastG G pre)) = true
        rw [i3, decide_eq_true (by omega)]
        rfl
  case done =>
    rintro D ys W hD rfl ⟨i1, i2, i3, i4, i5⟩ hK
    obtain ⟨c3, f3⟩ := one_cell_at i2
    gi_wp2
    have hK' := (KeepsOthers.setCell W ⟨w.heap.size + 1, 0, none⟩ (.int .i64 0)).same D _ hK rfl
    refine ⟨by simp, .inl ⟨_, _, rfl, run_takeDeferred hK', ?_⟩⟩
    have hc5 := cell_kept (World.cell?_setCell_same' W ⟨w.heap.size + 1, 0, none⟩ (.int .i64 0) (by rw [c3]; rfl)) (grownBy_putObj' _ D (.deferred none)) (fun r e => by cases e; exact ⟨_, hK', rfl⟩)
    refine ⟨.int .i64 0, ?_, ?_, (i4.setCell (p := ⟨w.heap.size + 1, 0, none⟩) (by simp) _).trans (belowK_b (w := w) (Nat.le_refl _) _ D _ _ (by omega) hK' rfl rfl)⟩
    · simp [results, Tryd.f53, go_sem, hc5]
    · rw [gens_bwd] at i3
      rw [show chkE G zs = 0 from if_pos ⟨by omega, by omega, i3⟩]
  case stop =>
    rintro D c pre W hD ⟨k, hk, rfl⟩ ⟨rfl, i2, i3, i4⟩ hK
    obtain ⟨c3, f3⟩ := one_cell_at i2
    gi_wp2
    refine ⟨by simp, .inl ⟨_, _, rfl, run_takeDeferred hK, ?_⟩⟩
    have hc5 := cell_kept c3 (grownBy_putObj' _ D (.deferred none)) (fun r e => by cases e; exact ⟨_, hK, rfl⟩)
    refine ⟨.int .i64 1, ?_, ?_, i4.trans (belowK_b (w := w) (Nat.le_refl _) _ D _ _ (by omega) hK rfl rfl)⟩
    · simp [results, Tryd.f53, go_sem, hc5]
    · have : okB G ((zs.map (·.1.1)).reverse) = false := by
        rw [← gens_bwd]
        cases hq : okB G (gens (upto (bwd zs) zs.length)) with
        | false => rfl
        | true =>
          obtain ⟨ys, hys⟩ := upto_prefix (bwd zs) hk
          rw [hys, gens, List.map_append] at hq
          have := okB_prefix _ _ _ hq
          rw [show List.map (fun x : Nat × Sk => x.2.1.1) (upto (bwd zs) k) = gens (upto (bwd zs) k) from rfl, i3] at this
          cases this
      rw [show chkE G zs = 1 from if_neg (fun q => by rw [this] at q; exact absurd q.2.2 (by decide))]
/-- ratchet.Check, as every other function's contract. -/
theorem check_any (C : List (BitVec 8)) (G : Nat) (a : Option Addr) (cap : Nat) (zs : List Sk) (w : World) (hC : C.length = 32) (hG : G < 18446744073709551616) (hz : zs.length ≤ 1048576) (hI : Sks w.heap.size w (.slice a zs.length cap) zs) :
    Calls Tryd.prog 53 #[.agg (ratL C G (.slice a zs.length cap)).toArray] w fun e W' => e = .returned (.int .i64 (chkE G zs)) ∧ Aft w W' :=
  (callsIn_wide (n := 3)).1 (check_in _ 3 trivial trivial trivial rfl (by omega) C G a cap zs w hC hG hz hI)
end Go.Proofs.YtanodhagpegbfaaDoor
