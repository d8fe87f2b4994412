/- A ratchet, as cells in a block; its next key: ratchet.turn. -/
import Derived.Test.YtanodhagpegbfaaDoorRef09
import Derived.Test.YtanodhagpegbfaaDoorEnter
namespace Go.Proofs.YtanodhagpegbfaaDoor
open Go Go.RowKit
set_option linter.unusedSimpArgs false
def ratL (C : List (BitVec 8)) (G : Nat) (v : Value) : List Value := bv C ++ [.int .u64 (G : Int), v]
section
variable {C : List (BitVec 8)} {G : Nat} {v : Value} {w : World} {g t : Nat} {fr : Nat × Nat}
theorem ratL_length (h : C.length = 32) : (ratL C G v).length = 34 := by simp [ratL, bv_length, h]
theorem rat_info (h : C.length = 32) : (Tryd.prog.info? 71).map (·.size) = some (ratL C G v).toArray.size := by
  rw [List.size_toArray, ratL_length h]; kernel_rfl
theorem rat_old (h : C.length = 32) : (ratL C G v).toArray.size = 34 := by rw [List.size_toArray, ratL_length h]
theorem ratL_one (hv : v.oneCell' = true) : ∀ u ∈ ratL C G v, u.oneCell' = true := by
  intro u hu
  rcases List.mem_append.1 hu with h | h
  · exact bv_one _ u h
  · simp only [List.mem_cons, List.not_mem_nil, or_false] at h
    rcases h with rfl | rfl
    · rfl
    · exact hv
theorem rat_n (h : w.heap[g]? = some (.cells (ratL C G v).toArray t fr)) (hC : C.length = 32) : w.cell? ⟨g, 32, none⟩ = some (.int .u64 (G : Int)) := cell_part h (by unfold ratL; rw [key_at hC]; rfl)
theorem rat_l (h : w.heap[g]? = some (.cells (ratL C G v).toArray t fr)) (hC : C.length = 32) : w.cell? ⟨g, 33, none⟩ = some v := cell_part h (by unfold ratL; rw [List.getElem?_append_right (by rw [bv_length, hC]; omega), bv_length, hC]; rfl)
theorem rat_c (h : w.heap[g]? = some (.cells (ratL C G v).toArray t fr)) (hC : C.length = 32) : Rd w (.slice (some ⟨g, 0, none⟩) 32 32) (bv C) := Rd.part [] _ C 0 h rfl hC rfl
end
theorem box_rat (L : List Value) (w : World) : (Instr.box 71 (.agg L.toArray)).run Tryd.prog w = .ok (.pointer (some ⟨w.heap.size, 0, none⟩)) (w.alloc (.cells L.toArray 71)) := rfl
theorem alloc_rat (w : World) : (Instr.alloc 71 true (.tuple #[])).run Tryd.prog w = .ok (.pointer (some ⟨w.heap.size, 0, none⟩)) (w.alloc (.cells (ratL (List.replicate 32 0) 0 (.slice none 0 0)).toArray 71)) := by kernel_rfl
theorem build_rat0 (w : World) : (Instr.build 71 #[]).run Tryd.prog w = .ok (.agg (ratL (List.replicate 32 0) 0 (.slice none 0 0)).toArray) w := by kernel_rfl
theorem build_rat1 {X : List (BitVec 8)} (hX : X.length = 32) (w : World) : (Instr.build 71 #[(0, .agg (bv X).toArray)]).run Tryd.prog w = .ok (.agg (ratL X 0 (.slice none 0 0)).toArray) w := by
  unfold ratL
  rw [bv_of_len hX]
  generalize (fun i => Value.int .u8 (bn (X.getD i 0))) = f
  kernel_rfl
section
variable {ops : Array Oper} {rest : List Oper} {o : Oper} {a : Act} {w : World} {Q : Exit → Act → World → Prop} (hgd : o.guard = none) (x y : Operand) (g : Nat) (C : List (BitVec 8)) (G : Nat) (v : Value) (hC : C.length = 32)
include hgd hC
theorem wpList_store_ratZ (ho : o.op = .store 71 x y) (hv : v.oneCell' = true) (hx : a.eval x = .pointer (some ⟨g, 0, none⟩)) (hy : a.eval y = .agg (ratL C G v).toArray) (old : Array Value) (hg : w.heap[g]? = some (.cells old 71 (0, 0))) (hold : old.size = 34)
    (h : ∀ w', Hid (w'.heap[g]? = some (.cells (ratL C G v).toArray 71 (0, 0))) → Hid (∀ k, k ≠ g → w'.heap[k]? = w.heap[k]?) → (∀ k w0, k ≤ g → Below k w0 w → Below k w0 w') → wpList Tryd.prog ops Q rest (a.put o.dst undef) w') : wpList Tryd.prog ops Q (o :: rest) a w :=
  wpList_store_rowZ hgd _ x y ho g (ratL C G v).toArray hx hy _ old hg (rat_info hC) (by rw [hold, rat_old hC]) (all_one (ratL_one hv)) h
theorem wpList_store_ratC (ho : o.op = .store 23 x y) (X : List (BitVec 8)) (hX : X.length = 32) (hx : a.eval x = .pointer (some ⟨g, 0, none⟩)) (hy : a.eval y = .agg (bv X).toArray) (hg : w.heap[g]? = some (.cells (ratL C G v).toArray 71 (0, 0)))
    (h : ∀ w', Hid (w'.heap[g]? = some (.cells (ratL X G v).toArray 71 (0, 0))) → Hid (∀ k, k ≠ g → w'.heap[k]? = w.heap[k]?) → (∀ k w0, k ≤ g → Below k w0 w → Below k w0 w') → wpList Tryd.prog ops Q rest (a.put o.dst undef) w') : wpList Tryd.prog ops Q (o :: rest) a w :=
  wpList_store_part hgd _ x y ho g 0 (.agg (bv X).toArray) hx hy _ [] (bv C) (bv X) [.int .u64 (G : Int), v] rfl rfl hg (key_size1 X hX) (by rw [bv_length, bv_length, hX, hC]) (bv_one X) h
theorem wpList_store_ratG (ho : o.op = .store 37 x y) (G' : Nat) (hx : a.eval x = .pointer (some ⟨g, 32, none⟩)) (hy : a.eval y = .int .u64 (G' : Int)) (hg : w.heap[g]? = some (.cells (ratL C G v).toArray 71 (0, 0)))
    (h : ∀ w', Hid (w'.heap[g]? = some (.cells (ratL C G' v).toArray 71 (0, 0))) → Hid (∀ k, k ≠ g → w'.heap[k]? = w.heap[k]?) → (∀ k w0, k ≤ g → Below k w0 w → Below k w0 w') → wpList Tryd.prog ops Q rest (a.put o.dst undef) w') : wpList Tryd.prog ops Q (o :: rest) a w :=
  wpList_store_part hgd _ x y ho g 32 (.int .u64 (G' : Int)) hx hy _ (bv C) [.int .u64 (G : Int)] [.int .u64 (G' : Int)] [v] rfl (by rw [bv_length, hC]) hg (by kernel_rfl) rfl (fun u hu => by simp at hu; subst hu; rfl) h
end
def keyS : List (BitVec 8) := [107, 101, 121]
def chainS : List (BitVec 8) := [99, 104, 97, 105, 110]
set_option maxRecDepth 100000 in
set_option maxHeartbeats 4000000 in
theorem turn_any (C : List (BitVec 8)) (G : Nat) (ao : Option Addr) (n cap : Nat) (w : World) (hK : TabK K0 2 w) (hC : C.length = 32) (hG : G < 9223372036854775808) :
    Calls Tryd.prog 83 #[.agg (ratL C G (.slice ao n cap)).toArray] w fun r w' => r = .returned (.tuple #[.agg (bv (drvKey C keyS [])).toArray, .agg (ratL (drvKey C chainS []) (G + 1) (.slice ao n cap)).toArray, .int .i64 0]) ∧ Aft w w' := by
  have HK := Lib.hid hK
  have HC := Lib.hid hC
  have HG := Lib.hid hG
  have D1 := Lib.hid (fun (wx : World) (h : Aft w wx) => derive_any C ⟨#[107, 101, 121]⟩ (.slice none 0 0) [] wx (TabK_fr HK.out (Fr.of_below (S := fun _ => False) h) (fun h => h)) hC (RdAll.nil _) (by decide) (by simp) (fun h => texts_few h (by simp [drvT])))
  have D2 := Lib.hid (fun (wx : World) (h : Aft w wx) => derive_any C ⟨#[99, 104, 97, 105, 110]⟩ (.slice none 0 0) [] wx (TabK_fr HK.out (Fr.of_below (S := fun _ => False) h) (fun h => h)) hC (RdAll.nil _) (by decide) (by simp) (fun h => texts_few h (by simp [drvT])))
  unfold DrvSays at D1 D2
  rw [show textErr (drvT (sb ⟨#[107, 101, 121]⟩) []) = 0 from if_pos (by decide), show sb ⟨#[107, 101, 121]⟩ = keyS from rfl] at D1
  rw [show textErr (drvT (sb ⟨#[99, 104, 97, 105, 110]⟩) []) = 0 from if_pos (by decide), show sb ⟨#[99, 104, 97, 105, 110]⟩ = chainS from rfl] at D2
  have HX := Lib.hid (drvKey_length C keyS [])
  have HY := Lib.hid (drvKey_length C chainS [])
  generalize drvKey C keyS [] = X at *
  generalize drvKey C chainS [] = Y at *
  have HL := Lib.hid (Led.start w)
  clear hK hC hG
  go_enter Tryd.func83, Tryd.ntmps83
  go_wp2_with (first | (refine wpList_boxO rfl 71 (.tmp 0) rfl (.agg (ratL C G (.slice ao n cap)).toArray) rfl (.cells (ratL C G (.slice ao n cap)).toArray 71) (box_rat _) ?_; intro wa aa gg zz; replace HL := Lib.hid (HL.out.alloc aa gg.out); clear aa gg zz; try simp only [List.nil_append, List.cons_append, List.set_cons_zero, List.set_cons_succ] at HL) | (refine wpList_allocO rfl 23 rfl (.cells key0 23) alloc_key ?_; intro w' aa gg zz; replace HL := Lib.hid (HL.out.alloc aa gg.out); clear aa gg zz; try simp only [List.nil_append, List.cons_append, List.set_cons_zero, List.set_cons_succ] at HL) | (refine wpList_allocO rfl 71 rfl (.cells (ratL (List.replicate 32 0) 0 (.slice none 0 0)).toArray 71) alloc_rat ?_; intro w' aa gg zz; replace HL := Lib.hid (HL.out.alloc aa gg.out); clear aa gg zz; try simp only [List.nil_append, List.cons_append, List.set_cons_zero, List.set_cons_succ] at HL) | (refine wpList_load_keyG (by kernel_rfl) (.tmp 8) rfl _ _ rfl C (rat_c (HL.out.get 0 rfl) HC.out) HC.out ?_))
  refine (D1.out _ HL.out.aft).mono ?_
  rintro r w2 ⟨rfl, h2⟩
  replace HL := Lib.hid (HL.out.call h2)
  clear h2
  go_wp2_with (first | (refine wpList_allocO rfl 23 rfl (.cells key0 23) alloc_key ?_; intro w' aa gg zz; replace HL := Lib.hid (HL.out.alloc aa gg.out); clear aa gg zz; try simp only [List.nil_append, List.cons_append, List.set_cons_zero, List.set_cons_succ] at HL) | (refine wpList_store_keyZ rfl (.tmp 5) (.tmp 11) rfl _ X HX.out rfl rfl _ (HL.out.get 3 rfl) key0_size ?_; intro w' b1 b2 b3; replace HL := Lib.hid (HL.out.store 3 rfl b1 b2 b3); clear b1 b2 b3; try simp only [List.nil_append, List.cons_append, List.set_cons_zero, List.set_cons_succ] at HL) | (refine wpList_load_keyG (by kernel_rfl) (.tmp 19) rfl _ _ rfl C (rat_c (HL.out.get 0 rfl) HC.out) HC.out ?_))
  refine (D2.out _ HL.out.aft).mono ?_
  rintro r w3 ⟨rfl, h3⟩
  replace HL := Lib.hid (HL.out.call h3)
  clear h3
  have hN3 : (G : Int) + 1 < 18446744073709551616 := by have := HG.out; omega
  go_wp2_with (first | (refine wpList_store_ratC rfl (.tmp 24) (.tmp 22) _ C G _ HC.out rfl Y HY.out rfl rfl (HL.out.get 0 rfl) ?_; intro w4 b1 b2 b3; replace HL := Lib.hid (HL.out.store 0 rfl b1 b2 b3); clear b1 b2 b3; have hn := rat_n (HL.out.get 0 rfl) HY.out) | (refine wpList_store_ratG rfl (.tmp 33) (.tmp 32) _ Y G _ HY.out rfl (G + 1) rfl rfl (HL.out.get 0 rfl) ?_; intro w5 b1 b2 b3; replace HL := Lib.hid (HL.out.store 0 rfl b1 b2 b3); clear b1 b2 b3; try simp only [List.nil_append, List.cons_append, List.set_cons_zero, List.set_cons_succ] at HL))
  clear hN3
  refine wp_region_lex (fun w' => w'.heap[w2.heap.size]? = some (.cells (bv X).toArray 23 (0, 0)) ∧ w'.heap[w.heap.size]? = some (.cells (ratL Y (G + 1) (.slice ao n cap)).toArray 71 (0, 0))) (fun i => ([2] : List Nat).contains i) 3 (by kernel_rfl) (by kernel_rfl) ⟨HL.out.get 3 rfl, HL.out.get 0 rfl⟩ ?_
  change wpLx _ _ _ _ _ _ _ _ _ w5.drew
  replace HL := Lib.hid (HL.out.call (show Aft w5 w5.drew from (Below.refl _ _).drew))
  generalize w5.drew = wd at *
  refine lx_load_agg rfl (by kernel_rfl) 23 (.tmp 5) rfl ⟨w2.heap.size, 0, none⟩ rfl (bv X).toArray (fun w' h => run_loadVar_row w' _ _ _ _ _ _ h.1 Tryd.underlying23 rfl (key_info HX.out)) ?_
  simp only [Act.put, List.setIfInBounds_toArray, List.set_cons_succ, List.set_cons_zero]
  refine lx_load_agg rfl (by kernel_rfl) 71 (.tmp 1) rfl ⟨w.heap.size, 0, none⟩ rfl (ratL Y (G + 1) (.slice ao n cap)).toArray (fun w' h => run_loadVar_row w' _ _ _ _ _ _ h.2 Tryd.underlying71 rfl (rat_info HY.out)) ?_
  simp only [Act.put, List.setIfInBounds_toArray, List.set_cons_succ, List.set_cons_zero]
  refine lx_eff rfl (by kernel_rfl) ?_
  intro Kx hKx
  have hi1 := HL.out.inc 0 1 _ _ _ _ (by decide) rfl rfl
  have hi2 := HL.out.inc 1 3 _ _ _ _ (by decide) rfl rfl
  refine wp_of_list (ops := #[]) (wpList_store_keyZ rfl (.tmp 2) (.tmp 34) rfl _ X HX.out rfl rfl key0 (HL.out.get 1 rfl) key0_size ?_)
  intro w8 b1 b2 b3
  refine ⟨rfl, hKx _ _ ⟨⟨(b2.out w2.heap.size (by omega)).trans (HL.out.get 3 rfl), (b2.out w.heap.size (by omega)).trans (HL.out.get 0 rfl)⟩, ?_⟩⟩
  replace HL := Lib.hid (HL.out.store 1 rfl b1 b2 b3)
  clear b1 b2 b3 hKx hi1 hi2
  try simp only [List.nil_append, List.cons_append, List.set_cons_zero, List.set_cons_succ] at HL
  refine lx_done ?_
  simp only [Act.put]
  go_wp2_with (first | (refine wpList_store_ratZ rfl (.tmp 3) (.tmp 35) _ Y (G + 1) (.slice ao n cap) HY.out rfl rfl rfl rfl _ (HL.out.get 2 rfl) (rat_old List.length_replicate) ?_; intro w9 b1 b2 b3; replace HL := Lib.hid (HL.out.store 2 rfl b1 b2 b3); clear b1 b2 b3; try simp only [List.nil_append, List.cons_append, List.set_cons_zero, List.set_cons_succ] at HL))
  refine bodyPost_ret (results_cell2 rfl _ _ _ _ _ _ _ _ _ _ _ _ rfl rfl (HL.out.get 1 rfl) (HL.out.get 2 rfl) Tryd.underlying23 rfl (key_info HX.out) Tryd.underlying71 rfl (rat_info HY.out)) rfl ?_
  exact ⟨rfl, HL.out.aft⟩
end Go.Proofs.YtanodhagpegbfaaDoor
