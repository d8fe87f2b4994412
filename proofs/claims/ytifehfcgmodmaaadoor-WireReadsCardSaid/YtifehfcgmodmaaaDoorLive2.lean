import Derived.Test.YtifehfcgmodmaaaDoorDigest
import Derived.Lib.SlBytesConst
namespace Go.Proofs.YtifehfcgmodmaaaDoor
open Go Go.RowKit
theorem RdAll.nil (w : World) : RdAll w (.slice none 0 0) [] := ⟨[], Rd.nil w, rfl, fun _ _ h => by cases h⟩
theorem Rd.litF (w : World) (cs : List Value) (t : Nat) (fr : Nat × Nat) (hm : cs.length ≤ maxLen) : Rd (w.alloc (.cells cs.toArray t fr)) (.slice (some ⟨w.heap.size, 0, none⟩) cs.length cs.length) cs := by
  refine ⟨_, cs.length, rfl, Nat.le_refl _, by unfold maxLen at hm; omega, fun e => (by cases e), fun ad ha j u hu => ?_⟩
  cases ha
  rw [Addr.add_lit, cell_of_row _ _ _ _ _ _ (heap_alloc_new w _)]
  simpa using hu
theorem RdAll.one_lit (w : World) (l : List (BitVec 8)) (t t' : Nat) (fr : Nat × Nat) (hl : l.length ≤ maxLen := by decide) : RdAll ((w.alloc (.cells (bv l).toArray t fr)).alloc (.cells #[.slice (some ⟨w.heap.size, 0, none⟩) l.length l.length] t')) (.slice (some ⟨w.heap.size + 1, 0, none⟩) 1 1) [l] := by
  have h1 := Rd.lit (w.alloc (.cells (bv l).toArray t fr)) #[.slice (some ⟨w.heap.size, 0, none⟩) l.length l.length] t' 1 rfl (by decide)
  rw [World.size_alloc] at h1
  have h2 := (Rd.litF w (bv l) t fr (by rw [bv_length]; exact hl)).grow ((Below.refl _ _).alloc (Nat.le_refl _) (.cells #[.slice (some ⟨w.heap.size, 0, none⟩) l.length l.length] t'))
  refine ⟨_, h1, rfl, fun i v hv => ?_⟩
  cases i with
  | zero => cases hv; rw [bv_length] at h2; exact h2
  | succ i => simp at hv
theorem digest_cells (d : List (BitVec 8)) (a b c e : BitVec 8) (h : (digest K0 d).take 4 = [a, b, c, e]) :
    (bv (digest K0 d)).toArray[0]? = some (.int .u8 (bn a)) ∧ (bv (digest K0 d)).toArray[1]? = some (.int .u8 (bn b)) ∧ (bv (digest K0 d)).toArray[2]? = some (.int .u8 (bn c)) ∧ (bv (digest K0 d)).toArray[3]? = some (.int .u8 (bn e)) := by
  generalize digest K0 d = X at h
  match X, h with
  | x0 :: x1 :: x2 :: x3 :: xs, h =>
    simp only [List.take_succ_cons, List.take_zero, List.cons.injEq, and_true] at h
    obtain ⟨rfl, rfl, rfl, rfl⟩ := h
    exact ⟨rfl, rfl, rfl, rfl⟩
theorem row_cells {w : World} {g t : Nat} {cs : Array Value} (h : w.heap[g]? = some (.cells cs t (0, 0))) {a b c d : Value} (k : cs[0]? = some a ∧ cs[1]? = some b ∧ cs[2]? = some c ∧ cs[3]? = some d) :
    w.cell? ⟨g, 0, none⟩ = some a ∧ w.cell? ⟨g, 1, none⟩ = some b ∧ w.cell? ⟨g, 2, none⟩ = some c ∧ w.cell? ⟨g, 3, none⟩ = some d := by
  rw [cell_of_row w g 0 cs t _ h, cell_of_row w g 1 cs t _ h, cell_of_row w g 2 cs t _ h, cell_of_row w g 3 cs t _ h]
  exact k
set_option maxRecDepth 100000 in
set_option maxHeartbeats 1000000 in
theorem live2_any (w : World) (hK : TabK K0 1 w) : Calls Tryd.prog 19 #[] w fun e w' => e = .returned (.bool true) ∧ Below w.heap.size w w' := by
  have HK := Lib.hid hK
  clear hK
  have HS := Lib.hid (sum_any K0 _ _ w HK.out (RdAll.nil w) (by simp))
  go_enter Tryd.func19, Tryd.ntmps19
  go_wp2_with fail
  refine HS.out.mono ?_
  rintro e w1 ⟨rfl, hb1⟩
  have ac := digest_cells [] _ _ _ _ digest_nil
  have al := digest_length K0 []
  simp only [List.flatten_nil]
  generalize digest K0 [] = X at ac al ⊢
  have AC := Lib.hid ac
  clear ac
  have hxl : (bv X).toArray.size = 32 := by rw [List.size_toArray, bv_length]; exact al
  have hh0 := heap_alloc_new w1 (.cells key0 28)
  have HA := Lib.hid hh0
  have hs32 : (Tryd.prog.info? 28).map (·.size) = some (bv X).toArray.size := by rw [hxl]; kernel_rfl
  have ha1 : (bv X).toArray.all (·.oneCell') = true := Array.all_eq_true_iff_forall_mem.2 fun u hu => bv_one X u (by simpa using hu)
  clear hh0
  have hcv := fun (w : World) (C : Array Value) (n c : Nat) => Lib.run_convert_bytes_const (P := Tryd.prog) w 25 5 C n c Tryd.underlying25 Tryd.underlying5
  have hb1' := hb1
  go_wp2_with ((refine wpList_store_rowX rfl 28 (.tmp 1) (.tmp 3) rfl w1.heap.size (bv X).toArray rfl rfl 28 key0 HA.out hs32 hxl.symm ha1 ?_; intro w2 q2 q3))
  have hb2 := q3 w.heap.size w hb1'.size (hb1'.alloc hb1'.size _)
  have hl2 := heap_lt q2.out
  have hb4 : ∀ o1 o2, Below w2.heap.size w2 ((w2.alloc o1).alloc o2) := fun o1 o2 => ((Below.refl _ w2).alloc (Nat.le_refl _) o1).alloc (by rw [World.size_alloc]; omega) o2
  have hb5 : ∀ o1 o2, Below w.heap.size w ((w2.alloc o1).alloc o2) := fun o1 o2 => hb2.trans ((hb4 o1 o2).mono hb2.size)
  have hr := RdAll.one_lit w2 [97, 98, 99] 5 25 (3, 4)
  refine (sum_any K0 _ _ _ (TabK_fr HK.out (Fr.of_below (S := fun _ => False) (hb5 _ _)) (fun h => h)) hr (by simp)).mono ?_
  rintro e w3 ⟨rfl, hb3⟩
  have hb3' := (hb5 _ _).trans (hb3.mono (hb5 _ _).size)
  have h13 := (hb3.block w1.heap.size (by rw [World.size_alloc, World.size_alloc]; omega)).trans (((hb4 _ _).block w1.heap.size hl2).trans q2.out)
  have bc := digest_cells [97, 98, 99] _ _ _ _ digest_abc
  have bl := digest_length K0 [97, 98, 99]
  rw [show ([[97, 98, 99]] : List (List (BitVec 8))).flatten = [97, 98, 99] from rfl]
  generalize digest K0 [97, 98, 99] = Y at bc bl ⊢
  have BC := Lib.hid bc
  clear bc
  have hyl : (bv Y).toArray.size = 32 := by rw [List.size_toArray, bv_length]; exact bl
  have HA3 := Lib.hid (heap_alloc_new w3 (.cells key0 28))
  have hs32' : (Tryd.prog.info? 28).map (·.size) = some (bv Y).toArray.size := by rw [hyl]; kernel_rfl
  have hb1'' : (bv Y).toArray.all (·.oneCell') = true := Array.all_eq_true_iff_forall_mem.2 fun u hu => bv_one Y u (by simpa using hu)
  have hl13 : w1.heap.size < w3.heap.size := heap_lt h13
  have H13 := Lib.hid ((Below.heap_alloc w3 (.cells key0 28) _ (heap_lt h13)).trans h13)
  have HB3 := Lib.hid hb3'
  clear h13 hb3' hb3 hb2 hb4 hb5 hr hb1' q3 q2 hs32 ha1 hcv hb1
  go_wp2_with ((refine wpList_store_rowX rfl 28 (.tmp 2) (.tmp 7) rfl w3.heap.size (bv Y).toArray rfl rfl 28 key0 HA3.out hs32' hyl.symm hb1'' ?_; intro w4 q2 q3; have h14 := row_cells (((q3 _ _ (Nat.le_refl _) (Below.refl _ _)).block _ hl13).trans H13.out) AC.out; have h24 := row_cells q2.out BC.out; have HB4 := Lib.hid (q3 w.heap.size w HB3.out.size (HB3.out.alloc HB3.out.size _)); clear q3; obtain ⟨c0, c1, c2, c3⟩ := h14; obtain ⟨d0, d1, d2, d3⟩ := h24))
  go_ret
  exact ⟨rfl, HB4.out⟩
end Go.Proofs.YtifehfcgmodmaaaDoor
