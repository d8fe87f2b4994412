/- coterieref02.New and Check. -/
import Derived.Test.YtifehfcgmodmaaaDoorRefSum
namespace Go.Proofs.YtifehfcgmodmaaaDoor
open Go Go.RowKit
theorem first_any' (w : World) : Calls Tryd.prog 63 #[] w fun e w' => e = .returned (.agg #[.int .u32 (wn iv.a), .int .u32 (wn iv.b), .int .u32 (wn iv.c), .int .u32 (wn iv.d), .int .u32 (wn iv.e), .int .u32 (wn iv.f), .int .u32 (wn iv.g), .int .u32 (wn iv.h)]) ∧ Below w.heap.size w w' := first_any w
theorem refNew_any (w : World) : Calls Tryd.prog 41 #[] w fun e w' => e = .returned (.agg #[.int .u32 (wn iv.a), .int .u32 (wn iv.b), .int .u32 (wn iv.c), .int .u32 (wn iv.d), .int .u32 (wn iv.e), .int .u32 (wn iv.f), .int .u32 (wn iv.g), .int .u32 (wn iv.h), .int .u64 0, .slice none 0 0]) ∧ Below w.heap.size w w' := by
  go_enter Tryd.func41, Tryd.ntmps41
  go_wp2_with fail
  refine (first_any' _).mono ?_
  rintro e w1 ⟨rfl, hb1⟩
  have hb : Below w.heap.size w w1 := Aft.trans (Aft.alloc w _) hb1
  have HO := Lib.hid (Aft.get hb1 (heap_alloc_new w (.cells #[.int .u32 0, .int .u32 0, .int .u32 0, .int .u32 0, .int .u32 0, .int .u32 0, .int .u32 0, .int .u32 0, .int .u64 0, .slice none 0 0] 37)))
  have HB := Lib.hid hb
  clear hb hb1
  have hs10 : (Tryd.prog.info? 37).map (·.size) = some (#[.int .u32 (wn iv.a), .int .u32 (wn iv.b), .int .u32 (wn iv.c), .int .u32 (wn iv.d), .int .u32 (wn iv.e), .int .u32 (wn iv.f), .int .u32 (wn iv.g), .int .u32 (wn iv.h), .int .u64 0, .slice none 0 0] : Array Value).size := by kernel_rfl
  go_wp2_with ((refine wpList_store_sha rfl (.tmp 0) (.tmp 2) rfl w.heap.size #[.int .u32 (wn iv.a), .int .u32 (wn iv.b), .int .u32 (wn iv.c), .int .u32 (wn iv.d), .int .u32 (wn iv.e), .int .u32 (wn iv.f), .int .u32 (wn iv.g), .int .u32 (wn iv.h), .int .u64 0, .slice none 0 0] rfl rfl rfl (by kernel_rfl) zero10 rfl HO.out ?_; intro w3 q2 q3 _))
  refine bodyPost_ret (results_cell_row rfl _ _ w.heap.size 37 #[.int .u32 (wn iv.a), .int .u32 (wn iv.b), .int .u32 (wn iv.c), .int .u32 (wn iv.d), .int .u32 (wn iv.e), .int .u32 (wn iv.f), .int .u32 (wn iv.g), .int .u32 (wn iv.h), .int .u64 0, .slice none 0 0] (0, 0) _ rfl q2.out Tryd.underlying37 rfl hs10) rfl ?_
  exact ⟨rfl, q3 _ _ (Nat.le_refl _) HB.out⟩
set_option maxRecDepth 100000 in
set_option maxHeartbeats 1000000 in
theorem refCheck_any (s : St) (N n cap : Nat) (ao : Option Addr) (w : World) (hN : N < 18446744073709551616) (hn : n ≤ 1099511627776) :
    Calls Tryd.prog 39 #[.agg #[.int .u32 (wn s.a), .int .u32 (wn s.b), .int .u32 (wn s.c), .int .u32 (wn s.d), .int .u32 (wn s.e), .int .u32 (wn s.f), .int .u32 (wn s.g), .int .u32 (wn s.h), .int .u64 (N : Int), .slice ao n cap]] w fun e w' => e = .returned (.int .i64 (chk s N n)) ∧ Below w.heap.size w w' := by
  go_enter Tryd.func39, Tryd.ntmps39
  go_wp2_with fail
  have hrow := shaRow s N (.slice ao n cap) w
  have HB := Lib.hid ((Below.refl w.heap.size w).alloc (Nat.le_refl _) (.cells (shaArr s N (.slice ao n cap)) 37))
  unfold shaArr at hrow HB
  generalize hwx : w.alloc (.cells _ _) = wx at hrow HB ⊢
  have hsz : w.heap.size < wx.heap.size := hrow.lt
  have HL : ∀ i, i < 10 → ∀ u : Later (w.heap.size + 1) wx, u.w.cell? ⟨w.heap.size, i, none⟩ = some (shaCells s N (.slice ao n cap) i) := fun i hi u => (u.h.cell (p := ⟨w.heap.size, i, none⟩) (Nat.lt_succ_self _)).trans (World.rowIs.cell hrow hi)
  have l0 := HL 0 (by omega)
  have l1 := HL 1 (by omega)
  have l2 := HL 2 (by omega)
  have l3 := HL 3 (by omega)
  have l4 := HL 4 (by omega)
  have l5 := HL 5 (by omega)
  have l6 := HL 6 (by omega)
  have l7 := HL 7 (by omega)
  have l8 := HL 8 (by omega)
  have l9 := HL 9 (by omega)
  simp only [shaCells_low _ (by omega : 0 < 8), shaCells_low _ (by omega : 1 < 8), shaCells_low _ (by omega : 2 < 8), shaCells_low _ (by omega : 3 < 8), shaCells_low _ (by omega : 4 < 8), shaCells_low _ (by omega : 5 < 8), shaCells_low _ (by omega : 6 < 8), shaCells_low _ (by omega : 7 < 8), shaCells_8, shaCells_9, St.at] at l0 l1 l2 l3 l4 l5 l6 l7 l8 l9
  have HC : ∃ u : Later (w.heap.size + 1) wx, wx.drew = u.w := ⟨⟨wx.drew, (Below.refl _ _).drew⟩, rfl⟩
  clear HL hrow hwx
  by_cases h1 : N > 1099511627776
  · have h1' : (1099511627776 : Int) < N := by omega
    refine wp_region_lex (fun w' => ∃ u : Later (w.heap.size + 1) wx, w' = u.w) (fun i => ([20] : List Nat).contains i) 24 (by kernel_rfl) (by kernel_rfl) (HC) ?_
    repeat (first | (refine lx_skipT (by go_big_quiet_skip; exact wpQuiet_nil trivial) (by kernel_rfl) ?_; simp only [Act.put, List.setIfInBounds_toArray, List.set_cons_succ, List.set_cons_zero]) | (refine lx_quietT rfl (by go_big_quiet_want; exact quiet_false (by assumption)) (by kernel_rfl) rfl ?_; intro Kx hKx; go_big_quiet_op; go_big_quiet_on))
    refine lx_done ?_
    go_wp2_with fail
    go_returns
    exact ⟨by simp [chk, h1], HB.out.drew⟩
  · have h1' : ¬ (1099511627776 : Int) < N := by omega
    by_cases h2 : n ≠ N % 64
    · have h2' : ((n : Int) != (N : Int) % 64) = true := by simp; omega
      refine wp_region_lex (fun w' => ∃ u : Later (w.heap.size + 1) wx, w' = u.w) (fun i => ([20] : List Nat).contains i) 24 (by kernel_rfl) (by kernel_rfl) (HC) ?_
      repeat (first | (refine lx_skipT (by go_big_quiet_skip; exact wpQuiet_nil trivial) (by kernel_rfl) ?_; simp only [Act.put, List.setIfInBounds_toArray, List.set_cons_succ, List.set_cons_zero]) | (refine lx_quietT rfl (by go_big_quiet_want; exact quiet_false (by assumption)) (by kernel_rfl) rfl ?_; intro Kx hKx; go_big_quiet_op; go_big_quiet_on))
      refine lx_done ?_
      go_wp2_with fail
      go_returns
      exact ⟨by simp [chk, h2], HB.out.drew⟩
    · obtain rfl : n = N % 64 := by omega
      by_cases h3 : N < 64
      · skip
        by_cases hst : s = iv
        all_goals have heq := run_eq_st s iv _ rfl
        all_goals simp only [hst, decide_true, decide_false] at heq
        all_goals
          have h3' : (N : Int) < 64 := by omega
          refine wp_region_lex (fun w' => ∃ u : Later (w.heap.size + 1) wx, w' = u.w) (fun i => ([20] : List Nat).contains i) 24 (by kernel_rfl) (by kernel_rfl) (HC) ?_
          repeat (first | (refine lx_skipT (by go_big_quiet_skip; exact wpQuiet_nil trivial) (by kernel_rfl) ?_; simp only [Act.put, List.setIfInBounds_toArray, List.set_cons_succ, List.set_cons_zero]) | (refine lx_quietT rfl (by go_big_quiet_want; exact quiet_false (by assumption)) (by kernel_rfl) rfl ?_; intro Kx hKx; go_big_quiet_op; go_big_quiet_on))
          refine lx_effT rfl (by go_big_quiet_want; exact quiet_false (by assumption)) (by kernel_rfl) ?_; intro Kx hKx; go_wp2_with fail
          refine (first_any' _).mono ?_
          rintro e w2 ⟨rfl, hb2⟩
          go_wp2_with fail
          have hb3 : Below (w.heap.size + 1) wx w2 := ((Below.refl _ wx).drew).trans (hb2.mono hsz)
          refine ⟨Later.on hb3, ?_⟩
          repeat (first | (refine lx_skipT (by go_big_quiet_skip; exact wpQuiet_nil trivial) (by kernel_rfl) ?_; simp only [Act.put, List.setIfInBounds_toArray, List.set_cons_succ, List.set_cons_zero]) | (refine lx_quietT rfl (by go_big_quiet_want; exact quiet_false (by assumption)) (by kernel_rfl) rfl ?_; intro Kx hKx; go_big_quiet_op; go_big_quiet_on))
          refine lx_done ?_
          go_wp2_with fail
          go_returns
          exact ⟨by simp [chk, h1, h3, hst], HB.out.trans (hb3.mono (Nat.le_succ _))⟩
      · have h3' : ¬ (N : Int) < 64 := by omega
        refine wp_region_lex (fun w' => ∃ u : Later (w.heap.size + 1) wx, w' = u.w) (fun i => ([20] : List Nat).contains i) 24 (by kernel_rfl) (by kernel_rfl) (HC) ?_
        repeat (first | (refine lx_skipT (by go_big_quiet_skip; exact wpQuiet_nil trivial) (by kernel_rfl) ?_; simp only [Act.put, List.setIfInBounds_toArray, List.set_cons_succ, List.set_cons_zero]) | (refine lx_quietT rfl (by go_big_quiet_want; exact quiet_false (by assumption)) (by kernel_rfl) rfl ?_; intro Kx hKx; go_big_quiet_op; go_big_quiet_on))
        refine lx_done ?_
        go_wp2_with fail
        go_returns
        exact ⟨by simp [chk, h1, h3], HB.out.drew⟩
end Go.Proofs.YtifehfcgmodmaaaDoor
