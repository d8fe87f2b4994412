import Derived.Test.YtifehfcgmodmaaaDoorFinish
import Derived.Test.YtifehfcgmodmaaaDoorLexT
import Derived.Test.YtifehfcgmodmaaaDoorArr
namespace Go.Proofs.YtifehfcgmodmaaaDoor
open Go Go.RowKit
deriving instance DecidableEq for St
/-- The words at first. -/
def iv : St := ⟨1779033703, 3144134277, 1013904242, 2773480762, 1359893119, 2600822924, 528734635, 1541459225⟩
def chk (s : St) (N n : Nat) : Int := if N > 1099511627776 ∨ n ≠ N % 64 ∨ (N < 64 ∧ s ≠ iv) then 1 else 0
theorem new_any (w : World) : Calls Tryd.prog 28 #[] w fun e w' => e = .returned (.agg (shaArr iv 0 (.slice none 0 0))) ∧ Below w.heap.size w w' := by
  go_enter Tryd.func28, Tryd.ntmps28
  go_wp2_with fail
  go_returns
  exact ⟨rfl, (Below.refl _ _).alloc (Nat.le_refl _) _⟩
def St.words (s : St) : List Int := [wn s.a, wn s.b, wn s.c, wn s.d, wn s.e, wn s.f, wn s.g, wn s.h]
theorem St.words_inj {s t : St} (h : s.words = t.words) : s = t := by
  simp only [St.words, List.cons.injEq] at h
  obtain ⟨h1, h2, h3, h4, h5, h6, h7, h8, -⟩ := h
  cases s; cases t
  simp only [St.mk.injEq]
  exact ⟨wn_inj h1, wn_inj h2, wn_inj h3, wn_inj h4, wn_inj h5, wn_inj h6, wn_inj h7, wn_inj h8⟩
theorem St.words_beq (s t : St) : (s.words == t.words) = decide (s = t) := by
  by_cases hst : s = t
  · subst hst; simp
  · simp only [hst, decide_false, beq_eq_false_iff_ne]
    exact fun e => hst (St.words_inj e)
theorem St.words_agg (s : St) : Value.agg #[.int .u32 (wn s.a), .int .u32 (wn s.b), .int .u32 (wn s.c), .int .u32 (wn s.d), .int .u32 (wn s.e), .int .u32 (wn s.f), .int .u32 (wn s.g), .int .u32 (wn s.h)] = .agg (s.words.map (.int .u32)).toArray := rfl
theorem run_eq_st (s t : St) (b : Bool) (hb : b = decide (s = t)) (w : World) : (Op.equalIn 10000 34 (.agg #[.int .u32 (wn s.a), .int .u32 (wn s.b), .int .u32 (wn s.c), .int .u32 (wn s.d), .int .u32 (wn s.e), .int .u32 (wn s.f), .int .u32 (wn s.g), .int .u32 (wn s.h)])
    (.agg #[.int .u32 (wn t.a), .int .u32 (wn t.b), .int .u32 (wn t.c), .int .u32 (wn t.d), .int .u32 (wn t.e), .int .u32 (wn t.f), .int .u32 (wn t.g), .int .u32 (wn t.h)])).run Tryd.prog w = .ok b w := by
  have h := run_equalIn_ints (P := Tryd.prog) w 10000 9998 (by omega) 34 33 8 .u32 Tryd.underlying34 Tryd.underlying33 (by kernel_rfl) s.words t.words rfl rfl
  rw [s.words_agg, t.words_agg, h]
  rw [hb, St.words_beq]
theorem new_any' (w : World) : Calls Tryd.prog 28 #[] w fun e w' => e = .returned (.agg #[.int .u32 (wn iv.a), .int .u32 (wn iv.b), .int .u32 (wn iv.c), .int .u32 (wn iv.d), .int .u32 (wn iv.e), .int .u32 (wn iv.f), .int .u32 (wn iv.g), .int .u32 (wn iv.h), .int .u64 0, .slice none 0 0]) ∧ Below w.heap.size w w' := new_any w
set_option maxRecDepth 100000 in
set_option maxHeartbeats 1000000 in
theorem check_any (s : St) (N n cap : Nat) (ao : Option Addr) (w : World) (hN : N < 18446744073709551616) (hn : n ≤ 1099511627776) :
    Calls Tryd.prog 38 #[.agg #[.int .u32 (wn s.a), .int .u32 (wn s.b), .int .u32 (wn s.c), .int .u32 (wn s.d), .int .u32 (wn s.e), .int .u32 (wn s.f), .int .u32 (wn s.g), .int .u32 (wn s.h), .int .u64 (N : Int), .slice ao n cap]] w fun e w' => e = .returned (.int .i64 (chk s N n)) ∧ Below w.heap.size w w' := by
  go_enter Tryd.func38, Tryd.ntmps38
  go_wp2_with fail
  have hrow := shaRow s N (.slice ao n cap) w
  have HB := Lib.hid ((Below.refl w.heap.size w).alloc (Nat.le_refl _) (.cells (shaArr s N (.slice ao n cap)) 37))
  unfold shaArr at hrow HB
  generalize hwx : w.alloc (.cells _ _) = wx at hrow HB ⊢
  have hsz : w.heap.size < wx.heap.size := hrow.lt
  have HL : ∀ i, i < 10 → ∀ u : Later (w.heap.size + 1) wx, u.w.cell? ⟨w.heap.size, i, none⟩ = some (shaCells s N (.slice ao n cap) i) := fun i hi u => (u.h.cell (p := ⟨w.heap.size, i, none⟩) (Nat.lt_succ_self _)).trans (World.rowIs.cell hrow hi)
  have l0 := HL 0 (by omega)
  have l1 := HL 1 (by omega)
  have l2 := HL 2 (by omega)
  have l3 := HL 3 (by omega)
  have l4 := HL 4 (by omega)
  have l5 := HL 5 (by omega)
  have l6 := HL 6 (by omega)
  have l7 := HL 7 (by omega)
  have l8 := HL 8 (by omega)
  have l9 := HL 9 (by omega)
  simp only [shaCells_low _ (by omega : 0 < 8), shaCells_low _ (by omega : 1 < 8), shaCells_low _ (by omega : 2 < 8), shaCells_low _ (by omega : 3 < 8), shaCells_low _ (by omega : 4 < 8), shaCells_low _ (by omega : 5 < 8), shaCells_low _ (by omega : 6 < 8), shaCells_low _ (by omega : 7 < 8), shaCells_8, shaCells_9, St.at] at l0 l1 l2 l3 l4 l5 l6 l7 l8 l9
  have HC : ∃ u : Later (w.heap.size + 1) wx, wx.drew = u.w := ⟨⟨wx.drew, (Below.refl _ _).drew⟩, rfl⟩
  clear HL hrow hwx
  by_cases h1 : N > 1099511627776
  · have h1' : (1099511627776 : Int) < N := by omega
    refine wp_region_lex (fun w' => ∃ u : Later (w.heap.size + 1) wx, w' = u.w) (fun i => ([20] : List Nat).contains i) 25 (by kernel_rfl) (by kernel_rfl) (HC) ?_
    repeat (first | (refine lx_skipT (by go_big_quiet_skip; exact wpQuiet_nil trivial) (by kernel_rfl) ?_; simp only [Act.put, List.setIfInBounds_toArray, List.set_cons_succ, List.set_cons_zero]) | (refine lx_quietT rfl (by go_big_quiet_want; exact quiet_false (by assumption)) (by kernel_rfl) rfl ?_; intro Kx hKx; go_big_quiet_op; go_big_quiet_on))
    refine lx_done ?_
    go_wp2_with fail
    go_returns
    exact ⟨by simp [chk, h1], HB.out.drew⟩
  · have h1' : ¬ (1099511627776 : Int) < N := by omega
    by_cases h2 : n ≠ N % 64
    · have h2' : ((n : Int) != (N : Int) % 64) = true := by simp; omega
      refine wp_region_lex (fun w' => ∃ u : Later (w.heap.size + 1) wx, w' = u.w) (fun i => ([20] : List Nat).contains i) 25 (by kernel_rfl) (by kernel_rfl) (HC) ?_
      repeat (first | (refine lx_skipT (by go_big_quiet_skip; exact wpQuiet_nil trivial) (by kernel_rfl) ?_; simp only [Act.put, List.setIfInBounds_toArray, List.set_cons_succ, List.set_cons_zero]) | (refine lx_quietT rfl (by go_big_quiet_want; exact quiet_false (by assumption)) (by kernel_rfl) rfl ?_; intro Kx hKx; go_big_quiet_op; go_big_quiet_on))
      refine lx_done ?_
      go_wp2_with fail
      go_returns
      exact ⟨by simp [chk, h2], HB.out.drew⟩
    · obtain rfl : n = N % 64 := by omega
      by_cases h3 : N < 64
      · have hfl : ∀ w, (Instr.field 37 (.agg #[.int .u32 (wn iv.a), .int .u32 (wn iv.b), .int .u32 (wn iv.c), .int .u32 (wn iv.d), .int .u32 (wn iv.e), .int .u32 (wn iv.f), .int .u32 (wn iv.g), .int .u32 (wn iv.h), .int .u64 0, .slice none 0 0]) 0).run Tryd.prog w = .ok (.agg #[.int .u32 (wn iv.a), .int .u32 (wn iv.b), .int .u32 (wn iv.c), .int .u32 (wn iv.d), .int .u32 (wn iv.e), .int .u32 (wn iv.f), .int .u32 (wn iv.g), .int .u32 (wn iv.h)]) w := fun w => by kernel_rfl
        by_cases hst : s = iv
        all_goals have heq := run_eq_st s iv _ rfl
        all_goals simp only [hst, decide_true, decide_false] at heq
        all_goals
          have h3' : (N : Int) < 64 := by omega
          refine wp_region_lex (fun w' => ∃ u : Later (w.heap.size + 1) wx, w' = u.w) (fun i => ([20] : List Nat).contains i) 25 (by kernel_rfl) (by kernel_rfl) (HC) ?_
          repeat (first | (refine lx_skipT (by go_big_quiet_skip; exact wpQuiet_nil trivial) (by kernel_rfl) ?_; simp only [Act.put, List.setIfInBounds_toArray, List.set_cons_succ, List.set_cons_zero]) | (refine lx_quietT rfl (by go_big_quiet_want; exact quiet_false (by assumption)) (by kernel_rfl) rfl ?_; intro Kx hKx; go_big_quiet_op; go_big_quiet_on))
          refine lx_effT rfl (by go_big_quiet_want; exact quiet_false (by assumption)) (by kernel_rfl) ?_; intro Kx hKx; go_wp2_with fail
          refine (new_any' _).mono ?_
          rintro e w2 ⟨rfl, hb2⟩
          go_wp2_with fail
          have hb3 : Below (w.heap.size + 1) wx w2 := ((Below.refl _ wx).drew).trans (hb2.mono hsz)
          refine ⟨Later.on hb3, ?_⟩
          repeat (first | (refine lx_skipT (by go_big_quiet_skip; exact wpQuiet_nil trivial) (by kernel_rfl) ?_; simp only [Act.put, List.setIfInBounds_toArray, List.set_cons_succ, List.set_cons_zero]) | (refine lx_quietT rfl (by go_big_quiet_want; exact quiet_false (by assumption)) (by kernel_rfl) rfl ?_; intro Kx hKx; go_big_quiet_op; go_big_quiet_on))
          refine lx_done ?_
          go_wp2_with fail
          go_returns
          exact ⟨by simp [chk, h1, h3, hst], HB.out.trans (hb3.mono (Nat.le_succ _))⟩
      · have h3' : ¬ (N : Int) < 64 := by omega
        refine wp_region_lex (fun w' => ∃ u : Later (w.heap.size + 1) wx, w' = u.w) (fun i => ([20] : List Nat).contains i) 25 (by kernel_rfl) (by kernel_rfl) (HC) ?_
        repeat (first | (refine lx_skipT (by go_big_quiet_skip; exact wpQuiet_nil trivial) (by kernel_rfl) ?_; simp only [Act.put, List.setIfInBounds_toArray, List.set_cons_succ, List.set_cons_zero]) | (refine lx_quietT rfl (by go_big_quiet_want; exact quiet_false (by assumption)) (by kernel_rfl) rfl ?_; intro Kx hKx; go_big_quiet_op; go_big_quiet_on))
        refine lx_done ?_
        go_wp2_with fail
        go_returns
        exact ⟨by simp [chk, h1, h3], HB.out.drew⟩
end Go.Proofs.YtifehfcgmodmaaaDoor
