/- The law DrawForks. -/
import Derived.Test.YtanodhagpegbfaaDoorDraw3
namespace Go.Proofs.YtanodhagpegbfaaDoor
open Go Go.RowKit
set_option linter.unusedSimpArgs false
theorem fkE_small (N : Nat) (s : ByteArray) (h : s.size ≤ 1000) : fkE N (sb s) = drwChk N := by
  have hl : (sb s).length ≤ 65535 := by rw [sb_length]; omega
  have hok : textOk (drvT forkS [beL 8 N, sb s]) = true := by simp [textOk, drvT, forkS, cot, beL_length, hl]
  unfold fkE drwErr drwChk
  split
  · exact if_pos hok
  · rfl
/-- Only the operation that writes slot n. -/
theorem wpList_dst {P : Program} {ops : Array Oper} {rest : List Oper} {o : Oper} {a : Act} {w : World} {Q : Exit → Act → World → Prop} (n : Nat) (_ : o.dst = some n) (k : wpList P ops Q (o :: rest) a w) : wpList P ops Q (o :: rest) a w := k
theorem str_ne {s t : ByteArray} (h : ¬ s = t) : (s.toList == t.toList) = false := by
  rw [beq_eq_false_iff_ne]
  intro e
  rw [ByteArray.toList_eq, ByteArray.toList_eq] at e
  apply h
  cases s
  cases t
  congr
  exact Array.toList_inj.1 e
set_option maxRecDepth 100000 in
set_option maxHeartbeats 8000000 in
theorem drawForks_any (seed : List (BitVec 8)) (N : Nat) (s t : ByteArray) (w : World) (hK : TabK K0 2 w) (hs : seed.length = 32) (hN : N < 18446744073709551616) :
    Calls Tryd.prog 6 #[.agg (drawsL seed N).toArray, .string s, .string t] w fun e w' => e = .returned (.bool true) ∧ Below w.heap.size w w' := by
  have HK := Lib.hid hK
  have HS := Lib.hid hs
  have HLv := Lib.hid (fun (wx : World) (h : Aft w wx) => live9_any wx (TabK_fr HK.out (Fr.of_below (S := fun _ => False) h) (fun h => h)))
  have HX := Lib.hid (fun (wx : World) (h : Aft w wx) => next_any seed N wx (TabK_fr HK.out (Fr.of_below (S := fun _ => False) h) (fun h => h)) hs hN)
  unfold NextSays at HX
  have HXl := Lib.hid (nxK_length seed N)
  have HSl := Lib.hid (nxS_length hs N)
  have HC := Lib.hid (fun (wx : World) => drawCheck_any seed N wx hs)
  have HL := Lib.hid (Led.start w)
  go_enter Tryd.func6, Tryd.ntmps6
  go_wp2_with (first | (refine wpList_boxO rfl 39 (.tmp 0) rfl (.agg (drawsL seed N).toArray) rfl (.cells (drawsL seed N).toArray 39) (box_draws _) ?_; intro w' aa gg zz; replace HL := Lib.hid (HL.out.alloc aa gg.out); clear aa gg zz; try simp only [List.nil_append, List.cons_append, List.set_cons_zero, List.set_cons_succ] at HL))
  refine (HLv.out _ HL.out.aft).mono ?_
  rintro e w2 ⟨rfl, h2⟩
  replace HL := Lib.hid (HL.out.call h2)
  clear h2
  by_cases h1 : (1000 : Int) < (s.size : Nat)
  · go_wp2_with fail
    go_ret
    exact ⟨rfl, HL.out.aft⟩
  · by_cases h2 : (1000 : Int) < (t.size : Nat)
    · go_wp2_with fail
      go_ret
      exact ⟨rfl, HL.out.aft⟩
    · have HF1 := Lib.hid (fun (wx : World) (h : Aft w wx) => fork_any seed N s wx (TabK_fr HK.out (Fr.of_below (S := fun _ => False) h) (fun h => h)) hs hN (by omega))
      have HF2 := Lib.hid (fun (wx : World) (h : Aft w wx) => fork_any seed N t wx (TabK_fr HK.out (Fr.of_below (S := fun _ => False) h) (fun h => h)) hs hN (by omega))
      rw [fkE_small N s (by omega)] at HF1
      rw [fkE_small N t (by omega)] at HF2
      have hc2 : drwChk N = 0 ∨ drwChk N = 1 := by unfold drwChk; split <;> simp
      have HX1 := Lib.hid (fkS_length seed N (sb s))
      have HX2 := Lib.hid (fkS_length seed N (sb t))
      have HST := Lib.hid (show s = t → fkS seed N (sb s) = fkS seed N (sb t) from fun h => by rw [h])
      generalize fkS seed N (sb s) = A at *
      generalize fkS seed N (sb t) = B at *
      generalize drwChk N = c at *
      generalize nxK seed N = X at *
      generalize nxS seed N = S at *
      generalize nxN N = M at *
      generalize nxE N = E at *
      have HC2 := Lib.hid hc2
      clear hK hs hN hc2
      go_wp2_with (first | (refine wpList_load_rowG (by kernel_rfl) 39 (.tmp 3) rfl _ rfl _ _ _ _ (HL.out.get 0 rfl) Tryd.underlying39 rfl (draws_info HS.out _) ?_))
      refine (HF1.out _ HL.out.aft).mono ?_
      rintro e w3 ⟨rfl, h3⟩
      replace HL := Lib.hid (HL.out.call h3)
      clear h3
      go_wp2_with (first | (refine wpList_allocO rfl 39 rfl (.cells (drawsL (List.replicate 32 0) 0).toArray 39) alloc_draws ?_; intro w' aa gg zz; replace HL := Lib.hid (HL.out.alloc aa gg.out); clear aa gg zz; try simp only [List.nil_append, List.cons_append, List.set_cons_zero, List.set_cons_succ] at HL) | (refine wpList_store_drawsZ rfl (.tmp 8) (.tmp 36) rfl _ A 0 HX1.out rfl rfl _ (HL.out.get 1 rfl) drawsZ_size ?_; intro w' b1 b2 b3; replace HL := Lib.hid (HL.out.store 1 rfl b1 b2 b3); clear b1 b2 b3; try simp only [List.nil_append, List.cons_append, List.set_cons_zero, List.set_cons_succ] at HL; have hc8 := draws_n (HL.out.get 1 rfl) HX1.out) | (refine wpList_load_rowG (by kernel_rfl) 39 (.tmp 3) rfl _ rfl _ _ _ _ (HL.out.get 0 rfl) Tryd.underlying39 rfl (draws_info HS.out _) ?_))
      refine (HF1.out _ HL.out.aft).mono ?_
      rintro e w4 ⟨rfl, h4⟩
      replace HL := Lib.hid (HL.out.call h4)
      clear h4 hc8
      go_wp2_with (first | (refine wpList_allocO rfl 39 rfl (.cells (drawsL (List.replicate 32 0) 0).toArray 39) alloc_draws ?_; intro w' aa gg zz; replace HL := Lib.hid (HL.out.alloc aa gg.out); clear aa gg zz; try simp only [List.nil_append, List.cons_append, List.set_cons_zero, List.set_cons_succ] at HL) | (refine wpList_store_drawsZ rfl (.tmp 10) (.tmp 42) rfl _ A 0 HX1.out rfl rfl _ (HL.out.get 2 rfl) drawsZ_size ?_; intro w' b1 b2 b3; replace HL := Lib.hid (HL.out.store 2 rfl b1 b2 b3); clear b1 b2 b3; try simp only [List.nil_append, List.cons_append, List.set_cons_zero, List.set_cons_succ] at HL) | (refine wpList_load_rowG (by kernel_rfl) 39 (.tmp 3) rfl _ rfl _ _ _ _ (HL.out.get 0 rfl) Tryd.underlying39 rfl (draws_info HS.out _) ?_))
      refine (HF2.out _ HL.out.aft).mono ?_
      rintro e w5 ⟨rfl, h5⟩
      replace HL := Lib.hid (HL.out.call h5)
      clear h5
      go_wp2_with (first | (refine wpList_allocO rfl 39 rfl (.cells (drawsL (List.replicate 32 0) 0).toArray 39) alloc_draws ?_; intro w' aa gg zz; replace HL := Lib.hid (HL.out.alloc aa gg.out); clear aa gg zz; try simp only [List.nil_append, List.cons_append, List.set_cons_zero, List.set_cons_succ] at HL) | (refine wpList_store_drawsZ rfl (.tmp 12) (.tmp 48) rfl _ B 0 HX2.out rfl rfl _ (HL.out.get 3 rfl) drawsZ_size ?_; intro w' b1 b2 b3; replace HL := Lib.hid (HL.out.store 3 rfl b1 b2 b3); clear b1 b2 b3; try simp only [List.nil_append, List.cons_append, List.set_cons_zero, List.set_cons_succ] at HL) | (refine wpList_load_rowG (by kernel_rfl) 39 (.tmp 3) rfl _ rfl _ _ _ _ (HL.out.get 0 rfl) Tryd.underlying39 rfl (draws_info HS.out _) ?_))
      refine (HX.out _ HL.out.aft).mono ?_
      rintro e w6 ⟨rfl, h6⟩
      replace HL := Lib.hid (HL.out.call h6)
      clear h6
      go_wp2_with (first | (refine wpList_allocO rfl 23 rfl (.cells key0 23) alloc_key ?_; intro w' aa gg zz; replace HL := Lib.hid (HL.out.alloc aa gg.out); clear aa gg zz; try simp only [List.nil_append, List.cons_append, List.set_cons_zero, List.set_cons_succ] at HL) | (refine wpList_allocO rfl 39 rfl (.cells (drawsL (List.replicate 32 0) 0).toArray 39) alloc_draws ?_; intro w' aa gg zz; replace HL := Lib.hid (HL.out.alloc aa gg.out); clear aa gg zz; try simp only [List.nil_append, List.cons_append, List.set_cons_zero, List.set_cons_succ] at HL) | (refine wpList_store_keyZ rfl (.tmp 14) (.tmp 53) rfl _ X HXl.out rfl rfl _ (HL.out.get 4 rfl) key0_size ?_; intro w' b1 b2 b3; replace HL := Lib.hid (HL.out.store 4 rfl b1 b2 b3); clear b1 b2 b3; try simp only [List.nil_append, List.cons_append, List.set_cons_zero, List.set_cons_succ] at HL) | (refine wpList_store_drawsZ rfl (.tmp 15) (.tmp 54) rfl _ S M HSl.out rfl rfl _ (HL.out.get 5 rfl) drawsZ_size ?_; intro w' b1 b2 b3; replace HL := Lib.hid (HL.out.store 5 rfl b1 b2 b3); clear b1 b2 b3; try simp only [List.nil_append, List.cons_append, List.set_cons_zero, List.set_cons_succ] at HL) | (refine wpList_load_rowG (by kernel_rfl) 39 (.tmp 3) rfl _ rfl _ _ _ _ (HL.out.get 0 rfl) Tryd.underlying39 rfl (draws_info HS.out _) ?_))
      refine (HX.out _ HL.out.aft).mono ?_
      rintro e w7 ⟨rfl, h7⟩
      replace HL := Lib.hid (HL.out.call h7)
      clear h7
      by_cases hst : s = t
      · obtain rfl := HST.out hst
        subst hst
        go_wp2_with (first | (refine wpList_allocO rfl 23 rfl (.cells key0 23) alloc_key ?_; intro w' aa gg zz; replace HL := Lib.hid (HL.out.alloc aa gg.out); clear aa gg zz; try simp only [List.nil_append, List.cons_append, List.set_cons_zero, List.set_cons_succ] at HL) | (refine wpList_allocO rfl 39 rfl (.cells (drawsL (List.replicate 32 0) 0).toArray 39) alloc_draws ?_; intro w' aa gg zz; replace HL := Lib.hid (HL.out.alloc aa gg.out); clear aa gg zz; try simp only [List.nil_append, List.cons_append, List.set_cons_zero, List.set_cons_succ] at HL) | (refine wpList_store_keyZ rfl (.tmp 17) (.tmp 59) rfl _ X HXl.out rfl rfl _ (HL.out.get 6 rfl) key0_size ?_; intro w' b1 b2 b3; replace HL := Lib.hid (HL.out.store 6 rfl b1 b2 b3); clear b1 b2 b3; try simp only [List.nil_append, List.cons_append, List.set_cons_zero, List.set_cons_succ] at HL) | (refine wpList_store_drawsZ rfl (.tmp 18) (.tmp 60) rfl _ S M HSl.out rfl rfl _ (HL.out.get 7 rfl) drawsZ_size ?_; intro w' b1 b2 b3; replace HL := Lib.hid (HL.out.store 7 rfl b1 b2 b3); clear b1 b2 b3; try simp only [List.nil_append, List.cons_append, List.set_cons_zero, List.set_cons_succ] at HL; have hc8 := draws_n (HL.out.get 1 rfl) HX1.out; have hc12 := draws_n (HL.out.get 3 rfl) HX1.out) | (refine wpList_load_rowG (by kernel_rfl) 39 (.tmp 8) rfl _ rfl _ _ _ _ (HL.out.get 1 rfl) Tryd.underlying39 rfl (draws_info HX1.out _) ?_) | (refine wpList_load_rowG (by kernel_rfl) 39 (.tmp 10) rfl _ rfl _ _ _ _ (HL.out.get 2 rfl) Tryd.underlying39 rfl (draws_info HX1.out _) ?_) | (refine wpList_binG (by kernel_rfl) .eql 39 39 (.tmp 64) (.tmp 65) rfl (.agg (drawsL A 0).toArray) (.agg (drawsL A 0).toArray) _ rfl rfl (run_eql_draws HX1.out HX1.out true (by simp)) (guard_draws _ _ _ _ _) ?_) | (refine wpList_load_rowG (by kernel_rfl) 23 (.tmp 14) rfl _ rfl _ _ _ _ (HL.out.get 4 rfl) Tryd.underlying23 rfl (key_info HXl.out) ?_) | (refine wpList_load_rowG (by kernel_rfl) 23 (.tmp 17) rfl _ rfl _ _ _ _ (HL.out.get 6 rfl) Tryd.underlying23 rfl (key_info HXl.out) ?_) | (refine wpList_binG (by kernel_rfl) .eql 23 23 (.tmp 79) (.tmp 80) rfl (.agg (bv X).toArray) (.agg (bv X).toArray) _ rfl rfl (run_eql_key X HXl.out) (guard_key _ _ _ _ _) ?_) | (refine wpList_load_rowG (by kernel_rfl) 39 (.tmp 12) rfl _ rfl _ _ _ _ (HL.out.get 3 rfl) Tryd.underlying39 rfl (draws_info HX1.out _) ?_) | (refine wpList_binG (by kernel_rfl) .eql 39 39 (.tmp 93) (.tmp 94) rfl (.agg (drawsL A 0).toArray) (.agg (drawsL A 0).toArray) _ rfl rfl (run_eql_draws HX1.out HX1.out true (by simp)) (guard_draws _ _ _ _ _) ?_) | (refine wpList_load_rowG (by kernel_rfl) 39 (.tmp 3) rfl _ rfl _ _ _ _ (HL.out.get 0 rfl) Tryd.underlying39 rfl (draws_info HS.out _) ?_))
        refine (HC.out _).mono ?_
        rintro e w8 ⟨rfl, h8⟩
        replace HL := Lib.hid (HL.out.call h8)
        clear h8
        go_wp2_with fail
        go_ret
        exact ⟨by simp, HL.out.aft⟩
      · clear HST
        have hs1 := str_ne hst
        go_wp2_with (first | (refine wpList_allocO rfl 23 rfl (.cells key0 23) alloc_key ?_; intro w' aa gg zz; replace HL := Lib.hid (HL.out.alloc aa gg.out); clear aa gg zz; try simp only [List.nil_append, List.cons_append, List.set_cons_zero, List.set_cons_succ] at HL) | (refine wpList_allocO rfl 39 rfl (.cells (drawsL (List.replicate 32 0) 0).toArray 39) alloc_draws ?_; intro w' aa gg zz; replace HL := Lib.hid (HL.out.alloc aa gg.out); clear aa gg zz; try simp only [List.nil_append, List.cons_append, List.set_cons_zero, List.set_cons_succ] at HL) | (refine wpList_store_keyZ rfl (.tmp 17) (.tmp 59) rfl _ X HXl.out rfl rfl _ (HL.out.get 6 rfl) key0_size ?_; intro w' b1 b2 b3; replace HL := Lib.hid (HL.out.store 6 rfl b1 b2 b3); clear b1 b2 b3; try simp only [List.nil_append, List.cons_append, List.set_cons_zero, List.set_cons_succ] at HL) | (refine wpList_store_drawsZ rfl (.tmp 18) (.tmp 60) rfl _ S M HSl.out rfl rfl _ (HL.out.get 7 rfl) drawsZ_size ?_; intro w' b1 b2 b3; replace HL := Lib.hid (HL.out.store 7 rfl b1 b2 b3); clear b1 b2 b3; try simp only [List.nil_append, List.cons_append, List.set_cons_zero, List.set_cons_succ] at HL; have hc8 := draws_n (HL.out.get 1 rfl) HX1.out; have hc12 := draws_n (HL.out.get 3 rfl) HX2.out) | (refine wpList_dst 64 rfl ?_; refine wpList_load_rowG (by kernel_rfl) 39 (.tmp 8) rfl _ rfl _ _ _ _ (HL.out.get 1 rfl) Tryd.underlying39 rfl (draws_info HX1.out _) ?_) | (refine wpList_load_rowG (by kernel_rfl) 39 (.tmp 10) rfl _ rfl _ _ _ _ (HL.out.get 2 rfl) Tryd.underlying39 rfl (draws_info HX1.out _) ?_) | (refine wpList_binG (by kernel_rfl) .eql 39 39 (.tmp 64) (.tmp 65) rfl (.agg (drawsL A 0).toArray) (.agg (drawsL A 0).toArray) _ rfl rfl (run_eql_draws HX1.out HX1.out true (by simp)) (guard_draws _ _ _ _ _) ?_) | (refine wpList_load_rowG (by kernel_rfl) 23 (.tmp 14) rfl _ rfl _ _ _ _ (HL.out.get 4 rfl) Tryd.underlying23 rfl (key_info HXl.out) ?_) | (refine wpList_load_rowG (by kernel_rfl) 23 (.tmp 17) rfl _ rfl _ _ _ _ (HL.out.get 6 rfl) Tryd.underlying23 rfl (key_info HXl.out) ?_) | (refine wpList_binG (by kernel_rfl) .eql 23 23 (.tmp 79) (.tmp 80) rfl (.agg (bv X).toArray) (.agg (bv X).toArray) _ rfl rfl (run_eql_key X HXl.out) (guard_key _ _ _ _ _) ?_) | (refine wpList_load_rowG (by kernel_rfl) 39 (.tmp 3) rfl _ rfl _ _ _ _ (HL.out.get 0 rfl) Tryd.underlying39 rfl (draws_info HS.out _) ?_))
        refine (HC.out _).mono ?_
        rintro e w8 ⟨rfl, h8⟩
        replace HL := Lib.hid (HL.out.call h8)
        clear h8
        go_wp2_with fail
        go_ret
        exact ⟨by simp, HL.out.aft⟩
end Go.Proofs.YtanodhagpegbfaaDoor
