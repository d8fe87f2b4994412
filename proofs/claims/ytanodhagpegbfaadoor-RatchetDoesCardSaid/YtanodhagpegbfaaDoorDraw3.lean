/- draw.Fork; the laws DrawEnds and DrawForks. -/
import Derived.Test.YtanodhagpegbfaaDoorDraw2
namespace Go.Proofs.YtanodhagpegbfaaDoor
open Go Go.RowKit
def fkS (seed : List (BitVec 8)) (N : Nat) (L : List (BitVec 8)) : List (BitVec 8) := drwKey seed N forkS [L]
def fkE (N : Nat) (L : List (BitVec 8)) : Int := drwErr N forkS [L]
theorem fkS_length (seed : List (BitVec 8)) (N : Nat) (L : List (BitVec 8)) : (fkS seed N L).length = 32 := drwKey_length _ _ _ _
theorem fkS_bad {seed : List (BitVec 8)} {N : Nat} {L : List (BitVec 8)} (h : fkE N L ≠ 0) : fkS seed N L = List.replicate 32 0 := by
  unfold fkE drwErr at h
  unfold fkS drwKey
  split
  · next hN =>
    rw [if_pos hN] at h
    unfold drvKey
    rw [if_neg]
    intro hk
    exact h (if_pos hk)
  · rfl
set_option maxRecDepth 100000 in
set_option maxHeartbeats 1000000 in
theorem fork_any (seed : List (BitVec 8)) (N : Nat) (s : ByteArray) (w : World) (hK : TabK K0 2 w) (hs : seed.length = 32) (hN : N < 18446744073709551616) (hsz : s.size ≤ 1048576) :
    Calls Tryd.prog 27 #[.agg (drawsL seed N).toArray, .string s] w fun e w' => e = .returned (.tuple #[.agg (drawsL (fkS seed N (sb s)) 0).toArray, .int .i64 (fkE N (sb s))]) ∧ Aft w w' := by
  have HK := Lib.hid hK
  have HS := Lib.hid hs
  have hm : s.size ≤ maxLen := Nat.le_trans hsz (by decide)
  have HM := Lib.hid hm
  have hcs := fun w5 : World => Lib.run_convert_string_bytes (P := Tryd.prog) w5 9 24 5 s (u := .string) Tryd.underlying9 Tryd.underlying24 Tryd.underlying5
  have HD := Lib.hid (fun (wx : World) (v : Value) (h : Aft w wx) (hr : RdAll wx v [sb s]) => derived_any seed N ⟨#[102, 111, 114, 107]⟩ v [sb s] wx (TabK_fr HK.out (Fr.of_below (S := fun _ => False) h) (fun h => h)) hs hN (by decide) hr (by simp))
  rw [show sb ⟨#[102, 111, 114, 107]⟩ = forkS from rfl] at HD
  change Hid (∀ wx v, Aft w wx → RdAll wx v [sb s] → Calls Tryd.prog 69 #[.agg (drawsL seed N).toArray, .string ⟨#[102, 111, 114, 107]⟩, v] wx fun e w' => e = .returned (.tuple #[.agg (bv (fkS seed N (sb s))).toArray, .int .i64 (fkE N (sb s))]) ∧ Aft wx w') at HD
  have HXL := Lib.hid (fkS_length seed N (sb s))
  have HX0 := Lib.hid (fkS_bad (seed := seed) (N := N) (L := sb s))
  generalize hX : fkS seed N (sb s) = X at HD HXL HX0
  generalize hE : fkE N (sb s) = ex at HD HX0
  have HX := Lib.hid hX
  have HE := Lib.hid hE
  have HL := Lib.hid (Led.start w)
  clear hK hs hN hsz hm hX hE
  go_enter Tryd.func27, Tryd.ntmps27
  go_wp2_with (first | (refine wpList_boxO rfl 39 (.tmp 0) rfl (.agg (drawsL seed N).toArray) rfl (.cells (drawsL seed N).toArray 39) (box_draws _) ?_; intro w' aa gg zz; replace HL := Lib.hid (HL.out.alloc aa gg.out); clear aa gg zz) | (refine wpList_allocO rfl 39 rfl (.cells (drawsL (List.replicate 32 0) 0).toArray 39) alloc_draws ?_; intro w' aa gg zz; replace HL := Lib.hid (HL.out.alloc aa gg.out); clear aa gg zz) | (refine wpList_load_rowG (by kernel_rfl) 39 (.tmp 2) rfl _ rfl _ _ _ _ (HL.out.get 0 rfl) Tryd.underlying39 rfl (draws_info HS.out _) ?_))
  have hr := fun w5 : World => rd_conv w5 s HM.out
  refine (HD.out _ _ ?_ ?_).mono ?_
  · exact Aft.trans HL.out.aft (Aft.trans (Lib.bytesWorld_below _ _ _) (Aft.alloc _ _))
  · exact RdAll.one _ _ _ _ (hr _)
  rintro e w2 ⟨rfl, h2⟩
  replace HL := Lib.hid (HL.out.call (Aft.trans (Aft.trans (Lib.bytesWorld_below _ _ _) (Aft.alloc _ _)) h2))
  clear h2 hcs hr
  by_cases he : ex = 0
  · subst he
    go_wp2_with (first
      | (refine wpList_allocO rfl 23 rfl (.cells key0 23) alloc_key ?_; intro w' aa gg zz; replace HL := Lib.hid (HL.out.alloc aa gg.out); clear aa gg zz) | (refine wpList_store_keyZ rfl (.tmp 6) (.tmp 14) rfl _ X HXL.out rfl rfl _ (HL.out.get 2 rfl) key0_size ?_; intro w' b1 b2 b3; replace HL := Lib.hid (HL.out.store 2 rfl b1 b2 b3); clear b1 b2 b3) | (refine wpList_load_rowG (by kernel_rfl) 23 (.tmp 6) rfl _ rfl _ _ _ _ (HL.out.get 2 rfl) Tryd.underlying23 rfl (key_info HXL.out) ?_) | (refine wpList_buildO (by kernel_rfl) 39 #[(0, .tmp 20)] rfl #[(0, .agg (bv X).toArray)] (by kernel_rfl) _ (build_draws1 HXL.out) ?_) | (refine wpList_store_drawsZ rfl (.tmp 4) (.tmp 21) rfl _ X 0 HXL.out rfl rfl _ (HL.out.get 1 rfl) drawsZ_size ?_; intro w' b1 b2 b3; replace HL := Lib.hid (HL.out.store 1 rfl b1 b2 b3); clear b1 b2 b3))
    refine bodyPost_ret (results_cell_tmp rfl _ _ _ 39 _ (0, 0) _ rfl (HL.out.get 1 rfl) Tryd.underlying39 rfl (draws_info HXL.out 0)) rfl ?_
    exact ⟨rfl, HL.out.aft⟩
  · have HXz := Lib.hid (HX0.out he)
    go_wp2_with (first
      | (refine wpList_allocO rfl 23 rfl (.cells key0 23) alloc_key ?_; intro w' aa gg zz; replace HL := Lib.hid (HL.out.alloc aa gg.out); clear aa gg zz) | (refine wpList_store_keyZ rfl (.tmp 6) (.tmp 14) rfl _ X HXL.out rfl rfl _ (HL.out.get 2 rfl) key0_size ?_; intro w' b1 b2 b3; replace HL := Lib.hid (HL.out.store 2 rfl b1 b2 b3); clear b1 b2 b3) | (refine wpList_store_drawsZ0 rfl (.tmp 4) (.tmp 18) rfl _ rfl rfl _ (HL.out.get 1 rfl) drawsZ_size ?_; intro w' b1 b2 b3; replace HL := Lib.hid (HL.out.store 1 rfl b1 b2 b3); clear b1 b2 b3))
    refine bodyPost_ret (results_cell_tmp rfl _ _ _ 39 _ (0, 0) _ rfl (HL.out.get 1 rfl) Tryd.underlying39 rfl (draws_info List.length_replicate 0)) rfl ?_
    exact ⟨by rw [HXz.out]; rfl, HL.out.aft⟩
set_option maxRecDepth 100000 in
set_option maxHeartbeats 1000000 in
theorem drawEnds_any (seed : List (BitVec 8)) (N : Nat) (w : World) (hK : TabK K0 2 w) (hs : seed.length = 32) (hN : N < 18446744073709551616) :
    Calls Tryd.prog 5 #[.agg (bv seed).toArray, .int .u64 (N : Int)] w fun e w' => e = .returned (.bool true) ∧ Below w.heap.size w w' := by
  have HK := Lib.hid hK
  have HS := Lib.hid hs
  have HLv := Lib.hid (fun (wx : World) (h : Aft w wx) => live9_any wx (TabK_fr HK.out (Fr.of_below (S := fun _ => False) h) (fun h => h)))
  have HX := Lib.hid (fun (wx : World) (h : Aft w wx) => next_any seed N wx (TabK_fr HK.out (Fr.of_below (S := fun _ => False) h) (fun h => h)) hs hN)
  unfold NextSays at HX
  have HXl := Lib.hid (nxK_length seed N)
  have HSl := Lib.hid (nxS_length hs N)
  have HC := Lib.hid (fun (wx : World) => drawCheck_any seed N wx hs)
  have HC2 := Lib.hid (fun (wx : World) (M : Nat) => drawCheck_any (nxS seed N) M wx (nxS_length hs N))
  have H1 := Lib.hid (show 4294967296 < N → nxE N = 1 ∧ decide (nxK seed N = List.replicate 32 0) = true ∧ decide (nxS seed N = List.replicate 32 0 ∧ nxN N = 0) = true ∧ drwChk N = 1 from fun h => by
    have a1 : nxK seed N = List.replicate 32 0 := if_neg (by omega)
    have a2 : nxS seed N = List.replicate 32 0 := if_neg (by omega)
    have a3 : nxN N = 0 := if_neg (by omega)
    have a4 : nxE N = 1 := by unfold nxE; rw [if_neg (by omega), if_neg (by omega)]
    have a5 : drwChk N = 1 := if_neg (by omega)
    simp [a1, a2, a3, a4, a5])
  have H2 := Lib.hid (show N = 4294967296 → nxE N = 8 ∧ decide (nxS seed N = List.replicate 32 0 ∧ nxN N = 0) = true ∧ drwChk N = 0 from fun h => by
    have a2 : nxS seed N = List.replicate 32 0 := if_neg (by omega)
    have a3 : nxN N = 0 := if_neg (by omega)
    have a4 : nxE N = 8 := by unfold nxE; rw [if_neg (by omega), if_pos h]
    have a5 : drwChk N = 0 := if_pos (by omega)
    simp [a2, a3, a4, a5])
  have H3 := Lib.hid (show N < 4294967296 → nxE N = 0 ∧ nxN N = N + 1 ∧ drwChk (N + 1) = 0 from fun h => ⟨if_pos h, if_pos h, if_pos (by omega)⟩)
  generalize nxK seed N = X at *
  generalize nxS seed N = S at *
  generalize nxN N = M at *
  generalize nxE N = E at *
  generalize drwChk N = c at *
  have HL := Lib.hid (Led.start w)
  clear hK hs
  have hbk := box_key seed
  go_enter Tryd.func5, Tryd.ntmps5
  go_wp2_with (first | (refine wpList_boxO rfl 23 (.tmp 0) rfl (.agg (bv seed).toArray) rfl (.cells (bv seed).toArray 23) (box_key _) ?_; intro w' aa gg zz; replace HL := Lib.hid (HL.out.alloc aa gg.out); clear aa gg zz))
  refine (HLv.out _ HL.out.aft).mono ?_
  rintro e w2 ⟨rfl, h2⟩
  replace HL := Lib.hid (HL.out.call h2)
  clear h2 hbk
  go_wp2_with (first | (refine wpList_load_rowG (by kernel_rfl) 23 (.tmp 2) rfl _ rfl _ _ _ _ (HL.out.get 0 rfl) Tryd.underlying23 rfl (key_info HS.out) ?_) | (refine wpList_buildO (by kernel_rfl) 39 #[(0, .tmp 13), (1, .tmp 14)] rfl #[(0, .agg (bv seed).toArray), (1, .int .u64 (N : Int))] (by kernel_rfl) _ (build_draws2 HS.out N) ?_) | (refine wpList_allocO rfl 39 rfl (.cells (drawsL (List.replicate 32 0) 0).toArray 39) alloc_draws ?_; intro w' aa gg zz; replace HL := Lib.hid (HL.out.alloc aa gg.out); clear aa gg zz) | (refine wpList_store_drawsZ rfl (.tmp 6) (.tmp 15) rfl _ seed N HS.out rfl rfl _ (HL.out.get 1 rfl) drawsZ_size ?_; intro w' b1 b2 b3; replace HL := Lib.hid (HL.out.store 1 rfl b1 b2 b3); clear b1 b2 b3) | (refine wpList_load_rowG (by kernel_rfl) 39 (.tmp 6) rfl _ rfl _ _ _ _ (HL.out.get 1 rfl) Tryd.underlying39 rfl (draws_info HS.out _) ?_))
  refine (HX.out _ HL.out.aft).mono ?_
  rintro e w3 ⟨rfl, h3⟩
  replace HL := Lib.hid (HL.out.call h3)
  clear h3
  by_cases hA : 4294967296 < N
  · obtain ⟨rfl, hx, hsm, rfl⟩ := H1.out hA
    have hA1 : (4294967296 : Int) < (N : Int) := by omega
    have HXz := Lib.hid hx
    have HSz := Lib.hid hsm
    clear hx hsm hA
    go_wp2_with (first | (refine wpList_allocO rfl 23 rfl (.cells key0 23) alloc_key ?_; intro w' aa gg zz; replace HL := Lib.hid (HL.out.alloc aa gg.out); clear aa gg zz) | (refine wpList_allocO rfl 39 rfl (.cells (drawsL (List.replicate 32 0) 0).toArray 39) alloc_draws ?_; intro w' aa gg zz; replace HL := Lib.hid (HL.out.alloc aa gg.out); clear aa gg zz) | (refine wpList_store_keyZ rfl (.tmp 7) (.tmp 19) rfl _ X HXl.out rfl rfl _ (HL.out.get 2 rfl) key0_size ?_; intro w' b1 b2 b3; replace HL := Lib.hid (HL.out.store 2 rfl b1 b2 b3); clear b1 b2 b3) | (refine wpList_store_drawsZ rfl (.tmp 8) (.tmp 20) rfl _ S M HSl.out rfl rfl _ (HL.out.get 3 rfl) drawsZ_size ?_; intro w' b1 b2 b3; replace HL := Lib.hid (HL.out.store 3 rfl b1 b2 b3); clear b1 b2 b3) | (refine wpList_load_rowG (by kernel_rfl) 39 (.tmp 6) rfl _ rfl _ _ _ _ (HL.out.get 1 rfl) Tryd.underlying39 rfl (draws_info HS.out _) ?_))
    refine (HC.out _).mono ?_
    rintro e w4 ⟨rfl, h4⟩
    replace HL := Lib.hid (HL.out.call h4)
    clear h4
    go_wp2_with (first | (refine wpList_load_rowG (by kernel_rfl) 23 (.tmp 7) rfl _ rfl _ _ _ _ (HL.out.get 2 rfl) Tryd.underlying23 rfl (key_info HXl.out) ?_) | (refine wpList_binG (by kernel_rfl) .eql 23 23 (.tmp 36) (.tmp 37) rfl (.agg (bv X).toArray) (.agg key0) _ rfl rfl (run_eql_zero HXl.out _ HXz.out) (guard_key _ _ _ _ _) ?_) | (refine wpList_load_rowG (by kernel_rfl) 39 (.tmp 8) rfl _ rfl _ _ _ _ (HL.out.get 3 rfl) Tryd.underlying39 rfl (draws_info HSl.out _) ?_) | (refine wpList_binG (by kernel_rfl) .eql 39 39 (.tmp 41) (.tmp 42) rfl (.agg (drawsL S M).toArray) (.agg draws0) _ rfl rfl (run_eql_draws0 HSl.out _ HSz.out) (guard_draws _ _ _ _ _) ?_))
    go_ret
    exact ⟨rfl, HL.out.aft⟩
  · by_cases hB : N = 4294967296
    · obtain ⟨rfl, hsm, rfl⟩ := H2.out hB
      have hA1 : ¬ (4294967296 : Int) < (N : Int) := by omega
      have hB1 : (N : Int) = 4294967296 := by omega
      have HSz := Lib.hid hsm
      clear hsm hA hB
      go_wp2_with (first | (refine wpList_allocO rfl 23 rfl (.cells key0 23) alloc_key ?_; intro w' aa gg zz; replace HL := Lib.hid (HL.out.alloc aa gg.out); clear aa gg zz) | (refine wpList_allocO rfl 39 rfl (.cells (drawsL (List.replicate 32 0) 0).toArray 39) alloc_draws ?_; intro w' aa gg zz; replace HL := Lib.hid (HL.out.alloc aa gg.out); clear aa gg zz) | (refine wpList_store_keyZ rfl (.tmp 7) (.tmp 19) rfl _ X HXl.out rfl rfl _ (HL.out.get 2 rfl) key0_size ?_; intro w' b1 b2 b3; replace HL := Lib.hid (HL.out.store 2 rfl b1 b2 b3); clear b1 b2 b3) | (refine wpList_store_drawsZ rfl (.tmp 8) (.tmp 20) rfl _ S M HSl.out rfl rfl _ (HL.out.get 3 rfl) drawsZ_size ?_; intro w' b1 b2 b3; replace HL := Lib.hid (HL.out.store 3 rfl b1 b2 b3); clear b1 b2 b3) | (refine wpList_load_rowG (by kernel_rfl) 39 (.tmp 6) rfl _ rfl _ _ _ _ (HL.out.get 1 rfl) Tryd.underlying39 rfl (draws_info HS.out _) ?_))
      refine (HC.out _).mono ?_
      rintro e w4 ⟨rfl, h4⟩
      replace HL := Lib.hid (HL.out.call h4)
      clear h4
      go_wp2_with (first | (refine wpList_load_rowG (by kernel_rfl) 39 (.tmp 8) rfl _ rfl _ _ _ _ (HL.out.get 3 rfl) Tryd.underlying39 rfl (draws_info HSl.out _) ?_) | (refine wpList_binG (by kernel_rfl) .eql 39 39 (.tmp 59) (.tmp 60) rfl (.agg (drawsL S M).toArray) (.agg draws0) _ rfl rfl (run_eql_draws0 HSl.out _ HSz.out) (guard_draws _ _ _ _ _) ?_))
      go_ret
      exact ⟨rfl, HL.out.aft⟩
    · obtain ⟨rfl, rfl, hc⟩ := H3.out (by omega)
      have hA1 : ¬ (4294967296 : Int) < (N : Int) := by omega
      have hB1 : ¬ (N : Int) = 4294967296 := by omega
      have HCk := Lib.hid hc
      clear hc hA hB
      go_wp2_with (first | (refine wpList_allocO rfl 23 rfl (.cells key0 23) alloc_key ?_; intro w' aa gg zz; replace HL := Lib.hid (HL.out.alloc aa gg.out); clear aa gg zz) | (refine wpList_allocO rfl 39 rfl (.cells (drawsL (List.replicate 32 0) 0).toArray 39) alloc_draws ?_; intro w' aa gg zz; replace HL := Lib.hid (HL.out.alloc aa gg.out); clear aa gg zz) | (refine wpList_store_keyZ rfl (.tmp 7) (.tmp 19) rfl _ X HXl.out rfl rfl _ (HL.out.get 2 rfl) key0_size ?_; intro w' b1 b2 b3; replace HL := Lib.hid (HL.out.store 2 rfl b1 b2 b3); clear b1 b2 b3) | (refine wpList_store_drawsZ rfl (.tmp 8) (.tmp 20) rfl _ S (N+1) HSl.out rfl rfl _ (HL.out.get 3 rfl) drawsZ_size ?_; intro w' b1 b2 b3; replace HL := Lib.hid (HL.out.store 3 rfl b1 b2 b3); clear b1 b2 b3; have hcell := draws_n (HL.out.get 3 rfl) HSl.out) | (refine wpList_load_rowG (by kernel_rfl) 39 (.tmp 8) rfl _ rfl _ _ _ _ (HL.out.get 3 rfl) Tryd.underlying39 rfl (draws_info HSl.out _) ?_))
      refine (HC2.out _ _).mono ?_
      rintro e w4 ⟨rfl, h4⟩
      rw [HCk.out]
      replace HL := Lib.hid (HL.out.call h4)
      clear h4
      go_wp2_with fail
      go_ret
      exact ⟨rfl, HL.out.aft⟩
end Go.Proofs.YtanodhagpegbfaaDoor
