/- draw.New, Fork; the law's live. -/
import Derived.Test.YtanodhagpegbfaaDoorLed
namespace Go.Proofs.YtanodhagpegbfaaDoor
open Go Go.RowKit
def newS (b : List (List (BitVec 8))) : List (BitVec 8) := if textOk b then digest K0 (textsB b) else List.replicate 32 0
theorem newS_length (b : List (List (BitVec 8))) : (newS b).length = 32 := by
  unfold newS
  split
  · exact digest_length _ _
  · exact List.length_replicate
set_option maxRecDepth 100000 in
set_option maxHeartbeats 1000000 in
theorem new9_any (vb : Value) (b : List (List (BitVec 8))) (w : World) (hK : TabK K0 2 w) (hb : RdAll w vb b) (hl : b.length ≤ 1048576) :
    Calls Tryd.prog 30 #[vb] w fun e w' => e = .returned (.tuple #[.agg (drawsL (newS b) 0).toArray, .int .i64 (textErr b)]) ∧ Aft w w' := by
  have HK := Lib.hid hK
  have HB := Lib.hid hb
  have HBl := Lib.hid hl
  obtain ⟨ab, cb, rfl, -⟩ := hb.shape
  have HT := Lib.hid (fun (wx : World) (h : Aft w wx) => text_any (.slice none 0 0) _ [] b wx (Rd.nil _) (HB.out.below h) (by simp) (by have := HBl.out; omega))
  have HL := Lib.hid (Led.start w)
  clear hK hb hl
  go_enter Tryd.func30, Tryd.ntmps30
  go_wp2_with (first | (refine wpList_allocO rfl 39 rfl (.cells (drawsL (List.replicate 32 0) 0).toArray 39) alloc_draws ?_; intro w' aa gg zz; replace HL := Lib.hid (HL.out.alloc aa gg.out); clear aa gg zz))
  refine (HT.out _ HL.out.aft).mono ?_
  rintro e w2 ⟨a2, c2, rfl, ho2, hb2⟩
  have HR2 := Lib.hid (Rd.of_own ho2)
  replace HL := Lib.hid (HL.out.call hb2)
  clear ho2 hb2
  rcases txErr_cases b with ⟨he, hk⟩ | ⟨he, hk⟩
  · have HQ := Lib.hid (show newS b = List.replicate 32 0 by unfold newS; rw [hk]; rfl)
    have HE := Lib.hid he
    rw [he]
    clear he hk
    go_wp2_with (first | (refine wpList_store_drawsZ0 rfl (.tmp 2) (.tmp 13) rfl _ rfl rfl _ (HL.out.get 0 rfl) drawsZ_size ?_; intro w' b1 b2 b3; replace HL := Lib.hid (HL.out.store 0 rfl b1 b2 b3); clear b1 b2 b3))
    refine bodyPost_ret (results_cell_tmp rfl _ _ _ 39 _ (0, 0) _ rfl (HL.out.get 0 rfl) Tryd.underlying39 rfl (draws_info List.length_replicate 0)) rfl ?_
    exact ⟨by rw [HQ.out, HE.out]; rfl, HL.out.aft⟩
  · have hY : textB [] b = textsB b := by unfold textB; rw [if_pos hk]; rfl
    have HQ := Lib.hid (show newS b = digest K0 (textsB b) by unfold newS; rw [if_pos hk])
    have HE := Lib.hid he
    have hbd := textsB_le b b.length (Nat.le_refl _) (fun j hj => by
      have h9 := List.all_eq_true.1 hk (b[j]) (List.getElem_mem hj)
      unfold txt
      rw [List.getD_eq_getElem?_getD, List.getElem?_eq_getElem hj, Option.getD_some]
      exact of_decide_eq_true h9)
    rw [List.take_length] at hbd
    rw [hY] at HR2 ⊢
    rw [he]
    have HS := Lib.hid (fun (wx : World) (v : Value) (h : Aft w wx) (hr : RdAll wx v [textsB b]) => sum_any K0 v [textsB b] wx (TabK_fr HK.out (Fr.of_below (S := fun _ => False) h) (fun h => h)) hr (by have := HBl.out; simp; omega))
    have hf : ([textsB b] : List (List (BitVec 8))).flatten = textsB b := by simp
    rw [hf, ← HQ.out] at HS
    have HXL := Lib.hid (newS_length b)
    clear he hk hY hf hbd
    generalize hX : newS b = X at HS HXL
    have HX := Lib.hid hX
    clear hX
    generalize textsB b = T at *
    go_wp2_with fail
    refine (HS.out _ _ (Aft.trans HL.out.aft (Aft.alloc _ _)) (RdAll.one _ _ _ _ HR2.out)).mono ?_
    rintro e w3 ⟨rfl, hb3⟩
    replace HL := Lib.hid (HL.out.call (Aft.trans (Aft.alloc w2 _) hb3))
    clear hb3
    go_wp2_with (first | (refine wpList_buildO (by kernel_rfl) 39 #[(0, .tmp 17)] rfl #[(0, .agg (bv X).toArray)] (by kernel_rfl) _ (build_draws1 HXL.out) ?_) | (refine wpList_store_drawsZ rfl (.tmp 2) (.tmp 18) rfl _ X 0 HXL.out rfl rfl _ (HL.out.get 0 rfl) drawsZ_size ?_; intro w' b1 b2 b3; replace HL := Lib.hid (HL.out.store 0 rfl b1 b2 b3); clear b1 b2 b3))
    refine bodyPost_ret (results_cell_tmp rfl _ _ _ 39 _ (0, 0) _ rfl (HL.out.get 0 rfl) Tryd.underlying39 rfl (draws_info HXL.out 0)) rfl ?_
    exact ⟨by rw [HX.out, HE.out]; rfl, HL.out.aft⟩
set_option maxRecDepth 100000 in
theorem run_neq_zero {X : List (BitVec 8)} (hX : X.length = 32) (b : Bool) (hb : decide (X = List.replicate 32 0) = b) (w : World) : (Go.binOp .neq 23 (.agg (bv X).toArray) (.agg key0)).run Tryd.prog w = .ok (.bool (!b)) w := by
  rw [← key0_bv, run_neq_struct, run_eq_keyD 9998 hX List.length_replicate, ← hb]
  rfl
set_option maxRecDepth 100000 in
theorem run_eql_zero {X : List (BitVec 8)} (hX : X.length = 32) (b : Bool) (hb : decide (X = List.replicate 32 0) = b) (w : World) : (Go.binOp .eql 23 (.agg (bv X).toArray) (.agg key0)).run Tryd.prog w = .ok (.bool b) w := by
  rw [← key0_bv, run_eql_struct, run_eq_keyD 9998 hX List.length_replicate, ← hb]
  rfl
theorem run_eql_draws0 {X : List (BitVec 8)} {N : Nat} (hX : X.length = 32) (b : Bool) (hb : decide (X = List.replicate 32 0 ∧ N = 0) = b) (w : World) : (Go.binOp .eql 39 (.agg (drawsL X N).toArray) (.agg draws0)).run Tryd.prog w = .ok (.bool b) w := by
  rw [draws0_eq]
  exact run_eql_draws hX List.length_replicate b hb w
def liveS : List (BitVec 8) := newS [[97]]
def liveK : List (BitVec 8) := nxK liveS 0
set_option maxRecDepth 100000 in
theorem liveK_ne : decide (liveK = List.replicate 32 0) = false := by decide +kernel
theorem liveS_length : liveS.length = 32 := newS_length _
theorem liveK_length : liveK.length = 32 := nxK_length _ _
set_option maxRecDepth 100000 in
set_option maxHeartbeats 1000000 in
theorem live9_any (w : World) (hK : TabK K0 2 w) : Calls Tryd.prog 24 #[] w fun e w' => e = .returned (.bool true) ∧ Aft w w' := by
  have HK := Lib.hid hK
  have hcv := fun (w : World) (C : Array Value) (n c : Nat) => Lib.run_convert_bytes_const (P := Tryd.prog) w 24 5 C n c Tryd.underlying24 Tryd.underlying5
  have HN := Lib.hid (fun (wx : World) (v : Value) (h : Aft w wx) (hr : RdAll wx v [[97]]) => new9_any v [[97]] wx (TabK_fr HK.out (Fr.of_below (S := fun _ => False) h) (fun h => h)) hr (by decide))
  rw [show textErr [[97]] = 0 by decide] at HN
  have HX := Lib.hid (fun (wx : World) (h : Aft w wx) => next_any liveS 0 wx (TabK_fr HK.out (Fr.of_below (S := fun _ => False) h) (fun h => h)) liveS_length (by decide))
  unfold NextSays at HX
  rw [show nxN 0 = 1 from rfl, show nxE 0 = 0 from rfl, show nxS liveS 0 = liveS from rfl] at HX
  change Hid (∀ wx, Aft w wx → Calls Tryd.prog 25 #[.agg (drawsL liveS 0).toArray] wx fun e w' => e = .returned (.tuple #[.agg (bv liveK).toArray, .agg (drawsL liveS 1).toArray, .int .i64 0]) ∧ Aft wx w') at HX
  change Hid (∀ wx v, Aft w wx → RdAll wx v [[97]] → Calls Tryd.prog 30 #[v] wx fun e w' => e = .returned (.tuple #[.agg (drawsL liveS 0).toArray, .int .i64 0]) ∧ Aft wx w') at HN
  have HSl := Lib.hid liveS_length
  have HKl := Lib.hid liveK_length
  have HKn := Lib.hid liveK_ne
  have HL := Lib.hid (Led.start w)
  clear hK
  generalize liveK = Y at *
  generalize liveS = S at *
  go_enter Tryd.func24, Tryd.ntmps24
  go_wp2_with fail
  refine (HN.out _ _ (Aft.trans (Aft.alloc w _) (Aft.alloc _ _)) (RdAll.one_lit w [97] _ _ _)).mono ?_
  rintro e w2 ⟨rfl, h2⟩
  replace HL := Lib.hid (HL.out.call (Aft.trans (Aft.trans (Aft.alloc w _) (Aft.alloc _ _)) h2))
  clear h2 hcv
  go_wp2_with (first | (refine wpList_allocO rfl 39 rfl (.cells (drawsL (List.replicate 32 0) 0).toArray 39) alloc_draws ?_; intro w' aa gg zz; replace HL := Lib.hid (HL.out.alloc aa gg.out); clear aa gg zz) | (refine wpList_store_drawsZ rfl (.tmp 1) (.tmp 14) rfl _ S 0 HSl.out rfl rfl _ (HL.out.get 0 rfl) drawsZ_size ?_; intro w' b1 b2 b3; replace HL := Lib.hid (HL.out.store 0 rfl b1 b2 b3); clear b1 b2 b3) | (refine wpList_load_rowG (by kernel_rfl) 39 (.tmp 1) rfl _ rfl _ _ _ _ (HL.out.get 0 rfl) Tryd.underlying39 rfl (draws_info HSl.out _) ?_))
  refine (HX.out _ HL.out.aft).mono ?_
  rintro e w3 ⟨rfl, h3⟩
  replace HL := Lib.hid (HL.out.call h3)
  clear h3
  go_wp2_with (first | (refine wpList_allocO rfl 23 rfl (.cells key0 23) alloc_key ?_; intro w' aa gg zz; replace HL := Lib.hid (HL.out.alloc aa gg.out); clear aa gg zz) | (refine wpList_allocO rfl 39 rfl (.cells (drawsL (List.replicate 32 0) 0).toArray 39) alloc_draws ?_; intro w' aa gg zz; replace HL := Lib.hid (HL.out.alloc aa gg.out); clear aa gg zz) | (refine wpList_store_keyZ rfl (.tmp 3) (.tmp 19) rfl _ Y HKl.out rfl rfl _ (HL.out.get 1 rfl) key0_size ?_; intro w' b1 b2 b3; replace HL := Lib.hid (HL.out.store 1 rfl b1 b2 b3); clear b1 b2 b3) | (refine wpList_store_drawsZ rfl (.tmp 4) (.tmp 20) rfl _ S 1 HSl.out rfl rfl _ (HL.out.get 2 rfl) drawsZ_size ?_; intro w' b1 b2 b3; replace HL := Lib.hid (HL.out.store 2 rfl b1 b2 b3); clear b1 b2 b3) | (refine wpList_load_rowG (by kernel_rfl) 39 (.tmp 1) rfl _ rfl _ _ _ _ (HL.out.get 0 rfl) Tryd.underlying39 rfl (draws_info HSl.out _) ?_))
  refine (HX.out _ HL.out.aft).mono ?_
  rintro e w4 ⟨rfl, h4⟩
  replace HL := Lib.hid (HL.out.call h4)
  clear h4
  go_wp2_with (first
    | (refine wpList_allocO rfl 23 rfl (.cells key0 23) alloc_key ?_; intro w' aa gg zz; replace HL := Lib.hid (HL.out.alloc aa gg.out); clear aa gg zz) | (refine wpList_allocO rfl 39 rfl (.cells (drawsL (List.replicate 32 0) 0).toArray 39) alloc_draws ?_; intro w' aa gg zz; replace HL := Lib.hid (HL.out.alloc aa gg.out); clear aa gg zz) | (refine wpList_store_keyZ rfl (.tmp 6) (.tmp 25) rfl _ Y HKl.out rfl rfl _ (HL.out.get 3 rfl) key0_size ?_; intro w' b1 b2 b3; replace HL := Lib.hid (HL.out.store 3 rfl b1 b2 b3); clear b1 b2 b3) | (refine wpList_store_drawsZ rfl (.tmp 7) (.tmp 26) rfl _ S 1 HSl.out rfl rfl _ (HL.out.get 4 rfl) drawsZ_size ?_; intro w' b1 b2 b3; replace HL := Lib.hid (HL.out.store 4 rfl b1 b2 b3); clear b1 b2 b3; have hc := draws_n (HL.out.get 2 rfl) HSl.out) | (refine wpList_load_rowG (by kernel_rfl) 23 (.tmp 3) rfl _ rfl _ _ _ _ (HL.out.get 1 rfl) Tryd.underlying23 rfl (key_info HKl.out) ?_) | (refine wpList_load_rowG (by kernel_rfl) 23 (.tmp 6) rfl _ rfl _ _ _ _ (HL.out.get 3 rfl) Tryd.underlying23 rfl (key_info HKl.out) ?_)
    | (refine wpList_binG (by kernel_rfl) .eql 23 23 (.tmp 39) (.tmp 40) rfl (.agg (bv Y).toArray) (.agg (bv Y).toArray) _ rfl rfl (run_eql_key Y HKl.out) (guard_key _ _ _ _ _) ?_) | (refine wpList_binG (by kernel_rfl) .neq 23 23 (.tmp 49) (.tmp 50) rfl (.agg (bv Y).toArray) (.agg key0) _ rfl rfl (run_neq_zero HKl.out _ HKn.out) (guard_key _ _ _ _ _) ?_))
  go_ret
  exact ⟨rfl, HL.out.aft⟩
end Go.Proofs.YtanodhagpegbfaaDoor
