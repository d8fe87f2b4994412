/- draw.Check, derived, Next, Fork, New: what they hand back. -/
import Derived.Test.YtanodhagpegbfaaDoorStruct
namespace Go.Proofs.YtanodhagpegbfaaDoor
open Go Go.RowKit
def drwChk (N : Nat) : Int := if N ≤ 4294967296 then 0 else 1
set_option maxRecDepth 100000 in
theorem drawCheck_any (seed : List (BitVec 8)) (N : Nat) (w : World) (hs : seed.length = 32) :
    Calls Tryd.prog 26 #[.agg (drawsL seed N).toArray] w fun e w' => e = .returned (.int .i64 (drwChk N)) ∧ Aft w w' := by
  have hbx := box_draws (drawsL seed N)
  have hc := draws_n (heap_alloc_new w (.cells (drawsL seed N).toArray 39)) hs
  go_enter Tryd.func26, Tryd.ntmps26
  by_cases h : N ≤ 4294967296
  · have h1 : ¬ (4294967296 : Int) < (N : Int) := by omega
    have HQ := Lib.hid (show drwChk N = 0 from if_pos h)
    clear h
    go_wp2_with fail
    go_ret
    exact ⟨by rw [HQ.out]; rfl, Aft.alloc _ _⟩
  · have h1 : (4294967296 : Int) < (N : Int) := by omega
    have HQ := Lib.hid (show drwChk N = 1 from if_neg h)
    clear h
    go_wp2_with fail
    go_ret
    exact ⟨by rw [HQ.out]; rfl, Aft.alloc _ _⟩
def drwKey (seed : List (BitVec 8)) (N : Nat) (L : List (BitVec 8)) (more : List (List (BitVec 8))) : List (BitVec 8) := if N ≤ 4294967296 then drvKey seed L (beL 8 N :: more) else List.replicate 32 0
def drwErr (N : Nat) (L : List (BitVec 8)) (more : List (List (BitVec 8))) : Int := if N ≤ 4294967296 then textErr (drvT L (beL 8 N :: more)) else 1
theorem drwKey_length (seed : List (BitVec 8)) (N : Nat) (L : List (BitVec 8)) (more : List (List (BitVec 8))) : (drwKey seed N L more).length = 32 := by
  unfold drwKey
  split
  · exact drvKey_length _ _ _
  · exact List.length_replicate
theorem texts_few {ts : List (List (BitVec 8))} (h : textOk ts = true) (hl : ts.length ≤ 15) : (textsB ts).length ≤ 1048576 := by
  have := textsB_le ts ts.length (Nat.le_refl _) (fun j hj => by
    have h9 := List.all_eq_true.1 h (ts[j]) (List.getElem_mem hj)
    unfold txt
    rw [List.getD_eq_getElem?_getD, List.getElem?_eq_getElem hj, Option.getD_some]
    exact of_decide_eq_true h9)
  rw [List.take_length] at this
  omega
theorem num_eight (w : World) (x : Nat) (hx : x < 18446744073709551616) :
    Calls Tryd.prog 73 #[.slice none 0 0, .int .i64 8, .slice (some ⟨w.heap.size, 0, none⟩) 1 1] (w.alloc (.cells #[.int .u64 (x : Int)] 37)) fun e w' => ∃ ao cap, e = .returned (.tuple #[.slice ao 8 cap, .int .i64 0]) ∧ Rd w' (.slice ao 8 cap) (bv (beL 8 x)) ∧ Aft w w' := by
  refine (num_any (.slice none 0 0) (.slice (some ⟨w.heap.size, 0, none⟩) 1 1) [] 8 [x] _ (Rd.nil _) (Rd.lit w #[.int .u64 (x : Int)] 37 1 rfl (by decide)) (by simpa using hx) (by simp) (by simp)).mono ?_
  rintro e w' ⟨ao, cap, rfl, ho, hb⟩
  have hok : numOk 8 [x] = true := by
    have : x < 256 ^ 8 := by simpa using hx
    simp [numOk, overB, fitsB]
    omega
  have h1 : numB [] 8 [x] = beL 8 x := by unfold numB; rw [if_pos hok]; simp [numsB]
  have h2 : numErr 8 [x] = 0 := if_pos hok
  rw [h1] at ho ⊢
  rw [h2]
  have hl : (bv (beL 8 x)).length = 8 := by rw [bv_length, beL_length]
  rw [hl] at ho ⊢
  exact ⟨ao, cap, rfl, Rd.of_own ho, Aft.trans (Aft.alloc w _) hb⟩
theorem drw_inf (L : List (BitVec 8)) (N : Nat) (more : List (List (BitVec 8))) (hl : more.length ≤ 8) (h : textOk (drvT L (beL 8 N :: more)) = true) : (textsB (drvT L (beL 8 N :: more))).length ≤ 1048576 :=
  texts_few h (by simp [drvT]; omega)
set_option maxRecDepth 100000 in
set_option maxHeartbeats 2000000 in
theorem derived_any (seed : List (BitVec 8)) (N : Nat) (s : ByteArray) (vm : Value) (more : List (List (BitVec 8))) (w : World) (hK : TabK K0 2 w) (hs : seed.length = 32) (hN : N < 18446744073709551616) (hsz : s.size ≤ 1048576) (hm : RdAll w vm more) (hl : more.length ≤ 8) :
    Calls Tryd.prog 69 #[.agg (drawsL seed N).toArray, .string s, vm] w fun e w' => e = .returned (.tuple #[.agg (bv (drwKey seed N (sb s) more)).toArray, .int .i64 (drwErr N (sb s) more)]) ∧ Aft w w' := by
  have HK := Lib.hid hK
  have HM := Lib.hid hm
  have HS := Lib.hid hs
  have HL := Lib.hid hl
  have HSz := Lib.hid hsz
  have hbx := box_draws (drawsL seed N)
  obtain ⟨am, cm, rfl, -⟩ := hm.shape
  have hD := drawCheck_any seed N ((w.alloc (.cells (drawsL seed N).toArray 39)).alloc (.cells key0 23)) hs
  have HD := Lib.hid hD
  have H1 := Lib.hid (heap_alloc2_new w (.cells (drawsL seed N).toArray 39) (.cells key0 23))
  have H0 := Lib.hid (Aft.get (Aft.alloc (w.alloc (.cells (drawsL seed N).toArray 39)) (.cells key0 23)) (heap_alloc_new w (.cells (drawsL seed N).toArray 39)))
  have HA0 := Lib.hid (Aft.trans (Aft.alloc w (.cells (drawsL seed N).toArray 39)) (Aft.alloc _ (.cells key0 23)))
  clear hK hm hD hs hl hsz
  go_enter Tryd.func69, Tryd.ntmps69
  go_wp2_with ((refine wpList_load_row rfl 39 (.tmp 3) rfl w.heap.size rfl 39 (drawsL seed N).toArray (0, 0) _ H0.out Tryd.underlying39 rfl (draws_info HS.out N) ?_))
  refine HD.out.mono ?_
  rintro e w2 ⟨rfl, hb2⟩
  have HA2 := Lib.hid (show Aft w w2 from Aft.trans HA0.out hb2)
  have H02 := Lib.hid (Aft.get hb2 H0.out)
  have H12 := Lib.hid (Aft.get hb2 H1.out)
  clear hb2
  by_cases h : N ≤ 4294967296
  · have HQ := Lib.hid h
    rw [show drwChk N = 0 from if_pos h]
    have HX := Lib.hid (show drwKey seed N (sb s) more = drvKey seed (sb s) (beL 8 N :: more) from if_pos h)
    have HE := Lib.hid (show drwErr N (sb s) more = textErr (drvT (sb s) (beL 8 N :: more)) from if_pos h)
    have HNum := Lib.hid (num_eight w2 N hN)
    have hc := draws_n H02.out HS.out
    clear h hN
    go_wp2_with fail
    refine HNum.out.mono ?_
    rintro e w3 ⟨a3, c3, rfl, hr3, hb3⟩
    have HA3 := Lib.hid (show Aft w w3 from Aft.trans HA2.out hb3)
    have HR3 := Lib.hid hr3
    have H03 := Lib.hid (Aft.get hb3 H02.out)
    have H13 := Lib.hid (Aft.get hb3 H12.out)
    clear hr3 hb3 hc
    obtain ⟨vs, hv1, hv2, hv3⟩ := HM.out
    have HV1 := Lib.hid hv1
    have HV2 := Lib.hid hv2
    have HV3 := Lib.hid hv3
    clear hv1 hv2 hv3
    go_wp2_with fail
    refine wp_region_lexF (fun i => ([0, 0, 0, 0, 1, 0, 3, 2, 0, 0] : List Nat).getD i 0) 10 (by kernel_rfl) (by kernel_rfl) ?_; intro wr hwr
    have HWr := Lib.hid (show Aft w3 wr by rw [hwr]; exact (Below.refl _ _).drew)
    have HAr := Lib.hid (Aft.trans HA3.out HWr.out)
    clear hwr
    repeat (first | (refine lf_skip (by go_big_quiet_skip; exact wpQuiet_nil trivial) (by kernel_rfl) ?_; simp only [Act.put, List.setIfInBounds_toArray, List.set_cons_succ, List.set_cons_zero]) | (refine lf_quiet rfl (by go_big_quiet_want; exact quiet_false (by assumption)) (by kernel_rfl) rfl ?_; intro Kx hKx; go_big_quiet_op; go_big_quiet_on))
    refine lf_load_key rfl (by kernel_rfl) (.tmp 28) rfl w.heap.size 0 rfl seed (draws_seed (Aft.get HWr.out H03.out) HS.out) HS.out ?_
    simp only [Act.put, List.setIfInBounds_toArray, List.set_cons_succ, List.set_cons_zero]
    repeat (first | (refine lf_skip (by go_big_quiet_skip; exact wpQuiet_nil trivial) (by kernel_rfl) ?_; simp only [Act.put, List.setIfInBounds_toArray, List.set_cons_succ, List.set_cons_zero]) | (refine lf_quiet rfl (by go_big_quiet_want; exact quiet_false (by assumption)) (by kernel_rfl) rfl ?_; intro Kx hKx; go_big_quiet_op; go_big_quiet_on))
    refine lf_fresh (.cells #[.slice a3 8 c3] 24) (fun g => .slice (some ⟨g, 0, none⟩) 1 1) rfl (by kernel_rfl) (fun w1 => by kernel_rfl) ?_
    intro wa ga ha1 ha2 ha3
    simp only [Act.put, List.setIfInBounds_toArray, List.set_cons_succ, List.set_cons_zero]
    have HRa := Lib.hid ha1
    have HGa := Lib.hid ha2
    have HBa := Lib.hid ha3
    clear ha1 ha2 ha3
    repeat (first | (refine lf_skip (by go_big_quiet_skip; exact wpQuiet_nil trivial) (by kernel_rfl) ?_; simp only [Act.put, List.setIfInBounds_toArray, List.set_cons_succ, List.set_cons_zero]) | (refine lf_quiet rfl (by go_big_quiet_want; exact quiet_false (by assumption)) (by kernel_rfl) rfl ?_; intro Kx hKx; go_big_quiet_op; go_big_quiet_on))
    refine lf_eff3 rfl (by go_big_quiet_want; exact quiet_false (by assumption)) (by kernel_rfl) ?_
    intro wi hi Kx hKx
    have HRi := Lib.hid (show Aft wr wi from Aft.trans HRa.out hi)
    have HAi := Lib.hid (show Aft w wi from Aft.trans HAr.out HRi.out)
    have hsz : wr.heap.size ≤ wi.heap.size := Below.size HRi.out
    have hown := own_blk (xs := [.slice a3 8 c3]) (Aft.get hi HBa.out) HGa.out (by simp [maxLen])
    refine wp_append_rd (.tmp 32) (.tmp 33) 32 rfl wr.heap.size 24 (.slice none 0 0) 24 Tryd.underlying32 info_slice rfl (.slice (some ⟨ga, 0, none⟩) 1 1) (.slice am more.length cm) [.slice a3 8 c3] vs rfl rfl hown (HV1.out.grow HAi.out) (RdAll.one_cell HV3.out) (by have := HV2.out; have := HL.out; simp; omega) (by have := HV2.out; have := HL.out; simp; omega) hsz ?_
    intro v4 w4 k1 k2
    have hij : Below wr.heap.size wi w4 := (Below.refl wr.heap.size wi).grown k2 hsz (fun g hg => by simp [Value.ownBlock] at hg; have := HGa.out; omega)
    have HR4 := Lib.hid (show Aft wr w4 from Below.trans HRi.out hij)
    have HA4 := Lib.hid (Aft.trans HAr.out HR4.out)
    have HALL := Lib.hid (show RdAll w4 v4 (beL 8 N :: more) from RdAll.join (ps := [beL 8 N]) (qs := more) (Rd.of_own k1) rfl HV2.out (fun i v hv => by
      match i, hv with
      | 0, hv => cases hv; exact HR3.out.grow (Aft.trans HWr.out HR4.out)
      | i + 1, hv => simp at hv) (fun i v hv => (HV3.out i v hv).grow HA4.out))
    apply hKx
    refine ⟨HR4.out, ?_⟩
    clear k1 k2 hij hown hsz hi hKx
    simp only [Act.put, List.setIfInBounds_toArray, List.set_cons_succ, List.set_cons_zero]
    refine lf_eff rfl (by go_big_quiet_want; exact quiet_false (by assumption)) (by kernel_rfl) ?_
    intro w5 h5 Kx hKx
    have HR5 := Lib.hid (Aft.trans HR4.out h5)
    have HA5 := Lib.hid (Aft.trans HAr.out HR5.out)
    have hd := derive_any seed s v4 (beL 8 N :: more) w5 (TabK_fr HK.out (Fr.of_below (S := fun _ => False) HA5.out) (fun h => h)) HS.out (HALL.out.below h5) (by have := HSz.out; omega) (by have := HL.out; simp; omega) (drw_inf (sb s) N more HL.out)
    unfold DrvSays at hd
    rw [← HX.out, ← HE.out] at hd
    have HD5 := Lib.hid hd
    have HXL := Lib.hid (drwKey_length seed N (sb s) more)
    clear hd h5
    generalize hXX : drwKey seed N (sb s) more = X at HD5 HXL
    generalize hEE : drwErr N (sb s) more = ex at HD5
    have HXX := Lib.hid hXX
    have HEE := Lib.hid hEE
    clear hXX hEE
    go_wp2_with fail
    refine HD5.out.mono ?_
    rintro e w6 ⟨rfl, h6⟩
    go_wp2_with fail
    refine ⟨h6, ?_⟩
    have HR6 := Lib.hid (Aft.trans HR5.out h6)
    clear h6
    repeat (first | (refine lf_skip (by go_big_quiet_skip; exact wpQuiet_nil trivial) (by kernel_rfl) ?_; simp only [Act.put, List.setIfInBounds_toArray, List.set_cons_succ, List.set_cons_zero]) | (refine lf_quiet rfl (by go_big_quiet_want; exact quiet_false (by assumption)) (by kernel_rfl) rfl ?_; intro Kx hKx; go_big_quiet_op; go_big_quiet_on))
    refine lf_done ?_
    intro w7 h7
    have HR7 := Lib.hid (Aft.trans HR6.out h7)
    have HA7 := Lib.hid (Aft.trans HAr.out HR7.out)
    have HZ7 := Lib.hid (Aft.get (Aft.trans HWr.out HR7.out) H13.out)
    clear h7
    go_wp2_with ((refine wpList_store_keyX rfl (.tmp 6) (.tmp 36) rfl (w.heap.size + 1) X HXL.out rfl rfl HZ7.out ?_; intro w8 q2 q3; have HK8 := Lib.hid q2.out; have HB8 := Lib.hid (q3 w.heap.size w (by omega) HA7.out); clear q2 q3))
    refine bodyPost_ret (results_cell_tmp rfl _ _ (w.heap.size + 1) 23 (bv X).toArray (0, 0) _ rfl HK8.out Tryd.underlying23 rfl (key_info HXL.out)) rfl ?_
    exact ⟨by rw [HXX.out, HEE.out]; rfl, HB8.out⟩
  · have HX := Lib.hid (show drwKey seed N (sb s) more = List.replicate 32 0 from if_neg h)
    have HE := Lib.hid (show drwErr N (sb s) more = 1 from if_neg h)
    rw [show drwChk N = 1 from if_neg h]
    clear h hN
    go_wp2_with ((refine wpList_store_key0 rfl (.tmp 6) (.tmp 15) rfl (w.heap.size + 1) rfl rfl H12.out ?_; intro w5 q2 q3; have HK5 := Lib.hid q2.out; have HB5 := Lib.hid (q3 w.heap.size w (by omega) HA2.out); clear q2 q3))
    refine bodyPost_ret (results_cell_tmp rfl _ _ (w.heap.size + 1) 23 key0 (0, 0) _ rfl HK5.out Tryd.underlying23 rfl (by kernel_rfl)) rfl ?_
    exact ⟨by rw [HX.out, HE.out, key0_bv]; rfl, HB5.out⟩
/-- A drawn secret, the source behind it, and why not. -/
def drawS : List (BitVec 8) := [100, 114, 97, 119]
def forkS : List (BitVec 8) := [102, 111, 114, 107]
theorem draw_ok (N : Nat) : textOk (drvT drawS [beL 8 N]) = true := by simp [textOk, drvT, drawS, cot, beL_length]
def nxE (N : Nat) : Int := if N < 4294967296 then 0 else if N = 4294967296 then 8 else 1
def nxK (seed : List (BitVec 8)) (N : Nat) : List (BitVec 8) := if N < 4294967296 then drvKey seed drawS [beL 8 N] else List.replicate 32 0
def nxS (seed : List (BitVec 8)) (N : Nat) : List (BitVec 8) := if N < 4294967296 then seed else List.replicate 32 0
def nxN (N : Nat) : Nat := if N < 4294967296 then N + 1 else 0
theorem nxK_length (seed : List (BitVec 8)) (N : Nat) : (nxK seed N).length = 32 := by
  unfold nxK
  split
  · exact drvKey_length _ _ _
  · exact List.length_replicate
theorem nxS_length {seed : List (BitVec 8)} (h : seed.length = 32) (N : Nat) : (nxS seed N).length = 32 := by
  unfold nxS
  split
  · exact h
  · exact List.length_replicate
def NextSays (seed : List (BitVec 8)) (N : Nat) (w : World) (e : Ending) (w' : World) : Prop :=
  e = .returned (.tuple #[.agg (bv (nxK seed N)).toArray, .agg (drawsL (nxS seed N) (nxN N)).toArray, .int .i64 (nxE N)]) ∧ Aft w w'
theorem NextSays.full {seed : List (BitVec 8)} {N : Nat} {w w' : World} (h : N = 4294967296) (ha : Aft w w') : NextSays seed N w (.returned (.tuple #[.agg (bv (List.replicate 32 0)).toArray, .agg (drawsL (List.replicate 32 0) 0).toArray, .int .i64 8])) w' := by
  subst h
  exact ⟨rfl, ha⟩
theorem NextSays.good {seed X : List (BitVec 8)} {N : Nat} {w w' : World} (h : N < 4294967296) (hX : X = nxK seed N) (ha : Aft w w') : NextSays seed N w (.returned (.tuple #[.agg (bv X).toArray, .agg (drawsL seed (N + 1)).toArray, .int .i64 0])) w' := by
  subst hX
  refine ⟨?_, ha⟩
  have h1 : nxS seed N = seed := if_pos h
  have h2 : nxN N = N + 1 := if_pos h
  have h3 : nxE N = 0 := if_pos h
  rw [h1, h2, h3]
theorem NextSays.bad {seed : List (BitVec 8)} {N : Nat} {w w' : World} (h : ¬ N ≤ 4294967296) (ha : Aft w w') : NextSays seed N w (.returned (.tuple #[.agg (bv (List.replicate 32 0)).toArray, .agg (drawsL (List.replicate 32 0) 0).toArray, .int .i64 1])) w' := by
  refine ⟨?_, ha⟩
  have h0 : nxK seed N = List.replicate 32 0 := if_neg (by omega)
  have h1 : nxS seed N = List.replicate 32 0 := if_neg (by omega)
  have h2 : nxN N = 0 := if_neg (by omega)
  have h3 : nxE N = 1 := by unfold nxE; rw [if_neg (by omega), if_neg (by omega)]
  rw [h0, h1, h2, h3]
theorem key0_L : key0 = (bv (List.replicate 32 0)).toArray := key0_bv.symm
def zK : List (BitVec 8) := List.replicate 32 0
theorem zK_length : zK.length = 32 := List.length_replicate
theorem key0_zK : key0 = (bv zK).toArray := key0_bv.symm
set_option maxRecDepth 100000 in
set_option maxHeartbeats 2000000 in
theorem next_any (seed : List (BitVec 8)) (N : Nat) (w : World) (hK : TabK K0 2 w) (hs : seed.length = 32) (hN : N < 18446744073709551616) :
    Calls Tryd.prog 25 #[.agg (drawsL seed N).toArray] w (NextSays seed N w) := by
  have HK := Lib.hid hK
  have HS := Lib.hid hs
  have HN := Lib.hid hN
  clear hK hs hN
  go_enter Tryd.func25, Tryd.ntmps25
  by_cases hN1 : (N : Int) = 4294967296
  · have HQ := Lib.hid (show N = 4294967296 by omega)
    go_wp2_with (first
      | (refine wpList_boxO rfl 39 (.tmp 0) rfl (.agg (drawsL seed N).toArray) rfl (.cells (drawsL seed N).toArray 39) (box_draws _) ?_; intro w1 a1 g1 z1; have A1 := Lib.hid a1; have Z1 := Lib.hid z1; clear a1 z1)
      | (refine wpList_allocO rfl 23 rfl (.cells key0 23) alloc_key ?_; intro w2 a2 g2 z2; have A2 := Lib.hid a2; have Z2 := Lib.hid z2; clear a2 z2)
      | (refine wpList_allocO rfl 39 rfl (.cells (drawsL (List.replicate 32 0) 0).toArray 39) alloc_draws ?_; intro w3 a3 g3 z3; have A3 := Lib.hid a3; have Z3 := Lib.hid z3; have H0 := Lib.hid (Aft.get (Aft.trans A2.out a3) g1.out); have H1 := Lib.hid (Aft.get a3 g2.out); have HA := Lib.hid (Aft.trans A1.out (Aft.trans A2.out a3)); clear a3 z3; have hc := draws_n H0.out HS.out)
      | (refine wpList_store_keyZ0 rfl (.tmp 2) (.tmp 10) rfl w1.heap.size rfl rfl key0 H1.out key0_size ?_; intro w4 b1 b2 b3; have B1 := b1; have B2 := Lib.hid (b3 w.heap.size w (by have := Z1.out; omega) HA.out); have G4 := Lib.hid ((b2.out w2.heap.size (by have := Z2.out; omega)).trans g3.out); clear b1 b2 b3)
      | (refine wpList_store_drawsZ0 rfl (.tmp 3) (.tmp 11) rfl w2.heap.size rfl rfl _ G4.out drawsZ_size ?_; intro w5 b1 b2 b3; have C1 := b1; have C2 := Lib.hid (b3 w.heap.size w (by have := Z1.out; have := Z2.out; omega) B2.out); have C3 := Lib.hid ((b2.out w1.heap.size (by have := Z2.out; omega)).trans B1.out); clear b1 b2 b3))
    refine bodyPost_ret (results_cell2 rfl _ _ w1.heap.size w2.heap.size _ _ _ _ _ _ _ _ rfl rfl C3.out C1.out Tryd.underlying23 rfl (key_info List.length_replicate) Tryd.underlying39 rfl (draws_info List.length_replicate 0)) rfl ?_
    exact NextSays.full HQ.out C2.out
  · have hd := fun (wx : World) (h : Aft w wx) => derived_any seed N ⟨#[100, 114, 97, 119]⟩ (.slice none 0 0) [] wx (TabK_fr HK.out (Fr.of_below (S := fun _ => False) h) (fun h => h)) HS.out HN.out (by decide) (RdAll.nil _) (by simp)
    rw [show sb ⟨#[100, 114, 97, 119]⟩ = drawS from rfl] at hd
    have HD := Lib.hid hd
    have HX := Lib.hid (show N < 4294967296 → drwKey seed N drawS [] = nxK seed N from fun h => (if_pos (by omega)).trans (if_pos h).symm)
    have HE := Lib.hid (show N < 4294967296 → drwErr N drawS [] = 0 from fun h => (if_pos (by omega)).trans (if_pos (draw_ok N)))
    have HE2 := Lib.hid (show ¬ N ≤ 4294967296 → drwErr N drawS [] = 1 from fun h => if_neg h)
    have HXL := Lib.hid (drwKey_length seed N drawS [])
    clear hd
    generalize drwKey seed N drawS [] = X at *
    generalize drwErr N drawS [] = ex at *
    go_wp2_with (first
      | (refine wpList_boxO rfl 39 (.tmp 0) rfl (.agg (drawsL seed N).toArray) rfl (.cells (drawsL seed N).toArray 39) (box_draws _) ?_; intro w1 a1 g1 z1; have A1 := Lib.hid a1; have Z1 := Lib.hid z1; clear a1 z1)
      | (refine wpList_allocO rfl 23 rfl (.cells key0 23) alloc_key ?_; intro w2 a2 g2 z2; have A2 := Lib.hid a2; have Z2 := Lib.hid z2; clear a2 z2)
      | (refine wpList_allocO rfl 39 rfl (.cells (drawsL (List.replicate 32 0) 0).toArray 39) alloc_draws ?_; intro w3 a3 g3 z3; have A3 := Lib.hid a3; have Z3 := Lib.hid z3; have H0 := Lib.hid (Aft.get (Aft.trans A2.out a3) g1.out); have H1 := Lib.hid (Aft.get a3 g2.out); have HA := Lib.hid (Aft.trans A1.out (Aft.trans A2.out a3)); clear a3 z3; have hc := draws_n H0.out HS.out)
      | (refine wpList_load_row rfl 39 (.tmp 1) rfl w.heap.size rfl 39 (drawsL seed N).toArray (0, 0) _ H0.out Tryd.underlying39 rfl (draws_info HS.out N) ?_))
    refine (HD.out w3 HA.out).mono ?_
    rintro e w4 ⟨rfl, h4⟩
    have HA4 := Lib.hid (Aft.trans HA.out h4)
    have H04 := Lib.hid (Aft.get h4 H0.out)
    have H14 := Lib.hid (Aft.get h4 H1.out)
    have H24 := Lib.hid (Aft.get h4 g3.out)
    have S4 := Lib.hid (show w3.heap.size ≤ w4.heap.size from Below.size h4)
    clear h4 hc
    by_cases hN2 : N < 4294967296
    · obtain rfl := HE.out hN2
      have HXX := Lib.hid (HX.out hN2)
      have HQ := Lib.hid hN2
      have hN3 : (N : Int) + 1 < 18446744073709551616 := by omega
      clear hN1 hN2
      have hcN : ∀ wx : World, Hid (wx.heap[w.heap.size]? = some (.cells (drawsL seed N).toArray 39 (0, 0))) → wx.cell? ⟨w.heap.size, 32, none⟩ = some (.int .u64 (N : Int)) := fun wx h => draws_n h.out HS.out
      have HCN := Lib.hid hcN
      clear hcN
      go_wp2_with (first
        | (refine wpList_allocO rfl 23 rfl (.cells key0 23) alloc_key ?_; intro w5 a5 g5 z5; have A5 := Lib.hid a5; have Z5 := Lib.hid z5; have G5 := g5; clear a5 z5 g5)
        | (refine wpList_store_keyZ rfl (.tmp 5) (.tmp 15) rfl w4.heap.size X HXL.out rfl rfl key0 G5.out key0_size ?_; intro w6 b1 b2 b3; have B1 := b1; have HA6 := Lib.hid (b3 w.heap.size w (by have := Below.size HA4.out; omega) (Aft.trans HA4.out A5.out)); have A46 := Lib.hid (b3 w4.heap.size w4 (Nat.le_refl _) A5.out); have H06 := Lib.hid (Aft.get A46.out H04.out); have H16 := Lib.hid (Aft.get A46.out H14.out); have H26 := Lib.hid (Aft.get A46.out H24.out); clear b1 b2 b3; have hc6 := HCN.out w6 H06)
        | (refine wpList_store_drawsN rfl (.tmp 25) (.tmp 24) rfl w.heap.size seed N (N + 1) _ (by omega) HS.out rfl rfl H06.out ?_; intro w7 b1 b2 b3; have H07 := b1; have HA7 := Lib.hid (b3 w.heap.size w (Nat.le_refl _) HA6.out); have H17 := Lib.hid ((b2.out w1.heap.size (by have := Z1.out; omega)).trans H16.out); have H27 := Lib.hid ((b2.out w2.heap.size (by have := Z1.out; have := Z2.out; omega)).trans H26.out); have HX7 := Lib.hid ((b2.out w4.heap.size (by have := Below.size HA4.out; have := Z1.out; have := Z2.out; have := Z3.out; have := S4.out; omega)).trans B1.out); clear b1 b2 b3 hc6 hN3)
        | (refine wp_region_lex (fun w' => w'.heap[w4.heap.size]? = some (.cells (bv X).toArray 23 (0, 0)) ∧ w'.heap[w.heap.size]? = some (.cells (drawsL seed (N + 1)).toArray 39 (0, 0))) (fun i => ([2] : List Nat).contains i) 3 (by kernel_rfl) (by kernel_rfl) ⟨HX7.out, H07.out⟩ ?_))
      change wpLx _ _ _ _ _ _ _ _ _ w7.drew
      have HA8 := Lib.hid (show Aft w w7.drew from HA7.out.drew)
      have H18 := Lib.hid (show w7.drew.heap[w1.heap.size]? = _ from H17.out)
      have H28 := Lib.hid (show w7.drew.heap[w2.heap.size]? = _ from H27.out)
      have HX8 := Lib.hid (show w7.drew.heap[w4.heap.size]? = _ from HX7.out)
      have H08 := Lib.hid (show w7.drew.heap[w.heap.size]? = _ from H07.out)
      generalize w7.drew = wd at *
      refine lx_load_agg rfl (by kernel_rfl) 23 (.tmp 5) rfl ⟨w4.heap.size, 0, none⟩ rfl (bv X).toArray (fun w' h => run_loadVar_row w' _ _ _ _ _ _ h.1 Tryd.underlying23 rfl (key_info HXL.out)) ?_
      simp only [Act.put, List.setIfInBounds_toArray, List.set_cons_succ, List.set_cons_zero]
      refine lx_load_agg rfl (by kernel_rfl) 39 (.tmp 1) rfl ⟨w.heap.size, 0, none⟩ rfl (drawsL seed (N + 1)).toArray (fun w' h => run_loadVar_row w' _ _ _ _ _ _ h.2 Tryd.underlying39 rfl (draws_info HS.out _)) ?_
      simp only [Act.put, List.setIfInBounds_toArray, List.set_cons_succ, List.set_cons_zero]
      refine lx_eff rfl (by kernel_rfl) ?_
      intro Kx hKx
      refine wp_of_list (ops := #[]) (wpList_store_keyZ rfl (.tmp 2) (.tmp 26) rfl w1.heap.size X HXL.out rfl rfl key0 H18.out key0_size ?_)
      intro w8 b1 b2 b3
      have C1 := b1
      have C2 := Lib.hid (b3 w.heap.size w (by have := Z1.out; omega) HA8.out)
      have C4 := Lib.hid ((b2.out w2.heap.size (by have := Z2.out; omega)).trans H28.out)
      refine ⟨rfl, hKx _ _ ⟨⟨(b2.out w4.heap.size (by have := Below.size HA4.out; have := Z1.out; have := Z2.out; have := Z3.out; have := S4.out; omega)).trans HX8.out, (b2.out w.heap.size (by have := Z1.out; omega)).trans H08.out⟩, ?_⟩⟩
      clear b1 b2 b3 hKx
      refine lx_done ?_
      simp only [Act.put]
      go_wp2_with (first
        | (refine wpList_store_drawsZ rfl (.tmp 3) (.tmp 27) rfl w2.heap.size seed (N + 1) HS.out rfl rfl _ C4.out drawsZ_size ?_; intro w9 b1 b2 b3; have D1 := b1; have D2 := Lib.hid (b3 w.heap.size w (by have := Z1.out; have := Z2.out; omega) C2.out); have D3 := Lib.hid ((b2.out w1.heap.size (by have := Z2.out; omega)).trans C1.out); clear b1 b2 b3))
      refine bodyPost_ret (results_cell2 rfl _ _ w1.heap.size w2.heap.size _ _ _ _ _ _ _ _ rfl rfl D3.out D1.out Tryd.underlying23 rfl (key_info HXL.out) Tryd.underlying39 rfl (draws_info HS.out (N + 1))) rfl ?_
      exact NextSays.good HQ.out HXX.out D2.out
    · have HQ := Lib.hid (show ¬ N ≤ 4294967296 by omega)
      obtain rfl := HE2.out HQ.out
      clear hN1 hN2
      go_wp2_with (first
        | (refine wpList_allocO rfl 23 rfl (.cells key0 23) alloc_key ?_; intro w5 a5 g5 z5; have A5 := Lib.hid a5; have Z5 := Lib.hid z5; have G5 := g5; clear a5 z5 g5)
        | (refine wpList_store_keyZ rfl (.tmp 5) (.tmp 15) rfl w4.heap.size X HXL.out rfl rfl key0 G5.out key0_size ?_; intro w6 b1 b2 b3; have HA6 := Lib.hid (b3 w.heap.size w (by have := Below.size HA4.out; omega) (Aft.trans HA4.out A5.out)); have A46 := Lib.hid (b3 w4.heap.size w4 (Nat.le_refl _) A5.out); have H16 := Lib.hid (Aft.get A46.out H14.out); have H26 := Lib.hid (Aft.get A46.out H24.out); clear b1 b2 b3)
        | (refine wpList_store_keyZ0 rfl (.tmp 2) (.tmp 19) rfl w1.heap.size rfl rfl key0 H16.out key0_size ?_; intro w8 b1 b2 b3; have C1 := b1; have C2 := Lib.hid (b3 w.heap.size w (by have := Z1.out; omega) HA6.out); have C4 := Lib.hid ((b2.out w2.heap.size (by have := Z2.out; omega)).trans H26.out); clear b1 b2 b3)
        | (refine wpList_store_drawsZ0 rfl (.tmp 3) (.tmp 20) rfl w2.heap.size rfl rfl _ C4.out drawsZ_size ?_; intro w9 b1 b2 b3; have D1 := b1; have D2 := Lib.hid (b3 w.heap.size w (by have := Z1.out; have := Z2.out; omega) C2.out); have D3 := Lib.hid ((b2.out w1.heap.size (by have := Z2.out; omega)).trans C1.out); clear b1 b2 b3))
      refine bodyPost_ret (results_cell2 rfl _ _ w1.heap.size w2.heap.size _ _ _ _ _ _ _ _ rfl rfl D3.out D1.out Tryd.underlying23 rfl (key_info List.length_replicate) Tryd.underlying39 rfl (draws_info List.length_replicate 0)) rfl ?_
      exact NextSays.bad HQ.out D2.out
end Go.Proofs.YtanodhagpegbfaaDoor
