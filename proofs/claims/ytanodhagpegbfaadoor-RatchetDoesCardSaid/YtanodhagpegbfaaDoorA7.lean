import Derived.Test.YtanodhagpegbfaaDoorA6
import Derived.Test.YtanodhagpegbfaaDoorA4
import Derived.Test.YtanodhagpegbfaaDoorA5
/- coterieref02.Done: the document's end of a sum that stands in a block. -/
namespace Go.Proofs.YtanodhagpegbfaaDoor
open Go Go.RowKit
end Go.Proofs.YtanodhagpegbfaaDoor
/- coterieref02.Write: the document's sum, block by block, that stands in a block. -/
namespace Go.Proofs.YtanodhagpegbfaaDoor
open Go Go.RowKit
set_option maxRecDepth 100000 in
theorem run_cut64 {ao : Option Addr} {len cap : Nat} (h : 64 ≤ cap) (wx : World) : (Instr.slice 24 (.slice ao len cap) none (some (.int .i64 64)) none).run Tryd.prog wx = .ok (.slice ao 64 cap) wx := by
  obtain ⟨iB, hiB, -⟩ := info_parts info_byte
  have := cut_to (P := Tryd.prog) (ao := ao) (len := len) (cap := cap) (n := 64) Tryd.underlying24 h wx hiB
  rw [run_sliceAt_slice wx 24 _ _ _ _ Tryd.underlying24] at this
  exact this
set_option maxRecDepth 100000 in
theorem run_drop64 {ao : Option Addr} {len cap : Nat} (h : 64 ≤ len) (wx : World) : (Instr.slice 24 (.slice ao len cap) (some (.int .i64 64)) none none).run Tryd.prog wx = .ok (.slice (if cap = 64 then ao else ao.map (·.add 64)) (len - 64) (cap - 64)) wx := by
  obtain ⟨iB, hiB, hz1, hz2, -⟩ := info_parts info_byte
  have := cut_from (P := Tryd.prog) (ao := ao) (len := len) (cap := cap) (n := 64) Tryd.underlying24 h wx hiB hz2
  rw [run_sliceAt_slice wx 24 _ _ _ _ Tryd.underlying24] at this
  exact this
end Go.Proofs.YtanodhagpegbfaaDoor
/- coterieref03.padded: a key of 64 bytes, each xor a number. -/
namespace Go.Proofs.YtanodhagpegbfaaDoor
open Go Go.RowKit
/-- A key's byte. -/
def kb (xs : List (BitVec 8)) (i : Nat) : BitVec 8 := xs.getD i 0
def pdRow (k : List (BitVec 8)) (b : BitVec 8) (i : Nat) (j : Nat) : Value := .int .u8 (bn (if j < i then k.getD j 0 ^^^ b else 0))
theorem pd_start {w : World} {g t : Nat} (k : List (BitVec 8)) (b : BitVec 8) (h : w.heap[g]? = some (.cells (List.replicate 64 (Value.int .u8 0)).toArray t (0, 0))) : w.rowIs g t 64 (pdRow k b 0) := by
  refine ⟨_, h, by simp, fun i hi => ?_⟩
  unfold pdRow
  rw [if_neg (by omega), List.getElem?_toArray, List.getElem?_replicate, if_pos hi]
  rfl
theorem pd_step (k : List (BitVec 8)) (b : BitVec 8) (i : Nat) (h : i < k.length) : ∀ j, j < 64 → (if j = i then Value.int .u8 (bn (b ^^^ kb k i)) else if j = i then .int .u8 (bn b) else pdRow k b i j) = pdRow k b (i + 1) j := by
  intro j _
  unfold pdRow
  by_cases hj : j = i
  · subst hj
    rw [if_pos rfl, if_pos (by omega), BitVec.xor_comm]; rfl
  · rw [if_neg hj, if_neg hj]
    by_cases h2 : j < i
    · rw [if_pos h2, if_pos (by omega)]
    · rw [if_neg h2, if_neg (by omega)]
theorem pd_step0 (k : List (BitVec 8)) (b : BitVec 8) (i : Nat) (h : k.length ≤ i) : ∀ j, j < 64 → (if j = i then Value.int .u8 (bn b) else pdRow k b i j) = pdRow k b (i + 1) j := by
  intro j _
  unfold pdRow
  by_cases hj : j = i
  · subst hj
    rw [if_pos rfl, if_pos (by omega)]
    simp [List.getD, List.getElem?_eq_none h]
  · rw [if_neg hj]
    by_cases h2 : j < i
    · rw [if_pos h2, if_pos (by omega)]
    · rw [if_neg h2, if_neg (by omega)]
theorem pd_end (k : List (BitVec 8)) (b : BitVec 8) : ∀ j, j < 64 → pdRow k b 64 j = heldRow k b 64 j := by
  intro j hj
  unfold pdRow heldRow
  rw [if_pos hj, if_pos hj]
attribute [local go_sem] bn_xor
set_option maxRecDepth 100000 in
set_option maxHeartbeats 1000000 in
theorem padded3_any (v : Value) (ks : List (BitVec 8)) (b : BitVec 8) (w : World) (hK : TabK K0 0 w) (hrd : Rd w v (bv ks)) (hlen : ks.length ≤ 1099511627776) :
    Calls Tryd.prog 103 #[v, .int .u8 (bn b)] w (RetSl 64 fun v' w' => w'.ownsRow w.heap.size 5 1 v' 64 (bv (heldB (key64 K0 ks) b)) ∧ Below w.heap.size w w') := by
  have HK := Lib.hid hK
  have HR := Lib.hid hrd
  obtain ⟨ao, cap, rfl, -, -, -, -⟩ := hrd
  clear hK
  obtain ⟨iB, hiB, hz1, hz2, hz3⟩ := info_parts info_byte
  have hmk : ∀ w, (Instr.makeSlice 24 (.int .i64 64) (.int .i64 64)).run Tryd.prog w = .ok (.slice (some ⟨w.heap.size, 0, none⟩) 64 64) (w.alloc (.cells zRow 5)) := fun w => by
    have := run_make (P := Tryd.prog) w 24 5 iB (.int .u8 0) Tryd.underlying24 hiB hz1 .i64 .i64 64 64 (by omega) (by omega) (by rw [hz3]; omega) (by omega)
    rw [this, hz2]; rfl
  clear hz1 hz2 hz3 hiB
  by_cases hl : ks.length ≤ 64
  · have hl' : ¬ (64 : Int) < ((bv ks).length : Nat) := by rw [bv_length]; omega
    have hkey : key64 K0 ks = ks := if_pos hl
    rw [hkey]
    clear hkey
    go_enter Tryd.func103, Tryd.ntmps103
    have HZ := Lib.hid (show (w.alloc (.cells zRow 5)).heap[w.heap.size]? = some (.cells (List.replicate 64 (Value.int .u8 0)).toArray 5 (0, 0)) by rw [heap_alloc_new, zRow_arr])
    have HKL := Lib.hid (bv_length ks)
    have HRow := Lib.hid (pd_start ks b HZ.out)
    have HBm := Lib.hid (show Aft w (w.alloc (.cells zRow 5)) from Aft.alloc _ _)
    have HLk := Lib.hid hl
    clear hl
    go_wp2_with fail
    go_loopw [18] (fun v18 wr => ∃ i : Nat, i ≤ 64 ∧ v18 = .int .i64 i ∧ wr.rowIs w.heap.size 5 64 (pdRow ks b i) ∧ Aft w wr) (fun v _ => 64 - (intOf v).toNat)
    case atStart => exact ⟨0, by omega, rfl, HRow.out, HBm.out⟩
    case round =>
      obtain ⟨i, hi, rfl, hrow, hbw⟩ := hrel
      have HBw := Lib.hid hbw
      have HRo := Lib.hid hrow
      clear hbw hrow
      by_cases hlt : i < 64
      · have hlt' : (i : Int) < 64 := by omega
        have c0 := World.rowIs.cell HRo.out (i := i) hlt
        have fz := World.rowIs.frozen HRo.out i
        have HRo1 := Lib.hid (World.rowIs.set HRo.out i (.int .u8 (bn b)))
        have HB1 := Lib.hid (aft_set HBw.out (p := ⟨w.heap.size, i, none⟩) (Nat.le_refl _) (.int .u8 (bn b)))
        obtain ⟨w1, hw1⟩ : ∃ w1, w1 = wr.setCell ⟨w.heap.size, i, none⟩ (.int .u8 (bn b)) := ⟨_, rfl⟩
        rw [← hw1] at HRo1 HB1
        by_cases hin : i < ks.length
        · have hin' : (i : Int) < ((bv ks).length : Nat) := by rw [bv_length]; omega
          obtain ⟨ga, oa, rfl, -, hca⟩ := HR.out.some_of (by rw [bv_length]; omega)
          have hRA := Lib.hid (HR.out.grow HB1.out)
          go_wp2_with fail
          rw [← hw1]
          have HSt := Lib.hid (pd_step ks b i hin)
          have c1 := World.rowIs.cell HRo1.out (i := i) hlt
          simp only [if_true] at c1
          have HC1 := Lib.hid c1
          clear c1
          refine wp_region_lexF (fun i => ([] : List Nat).getD i 0) 10 (by kernel_rfl) (by kernel_rfl) ?_; intro wi hwi
          have HWi := Lib.hid (show Aft w1 wi by rw [hwi]; exact (Below.refl _ _).drew)
          have HBi := Lib.hid (show Below w.heap.size w wi by rw [hwi]; exact HB1.out.drew)
          have HRi := Lib.hid (show wi.rowIs w.heap.size 5 64 _ by rw [hwi]; exact HRo1.out)
          clear hwi
          have cA := fun u : Later wi.heap.size wi => (show u.w.cell? ⟨ga, oa + i, none⟩ = some (.int .u8 (bn (kb ks i))) from (hRA.out.grow (Aft.trans HWi.out u.h)).cell_at hin)
          have cB := fun u : Later wi.heap.size wi => (show u.w.cell? ⟨w.heap.size, i, none⟩ = some (.int .u8 (bn b)) from (Below.cell u.h (p := ⟨w.heap.size, i, none⟩) HRi.out.lt).trans ((World.rowIs.cell HRi.out (i := i) hlt).trans (by simp)))
          repeat (first | (refine lf_skip (by go_big_quiet_skip; exact wpQuiet_nil trivial) (by kernel_rfl) ?_; simp only [Act.put, List.setIfInBounds_toArray, List.set_cons_succ, List.set_cons_zero]) | (refine lf_quiet rfl (by go_big_quiet_want; exact quiet_false (by assumption)) (by kernel_rfl) rfl ?_; intro Kx hKx; go_big_quiet_op; go_big_quiet_on))
          refine lf_done ?_
          intro wj hj
          have HRj := Lib.hid (HRi.out.of_block (Below.block hj _ HRi.out.lt))
          have HJ := Lib.hid (show Below w.heap.size w wj from HBi.out.trans (Below.mono hj (Below.size HBi.out)))
          have cj := World.rowIs.cell HRj.out (i := i) hlt
          have fj := World.rowIs.frozen HRj.out i
          simp only [if_true] at cj
          clear hj
          go_wp2_with fail
          go_roundw
          case rel => exact ⟨i + 1, by omega, by go_num, (World.rowIs.set HRj.out i _).congr HSt.out, aft_set HJ.out (Nat.le_refl _) _⟩
          case measure => simp [intOf]; omega
        · have hin' : ¬ (i : Int) < ((bv ks).length : Nat) := by rw [bv_length]; omega
          have HSt := Lib.hid (pd_step0 ks b i (by omega))
          go_wp2_with fail
          rw [← hw1]
          go_roundw
          case rel => exact ⟨i + 1, by omega, by go_num, HRo1.out.congr HSt.out, HB1.out⟩
          case measure => simp [intOf]; omega
      · obtain rfl : i = 64 := by omega
        have hlt' : ¬ ((64 : Nat) : Int) < 64 := by omega
        go_wp2_with fail
        go_ret
        exact ⟨_, _, rfl, held_end ks b (Nat.le_refl _) (HRo.out.congr (pd_end ks b)), HBw.out⟩
  · have hl' : (64 : Int) < ((bv ks).length : Nat) := by rw [bv_length]; omega
    have hkey : key64 K0 ks = digest K0 ks := if_neg hl
    have hxl := digest_length K0 ks
    rw [hkey]
    generalize hX : digest K0 ks = X at hxl ⊢
    have HX := Lib.hid hX
    clear hkey hX
    go_enter Tryd.func103, Tryd.ntmps103
    go_wp2_with fail
    have hb1 : Aft w (w.alloc (.cells #[.slice ao (bv ks).length cap] 24)) := Aft.alloc _ _
    refine (refSum_any _ [ks] _ (TabK_fr HK.out (Fr.of_below (S := fun _ => False) hb1) (fun h => h)) (RdAll.one w _ ks _ HR.out) (by simp; omega)).mono ?_
    rintro e w3 ⟨rfl, hb3⟩
    rw [show ([ks] : List (List (BitVec 8))).flatten = ks by simp, HX.out]
    have HXL := Lib.hid hxl
    have HB3 := Lib.hid (show Below w.heap.size w w3 from Aft.trans hb1 hb3)
    have HS3 := Lib.hid (heap_alloc_new w3 (.cells key0 23))
    have HXb := Lib.hid (show (bv X).length = 32 by rw [bv_length]; exact hxl)
    clear hxl hb1 hb3
    go_wp2_with ((refine wpList_store_keyX rfl (.tmp 5) (.tmp 13) rfl w3.heap.size X HXL.out rfl rfl HS3.out ?_; intro wk q2 q3; have HBk := Lib.hid (show Aft w wk from q3 w.heap.size w HB3.out.size (HB3.out.alloc HB3.out.size _)); have HRk := Lib.hid (Rd.of_key q2.out HXL.out); have HZ := Lib.hid (show (wk.alloc (.cells zRow 5)).heap[wk.heap.size]? = some (.cells (List.replicate 64 (Value.int .u8 0)).toArray 5 (0, 0)) by rw [heap_alloc_new, zRow_arr]); have HBm := Lib.hid (show Aft w (wk.alloc (.cells zRow 5)) from Aft.trans HBk.out (Aft.alloc _ _)); have HRz := Lib.hid (HRk.out.grow (Aft.alloc wk (.cells zRow 5))); have HRow := Lib.hid (pd_start X b HZ.out); have HWk := Lib.hid (show Aft wk (wk.alloc (.cells zRow 5)) from Aft.alloc _ _); clear q2 q3))
    go_loopw [18] (fun v18 wr => ∃ i : Nat, i ≤ 64 ∧ v18 = .int .i64 i ∧ wr.rowIs wk.heap.size 5 64 (pdRow X b i) ∧ Aft wk wr) (fun v _ => 64 - (intOf v).toNat)
    case atStart => exact ⟨0, by omega, rfl, HRow.out, HWk.out⟩
    case round =>
      obtain ⟨i, hi, rfl, hrow, hbw⟩ := hrel
      have HBw := Lib.hid hbw
      have HRo := Lib.hid hrow
      clear hbw hrow
      by_cases hlt : i < 64
      · have hlt' : (i : Int) < 64 := by omega
        have c0 := World.rowIs.cell HRo.out (i := i) hlt
        have fz := World.rowIs.frozen HRo.out i
        have HRo1 := Lib.hid (World.rowIs.set HRo.out i (.int .u8 (bn b)))
        have HB1 := Lib.hid (aft_set HBw.out (p := ⟨wk.heap.size, i, none⟩) (Nat.le_refl _) (.int .u8 (bn b)))
        obtain ⟨w1, hw1⟩ : ∃ w1, w1 = wr.setCell ⟨wk.heap.size, i, none⟩ (.int .u8 (bn b)) := ⟨_, rfl⟩
        rw [← hw1] at HRo1 HB1
        by_cases hin : i < X.length
        · have hin' : (i : Int) < 32 := by have := HXL.out; omega
          have hRA := Lib.hid (HRk.out.grow HB1.out)
          go_wp2_with fail
          rw [← hw1]
          have HSt := Lib.hid (pd_step X b i hin)
          have c1 := World.rowIs.cell HRo1.out (i := i) hlt
          simp only [if_true] at c1
          have HC1 := Lib.hid c1
          clear c1
          refine wp_region_lexF (fun i => ([] : List Nat).getD i 0) 10 (by kernel_rfl) (by kernel_rfl) ?_; intro wi hwi
          have HWi := Lib.hid (show Aft w1 wi by rw [hwi]; exact (Below.refl _ _).drew)
          have HBi := Lib.hid (show Below wk.heap.size wk wi by rw [hwi]; exact HB1.out.drew)
          have HRi := Lib.hid (show wi.rowIs wk.heap.size 5 64 _ by rw [hwi]; exact HRo1.out)
          clear hwi
          have cA := fun u : Later wi.heap.size wi => (show u.w.cell? ⟨w3.heap.size, i, none⟩ = some (.int .u8 (bn (kb X i))) by have h := (hRA.out.grow (Aft.trans HWi.out u.h)).cell_at hin; rw [Nat.zero_add] at h; exact h)
          have cB := fun u : Later wi.heap.size wi => (show u.w.cell? ⟨wk.heap.size, i, none⟩ = some (.int .u8 (bn b)) from (Below.cell u.h (p := ⟨wk.heap.size, i, none⟩) HRi.out.lt).trans ((World.rowIs.cell HRi.out (i := i) hlt).trans (by simp)))
          repeat (first | (refine lf_skip (by go_big_quiet_skip; exact wpQuiet_nil trivial) (by kernel_rfl) ?_; simp only [Act.put, List.setIfInBounds_toArray, List.set_cons_succ, List.set_cons_zero]) | (refine lf_quiet rfl (by go_big_quiet_want; exact quiet_false (by assumption)) (by kernel_rfl) rfl ?_; intro Kx hKx; go_big_quiet_op; go_big_quiet_on))
          refine lf_done ?_
          intro wj hj
          have HRj := Lib.hid (HRi.out.of_block (Below.block hj _ HRi.out.lt))
          have HJ := Lib.hid (show Below wk.heap.size wk wj from HBi.out.trans (Below.mono hj (Below.size HBi.out)))
          have cj := World.rowIs.cell HRj.out (i := i) hlt
          have fj := World.rowIs.frozen HRj.out i
          simp only [if_true] at cj
          clear hj
          go_wp2_with fail
          go_roundw
          case rel => exact ⟨i + 1, by omega, by go_num, (World.rowIs.set HRj.out i _).congr HSt.out, aft_set HJ.out (Nat.le_refl _) _⟩
          case measure => simp [intOf]; omega
        · have hin' : ¬ (i : Int) < 32 := by have := HXL.out; omega
          have HSt := Lib.hid (pd_step0 X b i (by omega))
          go_wp2_with fail
          rw [← hw1]
          go_roundw
          case rel => exact ⟨i + 1, by omega, by go_num, HRo1.out.congr HSt.out, HB1.out⟩
          case measure => simp [intOf]; omega
      · obtain rfl : i = 64 := by omega
        have hlt' : ¬ ((64 : Nat) : Int) < 64 := by omega
        go_wp2_with fail
        go_ret
        exact ⟨_, _, rfl, held_end X b (Below.size HBk.out) (HRo.out.congr (pd_end X b)), Aft.trans HBk.out HBw.out⟩
end Go.Proofs.YtanodhagpegbfaaDoor
/- coterieref03.Mac, and Extract: the document's sum with a key. -/
namespace Go.Proofs.YtanodhagpegbfaaDoor
open Go Go.RowKit
set_option maxRecDepth 100000 in
set_option maxHeartbeats 2000000 in
theorem refMac_any (vk vp : Value) (k : List (BitVec 8)) (ps : List (List (BitVec 8))) (w : World) (hK : TabK K0 0 w) (hrk : Rd w vk (bv k)) (hrp : RdAll w vp ps)
    (hk : k.length ≤ 1099511627776) (hd : ps.flatten.length ≤ 1000000000000) :
    Calls Tryd.prog 77 #[vk, vp] w fun e w' => e = .returned (.agg (bv (macOf K0 k ps.flatten)).toArray) ∧ Below w.heap.size w w' := by
  have HK := Lib.hid hK
  have HR := Lib.hid hrk
  have HP := Lib.hid hrp
  have HD := Lib.hid hd
  obtain ⟨aok, capk, rfl, -, -, -, -⟩ := hrk
  obtain ⟨aop, capp, rfl, -⟩ := hrp.shape
  clear hK hrp hd
  go_enter Tryd.func77, Tryd.ntmps77
  have hba : Aft w (w.alloc (.cells key0 23)) := Aft.alloc _ _
  have hh := padded3_any (.slice aok (bv k).length capk) k 54 (w.alloc (.cells key0 23)) (TabK_fr HK.out (Fr.of_below (S := fun _ => False) hba) (fun h => h)) (HR.out.grow hba) hk
  rw [← b54] at hh
  have HH := Lib.hid hh
  clear hh hba
  go_wp2_with fail
  refine HH.out.mono ?_
  rintro e w2 ⟨a2, c2, rfl, ho2, hb2⟩
  have HR4 := Lib.hid ((Below.block hb2 w.heap.size (by rw [World.size_alloc]; omega)).trans (heap_alloc_new w (.cells key0 23)))
  have HB2 := Lib.hid (show Aft w w2 from Aft.trans (Aft.alloc w _) hb2)
  have hRd2 := Rd.of_own ho2
  have hl2 := heldB_length (key64 K0 k) 54
  generalize hI : heldB (key64 K0 k) 54 = I at ho2 hRd2 hl2
  have HI := Lib.hid hI
  have HRd2 := Lib.hid (show Rd w2 (.slice a2 64 c2) (bv I) from hRd2)
  have HL2 := Lib.hid hl2
  clear hI hRd2 hl2 ho2 hb2
  have hall := all_any (.slice aop ps.length capp) ps w2 (HP.out.below HB2.out) (by have := HD.out; omega)
  obtain ⟨d, hdf⟩ : ∃ d, d = ps.flatten := ⟨_, rfl⟩
  rw [← hdf] at hall HD
  have HAll := Lib.hid hall
  have HDf := Lib.hid hdf
  clear hall hdf
  go_wp2_with fail
  refine HAll.out.mono ?_
  rintro e w3 ⟨a3, c3, rfl, ho3, hb3⟩
  have HB3 := Lib.hid (show Aft w2 w3 from hb3)
  have HAL := Lib.hid (RdAll.two (w := w3.alloc (.cells #[.slice a2 64 c2, .slice a3 (bv d).length c3] 24)) (heap_alloc_new w3 _) (HRd2.out.grow (Aft.trans hb3 (Aft.alloc w3 _))) ((Rd.of_own ho3).grow (Aft.alloc w3 _)))
  have HW3 := Lib.hid (show Below w.heap.size w (w3.alloc (.cells #[.slice a2 64 c2, .slice a3 (bv d).length c3] 24)) from Aft.trans HB2.out (Aft.trans HB3.out (Aft.alloc w3 _)))
  have HA3 := Lib.hid (show Aft w2 (w3.alloc (.cells #[.slice a2 64 c2, .slice a3 (bv d).length c3] 24)) from Aft.trans HB3.out (Aft.alloc w3 _))
  clear ho3 hb3
  go_wp2_with fail
  refine (refSum_any _ [I, d] _ (TabK_fr HK.out (Fr.of_below (S := fun _ => False) HW3.out) (fun h => h)) HAL.out (by have := HD.out; have := HL2.out; simp; omega)).mono ?_
  rintro e w4 ⟨rfl, hb4⟩
  rw [show ([I, d] : List (List (BitVec 8))).flatten = I ++ d by simp]
  generalize hJ : digest K0 (I ++ d) = J
  have HJ := Lib.hid hJ
  have HJL := Lib.hid (show J.length = 32 by rw [← hJ]; exact digest_length K0 _)
  have HW4 := Lib.hid (show Below w.heap.size w w4 from Aft.trans HW3.out hb4)
  have HB4 := Lib.hid (show Aft w2 w4 from Aft.trans HA3.out hb4)
  have HS4 := Lib.hid (heap_alloc_new w4 (.cells key0 23))
  clear hJ hb4
  go_wp2_with ((refine wpList_store_keyX rfl (.tmp 5) (.tmp 11) rfl w4.heap.size J HJL.out rfl rfl HS4.out ?_; intro w5 q2 q3; have HK5 := Lib.hid q2.out; have HW5 := Lib.hid (show Below w.heap.size w w5 from q3 w.heap.size w HW4.out.size (HW4.out.alloc HW4.out.size _)); have hs4 := Below.size HB4.out; have HB5 := Lib.hid (show Aft w2 w5 from q3 w2.heap.size w2 hs4 (Below.alloc HB4.out hs4 _)); clear q2 q3 hs4))
  have HR5 := Lib.hid ((Below.block HB5.out w.heap.size (heap_lt HR4.out)).trans HR4.out)
  have HKlen := Lib.hid hk
  have hal := fun wx : World => run_sliceAt_key wx w4.heap.size
  clear hk
  simp only [Act.put]
  refine wp_region_lexF (fun i => ([0, 2, 0, 1, 2] : List Nat).getD i 0) 5 (by kernel_rfl) (by kernel_rfl) ?_; intro wf hwf
  have HWf := Lib.hid (show Aft w5 wf by rw [hwf]; exact (Below.refl _ _).drew)
  have HBf := Lib.hid (show Below w.heap.size w wf by rw [hwf]; exact HW5.out.drew)
  clear hwf
  repeat (first | (refine lf_skip (by go_big_quiet_skip; exact wpQuiet_nil trivial) (by kernel_rfl) ?_; simp only [Act.put, List.setIfInBounds_toArray, List.set_cons_succ, List.set_cons_zero]) | (refine lf_quiet rfl (by go_big_quiet_want; exact quiet_false (by assumption)) (by kernel_rfl) rfl ?_; intro Kx hKx; go_big_quiet_op; go_big_quiet_on))
  refine lf_eff rfl (by go_big_quiet_want; exact quiet_false (by assumption)) (by kernel_rfl) ?_
  intro wg hg Kx hKx
  have HWg := Lib.hid (Aft.trans HWf.out hg)
  have HBg := Lib.hid (show Below w.heap.size w wg from Aft.trans HBf.out hg)
  have hh := padded3_any (.slice aok (bv k).length capk) k 92 wg (TabK_fr HK.out (Fr.of_below (S := fun _ => False) HBg.out) (fun h => h)) (HR.out.grow HBg.out) HKlen.out
  rw [← b92] at hh
  have HH2 := Lib.hid hh
  have hfg : Aft wf wg := hg
  clear hh hg
  go_wp2_with fail
  refine HH2.out.mono ?_
  rintro e w6 ⟨a6, c6, rfl, ho6, hb6⟩
  have hRd6 := Rd.of_own ho6
  have hl6 := heldB_length (key64 K0 k) 92
  generalize hO : heldB (key64 K0 k) 92 = O at ho6 hRd6 hl6
  have HO := Lib.hid hO
  have HRd6 := Lib.hid hRd6
  have HL6 := Lib.hid hl6
  have HB6 := Lib.hid (show Aft wf w6 from Aft.trans hfg hb6)
  go_wp2_with fail
  refine ⟨hb6, ?_⟩
  clear hO hRd6 hl6 ho6 hb6 hfg
  repeat (first | (refine lf_skip (by go_big_quiet_skip; exact wpQuiet_nil trivial) (by kernel_rfl) ?_; simp only [Act.put, List.setIfInBounds_toArray, List.set_cons_succ, List.set_cons_zero]) | (refine lf_quiet rfl (by go_big_quiet_want; exact quiet_false (by assumption)) (by kernel_rfl) rfl ?_; intro Kx hKx; go_big_quiet_op; go_big_quiet_on))
  refine lf_fresh (.cells #[.slice a6 64 c6, .slice (some ⟨w4.heap.size, 0, none⟩) 32 32] 24) (fun g => .slice (some ⟨g, 0, none⟩) 2 2) rfl (by kernel_rfl) (fun w1 => by kernel_rfl) ?_
  intro w7 g7 h71 h72 h73
  simp only [Act.put, List.setIfInBounds_toArray, List.set_cons_succ, List.set_cons_zero]
  have HB7 := Lib.hid (Aft.trans HB6.out h71)
  have HG7 := Lib.hid h73
  have HW67 := Lib.hid h71
  clear h71 h72 h73
  refine lf_eff rfl (by go_big_quiet_want; exact quiet_false (by assumption)) (by kernel_rfl) ?_
  intro w8 h8 Kx hKx
  have HB8 := Lib.hid (show Below w.heap.size w w8 from Aft.trans HBf.out (Aft.trans HB7.out h8))
  have hal2 := RdAll.two (h8.get HG7.out) (HRd6.out.grow (Aft.trans HW67.out h8)) (Rd.of_key (X := J) (t := 23) (Aft.get (Aft.trans HWf.out (Aft.trans HB7.out h8)) HK5.out) HJL.out)
  have hsum := refSum_any _ [O, J] w8 (TabK_fr HK.out (Fr.of_below (S := fun _ => False) HB8.out) (fun h => h)) hal2 (by have := HJL.out; have := HL6.out; simp; omega)
  rw [show ([O, J] : List (List (BitVec 8))).flatten = O ++ J by simp] at hsum
  generalize hX : digest K0 (O ++ J) = X at hsum
  have HX := Lib.hid hX
  have HXL := Lib.hid (show X.length = 32 by rw [← hX]; exact digest_length K0 _)
  have HSum := Lib.hid hsum
  have HA8 := Lib.hid h8
  clear hal2 hsum hX h8
  go_wp2_with fail
  refine HSum.out.mono ?_
  rintro e w9 ⟨rfl, hb9⟩
  have HW9 := Lib.hid (Aft.trans HWf.out (Aft.trans HB7.out (Aft.trans HA8.out hb9)))
  have HF9 := Lib.hid (show Aft wf w9 from Aft.trans HB7.out (Aft.trans HA8.out hb9))
  go_wp2_with fail
  refine ⟨hb9, ?_⟩
  clear hb9
  refine lf_done ?_
  intro wa ha
  have HWa := Lib.hid (Aft.trans HF9.out ha)
  have HS := Lib.hid (show wa.heap[w.heap.size]? = some (.cells key0 23 (0, 0)) from Aft.get (Aft.trans HWf.out HWa.out) HR5.out)
  have HBa := Lib.hid (show Below w.heap.size w wa from Aft.trans HBf.out HWa.out)
  clear ha
  go_wp2_with ((refine wpList_store_keyX rfl (.tmp 4) (.tmp 16) rfl w.heap.size X HXL.out rfl rfl HS.out ?_; intro wb q2 q3; have HKb := Lib.hid q2.out; have HBb := Lib.hid (q3 w.heap.size w (Nat.le_refl _) HBa.out); clear q2 q3))
  have hsz8 : (Tryd.prog.info? 23).map (·.size) = some (bv X).toArray.size := by rw [List.size_toArray, bv_length, HXL.out]; kernel_rfl
  refine bodyPost_ret (results_cell_row rfl _ _ w.heap.size 23 (bv X).toArray (0, 0) _ rfl HKb.out Tryd.underlying23 rfl hsz8) rfl ?_
  refine ⟨?_, HBb.out⟩
  rw [← HX.out]
  unfold macOf
  rw [HO.out, HI.out, ← HDf.out, HJ.out]
end Go.Proofs.YtanodhagpegbfaaDoor
/- coterielaw03.MacSums: it answers true. -/
namespace Go.Proofs.YtanodhagpegbfaaDoor
open Go Go.RowKit
theorem wp_bin {P : Program} {o : Oper} {a : Act} {w : World} {K : Act → World → Prop} {Q : Exit → Act → World → Prop} (op : BinOp) (t t2 : TypeId) (x y : Operand) (ho : o.op = .binOp op t x y t2) (vx vy v : Value) (hx : a.eval x = vx) (hy : a.eval y = vy)
    (hr : ∀ w1, (Go.binOp op t vx vy).run P w1 = .ok v w1) (hg : ∀ w1, (eqGuard op t x y vx vy).run P w1 = .ok () w1) (h : K (a.put o.dst v) w) : o.wp P a w K Q := by
  unfold Oper.wp execOp
  simp only [ho, hx, hy, Sem.run_bind, hg, hr, Result.andThen_ok, Sem.run_pure]
  exact h
theorem wpList_binG {P : Program} {w : World} {ops : Array Oper} {rest : List Oper} {o : Oper} {a : Act} {Q : Exit → Act → World → Prop} (hw : Region.wanted o (yielded ops a.tmps) = true) (op : BinOp) (t t2 : TypeId) (x y : Operand) (ho : o.op = .binOp op t x y t2) (vx vy v : Value) (hx : a.eval x = vx) (hy : a.eval y = vy)
    (hr : ∀ w1, (Go.binOp op t vx vy).run P w1 = .ok v w1) (hg : ∀ w1, (eqGuard op t x y vx vy).run P w1 = .ok () w1) (h : wpList P ops Q rest (a.put o.dst v) w) : wpList P ops Q (o :: rest) a w := by
  unfold wpList
  rw [if_pos hw]
  exact .inl (wp_noOut (wp_bin op t t2 x y ho vx vy v hx hy hr hg h))
set_option maxRecDepth 100000 in
set_option maxHeartbeats 1000000 in
theorem refExtract_any (vs vx : Value) (s x : List (BitVec 8)) (w : World) (hK : TabK K0 0 w) (hrs : Rd w vs (bv s)) (hrx : Rd w vx (bv x)) (hs : s.length ≤ 1099511627776) (hx : x.length ≤ 1000000000000) :
    Calls Tryd.prog 76 #[vs, vx] w fun e w' => e = .returned (.agg (bv (macOf K0 s x)).toArray) ∧ Below w.heap.size w w' := by
  have HK := Lib.hid hK
  have HR := Lib.hid hrs
  have HX := Lib.hid hrx
  obtain ⟨aos, caps, rfl, -, -, -, -⟩ := hrs
  obtain ⟨aox, capx, rfl, -, -, -, -⟩ := hrx
  clear hK
  go_enter Tryd.func76, Tryd.ntmps76
  have hb0 : Aft w (w.alloc (.cells key0 23)) := Aft.alloc _ _
  have hal : Aft w ((w.alloc (.cells key0 23)).alloc (.cells #[.slice aox (bv x).length capx] 24)) := Aft.trans hb0 (Aft.alloc _ _)
  have hone := RdAll.one (w.alloc (.cells key0 23)) (.slice aox (bv x).length capx) x 24 (HX.out.grow hb0)
  rw [World.size_alloc] at hone
  have hm := refMac_any (.slice aos (bv s).length caps) (.slice (some ⟨w.heap.size + 1, 0, none⟩) 1 1) s [x] _ (TabK_fr HK.out (Fr.of_below (S := fun _ => False) hal) (fun h => h)) (HR.out.grow hal) hone hs (by simp; omega)
  rw [show ([x] : List (List (BitVec 8))).flatten = x by simp] at hm
  have hxl := macOf_length K0 s x
  generalize macOf K0 s x = X at hm hxl ⊢
  have HXL := Lib.hid hxl
  have HM := Lib.hid hm
  have HAl := Lib.hid hal
  have HZ := Lib.hid (heap_alloc_new w (.cells key0 23))
  clear hm hxl hal hb0 hone
  go_wp2_with fail
  refine HM.out.mono ?_
  rintro e w2 ⟨rfl, hb2⟩
  have hA2 : Aft ((w.alloc (.cells key0 23)).alloc (.cells #[.slice aox (bv x).length capx] 24)) w2 := hb2
  have HB2 := Lib.hid (show Below w.heap.size w w2 from Aft.trans HAl.out hA2)
  have HS2 := Lib.hid (Aft.get hA2 (Aft.get (Aft.alloc (w.alloc (.cells key0 23)) (.cells #[.slice aox (bv x).length capx] 24)) HZ.out))
  clear hb2 hA2
  go_wp2_with ((refine wpList_store_keyX rfl (.tmp 4) (.tmp 8) rfl w.heap.size X HXL.out rfl rfl HS2.out ?_; intro w3 q2 q3; have HK3 := Lib.hid q2.out; have HB3 := Lib.hid (q3 w.heap.size w (Nat.le_refl _) HB2.out); clear q2 q3))
  have hsz8 : (Tryd.prog.info? 23).map (·.size) = some (bv X).toArray.size := by rw [List.size_toArray, bv_length, HXL.out]; kernel_rfl
  refine bodyPost_ret (results_cell_row rfl _ _ w.heap.size 23 (bv X).toArray (0, 0) _ rfl HK3.out Tryd.underlying23 rfl hsz8) rfl ?_
  exact ⟨rfl, HB3.out⟩
set_option maxRecDepth 100000 in
set_option maxHeartbeats 1000000 in
theorem macExtract_any (vs vx : Value) (s x : List (BitVec 8)) (w : World) (hK : TabK K0 2 w) (hrs : Rd w vs (bv s)) (hrx : Rd w vx (bv x)) (hs : s.length ≤ 1099511627776) (hx : x.length ≤ 1000000000000) :
    Calls Tryd.prog 75 #[vs, vx] w fun e w' => e = .returned (.agg (bv (macOf K0 s x)).toArray) ∧ Below w.heap.size w w' := by
  have HK := Lib.hid hK
  have HR := Lib.hid hrs
  have HX := Lib.hid hrx
  obtain ⟨aos, caps, rfl, -, -, -, -⟩ := hrs
  obtain ⟨aox, capx, rfl, -, -, -, -⟩ := hrx
  clear hK
  go_enter Tryd.func75, Tryd.ntmps75
  have hb0 : Aft w (w.alloc (.cells key0 23)) := Aft.alloc _ _
  have hal : Aft w ((w.alloc (.cells key0 23)).alloc (.cells #[.slice aox (bv x).length capx] 24)) := Aft.trans hb0 (Aft.alloc _ _)
  have hone := RdAll.one (w.alloc (.cells key0 23)) (.slice aox (bv x).length capx) x 24 (HX.out.grow hb0)
  rw [World.size_alloc] at hone
  have hm := mac_any (.slice aos (bv s).length caps) (.slice (some ⟨w.heap.size + 1, 0, none⟩) 1 1) s [x] _ (TabK_fr HK.out (Fr.of_below (S := fun _ => False) hal) (fun h => h)) (HR.out.grow hal) hone hs (by simp) (by simp; omega)
  rw [show ([x] : List (List (BitVec 8))).flatten = x by simp] at hm
  have hxl := macOf_length K0 s x
  generalize macOf K0 s x = X at hm hxl ⊢
  have HXL := Lib.hid hxl
  have HM := Lib.hid hm
  have HAl := Lib.hid hal
  have HZ := Lib.hid (heap_alloc_new w (.cells key0 23))
  clear hm hxl hal hb0 hone
  go_wp2_with fail
  refine HM.out.mono ?_
  rintro e w2 ⟨rfl, hb2⟩
  have hA2 : Aft ((w.alloc (.cells key0 23)).alloc (.cells #[.slice aox (bv x).length capx] 24)) w2 := hb2
  have HB2 := Lib.hid (show Below w.heap.size w w2 from Aft.trans HAl.out hA2)
  have HS2 := Lib.hid (Aft.get hA2 (Aft.get (Aft.alloc (w.alloc (.cells key0 23)) (.cells #[.slice aox (bv x).length capx] 24)) HZ.out))
  clear hb2 hA2
  go_wp2_with ((refine wpList_store_keyX rfl (.tmp 4) (.tmp 8) rfl w.heap.size X HXL.out rfl rfl HS2.out ?_; intro w3 q2 q3; have HK3 := Lib.hid q2.out; have HB3 := Lib.hid (q3 w.heap.size w (Nat.le_refl _) HB2.out); clear q2 q3))
  have hsz8 : (Tryd.prog.info? 23).map (·.size) = some (bv X).toArray.size := by rw [List.size_toArray, bv_length, HXL.out]; kernel_rfl
  refine bodyPost_ret (results_cell_row rfl _ _ w.heap.size 23 (bv X).toArray (0, 0) _ rfl HK3.out Tryd.underlying23 rfl hsz8) rfl ?_
  exact ⟨rfl, HB3.out⟩
end Go.Proofs.YtanodhagpegbfaaDoor
/- coterielaw02.ShaSteps: it answers true. -/
namespace Go.Proofs.YtanodhagpegbfaaDoor
open Go Go.RowKit
theorem key0_bv : (bv (List.replicate 32 0)).toArray = key0 := by rw [← bv_zeros]; rfl
end Go.Proofs.YtanodhagpegbfaaDoor

