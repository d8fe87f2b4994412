/- coterieref03.padded: a key of 64 bytes, each xor a number. -/
import Derived.Test.YtifehfcgmodmaaaDoorRefSum
import Derived.Test.YtifehfcgmodmaaaDoorMac
namespace Go.Proofs.YtifehfcgmodmaaaDoor
open Go Go.RowKit
/-- A key's byte. -/
def kb (xs : List (BitVec 8)) (i : Nat) : BitVec 8 := xs.getD i 0
def pdRow (k : List (BitVec 8)) (b : BitVec 8) (i : Nat) (j : Nat) : Value := .int .u8 (bn (if j < i then k.getD j 0 ^^^ b else 0))
theorem pd_start {w : World} {g t : Nat} (k : List (BitVec 8)) (b : BitVec 8) (h : w.heap[g]? = some (.cells (List.replicate 64 (Value.int .u8 0)).toArray t (0, 0))) : w.rowIs g t 64 (pdRow k b 0) := by
  refine ⟨_, h, by simp, fun i hi => ?_⟩
  unfold pdRow
  rw [if_neg (by omega), List.getElem?_toArray, List.getElem?_replicate, if_pos hi]
  rfl
theorem pd_step (k : List (BitVec 8)) (b : BitVec 8) (i : Nat) (h : i < k.length) : ∀ j, j < 64 → (if j = i then Value.int .u8 (bn (b ^^^ kb k i)) else if j = i then .int .u8 (bn b) else pdRow k b i j) = pdRow k b (i + 1) j := by
  intro j _
  unfold pdRow
  by_cases hj : j = i
  · subst hj
    rw [if_pos rfl, if_pos (by omega), BitVec.xor_comm]; rfl
  · rw [if_neg hj, if_neg hj]
    by_cases h2 : j < i
    · rw [if_pos h2, if_pos (by omega)]
    · rw [if_neg h2, if_neg (by omega)]
theorem pd_step0 (k : List (BitVec 8)) (b : BitVec 8) (i : Nat) (h : k.length ≤ i) : ∀ j, j < 64 → (if j = i then Value.int .u8 (bn b) else pdRow k b i j) = pdRow k b (i + 1) j := by
  intro j _
  unfold pdRow
  by_cases hj : j = i
  · subst hj
    rw [if_pos rfl, if_pos (by omega)]
    simp [List.getD, List.getElem?_eq_none h]
  · rw [if_neg hj]
    by_cases h2 : j < i
    · rw [if_pos h2, if_pos (by omega)]
    · rw [if_neg h2, if_neg (by omega)]
theorem pd_end (k : List (BitVec 8)) (b : BitVec 8) : ∀ j, j < 64 → pdRow k b 64 j = heldRow k b 64 j := by
  intro j hj
  unfold pdRow heldRow
  rw [if_pos hj, if_pos hj]
attribute [local go_sem] bn_xor
set_option maxRecDepth 100000 in
set_option maxHeartbeats 1000000 in
theorem padded3_any (v : Value) (ks : List (BitVec 8)) (b : BitVec 8) (w : World) (hK : TabK K0 0 w) (hrd : Rd w v (bv ks)) (hlen : ks.length ≤ 1099511627776) :
    Calls Tryd.prog 68 #[v, .int .u8 (bn b)] w (RetSl 64 fun v' w' => w'.ownsRow w.heap.size 5 1 v' 64 (bv (heldB (key64 K0 ks) b)) ∧ Below w.heap.size w w') := by
  have HK := Lib.hid hK
  have HR := Lib.hid hrd
  obtain ⟨ao, cap, rfl, -, -, -, -⟩ := hrd
  clear hK
  obtain ⟨iB, hiB, hz1, hz2, hz3⟩ := info_parts info_byte
  have hmk : ∀ w, (Instr.makeSlice 25 (.int .i64 64) (.int .i64 64)).run Tryd.prog w = .ok (.slice (some ⟨w.heap.size, 0, none⟩) 64 64) (w.alloc (.cells zRow 5)) := fun w => by
    have := run_make (P := Tryd.prog) w 25 5 iB (.int .u8 0) Tryd.underlying25 hiB hz1 .i64 .i64 64 64 (by omega) (by omega) (by rw [hz3]; omega) (by omega)
    rw [this, hz2]; rfl
  clear hz1 hz2 hz3 hiB
  by_cases hl : ks.length ≤ 64
  · have hl' : ¬ (64 : Int) < ((bv ks).length : Nat) := by rw [bv_length]; omega
    have hkey : key64 K0 ks = ks := if_pos hl
    rw [hkey]
    clear hkey
    go_enter Tryd.func68, Tryd.ntmps68
    have HZ := Lib.hid (show (w.alloc (.cells zRow 5)).heap[w.heap.size]? = some (.cells (List.replicate 64 (Value.int .u8 0)).toArray 5 (0, 0)) by rw [heap_alloc_new, zRow_arr])
    have HKL := Lib.hid (bv_length ks)
    have HRow := Lib.hid (pd_start ks b HZ.out)
    have HBm := Lib.hid (show Aft w (w.alloc (.cells zRow 5)) from Aft.alloc _ _)
    have HLk := Lib.hid hl
    clear hl
    go_wp2_with fail
    go_loopw [18] (fun v18 wr => ∃ i : Nat, i ≤ 64 ∧ v18 = .int .i64 i ∧ wr.rowIs w.heap.size 5 64 (pdRow ks b i) ∧ Aft w wr) (fun v _ => 64 - (intOf v).toNat)
    case atStart => exact ⟨0, by omega, rfl, HRow.out, HBm.out⟩
    case round =>
      obtain ⟨i, hi, rfl, hrow, hbw⟩ := hrel
      have HBw := Lib.hid hbw
      have HRo := Lib.hid hrow
      clear hbw hrow
      by_cases hlt : i < 64
      · have hlt' : (i : Int) < 64 := by omega
        have c0 := World.rowIs.cell HRo.out (i := i) hlt
        have fz := World.rowIs.frozen HRo.out i
        have HRo1 := Lib.hid (World.rowIs.set HRo.out i (.int .u8 (bn b)))
        have HB1 := Lib.hid (aft_set HBw.out (p := ⟨w.heap.size, i, none⟩) (Nat.le_refl _) (.int .u8 (bn b)))
        obtain ⟨w1, hw1⟩ : ∃ w1, w1 = wr.setCell ⟨w.heap.size, i, none⟩ (.int .u8 (bn b)) := ⟨_, rfl⟩
        rw [← hw1] at HRo1 HB1
        by_cases hin : i < ks.length
        · have hin' : (i : Int) < ((bv ks).length : Nat) := by rw [bv_length]; omega
          obtain ⟨ga, oa, rfl, -, hca⟩ := HR.out.some_of (by rw [bv_length]; omega)
          have hRA := Lib.hid (HR.out.grow HB1.out)
          go_wp2_with fail
          rw [← hw1]
          have HSt := Lib.hid (pd_step ks b i hin)
          have c1 := World.rowIs.cell HRo1.out (i := i) hlt
          simp only [if_true] at c1
          have HC1 := Lib.hid c1
          clear c1
          refine wp_region_lexF (fun i => ([] : List Nat).getD i 0) 10 (by kernel_rfl) (by kernel_rfl) ?_; intro wi hwi
          have HWi := Lib.hid (show Aft w1 wi by rw [hwi]; exact (Below.refl _ _).drew)
          have HBi := Lib.hid (show Below w.heap.size w wi by rw [hwi]; exact HB1.out.drew)
          have HRi := Lib.hid (show wi.rowIs w.heap.size 5 64 _ by rw [hwi]; exact HRo1.out)
          clear hwi
          have cA := fun u : Later wi.heap.size wi => (show u.w.cell? ⟨ga, oa + i, none⟩ = some (.int .u8 (bn (kb ks i))) from (hRA.out.grow (Aft.trans HWi.out u.h)).cell_at hin)
          have cB := fun u : Later wi.heap.size wi => (show u.w.cell? ⟨w.heap.size, i, none⟩ = some (.int .u8 (bn b)) from (Below.cell u.h (p := ⟨w.heap.size, i, none⟩) HRi.out.lt).trans ((World.rowIs.cell HRi.out (i := i) hlt).trans (by simp)))
          repeat (first | (refine lf_skip (by go_big_quiet_skip; exact wpQuiet_nil trivial) (by kernel_rfl) ?_; simp only [Act.put, List.setIfInBounds_toArray, List.set_cons_succ, List.set_cons_zero]) | (refine lf_quiet rfl (by go_big_quiet_want; exact quiet_false (by assumption)) (by kernel_rfl) rfl ?_; intro Kx hKx; go_big_quiet_op; go_big_quiet_on))
          refine lf_done ?_
          intro wj hj
          have HRj := Lib.hid (HRi.out.of_block (Below.block hj _ HRi.out.lt))
          have HJ := Lib.hid (show Below w.heap.size w wj from HBi.out.trans (Below.mono hj (Below.size HBi.out)))
          have cj := World.rowIs.cell HRj.out (i := i) hlt
          have fj := World.rowIs.frozen HRj.out i
          simp only [if_true] at cj
          clear hj
          go_wp2_with fail
          go_roundw
          case rel => exact ⟨i + 1, by omega, by go_num, (World.rowIs.set HRj.out i _).congr HSt.out, aft_set HJ.out (Nat.le_refl _) _⟩
          case measure => simp [intOf]; omega
        · have hin' : ¬ (i : Int) < ((bv ks).length : Nat) := by rw [bv_length]; omega
          have HSt := Lib.hid (pd_step0 ks b i (by omega))
          go_wp2_with fail
          rw [← hw1]
          go_roundw
          case rel => exact ⟨i + 1, by omega, by go_num, HRo1.out.congr HSt.out, HB1.out⟩
          case measure => simp [intOf]; omega
      · obtain rfl : i = 64 := by omega
        have hlt' : ¬ ((64 : Nat) : Int) < 64 := by omega
        go_wp2_with fail
        go_ret
        exact ⟨_, _, rfl, held_end ks b (Nat.le_refl _) (HRo.out.congr (pd_end ks b)), HBw.out⟩
  · have hl' : (64 : Int) < ((bv ks).length : Nat) := by rw [bv_length]; omega
    have hkey : key64 K0 ks = digest K0 ks := if_neg hl
    have hxl := digest_length K0 ks
    rw [hkey]
    generalize hX : digest K0 ks = X at hxl ⊢
    have HX := Lib.hid hX
    clear hkey hX
    go_enter Tryd.func68, Tryd.ntmps68
    go_wp2_with fail
    have hb1 : Aft w (w.alloc (.cells #[.slice ao (bv ks).length cap] 25)) := Aft.alloc _ _
    refine (refSum_any _ [ks] _ (TabK_fr HK.out (Fr.of_below (S := fun _ => False) hb1) (fun h => h)) (RdAll.one w _ ks _ HR.out) (by simp; omega)).mono ?_
    rintro e w3 ⟨rfl, hb3⟩
    rw [show ([ks] : List (List (BitVec 8))).flatten = ks by simp, HX.out]
    have HXL := Lib.hid hxl
    have HB3 := Lib.hid (show Below w.heap.size w w3 from Aft.trans hb1 hb3)
    have HS3 := Lib.hid (heap_alloc_new w3 (.cells key0 28))
    have HXb := Lib.hid (show (bv X).length = 32 by rw [bv_length]; exact hxl)
    clear hxl hb1 hb3
    go_wp2_with ((refine wpList_store_keyX rfl (.tmp 5) (.tmp 13) rfl w3.heap.size X HXL.out rfl rfl HS3.out ?_; intro wk q2 q3; have HBk := Lib.hid (show Aft w wk from q3 w.heap.size w HB3.out.size (HB3.out.alloc HB3.out.size _)); have HRk := Lib.hid (Rd.of_key q2.out HXL.out); have HZ := Lib.hid (show (wk.alloc (.cells zRow 5)).heap[wk.heap.size]? = some (.cells (List.replicate 64 (Value.int .u8 0)).toArray 5 (0, 0)) by rw [heap_alloc_new, zRow_arr]); have HBm := Lib.hid (show Aft w (wk.alloc (.cells zRow 5)) from Aft.trans HBk.out (Aft.alloc _ _)); have HRz := Lib.hid (HRk.out.grow (Aft.alloc wk (.cells zRow 5))); have HRow := Lib.hid (pd_start X b HZ.out); have HWk := Lib.hid (show Aft wk (wk.alloc (.cells zRow 5)) from Aft.alloc _ _); clear q2 q3))
    go_loopw [18] (fun v18 wr => ∃ i : Nat, i ≤ 64 ∧ v18 = .int .i64 i ∧ wr.rowIs wk.heap.size 5 64 (pdRow X b i) ∧ Aft wk wr) (fun v _ => 64 - (intOf v).toNat)
    case atStart => exact ⟨0, by omega, rfl, HRow.out, HWk.out⟩
    case round =>
      obtain ⟨i, hi, rfl, hrow, hbw⟩ := hrel
      have HBw := Lib.hid hbw
      have HRo := Lib.hid hrow
      clear hbw hrow
      by_cases hlt : i < 64
      · have hlt' : (i : Int) < 64 := by omega
        have c0 := World.rowIs.cell HRo.out (i := i) hlt
        have fz := World.rowIs.frozen HRo.out i
        have HRo1 := Lib.hid (World.rowIs.set HRo.out i (.int .u8 (bn b)))
        have HB1 := Lib.hid (aft_set HBw.out (p := ⟨wk.heap.size, i, none⟩) (Nat.le_refl _) (.int .u8 (bn b)))
        obtain ⟨w1, hw1⟩ : ∃ w1, w1 = wr.setCell ⟨wk.heap.size, i, none⟩ (.int .u8 (bn b)) := ⟨_, rfl⟩
        rw [← hw1] at HRo1 HB1
        by_cases hin : i < X.length
        · have hin' : (i : Int) < 32 := by have := HXL.out; omega
          have hRA := Lib.hid (HRk.out.grow HB1.out)
          go_wp2_with fail
          rw [← hw1]
          have HSt := Lib.hid (pd_step X b i hin)
          have c1 := World.rowIs.cell HRo1.out (i := i) hlt
          simp only [if_true] at c1
          have HC1 := Lib.hid c1
          clear c1
          refine wp_region_lexF (fun i => ([] : List Nat).getD i 0) 10 (by kernel_rfl) (by kernel_rfl) ?_; intro wi hwi
          have HWi := Lib.hid (show Aft w1 wi by rw [hwi]; exact (Below.refl _ _).drew)
          have HBi := Lib.hid (show Below wk.heap.size wk wi by rw [hwi]; exact HB1.out.drew)
          have HRi := Lib.hid (show wi.rowIs wk.heap.size 5 64 _ by rw [hwi]; exact HRo1.out)
          clear hwi
          have cA := fun u : Later wi.heap.size wi => (show u.w.cell? ⟨w3.heap.size, i, none⟩ = some (.int .u8 (bn (kb X i))) by have h := (hRA.out.grow (Aft.trans HWi.out u.h)).cell_at hin; rw [Nat.zero_add] at h; exact h)
          have cB := fun u : Later wi.heap.size wi => (show u.w.cell? ⟨wk.heap.size, i, none⟩ = some (.int .u8 (bn b)) from (Below.cell u.h (p := ⟨wk.heap.size, i, none⟩) HRi.out.lt).trans ((World.rowIs.cell HRi.out (i := i) hlt).trans (by simp)))
          repeat (first | (refine lf_skip (by go_big_quiet_skip; exact wpQuiet_nil trivial) (by kernel_rfl) ?_; simp only [Act.put, List.setIfInBounds_toArray, List.set_cons_succ, List.set_cons_zero]) | (refine lf_quiet rfl (by go_big_quiet_want; exact quiet_false (by assumption)) (by kernel_rfl) rfl ?_; intro Kx hKx; go_big_quiet_op; go_big_quiet_on))
          refine lf_done ?_
          intro wj hj
          have HRj := Lib.hid (HRi.out.of_block (Below.block hj _ HRi.out.lt))
          have HJ := Lib.hid (show Below wk.heap.size wk wj from HBi.out.trans (Below.mono hj (Below.size HBi.out)))
          have cj := World.rowIs.cell HRj.out (i := i) hlt
          have fj := World.rowIs.frozen HRj.out i
          simp only [if_true] at cj
          clear hj
          go_wp2_with fail
          go_roundw
          case rel => exact ⟨i + 1, by omega, by go_num, (World.rowIs.set HRj.out i _).congr HSt.out, aft_set HJ.out (Nat.le_refl _) _⟩
          case measure => simp [intOf]; omega
        · have hin' : ¬ (i : Int) < 32 := by have := HXL.out; omega
          have HSt := Lib.hid (pd_step0 X b i (by omega))
          go_wp2_with fail
          rw [← hw1]
          go_roundw
          case rel => exact ⟨i + 1, by omega, by go_num, HRo1.out.congr HSt.out, HB1.out⟩
          case measure => simp [intOf]; omega
      · obtain rfl : i = 64 := by omega
        have hlt' : ¬ ((64 : Nat) : Int) < 64 := by omega
        go_wp2_with fail
        go_ret
        exact ⟨_, _, rfl, held_end X b (Below.size HBk.out) (HRo.out.congr (pd_end X b)), Aft.trans HBk.out HBw.out⟩
end Go.Proofs.YtifehfcgmodmaaaDoor
