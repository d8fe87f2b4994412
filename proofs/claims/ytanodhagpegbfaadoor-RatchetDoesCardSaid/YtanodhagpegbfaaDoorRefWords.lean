/- coterieref02.ror and .words: the document's schedule of a block. -/
import Derived.Test.YtanodhagpegbfaaDoorA5
namespace Go.Proofs.YtanodhagpegbfaaDoor
open Go Go.RowKit
theorem byte32_toNat (b : BitVec 8) : (b.setWidth 32).toNat = b.toNat := by
  have := b.isLt
  rw [BitVec.toNat_setWidth]
  omega
theorem word4_add (a b c d : BitVec 8) : a.setWidth 32 <<< 24 + b.setWidth 32 <<< 16 + c.setWidth 32 <<< 8 + d.setWidth 32 = word4 a b c d := by
  have ha := a.isLt
  have hb := b.isLt
  have hc := c.isLt
  have hd := d.isLt
  have e1 := Nat.shiftLeft_add_eq_or_of_lt (b := d.toNat) (i := 8) (by omega) c.toNat
  have e2 := Nat.shiftLeft_add_eq_or_of_lt (b := c.toNat <<< 8 + d.toNat) (i := 16) (by rw [Nat.shiftLeft_eq]; omega) b.toNat
  have e3 := Nat.shiftLeft_add_eq_or_of_lt (b := b.toNat <<< 16 + (c.toNat <<< 8 + d.toNat)) (i := 24) (by rw [Nat.shiftLeft_eq, Nat.shiftLeft_eq]; omega) a.toNat
  apply BitVec.eq_of_toNat_eq
  unfold word4
  rw [BitVec.or_assoc, BitVec.or_assoc]
  simp only [BitVec.toNat_or, BitVec.toNat_add, BitVec.toNat_shiftLeft, byte32_toNat]
  have m1 : a.toNat <<< 24 % 2 ^ 32 = a.toNat <<< 24 := by rw [Nat.shiftLeft_eq]; omega
  have m2 : b.toNat <<< 16 % 2 ^ 32 = b.toNat <<< 16 := by rw [Nat.shiftLeft_eq]; omega
  have m3 : c.toNat <<< 8 % 2 ^ 32 = c.toNat <<< 8 := by rw [Nat.shiftLeft_eq]; omega
  rw [m1, m2, m3, ← e1, ← e2, ← e3]
  simp only [Nat.shiftLeft_eq]
  omega
attribute [local go_sem] wn_add wn_xor wn_and wn_or wn_shr wn_shl bn_wide
set_option maxHeartbeats 400000 in
theorem refror_any (x : BitVec 32) (a : Nat) (h1 : 1 ≤ a) (h2 : a ≤ 31) (w : World) :
    Calls Tryd.prog 109 #[.int .u32 (wn x), .int .i64 (a : Int)] w fun e w' => e = .returned (.int .u32 (wn (ror x a))) ∧ Below w.heap.size w w' := by
  have s4 : 32 - a ≤ 32 := by omega
  have o1 : bits .or .u32 (wn (x >>> a)) (wn (x <<< (32 - a))) = wn (ror x a) := by rw [wn_or]; rfl
  have e5 : (32 : Int) - (a : Int) = ((32 - a : Nat) : Int) := by omega
  go_enter Tryd.func109, Tryd.ntmps109
  go_wp2_with fail
  go_quiet (fail)
  go_wp2
  go_ret
  exact ⟨rfl, below_drewN' _ _ _⟩
def wRow (M : List (BitVec 32)) (t i : Nat) : Value := .int .u32 (wn (if i < t then sched M i else 0))
def zero64 : List Value := List.replicate 64 (.int .u32 0)
theorem words_start (w : World) (M : List (BitVec 32)) : ((w.alloc (.cells zero64.toArray 140)).alloc (.cells zero64.toArray 140)).rowIs (w.heap.size + 1) 140 64 (wRow M 0) ∧
    ((w.alloc (.cells zero64.toArray 140)).alloc (.cells zero64.toArray 140)).heap[w.heap.size]? = some (.cells zero64.toArray 140 (0, 0)) ∧ Aft w ((w.alloc (.cells zero64.toArray 140)).alloc (.cells zero64.toArray 140)) := by
  have a0 := heap_alloc_new w (.cells zero64.toArray 140)
  have a1 := heap_alloc_new (w.alloc (.cells zero64.toArray 140)) (.cells zero64.toArray 140)
  rw [World.size_alloc] at a1
  refine ⟨⟨_, a1, by simp [zero64], fun i hi => ?_⟩, Aft.get (Aft.alloc _ _) a0, Aft.trans (Aft.alloc _ _) (Aft.alloc _ _)⟩
  unfold zero64 wRow
  rw [List.getElem?_toArray, List.getElem?_replicate_of_lt hi, if_neg (by omega)]
  rfl
theorem wRow_step (M : List (BitVec 32)) (t : Nat) (x : BitVec 32) (hx : x = sched M t) : ∀ j, j < 64 → (if j = t then Value.int .u32 (wn x) else wRow M t j) = wRow M (t + 1) j := by
  intro j _
  unfold wRow
  by_cases h : j = t
  · subst h; rw [if_pos rfl, if_pos (by omega), hx]
  · rw [if_neg h]
    by_cases h2 : j < t
    · rw [if_pos h2, if_pos (by omega)]
    · rw [if_neg h2, if_neg (by omega)]
theorem wn_shr_3 (x : BitVec 32) : wn x / (8 : Int) = wn (x >>> 3) := wn_shr x 3
theorem wn_shr_10 (x : BitVec 32) : wn x / (1024 : Int) = wn (x >>> 10) := wn_shr x 10
def schedArr (M : List (BitVec 32)) : Array Value := ((List.range 64).map fun i => Value.int .u32 (wn (sched M i))).toArray
def bwords (b : List (BitVec 8)) : List (BitVec 32) := blockWords fun i => b.getD i 0
theorem bwords_at (b : List (BitVec 8)) (t : Nat) (h : t < 16) : (bwords b).getD t 0 = word4 (b.getD (4 * t) 0) (b.getD (4 * t + 1) 0) (b.getD (4 * t + 2) 0) (b.getD (4 * t + 3) 0) := blockWords_at _ t h
theorem schedArr_at (M : List (BitVec 32)) (i : Nat) (hi : i < 64) : (schedArr M)[i]? = some (.int .u32 (wn (sched M i))) := by simp [schedArr, hi]
theorem schedArr_size (M : List (BitVec 32)) : (schedArr M).size = 64 := by simp [schedArr]
theorem schedArr_one (M : List (BitVec 32)) : (schedArr M).all (·.oneCell') = true := by simp [schedArr, Value.oneCell']
theorem words_end {w : World} {g : Nat} {M : List (BitVec 32)} (h : w.rowIs g 140 64 (wRow M 64)) : w.heap[g]? = some (.cells (schedArr M) 140 (0, 0)) := by
  obtain ⟨cs, h1, h2, h3⟩ := h
  rw [h1]
  congr 2
  apply Array.ext_getElem?
  intro i
  by_cases hi : i < 64
  · rw [h3 i hi]
    unfold wRow
    rw [if_pos hi]
    rw [schedArr_at M i hi]
  · rw [Array.getElem?_eq_none (by omega), Array.getElem?_eq_none (by rw [schedArr_size]; omega)]
attribute [local go_sem] wn_shl24 wn_shl16 wn_shl8 word4_add wn_shr_3 wn_shr_10
set_option maxRecDepth 100000 in
set_option maxHeartbeats 2000000 in
theorem words_any (g o n c : Nat) (b : List (BitVec 8)) (w : World) (hb : Rd w (.slice (some ⟨g, o, none⟩) n c) (bv b)) (h64 : 64 ≤ b.length) :
    Calls Tryd.prog 108 #[.slice (some ⟨g, o, none⟩) n c] w fun e w' => e = .returned (.agg (schedArr (bwords b))) ∧ Below w.heap.size w w' := by
  have HB := Lib.hid hb
  have hn := hb.sl
  rw [bv_length] at hn
  obtain ⟨hn1, -, -⟩ := hn
  clear hb
  go_enter Tryd.func108, Tryd.ntmps108
  go_wp2_with fail
  go_loopw [10] (fun v10 wr => ∃ t : Nat, t ≤ 16 ∧ v10 = .int .i64 t ∧ wr.rowIs (w.heap.size + 1) 140 64 (wRow (bwords b) t) ∧ wr.heap[w.heap.size]? = some (.cells zero64.toArray 140 (0, 0)) ∧ Aft w wr) (fun v _ => 16 - (intOf v).toNat)
  case atStart =>
    obtain ⟨s1, s2, s3⟩ := words_start w (bwords b)
    exact ⟨0, by omega, rfl, s1, s2, s3⟩
  case round =>
    obtain ⟨t, ht, rfl, hrow, hz, hbw⟩ := hrel
    by_cases hlt : t < 16
    · have hlt' : (t : Int) < 16 := by omega
      have HRow := Lib.hid hrow
      have HZ := Lib.hid hz
      have HBw := Lib.hid hbw
      have hrd := HB.out.grow hbw
      have HRd := Lib.hid hrd
      clear hrow hz hbw hrd
      go_wp2_with fail
      refine wp_region_lexF (fun i => ([] : List Nat).getD i 0) 35 (by kernel_rfl) (by kernel_rfl) ?_; intro wi hwi
      have HWi := Lib.hid (show Aft wr wi by rw [hwi]; exact (Below.refl _ _).drew)
      clear hwi
      have c0 := fun u : Later wi.heap.size wi => (HRd.out.grow (Aft.trans HWi.out u.h)).cell_at (i := 4 * t) (by omega)
      have c1 := fun u : Later wi.heap.size wi => (HRd.out.grow (Aft.trans HWi.out u.h)).cell_at (i := 4 * t + 1) (by omega)
      have c2 := fun u : Later wi.heap.size wi => (HRd.out.grow (Aft.trans HWi.out u.h)).cell_at (i := 4 * t + 2) (by omega)
      have c3 := fun u : Later wi.heap.size wi => (HRd.out.grow (Aft.trans HWi.out u.h)).cell_at (i := 4 * t + 3) (by omega)
      have i0 : (4 * (t : Int)).toNat = 4 * t := by omega
      have i1 : (4 * (t : Int) + 1).toNat = 4 * t + 1 := by omega
      have i2 : (4 * (t : Int) + 2).toNat = 4 * t + 2 := by omega
      have i3 : (4 * (t : Int) + 3).toNat = 4 * t + 3 := by omega
      have l3 : 4 * (t : Int) + 3 < (n : Int) := by omega
      have hx := sched_low (bwords b) (blockWords_length _) t hlt
      rw [bwords_at _ t hlt] at hx
      have HX := Lib.hid hx
      clear hx
      generalize b.getD (4 * t) 0 = b0 at *
      generalize b.getD (4 * t + 1) 0 = b1 at *
      generalize b.getD (4 * t + 2) 0 = b2 at *
      generalize b.getD (4 * t + 3) 0 = b3 at *
      repeat (first | (refine lf_skip (by go_big_quiet_skip; exact wpQuiet_nil trivial) (by kernel_rfl) ?_; simp only [Act.put, List.setIfInBounds_toArray, List.set_cons_succ, List.set_cons_zero]) | (refine lf_quiet rfl (by go_big_quiet_want; exact quiet_false (by assumption)) (by kernel_rfl) rfl ?_; intro Kx hKx; go_big_quiet_op; go_big_quiet_on))
      refine lf_done ?_
      intro wj hj
      have HWj := Lib.hid (Aft.trans HWi.out hj)
      have HRj := Lib.hid (HRow.out.of_block (Below.block HWj.out _ HRow.out.lt))
      have hcj := HRj.out.cell (i := t) (by omega)
      have hfj := HRj.out.frozen t
      clear hj c0 c1 c2 c3
      go_wp2_with fail
      go_roundw
      case rel =>
        exact ⟨t + 1, by omega, by go_num, (World.rowIs.set HRj.out t _).congr (wRow_step _ t _ HX.out.symm), (Below.heap_setCell _ _ _ _ (show w.heap.size ≠ w.heap.size + 1 by omega)).trans (Aft.get HWj.out HZ.out), aft_set (Aft.trans HBw.out HWj.out) (show w.heap.size ≤ w.heap.size + 1 by omega) _⟩
      case measure => simp [intOf]; omega
    · obtain rfl : t = 16 := by omega
      have hlt' : ¬ ((16 : Nat) : Int) < 16 := by omega
      go_wp2_with fail
      go_loopw [5] (fun v5 wr => ∃ t : Nat, 16 ≤ t ∧ t ≤ 64 ∧ v5 = .int .i64 t ∧ wr.rowIs (w.heap.size + 1) 140 64 (wRow (bwords b) t) ∧ wr.heap[w.heap.size]? = some (.cells zero64.toArray 140 (0, 0)) ∧ Aft w wr) (fun v _ => 64 - (intOf v).toNat)
      case atStart => exact ⟨16, by omega, by omega, rfl, hrow, hz, hbw⟩
      case round =>
        clear hrow hz hbw
        obtain ⟨t, ht0, ht, rfl, hrow, hz, hbw⟩ := hrel
        by_cases hlt : t < 64
        · have hlt' : (t : Int) < 64 := by omega
          have hM : (bwords b).length = 16 := blockWords_length _
          have hsh := sched_high (bwords b) hM (t - 16)
          rw [show t - 16 + 16 = t by omega, show t - 16 + 1 = t - 15 by omega, show t - 16 + 9 = t - 7 by omega, show t - 16 + 14 = t - 2 by omega] at hsh
          generalize (bwords b) = M at *
          have g15 := hrow.cell (i := t - 15) (by omega)
          have g2 := hrow.cell (i := t - 2) (by omega)
          unfold wRow at g15 g2
          rw [if_pos (by omega)] at g15 g2
          have i15 : ((t : Int) - 15).toNat = t - 15 := by omega
          have i2 : ((t : Int) - 2).toNat = t - 2 := by omega
          have HRow := Lib.hid hrow
          have HZ := Lib.hid hz
          have HBw := Lib.hid hbw
          have HSH := Lib.hid hsh
          clear hrow hz hbw hsh
          go_wp2_with fail
          refine (refror_any _ 7 (by omega) (by omega) _).mono ?_
          rintro e wa ⟨rfl, ha⟩
          have HA := Lib.hid (show Aft wr wa from ha)
          clear ha
          go_wp2_with fail
          refine (refror_any _ 18 (by omega) (by omega) _).mono ?_
          rintro e wb ⟨rfl, hb⟩
          have HBb := Lib.hid (Aft.trans HA.out hb)
          clear hb
          go_wp2_with fail
          refine (refror_any _ 17 (by omega) (by omega) _).mono ?_
          rintro e wc ⟨rfl, hc⟩
          have HC := Lib.hid (Aft.trans HBb.out hc)
          clear hc
          go_wp2_with fail
          refine (refror_any _ 19 (by omega) (by omega) _).mono ?_
          rintro e wd ⟨rfl, hd⟩
          have HD := Lib.hid (Aft.trans HC.out hd)
          clear hd
          go_wp2_with fail
          refine wp_region_lexF (fun i => ([] : List Nat).getD i 0) 15 (by kernel_rfl) (by kernel_rfl) ?_; intro wi hwi
          have HWi := Lib.hid (show Aft wr wi by rw [hwi]; exact Aft.trans HD.out ((Below.refl _ _).drew))
          clear hwi
          have c16 := fun u : Later wi.heap.size wi => World.rowIs.cell (HRow.out.of_block (Below.block (Aft.trans HWi.out u.h) _ HRow.out.lt)) (i := t - 16) (by omega)
          have c7 := fun u : Later wi.heap.size wi => World.rowIs.cell (HRow.out.of_block (Below.block (Aft.trans HWi.out u.h) _ HRow.out.lt)) (i := t - 7) (by omega)
          simp only [wRow, show t - 16 < t by omega, show t - 7 < t by omega, if_true] at c16 c7
          have i16 : ((t : Int) - 16).toNat = t - 16 := by omega
          have i7 : ((t : Int) - 7).toNat = t - 7 := by omega
          repeat (first | (refine lf_skip (by go_big_quiet_skip; exact wpQuiet_nil trivial) (by kernel_rfl) ?_; simp only [Act.put, List.setIfInBounds_toArray, List.set_cons_succ, List.set_cons_zero]) | (refine lf_quiet rfl (by go_big_quiet_want; exact quiet_false (by assumption)) (by kernel_rfl) rfl ?_; intro Kx hKx; go_big_quiet_op; go_big_quiet_on))
          refine lf_done ?_
          intro wj hj
          have HWj := Lib.hid (Aft.trans HWi.out hj)
          have HRj := Lib.hid (HRow.out.of_block (Below.block HWj.out _ HRow.out.lt))
          have hcj := HRj.out.cell (i := t) (by omega)
          have hfj := HRj.out.frozen t
          clear hj c16 c7 g15 g2
          go_wp2_with fail
          go_roundw
          case rel =>
            exact ⟨t + 1, by omega, by omega, by go_num, (World.rowIs.set HRj.out t _).congr (wRow_step _ t _ (by rw [HSH.out]; simp only [rorx2s, BitVec.add_assoc])), (Below.heap_setCell _ _ _ _ (show w.heap.size ≠ w.heap.size + 1 by omega)).trans (Aft.get HWj.out HZ.out), aft_set (Aft.trans HBw.out HWj.out) (show w.heap.size ≤ w.heap.size + 1 by omega) _⟩
          case measure => simp [intOf]; omega
        · obtain rfl : t = 64 := by omega
          have hlt' : ¬ ((64 : Nat) : Int) < 64 := by omega
          generalize hMM : bwords b = M at *
          have HMM := Lib.hid hMM
          have HW := Lib.hid (words_end hrow)
          have HZ := Lib.hid hz
          have HBw := Lib.hid hbw
          have hsz := schedArr_size M
          have h1c := schedArr_one M
          generalize hA : schedArr M = A at *
          have HA := Lib.hid hA
          have hi64 : (Tryd.prog.info? 140).map (·.size) = some A.size := by rw [hsz]; kernel_rfl
          have HI64 := Lib.hid hi64
          have HSz := Lib.hid hsz
          have H1c := Lib.hid h1c
          clear hrow hz hbw hsz h1c hi64 hA hMM
          go_wp2_with (first
            | (refine wpList_load_row rfl 140 (.tmp 3) rfl (w.heap.size + 1) rfl 140 A (0, 0) _ HW.out Tryd.underlying140 rfl HI64.out ?_)
            | (refine wpList_store_rowX rfl 140 (.tmp 2) (.tmp 92) rfl w.heap.size A rfl rfl 140 zero64.toArray HZ.out HI64.out (by rw [HSz.out]; rfl) H1c.out ?_; intro wk q2 q3; have HKk := Lib.hid q2.out; have HBk := Lib.hid (q3 w.heap.size w (Nat.le_refl _) HBw.out); clear q2 q3))
          refine bodyPost_ret (results_cell_row rfl _ _ w.heap.size 140 A (0, 0) _ rfl HKk.out Tryd.underlying140 rfl HI64.out) rfl ?_
          exact ⟨by rw [HMM.out, HA.out], HBk.out⟩
end Go.Proofs.YtanodhagpegbfaaDoor

