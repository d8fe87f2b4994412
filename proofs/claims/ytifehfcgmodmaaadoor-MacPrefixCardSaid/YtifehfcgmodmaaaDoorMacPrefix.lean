/- law03.MacPrefix, walked whole. -/
import Derived.Test.YtifehfcgmodmaaaDoorExpand
namespace Go.Proofs.YtifehfcgmodmaaaDoor
open Go Go.RowKit
theorem expOut_prefix (K : Nat → BitVec 32) (k inf : List (BitVec 8)) (m : Nat) : ∀ j n, n ≤ 32 * m → (expOut K k inf (m + j)).take n = (expOut K k inf m).take n
  | 0, _, _ => rfl
  | j + 1, n, h => by
    rw [← Nat.add_assoc, expOut, List.take_append_of_le_length (by rw [expOut_length]; omega)]
    exact expOut_prefix K k inf m j n h
theorem expOut_same (K : Nat → BitVec 32) (k inf : List (BitVec 8)) {m m' n : Nat} (h : n ≤ 32 * m) (h' : n ≤ 32 * m') : (expOut K k inf m').take n = (expOut K k inf m).take n := by
  rcases Nat.le_total m m' with hm | hm
  · obtain ⟨j, rfl⟩ := Nat.exists_eq_add_of_le hm
    exact expOut_prefix K k inf m j n h
  · obtain ⟨j, rfl⟩ := Nat.exists_eq_add_of_le hm
    exact (expOut_prefix K k inf m' j n h').symm
set_option maxRecDepth 100000 in
set_option maxHeartbeats 4000000 in
theorem macPrefix_any (k info : List (BitVec 8)) (vi : Value) (f m : Nat) (w : World) (hK : TabK K0 1 w) (hk : k.length = 32) (hi : Rd w vi (bv info)) (hf : f < 65536) (hm : m < 65536) :
    Calls Tryd.prog 11 #[.agg (bv k).toArray, vi, .int .u16 (f : Int), .int .u16 (m : Int)] w fun e w' => e = .returned (.bool true) ∧ Below w.heap.size w w' := by
  have HK := Lib.hid hK
  have HI := Lib.hid hi
  have HKl := Lib.hid hk
  have hbk := box_key k
  obtain ⟨ai, ci, rfl, -, -, -, -⟩ := hi
  clear hK hk
  have hb0 := Aft.alloc w (.cells (bv k).toArray 28)
  have HL := Lib.hid (live3_any (w.alloc (.cells (bv k).toArray 28)) (TabK_fr HK.out (Fr.of_below (S := fun _ => False) hb0) (fun h => h)))
  have HB0 := Lib.hid hb0
  have HKb := Lib.hid (heap_alloc_new w (.cells (bv k).toArray 28))
  clear hb0
  go_enter Tryd.func11, Tryd.ntmps11
  go_wp2_with fail
  refine HL.out.mono ?_
  rintro e w1 ⟨rfl, hb1⟩
  have HB1 := Lib.hid (show Below w.heap.size w w1 from Aft.trans HB0.out hb1)
  have HK1 := Lib.hid (Aft.get hb1 HKb.out)
  clear hb1
  by_cases h2 : (bv info).length > 2000
  · have h2' : (2000 : Int) < ((bv info).length : Nat) := by omega
    go_wp2_with fail
    go_ret
    exact ⟨rfl, HB1.out⟩
  · have h2' : ¬ (2000 : Int) < ((bv info).length : Nat) := by omega
    have HIl := Lib.hid (show info.length ≤ 2000 by rw [bv_length] at h2; omega)
    have hksz : (Tryd.prog.info? 28).map (·.size) = some (bv k).toArray.size := by rw [List.size_toArray, bv_length, HKl.out]; kernel_rfl
    have HKsz := Lib.hid hksz
    clear hksz
    go_wp2_with (refine wpList_load_row rfl 28 (.tmp 4) rfl w.heap.size rfl 28 (bv k).toArray (0, 0) _ HK1.out Tryd.underlying28 rfl HKsz.out ?_)
    rw [show ((f : Int) % 300) = ((f % 300 : Nat) : Int) from rfl, show ((m : Int) % 300) = ((m % 300 : Nat) : Int) from rfl, ← Int.natCast_add]
    have hn1 : f % 300 < 300 := Nat.mod_lt _ (by omega)
    have hn2 : f % 300 + m % 300 < 600 := by omega
    have hn3 : f % 300 ≤ f % 300 + m % 300 := by omega
    generalize f % 300 + m % 300 = n2 at *
    generalize f % 300 = n1 at *
    have HN := Lib.hid (And.intro hn1 (And.intro hn2 hn3))
    clear hn1 hn2 hn3
    refine (expand_any k info _ n1 w1 (TabK_fr HK.out (Fr.of_below (S := fun _ => False) HB1.out) (fun h => h)) HKl.out (HI.out.grow HB1.out) (by have := HIl.out; omega) (by have := HN.out; omega)).mono ?_
    rintro e w2 ⟨a2, rfl, m2, hm2, hr2, hb2⟩
    have HB2 := Lib.hid (show Below w.heap.size w w2 from Aft.trans HB1.out hb2)
    have HK2 := Lib.hid (Aft.get hb2 HK1.out)
    have HR2 := Lib.hid hr2
    have HM2 := Lib.hid hm2
    clear hb2 hr2 hm2
    go_wp2_with (refine wpList_load_row rfl 28 (.tmp 4) rfl w.heap.size rfl 28 (bv k).toArray (0, 0) _ HK2.out Tryd.underlying28 rfl HKsz.out ?_)
    refine (expand_any k info _ n2 w2 (TabK_fr HK.out (Fr.of_below (S := fun _ => False) HB2.out) (fun h => h)) HKl.out (HI.out.grow HB2.out) (by have := HIl.out; omega) (by have := HN.out; omega)).mono ?_
    rintro e w3 ⟨a3, rfl, m3, hm3, hr3, hb3⟩
    have HB3 := Lib.hid (show Below w.heap.size w w3 from Aft.trans HB2.out hb3)
    have HR3 := Lib.hid (HR2.out.grow hb3)
    obtain ⟨iB, hiB, -, -, -⟩ := info_parts info_byte
    have hle := HN.out.2.2
    have hcut := fun wx => cut_to (P := Tryd.prog) (ao := a3) (len := n2) (cap := n2) (n := n1) Tryd.underlying25 hle wx hiB
    have hto := hr3.to (n := n1) (by rw [bv_length, List.length_take, expOut_length]; omega)
    rw [← bv_take, List.take_take, Nat.min_eq_left hle, expOut_same K0 k info (m := m2) (m' := m3) HM2.out (by omega)] at hto
    have HTo := Lib.hid hto
    clear hb3 hr3 hm3 hto hiB
    go_wp2_with fail
    refine (same_any _ _ _ _ w3 HTo.out HR3.out).mono ?_
    rintro e w4 ⟨rfl, rfl⟩
    go_wp2_with fail
    go_ret
    exact ⟨by simp, HB3.out⟩
end Go.Proofs.YtifehfcgmodmaaaDoor
