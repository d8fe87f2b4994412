/- coterieref03.Key, and coterieref03.Expand; mac.Expand of a number that may not be. -/
import Derived.Test.YtanodhagpegbfaaDoorA7
namespace Go.Proofs.YtanodhagpegbfaaDoor
open Go Go.RowKit
/-- A key in which the first bytes stand. -/
def k3Row (X : List (BitVec 8)) (i j : Nat) : Value := .int .u8 (bn (if j < i then kb X j else 0))
theorem k3Row_start {w : World} {g : Nat} (X : List (BitVec 8)) (h : w.heap[g]? = some (.cells key0 23 (0, 0))) : w.rowIs g 23 32 (k3Row X 0) := by
  refine ⟨key0, h, rfl, fun i hi => ?_⟩
  unfold k3Row
  rw [if_neg (by omega), ← key0_bv, List.getElem?_toArray, bv_at _ i (by rw [List.length_replicate]; exact hi), List.getD_eq_getElem?_getD, List.getElem?_replicate, if_pos hi]
  rfl
theorem k3Row_step (X : List (BitVec 8)) (i : Nat) : ∀ j, j < 32 → (if j = i then Value.int .u8 (bn (kb X i)) else k3Row X i j) = k3Row X (i + 1) j := by
  intro j _
  unfold k3Row
  by_cases hj : j = i
  · subst hj
    rw [if_pos rfl, if_pos (by omega)]
  · rw [if_neg hj]
    by_cases h2 : j < i
    · rw [if_pos h2, if_pos (by omega)]
    · rw [if_neg h2, if_neg (by omega)]
theorem k3Row_end {w : World} {g : Nat} {X : List (BitVec 8)} (hX : X.length = 32) (h : w.rowIs g 23 32 (k3Row X 32)) : w.heap[g]? = some (.cells (bv X).toArray 23 (0, 0)) := by
  obtain ⟨cs, h1, h2, h3⟩ := h
  rw [h1]
  have : cs = (bv X).toArray := by
    apply Array.ext_getElem?
    intro i
    by_cases hi : i < 32
    · rw [h3 i hi]
      unfold k3Row kb
      rw [if_pos hi, List.getElem?_toArray, bv_at X i (by omega)]
    · rw [Array.getElem?_eq_none (by omega), Array.getElem?_eq_none (by rw [List.size_toArray, bv_length]; omega)]
  rw [this]
set_option maxRecDepth 100000 in
set_option maxHeartbeats 1000000 in
theorem key3_any (v : Value) (X : List (BitVec 8)) (w : World) (hrd : Rd w v (bv X)) (hX : X.length = 32) :
    Calls Tryd.prog 98 #[v] w fun e w' => e = .returned (.agg (bv X).toArray) ∧ Below w.heap.size w w' := by
  have HR := Lib.hid hrd
  have HXL := Lib.hid hX
  have hbl : (bv X).length = 32 := by rw [bv_length]; exact hX
  obtain ⟨ao, cap, rfl, -, -, -, -⟩ := hrd
  rw [hbl] at HR ⊢
  clear hX hbl
  obtain ⟨g, o, rfl, -, -⟩ := HR.out.some_of (by rw [bv_length, HXL.out]; omega)
  have HZ := Lib.hid (heap_alloc2_old w (.cells key0 23) (.cells key0 23))
  have HRow := Lib.hid (k3Row_start X (heap_alloc2_new w (.cells key0 23) (.cells key0 23)))
  have HA := Lib.hid (show Aft w ((w.alloc (.cells key0 23)).alloc (.cells key0 23)) from Aft.trans (Aft.alloc _ _) (Aft.alloc _ _))
  go_enter Tryd.func98, Tryd.ntmps98
  go_wp2_with fail
  go_loopw [5] (fun v5 wr => ∃ i : Nat, i ≤ 32 ∧ v5 = .int .i64 i ∧ wr.rowIs (w.heap.size + 1) 23 32 (k3Row X i) ∧ wr.heap[w.heap.size]? = some (.cells key0 23 (0, 0)) ∧ Aft w wr) (fun v _ => 32 - (intOf v).toNat)
  case atStart => exact ⟨0, by omega, rfl, HRow.out, HZ.out, HA.out⟩
  case round =>
    obtain ⟨i, hi, rfl, hrow, hz, hbw⟩ := hrel
    have HRo := Lib.hid hrow
    have HZr := Lib.hid hz
    have HBw := Lib.hid hbw
    clear hrow hz hbw
    by_cases hlt : i < 32
    · have hlt' : (i : Int) < 32 := by omega
      have c0 := World.rowIs.cell HRo.out (i := i) hlt
      have fz := World.rowIs.frozen HRo.out i
      have hcx : wr.cell? ⟨g, o + i, none⟩ = some (.int .u8 (bn (kb X i))) := (HR.out.grow HBw.out).cell_at (by rw [HXL.out]; exact hlt)
      have HSt := Lib.hid (k3Row_step X i)
      go_wp2_with fail
      go_roundw
      case rel => exact ⟨i + 1, by omega, by go_num, (World.rowIs.set HRo.out i _).congr HSt.out, (Below.heap_setCell _ _ _ _ (by simp)).trans HZr.out, aft_set HBw.out (by simp) _⟩
      case measure => simp [intOf]; omega
    · obtain rfl : i = 32 := by omega
      have hlt' : ¬ ((32 : Nat) : Int) < 32 := by omega
      have HK := Lib.hid (k3Row_end HXL.out HRo.out)
      go_wp2_with (first
        | (refine wpList_load_row rfl 23 (.tmp 3) rfl (w.heap.size + 1) rfl 23 (bv X).toArray (0, 0) _ HK.out Tryd.underlying23 rfl (by rw [List.size_toArray, bv_length, HXL.out]; kernel_rfl) ?_)
        | (refine wpList_store_keyX rfl (.tmp 2) (.tmp 19) rfl w.heap.size X HXL.out rfl rfl HZr.out ?_; intro w3 q2 q3; have HK3 := Lib.hid q2.out; have HB3 := Lib.hid (q3 w.heap.size w (Nat.le_refl _) HBw.out); clear q2 q3))
      have hsz8 : (Tryd.prog.info? 23).map (·.size) = some (bv X).toArray.size := by rw [List.size_toArray, bv_length, HXL.out]; kernel_rfl
      refine bodyPost_ret (results_cell_row rfl _ _ w.heap.size 23 (bv X).toArray (0, 0) _ rfl HK3.out Tryd.underlying23 rfl hsz8) rfl ?_
      exact ⟨rfl, HB3.out⟩
/-- So many bytes of a key. -/
def okm (k info : List (BitVec 8)) (n : Nat) : List (BitVec 8) := (expOut K0 k info n).take n
theorem okm_of (k info : List (BitVec 8)) (n m : Nat) (h : n ≤ 32 * m) : (expOut K0 k info m).take n = okm k info n := by
  unfold okm
  by_cases hm : m ≤ n
  · have := expOut_prefix K0 k info m (n - m) n h
    rw [show m + (n - m) = n by omega] at this
    exact this.symm
  · have := expOut_prefix K0 k info n (m - n) n (by omega)
    rw [show n + (m - n) = m by omega] at this
    exact this
theorem okm_length (k info : List (BitVec 8)) (n : Nat) : (okm k info n).length = n := by
  unfold okm
  rw [List.length_take, expOut_length]
  omega
/-- What Expand hands back, as values. -/
def ExpSays (k info : List (BitVec 8)) (n : Nat) (w : World) (e : Ending) (w' : World) : Prop :=
  ∃ ao cap, e = .returned (.tuple #[.slice ao n cap, .int .i64 0]) ∧ Rd w' (.slice ao n cap) (bv (okm k info n)) ∧ Below w.heap.size w w'
theorem expand2_any (k info : List (BitVec 8)) (vi : Value) (n : Nat) (w : World) (hK : TabK K0 2 w) (hk : k.length = 32) (hi : Rd w vi (bv info)) (hil : info.length ≤ 1048576) (hn : n ≤ 8160) :
    Calls Tryd.prog 19 #[.agg (bv k).toArray, vi, .int .i64 (n : Int)] w (ExpSays k info n w) :=
  (expand_any k info vi n w hK hk hi hil hn).mono fun e w' ⟨ao, he, m, hm, hr, hb⟩ => ⟨ao, n, he, by rw [okm_of k info n m hm] at hr; exact hr, hb⟩
set_option maxRecDepth 100000 in
theorem expandBad_any (k : List (BitVec 8)) (ai : Option Addr) (ni ci : Nat) (n : Int) (w : World) (hn : n < 0 ∨ 8160 < n) :
    Calls Tryd.prog 19 #[.agg (bv k).toArray, .slice ai ni ci, .int .i64 n] w fun e w' => e = .returned (.tuple #[.slice none 0 0, .int .i64 1]) ∧ Below w.heap.size w w' := by
  have hbk := box_key k
  have HA := Lib.hid (show Aft w ((w.alloc (.cells (bv k).toArray 23)).alloc (.cells #[.slice ai ni ci] 24)) from Aft.trans (Aft.alloc _ _) (Aft.alloc _ _))
  go_enter Tryd.func19, Tryd.ntmps19
  by_cases h1 : n < 0
  · go_wp2_with fail
    go_ret2
    exact ⟨rfl, HA.out⟩
  · have h2 : 8160 < n := by omega
    go_wp2_with fail
    go_ret2
    exact ⟨rfl, HA.out⟩
theorem refExpandBad_any (k : List (BitVec 8)) (vi : Value) (n : Int) (w : World) (hn : n < 0 ∨ 8160 < n) :
    Calls Tryd.prog 97 #[.agg (bv k).toArray, vi, .int .i64 n] w fun e w' => e = .returned (.tuple #[.slice none 0 0, .int .i64 1]) ∧ Below w.heap.size w w' := by
  have hbk := box_key k
  have HA1 := Lib.hid (show Aft w (w.alloc (.cells (bv k).toArray 23)) from Aft.alloc _ _)
  go_enter Tryd.func97, Tryd.ntmps97
  by_cases h1 : n < 0
  · go_wp2_with fail
    go_ret2
    exact ⟨rfl, HA1.out⟩
  · have h2 : 8160 < n := by omega
    go_wp2_with fail
    go_ret2
    exact ⟨rfl, HA1.out⟩
theorem expT_len (k info : List (BitVec 8)) (m : Nat) : (expT K0 k info (m + 1)).length = 32 := by rw [expT, macOf_length]
/-- The last bytes, as a slice: none, or a key's of its own. -/
def LastIs (B : Nat) (k info : List (BitVec 8)) (m : Nat) (v : Value) (w : World) : Prop :=
  (m = 0 ∧ v = .slice none 0 0) ∨ (0 < m ∧ ∃ g, v = .slice (some ⟨g, 0, none⟩) 32 32 ∧ B ≤ g ∧ w.heap[g]? = some (.cells (bv (expT K0 k info m)).toArray 23 (0, 0)))
theorem LastIs.rd {B : Nat} {k info : List (BitVec 8)} {m : Nat} {v : Value} {w : World} (h : LastIs B k info m v w) : Rd w v (bv (expT K0 k info m)) := by
  rcases h with ⟨rfl, rfl⟩ | ⟨hm, g, rfl, -, hg⟩
  · exact Rd.nil _
  · obtain ⟨m, rfl⟩ : ∃ j, m = j + 1 := ⟨m - 1, by omega⟩
    exact Rd.of_key hg (expT_len k info m)
set_option maxRecDepth 100000 in
theorem run_cutTo' {ao : Option Addr} {len cap n : Nat} (h : n ≤ cap) (wx : World) : (Instr.slice 24 (.slice ao len cap) none (some (.int .i64 (n : Int))) none).run Tryd.prog wx = .ok (.slice ao n cap) wx := by
  obtain ⟨iB, hiB, -⟩ := info_parts info_byte
  have := cut_to (P := Tryd.prog) (ao := ao) (len := len) (cap := cap) (n := n) Tryd.underlying24 h wx hiB
  rw [run_sliceAt_slice wx 24 _ _ _ _ Tryd.underlying24] at this
  exact this
set_option maxRecDepth 100000 in
set_option maxHeartbeats 2000000 in
theorem refExpand_any (k info : List (BitVec 8)) (vi : Value) (n : Nat) (w : World) (hK : TabK K0 0 w) (hk : k.length = 32) (hi : Rd w vi (bv info)) (hil : info.length ≤ 1048576) (hn : n ≤ 8160) :
    Calls Tryd.prog 97 #[.agg (bv k).toArray, vi, .int .i64 (n : Int)] w (ExpSays k info n w) := by
  have HK := Lib.hid hK
  have HI := Lib.hid hi
  have HKl := Lib.hid hk
  have HIl := Lib.hid hil
  have hbk := box_key k
  obtain ⟨ai, ci, rfl, -, -, -, -⟩ := hi
  have hbl := bv_length info
  have hil' : ¬ (1048576 : Int) < ((bv info).length : Nat) := by omega
  have HKB := Lib.hid (heap_alloc_new w (.cells (bv k).toArray 23))
  have HA0 := Lib.hid (show Aft w (w.alloc (.cells (bv k).toArray 23)) from Aft.alloc _ _)
  clear hK hk hil hbl
  go_enter Tryd.func97, Tryd.ntmps97
  go_wp2_with fail
  go_loopw [8, 9, 10] (fun v8 v9 v10 wr => ∃ m : Nat, 32 * m < n + 32 ∧ v10 = .int .i64 ((m : Int) + 1) ∧ wr.ownsRow (w.heap.size + 1) 5 1 v8 (bv (expOut K0 k info m)).length (bv (expOut K0 k info m)) ∧ LastIs (w.heap.size + 1) k info m v9 wr ∧ wr.heap[w.heap.size]? = some (.cells (bv k).toArray 23 (0, 0)) ∧ Aft w wr) (fun v8 _ _ _ => n - lenV v8)
  case atStart => exact ⟨0, by omega, rfl, World.ownsRow_nil _ _ _ _, .inl ⟨rfl, rfl⟩, HKB.out, HA0.out⟩
  case round =>
    obtain ⟨m, hm, rfl, hown, hlast, hkb, hbw⟩ := hrel
    have HO := Lib.hid hown
    have HLa := Lib.hid hlast
    have HKb := Lib.hid hkb
    have HBw := Lib.hid hbw
    have HOl := Lib.hid (show (bv (expOut K0 k info m)).length = 32 * m by rw [bv_length, expOut_length])
    obtain ⟨al, cl, rfl⟩ := own_shape hown
    clear hown hkb hbw
    by_cases hlt : 32 * m < n
    · have hlt' : (((bv (expOut K0 k info m)).length : Nat) : Int) < (n : Int) := by rw [HOl.out]; omega
      have hm255 : (m : Int) + 1 ≤ 255 := by omega
      have hal := fun wx : World => run_sliceAt_key wx w.heap.size
      have hxe : (m : Int) + 1 = bn (BitVec.ofNat 8 (m + 1)) := by unfold bn; rw [BitVec.toNat_ofNat]; omega
      have hx1 : Rd (wr.alloc (.cells #[.int .u8 ((m : Int) + 1)] 5)) (.slice (some ⟨wr.heap.size, 0, none⟩) 1 1) (bv [BitVec.ofNat 8 (m + 1)]) := by
        rw [hxe]
        exact rd_byte (heap_alloc_new wr _)
      have hA2 : Aft wr ((wr.alloc (.cells #[.int .u8 ((m : Int) + 1)] 5)).alloc (.cells #[u9, .slice ai (bv info).length ci, .slice (some ⟨wr.heap.size, 0, none⟩) 1 1] 24)) := Aft.trans (Aft.alloc _ _) (Aft.alloc _ _)
      have hg2 := heap_alloc_new (wr.alloc (.cells #[.int .u8 ((m : Int) + 1)] 5)) (.cells #[u9, .slice ai (bv info).length ci, .slice (some ⟨wr.heap.size, 0, none⟩) 1 1] 24)
      rw [World.size_alloc] at hg2
      have hall := RdAll.three hg2 (HLa.out.rd.grow hA2) (HI.out.grow (Aft.trans HBw.out hA2)) (hx1.grow (Aft.alloc (wr.alloc (.cells #[.int .u8 ((m : Int) + 1)] 5)) _))
      have hmac := refMac_any (.slice (some ⟨w.heap.size, 0, none⟩) 32 32) (.slice (some ⟨wr.heap.size + 1, 0, none⟩) 3 3) k [expT K0 k info m, info, [BitVec.ofNat 8 (m + 1)]] _ (TabK_fr HK.out (Fr.of_below (S := fun _ => False) (show Below w.heap.size w _ from Aft.trans HBw.out hA2)) (fun h => h)) (Rd.of_key (Aft.get hA2 HKb.out) HKl.out) hall (by have := HKl.out; omega) (by have := HIl.out; have := expT_length K0 k info m; simp; omega)
      rw [show ([expT K0 k info m, info, [BitVec.ofNat 8 (m + 1)]] : List (List (BitVec 8))).flatten = expT K0 k info m ++ (info ++ [BitVec.ofNat 8 (m + 1)]) by simp] at hmac
      rw [show macOf K0 k (expT K0 k info m ++ (info ++ [BitVec.ofNat 8 (m + 1)])) = expT K0 k info (m + 1) from rfl] at hmac
      have HMac := Lib.hid hmac
      have HA2 := Lib.hid hA2
      have HXl := Lib.hid (expT_len k info m)
      have HSnoc := Lib.hid (show expOut K0 k info (m + 1) = expOut K0 k info m ++ expT K0 k info (m + 1) from rfl)
      have HSz := Lib.hid (Below.size HBw.out)
      have hu9 : ∃ a n c, u9 = .slice a n c := by
        rcases HLa.out with ⟨-, h⟩ | ⟨-, g, h, -⟩ <;> exact ⟨_, _, _, h⟩
      obtain ⟨a9, n9, c9, rfl⟩ := hu9
      have HKg := Lib.hid (heap_lt HKb.out)
      clear hxe hx1 hA2 hg2 hall hmac hlast
      generalize hX : expT K0 k info (m + 1) = X at *
      have HXq := Lib.hid hX
      clear hX
      go_wp2_with fail
      refine HMac.out.mono ?_
      rintro e w3 ⟨rfl, hb3⟩
      have HA3 := Lib.hid (show Aft wr w3 from Aft.trans HA2.out hb3)
      have HZ3 := Lib.hid (heap_alloc_new w3 (.cells key0 23))
      have hal3 := fun wx : World => run_sliceAt_key wx w3.heap.size
      have HXb := Lib.hid (show (bv X).length = 32 by rw [bv_length]; exact HXl.out)
      clear hb3
      go_wp2_with (first
        | (refine wpList_store_keyX rfl (.tmp 11) (.tmp 34) rfl w3.heap.size X HXl.out rfl rfl HZ3.out ?_; intro w4 q2 q3; have h34 := (show Aft w3 w4 from q3 w3.heap.size w3 (Nat.le_refl _) (Aft.alloc _ _)); have HA4 := Lib.hid (Aft.trans HA3.out h34); have HK4 := Lib.hid q2.out; have HO4 := Lib.hid (ownsRow_below HO.out (w' := w4) fun g hg => Below.block (Aft.trans HA3.out h34) g (own_lt HO.out hg).2); clear q2 q3 h34)
        | (at_builtin; refine wpList_append_rd rfl _ _ 24 rfl (w.heap.size + 1) 5 (.int .u8 0) 1 Tryd.underlying24 info_byte rfl (.slice al (bv (expOut K0 k info m)).length cl) (.slice (some ⟨w3.heap.size, 0, none⟩) 32 32) (bv (expOut K0 k info m)) (bv X) rfl rfl HO4.out (Rd.of_key HK4.out HXl.out) (bv_one _) (by have := HOl.out; have := HXb.out; omega) (by have := HOl.out; have := HXb.out; omega) (by have := Below.size HA4.out; have := HKg.out; omega) ?_; intro v5 w5 k1 k2 k3; have HO5 := Lib.hid (show w5.ownsRow (w.heap.size + 1) 5 1 v5 (bv (expOut K0 k info (m + 1))).length (bv (expOut K0 k info (m + 1))) by rw [HSnoc.out, bv_append]; exact k1); have HK5 := Lib.hid ((k2.block w3.heap.size (heap_lt HK4.out) (fun e => by have := (own_lt HO.out e.symm).2; have := Below.size HA3.out; omega)).trans HK4.out); have HB5 := Lib.hid (show Aft w w5 from (show Below w.heap.size w w4 from Aft.trans HBw.out HA4.out).grown k2 (by have := Below.size HA4.out; have := HSz.out; omega) (fun g hg => by have := (own_lt HO4.out hg).1; omega)); have HKB5 := Lib.hid ((k2.block w.heap.size (by have := Below.size HA4.out; have := HKg.out; omega) (fun e => by have := (own_lt HO4.out e.symm).1; omega)).trans (Aft.get HA4.out HKb.out)); clear k1 k2 k3))
      have HLs := Lib.hid (show LastIs (w.heap.size + 1) k info (m + 1) (.slice (some ⟨w3.heap.size, 0, none⟩) 32 32) w5 from .inr ⟨by omega, w3.heap.size, rfl, by have := Below.size HA3.out; have := HKg.out; omega, by rw [HXq.out]; exact HK5.out⟩)
      go_roundw
      case rel => exact ⟨m + 1, by omega, by go_num, HO5.out, HLs.out, HKB5.out, HB5.out⟩
      case measure =>
        have h5 := HO5.out
        obtain ⟨a5, c5, rfl⟩ := own_shape h5
        have e5 := expOut_length K0 k info (m + 1)
        have := HOl.out
        simp only [lenV, bv_length] at *
        omega
    · have hlt' : ¬ (((bv (expOut K0 k info m)).length : Nat) : Int) < (n : Int) := by rw [HOl.out]; omega
      have hsl := (Rd.of_own HO.out).sl
      have hcut := fun wx => run_cutTo' (ao := al) (len := (bv (expOut K0 k info m)).length) (cap := cl) (n := n) (by have := HOl.out; omega) wx
      have hr := (Rd.of_own HO.out).to (n := n) (by have := HOl.out; omega)
      rw [← bv_take, okm_of k info n m (by omega)] at hr
      have HR := Lib.hid hr
      clear hr hsl hlast
      go_wp2_with fail
      go_ret2
      exact ⟨_, _, rfl, HR.out, HBw.out⟩
end Go.Proofs.YtanodhagpegbfaaDoor

