/- mac.held: a key, held against a byte. -/
import Derived.Test.YtifehfcgmodmaaaDoorShaParts
import Derived.Laws.CopyOwn
namespace Go.Proofs.YtifehfcgmodmaaaDoor
open Go Go.RowKit
/-- A key of at most 64 bytes. -/
def key64 (K : Nat → BitVec 32) (k : List (BitVec 8)) : List (BitVec 8) := if k.length ≤ 64 then k else digest K k
def heldB (k : List (BitVec 8)) (b : BitVec 8) : List (BitVec 8) := (List.range 64).map fun j => k.getD j 0 ^^^ b
theorem heldB_length (k : List (BitVec 8)) (b : BitVec 8) : (heldB k b).length = 64 := by simp [heldB]
def heldRow (k : List (BitVec 8)) (b : BitVec 8) (i : Nat) (j : Nat) : Value := .int .u8 (bn (if j < i then k.getD j 0 ^^^ b else k.getD j 0))
theorem heldRow_at (k : List (BitVec 8)) (b : BitVec 8) (i : Nat) : heldRow k b i i = .int .u8 (bn (k.getD i 0)) := by unfold heldRow; rw [if_neg (by omega)]
theorem bn_xor (x y : BitVec 8) : bits .xor .u8 (bn x) (bn y) = bn (x ^^^ y) := by
  have e : ∀ x : BitVec 8, BitVec.ofInt 8 (bn x) = x := fun x => by
    apply BitVec.eq_of_toNat_eq
    have := x.isLt
    unfold bn
    rw [BitVec.toNat_ofInt]
    omega
  show IntKind.u8.wrap ((BitVec.ofInt 8 (bn x) ^^^ BitVec.ofInt 8 (bn y)).toNat : Int) = _
  rw [e, e]
  have := (x ^^^ y).isLt
  unfold bn
  rw [IntKind.wrap_u8]
  omega
theorem heldRow_step (k : List (BitVec 8)) (b : BitVec 8) (i : Nat) : ∀ j, j < 64 → (if j = i then Value.int .u8 (bn (k[i]?.getD 0 ^^^ b)) else heldRow k b i j) = heldRow k b (i + 1) j := by
  intro j _
  rw [← List.getD_eq_getElem?_getD]
  unfold heldRow
  by_cases h : j = i
  · subst h; rw [if_pos rfl, if_pos (by omega)]
  · rw [if_neg h]
    by_cases h2 : j < i
    · rw [if_pos h2, if_pos (by omega)]
    · rw [if_neg h2, if_neg (by omega)]
def zRow : Array Value := madeCells #[.int .u8 0] 64
theorem zRow_arr : zRow = (List.replicate 64 (Value.int .u8 0)).toArray := by
  have : zRow.toList = List.replicate 64 (.int .u8 0) := toList_madeCells_one _ 64
  rw [← this]
theorem held_start {w : World} {g t : Nat} (k : List (BitVec 8)) {b : BitVec 8} (hk : k.length ≤ 64) (h : w.heap[g]? = some (.cells (splice (List.replicate 64 (Value.int .u8 0)) 0 (bv k)).toArray t (0, 0))) : w.rowIs g t 64 (heldRow k b 0) := by
  refine ⟨_, h, ?_, fun i hi => ?_⟩
  · rw [List.size_toArray, length_splice _ _ _ (by simp [bv_length]; omega)]; simp
  · unfold heldRow
    rw [if_neg (by omega)]
    simp only [splice, List.take_zero, List.nil_append, Nat.zero_add, List.getElem?_toArray]
    by_cases h2 : i < k.length
    · rw [List.getElem?_append_left (by rw [bv_length]; exact h2)]
      simp [bv, List.getD, List.getElem?_eq_getElem h2]
    · rw [List.getElem?_append_right (by rw [bv_length]; omega)]
      rw [List.getElem?_drop, bv_length, List.getElem?_replicate_of_lt (by omega), List.getD, List.getElem?_eq_none (show k.length ≤ i by omega)]
      rfl
theorem held_end {wr : World} {g t : Nat} (k : List (BitVec 8)) (b : BitVec 8) {B : Nat} (hB : B ≤ g) (h : wr.rowIs g t 64 (heldRow k b 64)) : wr.ownsRow B t 1 (.slice (some ⟨g, 0, none⟩) 64 64) 64 (bv (heldB k b)) := by
  obtain ⟨cs, h1, h2, h3⟩ := h
  refine ⟨by rw [bv_length, heldB_length], .inr ⟨g, 64, cs, rfl, hB, h1, Nat.le_refl _, by decide, h2, ?_⟩⟩
  apply List.ext_getElem?
  intro i
  by_cases hi : i < 64
  · have h4 := h3 i hi
    rw [List.getElem?_take_of_lt (by omega), Array.getElem?_toList, h4]
    unfold heldRow
    rw [if_pos hi]
    simp [bv, heldB, hi]
  · rw [List.getElem?_eq_none (by rw [List.length_take]; omega), List.getElem?_eq_none (by rw [bv_length, heldB_length]; omega)]
theorem Rd.addr {w : World} {ao : Option Addr} {n cap : Nat} {xs : List Value} (h : Rd w (.slice ao n cap) xs) (hx : 0 < xs.length) : ∃ ad, ao = some ad ∧ ∀ j u, xs[j]? = some u → w.cell? (ad.add j) = some u := by
  obtain ⟨ao', cap', hv, h1, h2, h3, h4⟩ := h
  cases hv
  cases ao with
  | none => have := h3 rfl; omega
  | some ad => exact ⟨ad, rfl, fun j u hu => h4 ad rfl j u hu⟩
theorem aft_set {w wr : World} (h : Aft w wr) {p : Addr} (hp : w.heap.size ≤ p.block) (u : Value) : Aft w (wr.setCell p u) :=
  ⟨h.os, h.tape, h.output, by have := Below.size h; simpa [World.setCell] using this, fun k hk => (Below.heap_setCell _ _ _ _ (by omega)).trans (Below.block h k hk)⟩
theorem Rd.of_key {w : World} {g t : Nat} {X : List (BitVec 8)} (h : w.heap[g]? = some (.cells (bv X).toArray t (0, 0))) (hX : X.length = 32) : Rd w (.slice (some ⟨g, 0, none⟩) 32 32) (bv X) := by
  refine ⟨some ⟨g, 0, none⟩, 32, by rw [bv_length, hX], by rw [bv_length]; omega, by omega, (fun h => by cases h), fun ad ha j u hu => ?_⟩
  cases ha
  rw [Addr.add_lit]
  simp only [World.cell?, h, Nat.zero_add, List.getElem?_toArray]
  exact hu
attribute [local go_sem] bn_xor
set_option maxRecDepth 100000 in
set_option maxHeartbeats 1000000 in
theorem held_any (v : Value) (ks : List (BitVec 8)) (b : BitVec 8) (w : World) (hK : TabK K0 1 w) (hrd : Rd w v (bv ks)) (hlen : ks.length ≤ 1099511627776) :
    Calls Tryd.prog 66 #[v, .int .u8 (bn b)] w (RetSl 64 fun v' w' => w'.ownsRow w.heap.size 5 1 v' 64 (bv (heldB (key64 K0 ks) b)) ∧ Below w.heap.size w w') := by
  have HK := Lib.hid hK
  have HR := Lib.hid hrd
  obtain ⟨ao, cap, rfl, -, -, -, -⟩ := hrd
  clear hK
  by_cases hl : ks.length ≤ 64
  · have hl' : ¬ (64 : Int) < ((bv ks).length : Nat) := by rw [bv_length]; omega
    have hkey : key64 K0 ks = ks := if_pos hl
    rw [hkey]
    clear hkey
    go_enter Tryd.func66, Tryd.ntmps66
    have hlk : ks.length ≤ 64 := hl
    have hrk : Rd w (.slice ao (bv ks).length cap) (bv ks) := HR.out
    have hbk : Aft w w := Aft.refl _
    have hnk : (bv ks).length = (bv ks).length := rfl
    have HLk := Lib.hid hlk
    have HRk := Lib.hid hrk
    have HBk := Lib.hid hbk
    clear hlk hrk hbk
    obtain ⟨iB, hiB, hz1, hz2, hz3⟩ := info_parts info_byte
    have hmk : ∀ w, (Instr.makeSlice 25 (.int .i64 64) (.int .i64 64)).run Tryd.prog w = .ok (.slice (some ⟨w.heap.size, 0, none⟩) 64 64) (w.alloc (.cells zRow 5)) := fun w => by
      have := run_make (P := Tryd.prog) w 25 5 iB (.int .u8 0) Tryd.underlying25 hiB hz1 .i64 .i64 64 64 (by omega) (by omega) (by rw [hz3]; omega) (by omega)
      rw [this, hz2]; rfl
    clear hz1 hz2 hz3 hiB
    have HZ := Lib.hid (show (w.alloc (.cells zRow 5)).heap[w.heap.size]? = some (.cells (List.replicate 64 (Value.int .u8 0)).toArray 5 (0, 0)) by rw [heap_alloc_new, zRow_arr])
    have HKL := Lib.hid (bv_length ks)
    have HNk := Lib.hid hnk
    clear hnk
    have HBz := Lib.hid (show Below w.heap.size w (w.alloc (.cells zRow 5)) from Aft.alloc _ _)
    have HRz := Lib.hid (HRk.out.grow HBz.out)
    go_wp2_with ((refine wpList_copy_splice rfl (.tmp 16) (.tmp 17) 25 25 rfl 5 Tryd.underlying25 (by kernel_rfl) _ _ 64 64 (bv ks).length cap rfl rfl w.heap.size 0 (List.replicate 64 (Value.int .u8 0)) 5 HZ.out (bv ks) (by show _ = min _ _; have := HLk.out; have := HKL.out; have := HNk.out; omega) (fun h => ⟨rfl, HRz.out.addr h⟩) (by have := HLk.out; simp [bv_length]; omega) (bv_one _) w.heap.size w HBz.out (Nat.le_refl _) ?_; intro wm k1 k2; have hrow := held_start (b := b) ks HLk.out k1.out; have HBm := Lib.hid (Aft.trans HBk.out (show Aft w wm from k2)); have HRow := Lib.hid hrow; clear k1 k2 hrow))
    go_loopw [21] (fun v21 wr => ∃ i : Nat, i ≤ 64 ∧ v21 = .int .i64 i ∧ wr.rowIs w.heap.size 5 64 (heldRow ks b i) ∧ Aft w wr) (fun v _ => 64 - (intOf v).toNat)
    case atStart => exact ⟨0, by omega, rfl, HRow.out, HBm.out⟩
    case round =>
      obtain ⟨i, hi, rfl, hrow, hbw⟩ := hrel
      by_cases hlt : i < 64
      · have hlt' : (i : Int) < 64 := by omega
        have c0 := World.rowIs.cell hrow (i := i) hlt
        have fz := World.rowIs.frozen hrow i
        rw [heldRow_at] at c0
        go_wp2_with fail
        go_roundw
        case rel => exact ⟨i + 1, by omega, by go_num, (World.rowIs.set hrow i _).congr (heldRow_step ks b i), aft_set hbw (Below.size HBk.out) _⟩
        case measure => simp [intOf]; omega
      · obtain rfl : i = 64 := by omega
        have hlt' : ¬ ((64 : Nat) : Int) < 64 := by omega
        go_wp2_with fail
        go_ret
        exact ⟨_, _, rfl, held_end ks b (Below.size HBk.out) hrow, hbw⟩
  · have hl' : (64 : Int) < ((bv ks).length : Nat) := by rw [bv_length]; omega
    have hkey : key64 K0 ks = digest K0 ks := if_neg hl
    have hxl := digest_length K0 ks
    rw [hkey]
    generalize hX : digest K0 ks = X at hxl ⊢
    have HX := Lib.hid hX
    clear hkey hX
    go_enter Tryd.func66, Tryd.ntmps66
    go_wp2_with fail
    have hb1 : Aft w (w.alloc (.cells #[.slice ao (bv ks).length cap] 25)) := Aft.alloc _ _
    refine (sum_any K0 _ [ks] _ (TabK_fr HK.out (Fr.of_below (S := fun _ => False) hb1) (fun h => h)) (RdAll.one w _ ks _ HR.out) (by simp; omega)).mono ?_
    rintro e w3 ⟨rfl, hb3⟩
    rw [show ([ks] : List (List (BitVec 8))).flatten = ks by simp, HX.out]
    have HXL := Lib.hid hxl
    have HB3 := Lib.hid (show Below w.heap.size w w3 from Aft.trans hb1 hb3)
    have HS3 := Lib.hid (heap_alloc_new w3 (.cells key0 28))
    clear hxl hb1 hb3
    obtain ⟨iB, hiB, hz1, hz2, hz3⟩ := info_parts info_byte
    have hmk : ∀ w, (Instr.makeSlice 25 (.int .i64 64) (.int .i64 64)).run Tryd.prog w = .ok (.slice (some ⟨w.heap.size, 0, none⟩) 64 64) (w.alloc (.cells zRow 5)) := fun w => by
      have := run_make (P := Tryd.prog) w 25 5 iB (.int .u8 0) Tryd.underlying25 hiB hz1 .i64 .i64 64 64 (by omega) (by omega) (by rw [hz3]; omega) (by omega)
      rw [this, hz2]; rfl
    clear hz1 hz2 hz3 hiB
    have hlk : X.length ≤ 64 := by rw [HXL.out]; omega
    have hnk : (bv X).length = 32 := by rw [bv_length, HXL.out]
    have HLk := Lib.hid hlk
    have HKL := Lib.hid (bv_length X)
    have HNk := Lib.hid hnk
    clear hlk hnk
    go_wp2_with (first
      | (refine wpList_store_keyX rfl (.tmp 5) (.tmp 13) rfl w3.heap.size X HXL.out rfl rfl HS3.out ?_; intro wk q2 q3; have HBk := Lib.hid (show Aft w wk from q3 w.heap.size w HB3.out.size (HB3.out.alloc HB3.out.size _)); have HRk := Lib.hid (Rd.of_key q2.out HXL.out); have HZ := Lib.hid (show (wk.alloc (.cells zRow 5)).heap[wk.heap.size]? = some (.cells (List.replicate 64 (Value.int .u8 0)).toArray 5 (0, 0)) by rw [heap_alloc_new, zRow_arr]); have HBz := Lib.hid (show Below wk.heap.size wk (wk.alloc (.cells zRow 5)) from Aft.alloc _ _); have HRz := Lib.hid (HRk.out.grow HBz.out); clear q2 q3)
      | (refine wpList_copy_splice rfl (.tmp 16) (.tmp 17) 25 25 rfl 5 Tryd.underlying25 (by kernel_rfl) _ _ 64 64 32 32 rfl rfl wk.heap.size 0 (List.replicate 64 (Value.int .u8 0)) 5 HZ.out (bv X) (by show _ = min _ _; have := HLk.out; have := HKL.out; have := HNk.out; omega) (fun h => ⟨rfl, HRz.out.addr h⟩) (by have := HLk.out; simp [bv_length]; omega) (bv_one _) wk.heap.size wk HBz.out (Nat.le_refl _) ?_; intro wm k1 k2; have hrow := held_start (b := b) X HLk.out k1.out; have HBm := Lib.hid (Aft.trans HBk.out (show Aft wk wm from k2)); have HRow := Lib.hid hrow; clear k1 k2 hrow))
    go_loopw [21] (fun v21 wr => ∃ i : Nat, i ≤ 64 ∧ v21 = .int .i64 i ∧ wr.rowIs wk.heap.size 5 64 (heldRow X b i) ∧ Aft w wr) (fun v _ => 64 - (intOf v).toNat)
    case atStart => exact ⟨0, by omega, rfl, HRow.out, HBm.out⟩
    case round =>
      obtain ⟨i, hi, rfl, hrow, hbw⟩ := hrel
      by_cases hlt : i < 64
      · have hlt' : (i : Int) < 64 := by omega
        have c0 := World.rowIs.cell hrow (i := i) hlt
        have fz := World.rowIs.frozen hrow i
        rw [heldRow_at] at c0
        go_wp2_with fail
        go_roundw
        case rel => exact ⟨i + 1, by omega, by go_num, (World.rowIs.set hrow i _).congr (heldRow_step X b i), aft_set hbw (Below.size HBk.out) _⟩
        case measure => simp [intOf]; omega
      · obtain rfl : i = 64 := by omega
        have hlt' : ¬ ((64 : Nat) : Int) < 64 := by omega
        go_wp2_with fail
        go_ret
        exact ⟨_, _, rfl, held_end X b (Below.size HBk.out) hrow, hbw⟩
end Go.Proofs.YtifehfcgmodmaaaDoor
