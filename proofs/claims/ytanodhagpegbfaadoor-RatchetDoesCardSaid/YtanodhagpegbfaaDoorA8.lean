import Derived.Test.YtanodhagpegbfaaDoorA6
import Derived.Lib.Tables
import Derived.Lib.BitFns
import Derived.Lib.ItoaNum
import Derived.Shelf.Bytes.WriteAny
import Derived.Shelf.Bytes.Bytes
import Derived.Test.YtanodhagpegbfaaDoorA2
import Derived.Laws.Bits64
import Derived.Test.YtanodhagpegbfaaDoorA4
/- Numbers written: math/bits.Len64, wire.fits, the predicate of wire.Num, slices.IndexFunc and ContainsFunc at it, wire.put. -/
namespace Go.Proofs.YtanodhagpegbfaaDoor
open Go Go.RowKit
theorem ix8 (y : Int) (h0 : 0 ≤ y) (h1 : y ≤ 255) (w : World) : (Instr.index 9 (.string Lib.len8tab) (.int .u8 y)).run Tryd.prog w = .ok (.int .u8 (Lib.len8 y)) w :=
  Lib.run_index_len8tab w 9 .u8 y Tryd.underlying9 h0 h1
theorem len8_bounds (y : Int) (h0 : 0 ≤ y) (h1 : y ≤ 255) : 0 ≤ Lib.len8 y ∧ Lib.len8 y ≤ 8 := by
  rw [Lib.len8_of y h0 h1]
  have := Lib.bitLen_le8' y h0 h1
  omega
set_option maxRecDepth 100000 in
set_option maxHeartbeats 4000000 in
theorem len64_any (x : Int) (w : World) (h0 : 0 ≤ x) (h1 : x ≤ 18446744073709551615) :
    Calls Tryd.prog 111 #[.int .u64 x] w fun e w' => e = .returned (.int .i64 (Lib.bitLen x.toNat)) ∧ w' = w := by
  go_enter Tryd.func111, Tryd.ntmps111
  by_cases ha : 4294967296 ≤ x
  · by_cases hb : 65536 ≤ x / 4294967296
    · by_cases hc : 256 ≤ x / 4294967296 / 65536
      · have hx := ix8 (x / 4294967296 / 65536 / 256) (by omega) (by omega)
        obtain ⟨l0, l1⟩ := len8_bounds (x / 4294967296 / 65536 / 256) (by omega) (by omega)
        have he := Lib.len8_of (x / 4294967296 / 65536 / 256) (by omega) (by omega)
        have HE := Lib.hid he
        have l := Lib.bitLen_le8' (x / 4294967296 / 65536 / 256) (by omega) (by omega)
        have e : (x / 4294967296 / 65536 / 256).toNat = x.toNat / 72057594037927936 := by omega
        have s := Lib.bitLen_shift56 x.toNat (by omega) (by omega)
        rw [e] at HE
        have HS := Lib.hid s
        clear he l e s
        generalize Lib.len8 (x / 4294967296 / 65536 / 256) = q at *
        go_wp2
        go_ret
        refine ⟨congrArg Ending.returned (congrArg (Value.int IntKind.i64) ?_), rfl⟩
        rw [HS.out]
        have := HE.out
        omega
      · have hx := ix8 (x / 4294967296 / 65536) (by omega) (by omega)
        obtain ⟨l0, l1⟩ := len8_bounds (x / 4294967296 / 65536) (by omega) (by omega)
        have he := Lib.len8_of (x / 4294967296 / 65536) (by omega) (by omega)
        have HE := Lib.hid he
        have l := Lib.bitLen_le8' (x / 4294967296 / 65536) (by omega) (by omega)
        have e : (x / 4294967296 / 65536).toNat = x.toNat / 281474976710656 := by omega
        have s := Lib.bitLen_shift48 x.toNat (by omega) (by omega)
        rw [e] at HE
        have HS := Lib.hid s
        clear he l e s
        generalize Lib.len8 (x / 4294967296 / 65536) = q at *
        go_wp2
        go_ret
        refine ⟨congrArg Ending.returned (congrArg (Value.int IntKind.i64) ?_), rfl⟩
        rw [HS.out]
        have := HE.out
        omega
    · by_cases hc : 256 ≤ x / 4294967296
      · have hx := ix8 (x / 4294967296 / 256) (by omega) (by omega)
        obtain ⟨l0, l1⟩ := len8_bounds (x / 4294967296 / 256) (by omega) (by omega)
        have he := Lib.len8_of (x / 4294967296 / 256) (by omega) (by omega)
        have HE := Lib.hid he
        have l := Lib.bitLen_le8' (x / 4294967296 / 256) (by omega) (by omega)
        have e : (x / 4294967296 / 256).toNat = x.toNat / 1099511627776 := by omega
        have s := Lib.bitLen_shift40 x.toNat (by omega) (by omega)
        rw [e] at HE
        have HS := Lib.hid s
        clear he l e s
        generalize Lib.len8 (x / 4294967296 / 256) = q at *
        go_wp2
        go_ret
        refine ⟨congrArg Ending.returned (congrArg (Value.int IntKind.i64) ?_), rfl⟩
        rw [HS.out]
        have := HE.out
        omega
      · have hx := ix8 (x / 4294967296) (by omega) (by omega)
        obtain ⟨l0, l1⟩ := len8_bounds (x / 4294967296) (by omega) (by omega)
        have he := Lib.len8_of (x / 4294967296) (by omega) (by omega)
        have HE := Lib.hid he
        have l := Lib.bitLen_le8' (x / 4294967296) (by omega) (by omega)
        have e : (x / 4294967296).toNat = x.toNat / 4294967296 := by omega
        have s := Lib.bitLen_shift32 x.toNat (by omega) (by omega)
        rw [e] at HE
        have HS := Lib.hid s
        clear he l e s
        generalize Lib.len8 (x / 4294967296) = q at *
        go_wp2
        go_ret
        refine ⟨congrArg Ending.returned (congrArg (Value.int IntKind.i64) ?_), rfl⟩
        rw [HS.out]
        have := HE.out
        omega
  · by_cases hb : 65536 ≤ x
    · by_cases hc : 256 ≤ x / 65536
      · have hx := ix8 (x / 65536 / 256) (by omega) (by omega)
        obtain ⟨l0, l1⟩ := len8_bounds (x / 65536 / 256) (by omega) (by omega)
        have he := Lib.len8_of (x / 65536 / 256) (by omega) (by omega)
        have HE := Lib.hid he
        have l := Lib.bitLen_le8' (x / 65536 / 256) (by omega) (by omega)
        have e : (x / 65536 / 256).toNat = x.toNat / 16777216 := by omega
        have s := Lib.bitLen_shift24 x.toNat (by omega) (by omega)
        rw [e] at HE
        have HS := Lib.hid s
        clear he l e s
        generalize Lib.len8 (x / 65536 / 256) = q at *
        go_wp2
        go_ret
        refine ⟨congrArg Ending.returned (congrArg (Value.int IntKind.i64) ?_), rfl⟩
        rw [HS.out]
        have := HE.out
        omega
      · have hx := ix8 (x / 65536) (by omega) (by omega)
        obtain ⟨l0, l1⟩ := len8_bounds (x / 65536) (by omega) (by omega)
        have he := Lib.len8_of (x / 65536) (by omega) (by omega)
        have HE := Lib.hid he
        have l := Lib.bitLen_le8' (x / 65536) (by omega) (by omega)
        have e : (x / 65536).toNat = x.toNat / 65536 := by omega
        have s := Lib.bitLen_shift16 x.toNat (by omega) (by omega)
        rw [e] at HE
        have HS := Lib.hid s
        clear he l e s
        generalize Lib.len8 (x / 65536) = q at *
        go_wp2
        go_ret
        refine ⟨congrArg Ending.returned (congrArg (Value.int IntKind.i64) ?_), rfl⟩
        rw [HS.out]
        have := HE.out
        omega
    · by_cases hc : 256 ≤ x
      · have hx := ix8 (x / 256) (by omega) (by omega)
        obtain ⟨l0, l1⟩ := len8_bounds (x / 256) (by omega) (by omega)
        have he := Lib.len8_of (x / 256) (by omega) (by omega)
        have HE := Lib.hid he
        have l := Lib.bitLen_le8' (x / 256) (by omega) (by omega)
        have e : (x / 256).toNat = x.toNat / 256 := by omega
        have s := Lib.bitLen_shift8 x.toNat (by omega) (by omega)
        rw [e] at HE
        have HS := Lib.hid s
        clear he l e s
        generalize Lib.len8 (x / 256) = q at *
        go_wp2
        go_ret
        refine ⟨congrArg Ending.returned (congrArg (Value.int IntKind.i64) ?_), rfl⟩
        rw [HS.out]
        have := HE.out
        omega
      · have hx := ix8 (x) (by omega) (by omega)
        obtain ⟨l0, l1⟩ := len8_bounds (x) (by omega) (by omega)
        have he := Lib.len8_of (x) (by omega) (by omega)
        have HE := Lib.hid he
        have l := Lib.bitLen_le8' (x) (by omega) (by omega)
        clear he l
        generalize Lib.len8 (x) = q at *
        go_wp2
        go_ret
        refine ⟨congrArg Ending.returned (congrArg (Value.int IntKind.i64) ?_), rfl⟩
        have := HE.out
        omega
theorem bitLen_iff (x k : Nat) (hx : x < 18446744073709551616) (hk : k ≤ 64) : Lib.bitLen x ≤ k ↔ x < 2 ^ k := by
  constructor
  · intro h
    by_cases h0 : x = 0
    · subst h0; exact Nat.two_pow_pos k
    · have := (Lib.bitLenAux_bounds 64 x hx h0).2.2
      exact Nat.lt_of_lt_of_le this (Nat.pow_le_pow_right (by omega) h)
  · exact Lib.bitLen_le x k hk
/-- A number stands in a width. -/
def fitsB (W x : Nat) : Bool := decide (x < 256 ^ W)
theorem fits_any (W x : Nat) (w : World) (hW : W ≤ 8) (hx : x < 18446744073709551616) :
    Calls Tryd.prog 101 #[.int .i64 (W : Int), .int .u64 (x : Int)] w fun e w' => e = .returned (.bool (fitsB W x)) ∧ w' = w := by
  have hb : decide ((Lib.bitLen x : Int) ≤ 8 * (W : Int)) = fitsB W x := by
    unfold fitsB
    rw [show (256 : Nat) ^ W = 2 ^ (8 * W) by rw [Nat.pow_mul]]
    refine decide_eq_decide.2 ?_
    rw [← bitLen_iff x (8 * W) hx (by omega)]
    omega
  have hl := len64_any (x : Int) w (by omega) (by omega)
  rw [Int.toNat_natCast] at hl
  have HL := Lib.hid hl
  clear hl
  generalize Lib.bitLen x = L at *
  go_enter Tryd.func101, Tryd.ntmps101
  go_wp2_with fail
  refine HL.out.mono ?_
  rintro e w' ⟨rfl, rfl⟩
  go_wp2_with fail
  go_ret
  exact ⟨by rw [← hb]; rfl, rfl⟩
theorem num1_any (b W x : Nat) (w : World) (hc : w.cell? ⟨b, 0, none⟩ = some (.int .i64 (W : Int))) (hW : W ≤ 8) (hx : x < 18446744073709551616) :
    Calls Tryd.prog 100 #[.int .u64 (x : Int), .pointer (some ⟨b, 0, none⟩)] w fun e w' => e = .returned (.bool (!fitsB W x)) ∧ w' = w := by
  have HL := Lib.hid (fits_any W x w hW hx)
  generalize fitsB W x = B at *
  go_enter Tryd.func100, Tryd.ntmps100
  go_wp2_with fail
  refine HL.out.mono ?_
  rintro e w' ⟨rfl, rfl⟩
  go_wp2_with fail
  go_ret
  exact ⟨rfl, rfl⟩
/-- Numbers, as values. -/
def nv (ns : List Nat) : List Value := ns.map fun (x : Nat) => Value.int .u64 (x : Int)
theorem nv_length (ns : List Nat) : (nv ns).length = ns.length := by simp [nv]
/-- A number of a list. -/
def nat (ns : List Nat) (i : Nat) : Nat := ns.getD i 0
theorem nv_at (ns : List Nat) (i : Nat) (h : i < ns.length) : (nv ns)[i]? = some (.int .u64 ((nat ns i : Nat) : Int)) := by simp [nv, nat, List.getD, List.getElem?_eq_getElem h]
theorem nv_one (ns : List Nat) : ∀ u ∈ nv ns, u.oneCell' = true := by
  intro u hu
  obtain ⟨x, -, rfl⟩ := List.mem_map.1 hu
  rfl
theorem nat_lt {ns : List Nat} (h : ∀ x ∈ ns, x < 18446744073709551616) (i : Nat) : nat ns i < 18446744073709551616 := by
  unfold nat
  rw [List.getD_eq_getElem?_getD]
  cases hi : ns[i]? with
  | none => simp
  | some x => exact h x (List.mem_of_getElem? hi)
theorem Rd.nat_at {w : World} {g o n cap : Nat} {ns : List Nat} (h : Rd w (.slice (some ⟨g, o, none⟩) n cap) (nv ns)) {i : Nat} (hi : i < ns.length) : w.cell? ⟨g, o + i, none⟩ = some (.int .u64 ((nat ns i : Nat) : Int)) := by
  obtain ⟨ao', cap', hv, h1, h2, h3, h4⟩ := h
  cases hv
  have := h4 _ rfl i _ (nv_at ns i hi)
  rwa [Addr.add_lit] at this
/-- One of them at least does not stand in a width. -/
def overB (W : Nat) (ns : List Nat) : Bool := ns.any fun x => !fitsB W x
theorem overB_false {W : Nat} {ns : List Nat} (h : ∀ j, j < ns.length → fitsB W (nat ns j) = true) : overB W ns = false := by
  unfold overB
  rw [List.any_eq_false]
  intro x hx
  obtain ⟨i, hi, rfl⟩ := List.mem_iff_getElem.1 hx
  have := h i hi
  simp only [nat, List.getD_eq_getElem?_getD, List.getElem?_eq_getElem hi, Option.getD_some] at this
  simp [this]
theorem overB_true {W : Nat} {ns : List Nat} {j : Nat} (hj : j < ns.length) (h : fitsB W (nat ns j) = false) : overB W ns = true := by
  unfold overB
  rw [List.any_eq_true]
  refine ⟨ns[j], List.getElem_mem hj, ?_⟩
  simp only [nat, List.getD_eq_getElem?_getD, List.getElem?_eq_getElem hj, Option.getD_some] at h
  simp [h]
set_option maxRecDepth 100000 in
set_option maxHeartbeats 1000000 in
theorem indexFunc_any (v : Value) (ns : List Nat) (b W : Nat) (w : World) (hrd : Rd w v (nv ns)) (hc : w.cell? ⟨b, 0, none⟩ = some (.int .i64 (W : Int))) (hW : W ≤ 8) (hns : ∀ x ∈ ns, x < 18446744073709551616) :
    Calls Tryd.prog 110 #[v, .func (.func 100) #[] #[.pointer (some ⟨b, 0, none⟩)]] w fun e w' => ∃ i : Int, (0 ≤ i ↔ overB W ns = true) ∧ e = .returned (.int .i64 i) ∧ w' = w := by
  have HR := Lib.hid hrd
  obtain ⟨ao, cap, rfl, -, -, -, -⟩ := hrd
  have HC := Lib.hid (fun i => num1_any b W (nat ns i) w hc hW (nat_lt hns i))
  clear hc
  go_enter Tryd.func110, Tryd.ntmps110
  go_wp2_with fail
  go_loopw [8] (fun v8 wr => ∃ i : Nat, i ≤ ns.length ∧ v8 = .int .i64 i ∧ wr = w ∧ ∀ j, j < i → fitsB W (nat ns j) = true) (fun v _ => ns.length - (intOf v).toNat)
  case atStart => exact ⟨0, by omega, rfl, rfl, fun j hj => by omega⟩
  case round =>
    obtain ⟨i, hi, rfl, rfl, hall⟩ := hrel
    have HA := Lib.hid hall
    clear hall
    by_cases hlt : i < ns.length
    · have hlt' : (i : Int) < ((nv ns).length : Nat) := by rw [nv_length]; omega
      have hi63 : (i : Int) + 1 ≤ 9223372036854775807 := by have := HR.out.sl; rw [nv_length] at this; omega
      obtain ⟨g, o, rfl, -, hca⟩ := HR.out.some_of (by rw [nv_length]; omega)
      have hcell := HR.out.nat_at hlt
      have HCi := Lib.hid (HC.out i)
      have hov := @overB_true W ns i hlt
      have HOv := Lib.hid hov
      clear hov
      generalize hx : nat ns i = x at hcell HCi HOv
      have HX := Lib.hid hx
      clear hx
      go_wp2_with fail
      refine HCi.out.mono ?_
      rintro e w' ⟨rfl, rfl⟩
      cases hf : fitsB W x with
      | false =>
        simp only [Bool.not_false]
        go_wp2_with fail
        go_ret
        exact ⟨i, by simp [HOv.out hf], rfl, rfl⟩
      | true =>
        simp only [Bool.not_true]
        go_wp2_with fail
        go_roundw
        case rel => exact ⟨i + 1, by omega, by go_num, trivial, fun j hj => by
          by_cases hj2 : j < i
          · exact HA.out j hj2
          · obtain rfl : j = i := by omega
            rw [HX.out]; exact hf⟩
        case measure => simp [intOf]; omega
    · obtain rfl : i = ns.length := by omega
      have hlt' : ¬ ((ns.length : Nat) : Int) < ((nv ns).length : Nat) := by rw [nv_length]; omega
      have HOv := Lib.hid (overB_false HA.out)
      go_wp2_with fail
      go_ret
      exact ⟨-1, ⟨fun h => absurd h (by decide), fun h => by rw [HOv.out] at h; cases h⟩, rfl, rfl⟩
set_option maxRecDepth 100000 in
theorem containsFunc_any (v : Value) (ns : List Nat) (b W : Nat) (w : World) (hrd : Rd w v (nv ns)) (hc : w.cell? ⟨b, 0, none⟩ = some (.int .i64 (W : Int))) (hW : W ≤ 8) (hns : ∀ x ∈ ns, x < 18446744073709551616) :
    Calls Tryd.prog 99 #[v, .func (.func 100) #[] #[.pointer (some ⟨b, 0, none⟩)]] w fun e w' => e = .returned (.bool (overB W ns)) ∧ w' = w := by
  have HI := Lib.hid (indexFunc_any v ns b W w hrd hc hW hns)
  clear hrd hc
  go_enter Tryd.func99, Tryd.ntmps99
  go_wp2_with fail
  refine HI.out.mono ?_
  rintro e w' ⟨i, hi, rfl, rfl⟩
  have HE := Lib.hid (show decide (0 ≤ i) = overB W ns by cases h : overB W ns <;> simp [h] at hi ⊢ <;> omega)
  clear hi
  go_wp2_with fail
  go_ret
  exact ⟨by rw [← HE.out]; rfl, rfl⟩
end Go.Proofs.YtanodhagpegbfaaDoor
/- wire.put, wire.Num, and coterieref01.Num. -/
namespace Go.Proofs.YtanodhagpegbfaaDoor
open Go Go.RowKit
theorem beL_take_succ (W x m : Nat) (h : m + 1 ≤ W) : (beL W x).take (W - m) = (beL W x).take (W - (m + 1)) ++ [BitVec.ofNat 8 (x / 256 ^ m)] := by
  have e : ∀ (W : Nat), m + 1 ≤ W → (beL W x)[W - (m + 1)]? = some (BitVec.ofNat 8 (x / 256 ^ m)) := by
    intro W
    induction W with
    | zero => intro h; omega
    | succ W ih =>
      intro h
      by_cases hm : m = W
      · subst hm
        rw [Nat.sub_self]
        rfl
      · rw [show W + 1 - (m + 1) = (W - (m + 1)) + 1 by omega]
        show (beL W x)[W - (m + 1)]? = _
        exact ih (by omega)
  have hl : W - (m + 1) < (beL W x).length := by rw [beL_length]; omega
  rw [show W - m = W - (m + 1) + 1 by omega, List.take_add_one, e W h]
  rfl
theorem shr_be (x m : Nat) : (x : Int) / 2 ^ (8 * m) % 256 = bn (BitVec.ofNat 8 (x / 256 ^ m)) := by
  rw [show (2 : Int) ^ (8 * m) = ((2 ^ (8 * m) : Nat) : Int) by simp, Nat.pow_mul, ← bn_mod, Int.natCast_ediv]
set_option maxRecDepth 100000 in
set_option maxHeartbeats 1000000 in
theorem put_any0 (v : Value) (d : List (BitVec 8)) (W x base : Nat) (w : World) (hown : w.ownsRow base 5 1 v (bv d).length (bv d)) (hbase : base ≤ w.heap.size) (hW : W ≤ 8) (hd : d.length ≤ 1099511627776) :
    Calls Tryd.prog 87 #[v, .int .i64 (W : Int), .int .u64 (x : Int)] w (Returns fun v' w' => w'.ownsRow base 5 1 v' (bv (d ++ beL W x)).length (bv (d ++ beL W x)) ∧ Below base w w') := by
  have HO := Lib.hid hown
  obtain ⟨a0, c0, rfl⟩ := own_shape hown
  clear hown
  go_enter Tryd.func87, Tryd.ntmps87
  go_wp2_with fail
  go_loopw [0, 7] (fun v0 v7 wr => ∃ k : Nat, k ≤ W ∧ v7 = .int .i64 ((k : Int) - 1) ∧ wr.ownsRow base 5 1 v0 (bv (d ++ (beL W x).take (W - k))).length (bv (d ++ (beL W x).take (W - k))) ∧ Below base w wr) (fun _ v7 _ => (intOf v7 + 1).toNat)
  case atStart => exact ⟨W, by omega, rfl, by rw [Nat.sub_self, List.take_zero, List.append_nil]; exact HO.out, Below.refl _ _⟩
  case round =>
    obtain ⟨k, hk, rfl, hown, hb⟩ := hrel
    have HOw := Lib.hid hown
    have HB := Lib.hid hb
    obtain ⟨al, cl, rfl⟩ := own_shape hown
    clear hown hb
    cases k with
    | zero =>
      have hlt' : ¬ (0 : Int) ≤ ((0 : Nat) : Int) - 1 := by omega
      have HT := Lib.hid (show d ++ (beL W x).take (W - 0) = d ++ beL W x by rw [Nat.sub_zero, List.take_of_length_le (by rw [beL_length]; omega)])
      generalize d ++ (beL W x).take (W - 0) = l at *
      go_wp2_with fail
      go_ret
      exact Returns.mk (by rw [← HT.out]; exact ⟨HOw.out, HB.out⟩)
    | succ m =>
      rw [show ((m + 1 : Nat) : Int) - 1 = (m : Int) by omega]
      have hlt' : (0 : Int) ≤ (m : Int) := by omega
      have hm8 : m < 8 := by omega
      have hsh := shr_be x m
      have HT := Lib.hid (show d ++ (beL W x).take (W - m) = (d ++ (beL W x).take (W - (m + 1))) ++ [BitVec.ofNat 8 (x / 256 ^ m)] by rw [beL_take_succ W x m hk, List.append_assoc])
      have HLl := Lib.hid (show (d ++ (beL W x).take (W - (m + 1))).length ≤ 1099511627776 + 8 by rw [List.length_append, List.length_take, beL_length]; omega)
      generalize d ++ (beL W x).take (W - (m + 1)) = l at *
      generalize BitVec.ofNat 8 (x / 256 ^ m) = y at *
      have HO1 := Lib.hid (HOw.out.alloc (.cells #[.int .u8 (bn y)] 5))
      have HR1 := Lib.hid (Rd.of_own (World.ownsRow_lit (base := wr.heap.size) (e := 5) (size := 1) wr #[.int .u8 (bn y)] 1 (Nat.le_refl _) (by decide) rfl))
      have HBs := Lib.hid (Below.size HB.out)
      have HBase := Lib.hid hbase
      clear hbase
      go_wp2_with ((at_builtin; refine wpList_append_rd rfl _ _ 24 rfl base 5 (.int .u8 0) 1 Tryd.underlying24 info_byte rfl (.slice al (bv l).length cl) (.slice (some ⟨wr.heap.size, 0, none⟩) 1 1) (bv l) [.int .u8 (bn y)] rfl rfl HO1.out HR1.out (bv_one8 y) (by have := HLl.out; simp [bv_length]; omega) (by have := HLl.out; simp [bv_length]; omega) (by have := HBs.out; have := HBase.out; rw [World.size_alloc]; omega) ?_; intro v3 w3 k1 k2 k3; have HO3 := Lib.hid (show w3.ownsRow base 5 1 v3 (bv (d ++ (beL W x).take (W - m))).length (bv (d ++ (beL W x).take (W - m))) by rw [HT.out, bv_append]; exact k1); have HB3 := Lib.hid (show Below base w w3 from (HB.out.alloc (by have := HBs.out; have := HBase.out; omega) (.cells #[.int .u8 (bn y)] 5)).grown k2 (by rw [World.size_alloc]; have := HBs.out; have := HBase.out; omega) (fun g hg => (own_lt HO1.out hg).1)); clear k1 k2 k3))
      go_roundw
      case rel => exact ⟨m, by omega, by go_num, HO3.out, HB3.out⟩
      case measure => simp [intOf]
theorem put_any (v : Value) (d : List (BitVec 8)) (W x base : Nat) (w : World) (hown : w.ownsRow base 5 1 v (bv d).length (bv d)) (hbase : base ≤ w.heap.size) (hW : W ≤ 8) (hd : d.length ≤ 1099511627776) :
    Calls Tryd.prog 87 #[v, .int .i64 (W : Int), .int .u64 (x : Int)] w (RetSl (bv (d ++ beL W x)).length fun v' w' => w'.ownsRow base 5 1 v' (bv (d ++ beL W x)).length (bv (d ++ beL W x)) ∧ Below base w w') :=
  (put_any0 v d W x base w hown hbase hW hd).mono fun _ _ h => RetSl.of_own h fun _ _ q => q.1
/-- Numbers, written. -/
def numsB (W : Nat) (ns : List Nat) : List (BitVec 8) := ns.flatMap (beL W)
theorem numsB_length (W : Nat) (ns : List Nat) : (numsB W ns).length = W * ns.length := by
  unfold numsB
  induction ns with
  | nil => simp
  | cons x ns ih => rw [List.flatMap_cons, List.length_append, ih, beL_length, List.length_cons, Nat.mul_succ]; omega
theorem numsB_succ (W : Nat) (ns : List Nat) (i : Nat) (h : i < ns.length) : numsB W (ns.take (i + 1)) = numsB W (ns.take i) ++ beL W (nat ns i) := by
  unfold numsB nat
  rw [List.take_add_one, List.getElem?_eq_getElem h, List.flatMap_append, List.getD_eq_getElem?_getD, List.getElem?_eq_getElem h]
  simp
/-- Whether numbers may be written in a width. -/
def numOk (W : Int) (ns : List Nat) : Bool := decide (1 ≤ W) && (decide (W ≤ 8) && !overB W.toNat ns)
def numErr (W : Int) (ns : List Nat) : Int := if numOk W ns then 0 else 1
def numB (d : List (BitVec 8)) (W : Int) (ns : List Nat) : List (BitVec 8) := if numOk W ns then d ++ numsB W.toNat ns else []
/-- What Num hands back. -/
def NumSays (d : List (BitVec 8)) (W : Int) (ns : List Nat) (w : World) (e : Ending) (w' : World) : Prop :=
  ∃ ao cap, e = .returned (.tuple #[.slice ao (bv (numB d W ns)).length cap, .int .i64 (numErr W ns)]) ∧ w'.ownsRow w.heap.size 5 1 (.slice ao (bv (numB d W ns)).length cap) (bv (numB d W ns)).length (bv (numB d W ns)) ∧ Below w.heap.size w w'
theorem NumSays.bad {d : List (BitVec 8)} {W : Int} {ns : List Nat} {w w' : World} (h : numOk W ns = false) (hb : Below w.heap.size w w') : NumSays d W ns w (.returned (.tuple #[.slice none 0 0, .int .i64 1])) w' := by
  refine ⟨none, 0, ?_, ?_, hb⟩ <;> simp only [numB, numErr, h] <;> first | rfl | exact World.ownsRow_nil _ _ _ _
theorem NumSays.good {d : List (BitVec 8)} {W : Nat} {ns : List Nat} {w w' : World} {v : Value} (h : numOk (W : Int) ns = true) (ho : w'.ownsRow w.heap.size 5 1 v (bv (d ++ numsB W ns)).length (bv (d ++ numsB W ns))) (hb : Below w.heap.size w w') :
    NumSays d (W : Int) ns w (.returned (.tuple #[v, .int .i64 0])) w' := by
  have hB : numB d (W : Int) ns = d ++ numsB W ns := by unfold numB; rw [if_pos h, Int.toNat_natCast]
  obtain ⟨a, c, rfl⟩ := own_shape ho
  refine ⟨a, c, ?_, ?_, hb⟩
  · rw [hB]; unfold numErr; rw [if_pos h]
  · rw [hB]; exact ho
set_option maxRecDepth 100000 in
set_option maxHeartbeats 1000000 in
theorem num_any (vb vn : Value) (d : List (BitVec 8)) (W : Int) (ns : List Nat) (w : World) (hb : Rd w vb (bv d)) (hn : Rd w vn (nv ns)) (hns : ∀ x ∈ ns, x < 18446744073709551616) (hd : d.length ≤ 1073741824) (hl : ns.length ≤ 1073741824) :
    Calls Tryd.prog 73 #[vb, .int .i64 W, vn] w (NumSays d W ns w) := by
  have HB := Lib.hid hb
  have HN := Lib.hid hn
  have HL := Lib.hid hl
  have HD := Lib.hid hd
  obtain ⟨ab, cb, rfl, -, -, -, -⟩ := hb
  obtain ⟨an, cn, rfl, -, -, -, -⟩ := hn
  have HF := Lib.hid (Aft.alloc w (.cells #[.int .i64 W] 3))
  clear hd hl
  go_enter Tryd.func73, Tryd.ntmps73
  by_cases h1 : W < 1
  · have HQ := Lib.hid (show numOk W ns = false by unfold numOk; rw [decide_eq_false (by omega)]; rfl)
    go_wp2_with fail
    go_ret2
    exact NumSays.bad HQ.out HF.out
  · by_cases h2 : 8 < W
    · have HQ := Lib.hid (show numOk W ns = false by unfold numOk; rw [decide_eq_false (show ¬ W ≤ 8 by omega)]; simp)
      go_wp2_with fail
      go_ret2
      exact NumSays.bad HQ.out HF.out
    · obtain ⟨U, rfl⟩ : ∃ U : Nat, W = (U : Int) := ⟨W.toNat, by omega⟩
      have hbox : (w.alloc (.cells #[.int .i64 (U : Int)] 3)).cell? ⟨w.heap.size, 0, none⟩ = some (.int .i64 (U : Int)) := by rw [cell_of_row _ _ _ _ _ _ (heap_alloc_new w _)]; rfl
      have HC := Lib.hid (containsFunc_any _ ns w.heap.size U _ (HN.out.grow HF.out) hbox (by omega) hns)
      have HX := Lib.hid (show numOk (U : Int) ns = !overB U ns by unfold numOk; rw [decide_eq_true (show (1 : Int) ≤ U by omega), decide_eq_true (show (U : Int) ≤ 8 by omega), Int.toNat_natCast]; simp)
      have HBox := Lib.hid hbox
      clear hbox
      go_wp2_with fail
      refine HC.out.mono ?_
      rintro e w1 ⟨rfl, rfl⟩
      cases ho : overB U ns with
      | true =>
        have HQ := Lib.hid (show numOk (U : Int) ns = false by rw [HX.out, ho]; rfl)
        go_wp2_with fail
        go_ret2
        exact NumSays.bad HQ.out HF.out
      | false =>
        have HQ := Lib.hid (show numOk (U : Int) ns = true by rw [HX.out, ho]; rfl)
        clear ho
        go_wp2_with fail
        refine (clone_any _ _ _ (HB.out.grow HF.out) (bv_one _) (by rw [bv_length]; have := HD.out; omega)).mono ?_
        rintro e w2 ⟨a2, c2, rfl, ho2, hb2⟩
        rw [World.size_alloc] at ho2 hb2
        have HO2 := Lib.hid ho2
        have HF2 := Lib.hid (show Below (w.heap.size + 1) (w.alloc (.cells #[.int .i64 (U : Int)] 3)) w2 from hb2)
        have HS2 := Lib.hid (show w.heap.size + 1 ≤ w2.heap.size by have := Below.size hb2; rwa [World.size_alloc] at this)
        clear ho2 hb2
        go_wp2_with fail
        go_loopw [8, 26] (fun v8 v26 wr => ∃ i : Nat, i ≤ ns.length ∧ v26 = .int .i64 i ∧ wr.ownsRow (w.heap.size + 1) 5 1 v8 (bv (d ++ numsB U (ns.take i))).length (bv (d ++ numsB U (ns.take i))) ∧ Below (w.heap.size + 1) w2 wr) (fun _ v _ => ns.length - (intOf v).toNat)
        case atStart => exact ⟨0, by omega, rfl, by simp only [numsB, List.take_zero, List.flatMap_nil, List.append_nil]; exact HO2.out, Below.refl _ _⟩
        case round =>
          obtain ⟨i, hi, rfl, hown, hbw⟩ := hrel
          have HOw := Lib.hid hown
          have HBw := Lib.hid (show Below (w.heap.size + 1) (w.alloc (.cells #[.int .i64 (U : Int)] 3)) wr from HF2.out.trans hbw)
          have HB2 := Lib.hid hbw
          have HSr := Lib.hid (Nat.le_trans HS2.out (Below.size hbw))
          obtain ⟨al, cl, rfl⟩ := own_shape hown
          have HAll := Lib.hid (show Aft w wr from Below.trans HF.out (Below.mono HBw.out (by omega)))
          clear hown hbw
          by_cases hlt : i < ns.length
          · have hlt' : (i : Int) < ((nv ns).length : Nat) := by rw [nv_length]; omega
            have hi63 : (i : Int) + 1 ≤ 9223372036854775807 := by have := HL.out; omega
            obtain ⟨g, o, rfl, -, hca⟩ := HN.out.some_of (by rw [nv_length]; omega)
            have hcell := (HN.out.grow HAll.out).nat_at hlt
            have hbx : wr.cell? ⟨w.heap.size, 0, none⟩ = some (.int .i64 (U : Int)) := (Below.cell HBw.out (p := ⟨w.heap.size, 0, none⟩) (Nat.lt_succ_self _)).trans HBox.out
            have HT := Lib.hid (show d ++ numsB U (ns.take (i + 1)) = (d ++ numsB U (ns.take i)) ++ beL U (nat ns i) by rw [numsB_succ U ns i hlt, List.append_assoc])
            have HLl := Lib.hid (show (d ++ numsB U (ns.take i)).length ≤ 1099511627776 by have := HD.out; have := HL.out; rw [List.length_append, numsB_length, List.length_take]; have : U * min i ns.length ≤ 8 * 1073741824 := Nat.mul_le_mul (by omega) (by omega); omega)
            generalize d ++ numsB U (ns.take i) = l at *
            generalize nat ns i = x at *
            have HP := Lib.hid (put_any (.slice al (bv l).length cl) l U x (w.heap.size + 1) wr HOw.out HSr.out (by omega) HLl.out)
            go_wp2_with fail
            refine HP.out.mono ?_
            rintro e w3 ⟨a3, c3, rfl, ho3, hb3⟩
            rw [← HT.out] at ho3 ⊢
            have HO3 := Lib.hid ho3
            have HB3 := Lib.hid (HB2.out.trans hb3)
            clear ho3 hb3
            go_wp2_with fail
            go_roundw
            case rel => exact ⟨i + 1, by omega, by go_num, HO3.out, HB3.out⟩
            case measure => simp [intOf]; omega
          · obtain rfl : i = ns.length := by omega
            have hlt' : ¬ ((ns.length : Nat) : Int) < ((nv ns).length : Nat) := by rw [nv_length]; omega
            rw [List.take_length] at HOw ⊢
            go_wp2_with fail
            go_ret2
            exact NumSays.good HQ.out (ownsRow_mono HOw.out (by omega)) HAll.out
theorem fits_shr (U x : Nat) : fitsB U x = true ↔ ¬ (0 : Int) < (x : Int) / 2 ^ (8 * U) := by
  unfold fitsB
  rw [decide_eq_true_iff, show (2 : Int) ^ (8 * U) = ((2 ^ (8 * U) : Nat) : Int) by simp, Nat.pow_mul, ← Int.natCast_ediv]
  show x < 256 ^ U ↔ ¬ (0 : Int) < ((x / 256 ^ U : Nat) : Int)
  have hp : 0 < 256 ^ U := Nat.pow_pos (by omega)
  constructor
  · intro h; rw [Nat.div_eq_of_lt h]; omega
  · intro h
    have h0 : x / 256 ^ U = 0 := by
      apply Nat.eq_zero_of_not_pos
      intro hq
      exact h (Int.natCast_pos.2 hq)
    exact (Nat.div_eq_zero_iff_lt hp).1 h0
theorem fits_8 (x : Nat) (h : x < 18446744073709551616) : fitsB 8 x = true := decide_eq_true h
end Go.Proofs.YtanodhagpegbfaaDoor
/- bytes.Buffer at this program: the kit's contracts on Write and Bytes, and a write of no bytes. -/
namespace Go.Proofs.YtanodhagpegbfaaDoor
open Go Go.RowKit Go.Shelf
/-- The kit's numbers, as they are here. -/
def bufRen : Ren :=
  ⟨fun x => match x with
    | 180 => 86
    | 181 => 112
    | 183 => 88
    | 184 => 113
    | 251 => 105
    | 252 => 106
    | 290 => 114
    | 324 => 118
    | n => n,
  fun x => match x with
    | 0 => 0
    | 3 => 3
    | 4 => 4
    | 5 => 5
    | 9 => 9
    | 20 => 20
    | 37 => 24
    | 75 => 111
    | 80 => 151
    | 91 => 107
    | 93 => 109
    | 130 => 133
    | 131 => 134
    | n => n,
  fun x => match x with
    | 14 => 1
    | n => n⟩
theorem buf180 : LaysM.n180 Tryd.prog bufRen :=
  { mixed := by kernel_rfl, f180 := Tryd.func86, f181 := Tryd.func112, f184 := Tryd.func113, f251 := Tryd.func105, f252 := Tryd.func106, f290 := Tryd.func114, f324 := Tryd.func118,
    t0 := Tryd.underlying0, a0 := Tryd.isAgg0, z0 := Tryd.sizeOf0, v0 := Tryd.zeroValue0,
    t3 := Tryd.underlying3, a3 := Tryd.isAgg3, z3 := Tryd.sizeOf3, v3 := Tryd.zeroValue3,
    t4 := Tryd.underlying4, a4 := Tryd.isAgg4, z4 := Tryd.sizeOf4, v4 := Tryd.zeroValue4,
    t20 := Tryd.underlying20, a20 := Tryd.isAgg20, z20 := Tryd.sizeOf20, v20 := Tryd.zeroValue20,
    t37 := Tryd.underlying24, a37 := Tryd.isAgg24, z37 := Tryd.sizeOf24, v37 := Tryd.zeroValue24,
    t75 := Tryd.underlying111, a75 := Tryd.isAgg111, z75 := Tryd.sizeOf111, v75 := Tryd.zeroValue111,
    t91 := Tryd.underlying107, a91 := Tryd.isAgg107, z91 := Tryd.sizeOf107, v91 := Tryd.zeroValue107,
    t93 := Tryd.underlying109, a93 := Tryd.isAgg109, z93 := Tryd.sizeOf109, v93 := Tryd.zeroValue109,
    t130 := Tryd.underlying133, a130 := Tryd.isAgg133, z130 := Tryd.sizeOf133, v130 := Tryd.zeroValue133,
    t131 := Tryd.underlying134, a131 := Tryd.isAgg134, z131 := Tryd.sizeOf134, v131 := Tryd.zeroValue134,
    t5 := Tryd.underlying5, a5 := Tryd.isAgg5, z5 := Tryd.sizeOf5, v5 := Tryd.zeroValue5,
    t9 := Tryd.underlying9, a9 := Tryd.isAgg9, z9 := Tryd.sizeOf9, v9 := Tryd.zeroValue9,
    t80 := Tryd.underlying151, a80 := Tryd.isAgg151, z80 := Tryd.sizeOf151, v80 := Tryd.zeroValue151,
    g14 := by kernel_rfl, m14 := by kernel_rfl, i0 := by kernel_rfl, i3 := by kernel_rfl, i4 := by kernel_rfl, i5 := by kernel_rfl, i9 := by kernel_rfl, i20 := by kernel_rfl, i37 := by kernel_rfl, i75 := by kernel_rfl, i80 := by kernel_rfl, i91 := by kernel_rfl, i93 := by kernel_rfl, i130 := by kernel_rfl, i131 := by kernel_rfl }
theorem buf183 : LaysM.n183 Tryd.prog bufRen :=
  { mixed := by kernel_rfl, f183 := Tryd.func88,
    t0 := Tryd.underlying0, a0 := Tryd.isAgg0, z0 := Tryd.sizeOf0, v0 := Tryd.zeroValue0,
    t3 := Tryd.underlying3, a3 := Tryd.isAgg3, z3 := Tryd.sizeOf3, v3 := Tryd.zeroValue3,
    t37 := Tryd.underlying24, a37 := Tryd.isAgg24, z37 := Tryd.sizeOf24, v37 := Tryd.zeroValue24,
    t93 := Tryd.underlying109, a93 := Tryd.isAgg109, z93 := Tryd.sizeOf109, v93 := Tryd.zeroValue109,
    t130 := Tryd.underlying133, a130 := Tryd.isAgg133, z130 := Tryd.sizeOf133, v130 := Tryd.zeroValue133,
    t5 := Tryd.underlying5, a5 := Tryd.isAgg5, z5 := Tryd.sizeOf5, v5 := Tryd.zeroValue5,
    t91 := Tryd.underlying107, a91 := Tryd.isAgg107, z91 := Tryd.sizeOf107, v91 := Tryd.zeroValue107,
    i0 := by kernel_rfl, i3 := by kernel_rfl, i5 := by kernel_rfl, i37 := by kernel_rfl, i91 := by kernel_rfl, i93 := by kernel_rfl, i130 := by kernel_rfl }
/-- A buffer that this call has made, and what it holds. -/
def Buf (B b : Nat) (xs : List (BitVec 8)) (w : World) : Prop := Lib.IsBuffer 109 5 B b (bv xs) w
theorem Buf.fresh (w : World) : Buf w.heap.size w.heap.size [] (w.alloc (.cells #[.slice none 0 0, .int .i64 0, .int .i8 0] 109)) := Lib.fresh_isBuffer _ _ w
theorem Buf.old {B b : Nat} {xs : List (BitVec 8)} {w w' : World} (h : Buf B b xs w) (hb : Aft w w') : Buf B b xs w' := by
  have hl := Lib.IsBuffer.lt h
  obtain ⟨hB, v, lr, h1, h2, h3⟩ := h
  exact ⟨hB, v, lr, (Below.block hb b hl).trans h1, ownsRow_below h2 (fun g hg => Below.block hb g (own_lt h2 hg).2), h3⟩
theorem bufBytes_any (B b : Nat) (xs : List (BitVec 8)) (w : World) (h : Buf B b xs w) :
    Calls Tryd.prog 88 #[.pointer (some ⟨b, 0, none⟩)] w (RetSl (bv xs).length fun v w' => w'.ownsRow B 5 1 v (bv xs).length (bv xs) ∧ Aft w w') :=
  (Any.Buffer_Bytes buf183 B b (bv xs) w h).mono fun e w' ⟨v, he, ho, n, hw⟩ => by
    obtain ⟨a, c, rfl⟩ := own_shape ho
    exact ⟨a, c, he, ho, by rw [hw]; exact ⟨rfl, rfl, rfl, Nat.le_refl _, fun _ _ => rfl⟩⟩
set_option maxRecDepth 100000 in
set_option maxHeartbeats 1000000 in
theorem bufWrite_nil (B b cap : Nat) (ao : Option Addr) (xs : List (BitVec 8)) (w : World) (h : Buf B b xs w) :
    Calls Tryd.prog 86 #[.pointer (some ⟨b, 0, none⟩), .slice ao 0 cap] w fun e w' => e = .returned (.tuple #[.int .i64 0, .nilIface]) ∧ Buf B b xs w' ∧ Below B w w' := by
  have h0 : Lib.IsBuffer 109 5 B b (bv xs) w := h
  have hs := h0.setLast 0
  obtain ⟨hB, v0, lr, hbk, -, -⟩ := h0
  have c2 : w.cell? ⟨b, 2, none⟩ = some (.int .i8 lr) := by rw [Lib.cell_of_heap hbk]; rfl
  have f2 : w.frozen? ⟨b, 2, none⟩ = false := Lib.frozen_of_heap hbk 2
  have HF := Lib.hid (show Below B w (w.setCell ⟨b, 2, none⟩ (.int .i8 0)) from (Below.refl B w).setCell (p := ⟨b, 2, none⟩) hB _)
  have HT := Lib.hid (Any.Buffer_tryGrow_own { buf180 with } B b 0 (bv xs) _ hs)
  have hcp := fun (d : Option Addr) (n c : Nat) (W : World) => run_copy_none (P := Tryd.prog) (ty := 3) W 24 24 5 d ao n c 0 cap Tryd.underlying24 (by kernel_rfl) (Nat.zero_min n)
  clear hs hbk h
  go_enter Tryd.func86, Tryd.ntmps86
  go_wp2_with fail
  refine HT.out.mono ?_
  rintro e W1 (⟨rfl, ys, hyl, hI, hbel, -, -⟩ | ⟨rfl, rfl, hnr⟩)
  · obtain rfl : ys = [] := List.eq_nil_of_length_eq_zero hyl
    rw [List.append_nil] at hI
    have HI := Lib.hid hI
    have HB := Lib.hid (HF.out.trans hbel)
    obtain ⟨-, v1, lr1, hb1, ho1, -⟩ := hI
    obtain ⟨a1, c1, rfl⟩ := own_shape ho1
    have d0 : W1.cell? ⟨b, 0, none⟩ = some (.slice a1 (bv xs).length c1) := by rw [Lib.cell_of_heap hb1]; rfl
    have hsl := (Rd.of_own ho1).sl
    obtain ⟨iB, hiB, hz1, hz2, -⟩ := info_parts info_byte
    have hcut := fun (wx : World) => cut_from (P := Tryd.prog) (ao := a1) (len := (bv xs).length) (cap := c1) (n := (bv xs).length) Tryd.underlying24 (Nat.le_refl _) wx hiB hz2
    have hcut2 : ∀ wx, (Instr.slice 24 (.slice a1 (bv xs).length c1) (some (.int .i64 ((bv xs).length : Int))) none none).run Tryd.prog wx = .ok (.slice (if c1 = (bv xs).length then a1 else a1.map (·.add (bv xs).length)) ((bv xs).length - (bv xs).length) (c1 - (bv xs).length)) wx := fun wx => by
      rw [← run_sliceAt_slice wx 24 _ _ _ _ Tryd.underlying24]; exact hcut wx
    clear hb1 ho1 hbel hcut hsl hz1 hz2 hiB
    go_wp2_with fail
    all_goals
      go_ret2
      exact ⟨rfl, HI.out, HB.out⟩
  · obtain ⟨_, _, _, _, hlt⟩ := hnr
    omega
theorem bufWrite_any (B b : Nat) (vp : Value) (xs ys : List (BitVec 8)) (w : World) (h : Buf B b xs w) (hBw : B ≤ w.heap.size) (hrd : Rd w vp (bv ys)) (hne : ∀ g, vp.ownBlock = some g → bv ys ≠ [] → g ≠ b) (hlim : xs.length + ys.length ≤ 140737488355328) :
    Calls Tryd.prog 86 #[.pointer (some ⟨b, 0, none⟩), vp] w fun e w' => e = .returned (.tuple #[.int .i64 ys.length, .nilIface]) ∧ Buf B b (xs ++ ys) w' ∧ Below B w w' := by
  obtain ⟨ao, cap, rfl, h1, h2, h3, h4⟩ := hrd
  cases ys with
  | nil => rw [List.append_nil]; exact bufWrite_nil B b cap ao xs w h
  | cons y ys =>
    cases ao with
    | none =>
      have := h3 rfl
      rw [bv_length, List.length_cons] at h1
      omega
    | some a =>
      refine (Any.Buffer_Write_any buf180 B b (bv xs) (bv (y :: ys)) a (bv (y :: ys)).length cap w h hBw (bv_one xs) rfl (hne a.block rfl (by simp [bv])) (h4 a rfl) (bv_one _) (by rw [bv_length, bv_length]; exact hlim)).mono fun e w' hh => ?_
      obtain ⟨he, hi, hb, -⟩ := hh
      refine ⟨by rw [he, bv_length], ?_, hb⟩
      unfold Buf
      rw [bv_append]
      exact hi
end Go.Proofs.YtanodhagpegbfaaDoor
/- wire.Text, and coterieref01.Text: texts written. -/
namespace Go.Proofs.YtanodhagpegbfaaDoor
open Go Go.RowKit
/-- A text of a list. -/
def txt (ts : List (List (BitVec 8))) (i : Nat) : List (BitVec 8) := ts.getD i []
def textsB (ts : List (List (BitVec 8))) : List (BitVec 8) := ts.flatMap fun t => beL 2 t.length ++ t
theorem textsB_succ (ts : List (List (BitVec 8))) (i : Nat) (h : i < ts.length) : textsB (ts.take (i + 1)) = textsB (ts.take i) ++ (beL 2 (txt ts i).length ++ txt ts i) := by
  unfold textsB txt
  rw [List.take_add_one, List.getElem?_eq_getElem h, List.flatMap_append, List.getD_eq_getElem?_getD, List.getElem?_eq_getElem h]
  simp
def textOk (ts : List (List (BitVec 8))) : Bool := ts.all fun t => decide (t.length ≤ 65535)
theorem textOk_true {ts : List (List (BitVec 8))} (h : ∀ j, j < ts.length → (txt ts j).length ≤ 65535) : textOk ts = true := by
  unfold textOk
  rw [List.all_eq_true]
  intro x hx
  obtain ⟨i, hi, rfl⟩ := List.mem_iff_getElem.1 hx
  have := h i hi
  simp only [txt, List.getD_eq_getElem?_getD, List.getElem?_eq_getElem hi, Option.getD_some] at this
  exact decide_eq_true this
theorem textOk_false {ts : List (List (BitVec 8))} {j : Nat} (hj : j < ts.length) (h : ¬ (txt ts j).length ≤ 65535) : textOk ts = false := by
  unfold textOk
  rw [List.all_eq_false]
  refine ⟨ts[j], List.getElem_mem hj, ?_⟩
  simp only [txt, List.getD_eq_getElem?_getD, List.getElem?_eq_getElem hj, Option.getD_some] at h
  simpa using h
theorem textsB_le (ts : List (List (BitVec 8))) : ∀ i, i ≤ ts.length → (∀ j, j < i → (txt ts j).length ≤ 65535) → (textsB (ts.take i)).length ≤ 65537 * i
  | 0, _, _ => by simp [textsB]
  | i + 1, hi, h => by
    rw [textsB_succ ts i hi, List.length_append, List.length_append, beL_length]
    have := textsB_le ts i (by omega) (fun j hj => h j (by omega))
    have := h i (by omega)
    omega
def textErr (ts : List (List (BitVec 8))) : Int := if textOk ts then 0 else 4
def textB (d : List (BitVec 8)) (ts : List (List (BitVec 8))) : List (BitVec 8) := if textOk ts then d ++ textsB ts else []
/-- What Text hands back. -/
def TextSays (d : List (BitVec 8)) (ts : List (List (BitVec 8))) (w : World) (e : Ending) (w' : World) : Prop :=
  ∃ ao cap, e = .returned (.tuple #[.slice ao (bv (textB d ts)).length cap, .int .i64 (textErr ts)]) ∧ w'.ownsRow w.heap.size 5 1 (.slice ao (bv (textB d ts)).length cap) (bv (textB d ts)).length (bv (textB d ts)) ∧ Below w.heap.size w w'
theorem TextSays.bad {d : List (BitVec 8)} {ts : List (List (BitVec 8))} {w w' : World} (h : textOk ts = false) (hb : Below w.heap.size w w') : TextSays d ts w (.returned (.tuple #[.slice none 0 0, .int .i64 4])) w' := by
  refine ⟨none, 0, ?_, ?_, hb⟩ <;> simp only [textB, textErr, h] <;> first | rfl | exact World.ownsRow_nil _ _ _ _
theorem TextSays.good {d : List (BitVec 8)} {ts : List (List (BitVec 8))} {w w' : World} {v : Value} (h : textOk ts = true) (ho : w'.ownsRow w.heap.size 5 1 v (bv (d ++ textsB ts)).length (bv (d ++ textsB ts))) (hb : Below w.heap.size w w') :
    TextSays d ts w (.returned (.tuple #[v, .int .i64 0])) w' := by
  have hB : textB d ts = d ++ textsB ts := by unfold textB; rw [if_pos h]
  obtain ⟨a, c, rfl⟩ := own_shape ho
  refine ⟨a, c, ?_, ?_, hb⟩
  · rw [hB]; unfold textErr; rw [if_pos h]
  · rw [hB]; exact ho
set_option maxRecDepth 100000 in
set_option maxHeartbeats 1000000 in
theorem text_any (vb vp : Value) (d : List (BitVec 8)) (ts : List (List (BitVec 8))) (w : World) (hb : Rd w vb (bv d)) (hp : RdAll w vp ts) (hd : d.length ≤ 1073741824) (hl : ts.length ≤ 16777216) :
    Calls Tryd.prog 66 #[vb, vp] w (TextSays d ts w) := by
  have HB := Lib.hid hb
  have HP := Lib.hid hp
  have HL := Lib.hid hl
  have HD := Lib.hid hd
  obtain ⟨ab, cb, rfl, -, -, -, -⟩ := hb
  obtain ⟨ap, cp, rfl, -⟩ := hp.shape
  have HF := Lib.hid (Aft.alloc w (.cells #[.slice none 0 0, .int .i64 0, .int .i8 0] 109))
  have HW1 := Lib.hid (bufWrite_any w.heap.size w.heap.size (.slice ab (bv d).length cb) [] d _ (Buf.fresh w) (by rw [World.size_alloc]; omega) (HB.out.grow HF.out) (fun g hg hx => by have := HB.out.lt hg hx; omega) (by simp; omega))
  clear hd hl hp
  go_enter Tryd.func66, Tryd.ntmps66
  go_wp2_with fail
  refine HW1.out.mono ?_
  rintro e w2 ⟨rfl, hbuf, hb2⟩
  rw [List.nil_append] at hbuf
  have HBuf := Lib.hid hbuf
  have HF2 := Lib.hid (show Below w.heap.size w w2 from Below.trans HF.out hb2)
  clear hbuf hb2
  go_wp2_with fail
  go_loopw [13] (fun v13 wr => ∃ i : Nat, i ≤ ts.length ∧ v13 = .int .i64 i ∧ Buf w.heap.size w.heap.size (d ++ textsB (ts.take i)) wr ∧ Below w.heap.size w wr ∧ ∀ j, j < i → (txt ts j).length ≤ 65535) (fun v _ => ts.length - (intOf v).toNat)
  case atStart => exact ⟨0, by omega, rfl, by simp only [textsB, List.take_zero, List.flatMap_nil, List.append_nil]; exact HBuf.out, HF2.out, fun j hj => by omega⟩
  case round =>
    obtain ⟨i, hi, rfl, hbuf, hbw, hall⟩ := hrel
    have HBf := Lib.hid hbuf
    have HBw := Lib.hid hbw
    have HAll := Lib.hid hall
    clear hbuf hbw hall
    by_cases hlt : i < ts.length
    · obtain ⟨g, o, cap', u, hvv, hcc, hu⟩ := (HP.out.below HBw.out).cell hlt
      cases hvv
      have hu1 : ∀ g, u.ownBlock = some g → bv (ts.getD i []) ≠ [] → g < w.heap.size := fun g hg hx => HP.out.elem_lt HBw.out hlt rfl hcc g hg hx
      have hlt' : (i : Int) < (ts.length : Nat) := by omega
      have hi63 : (i : Int) + 1 ≤ 9223372036854775807 := by have := HL.out; omega
      have HU := Lib.hid hu
      have HU1 := Lib.hid hu1
      have HLe := Lib.hid (textsB_le ts i hi HAll.out)
      have HTS := Lib.hid (textsB_succ ts i hlt)
      have HBad := Lib.hid (@textOk_false ts i hlt)
      have HGood := Lib.hid (fun (h : (txt ts i).length ≤ 65535) => (fun j (hj : j < i + 1) => by
        by_cases hj2 : j < i
        · exact HAll.out j hj2
        · obtain rfl : j = i := by omega
          exact h : ∀ j, j < i + 1 → (txt ts j).length ≤ 65535))
      obtain ⟨au, cu, rfl, -, -, -, -⟩ := hu
      clear hu1
      change Hid (Rd wr (.slice au (bv (txt ts i)).length cu) (bv (txt ts i))) at HU
      change Hid (∀ g, Value.ownBlock (.slice au (bv (txt ts i)).length cu) = some g → bv (txt ts i) ≠ [] → g < w.heap.size) at HU1
      have hbl := bv_length (txt ts i)
      change wr.cell? _ = some (.slice au (bv (txt ts i)).length cu) at hcc
      generalize txt ts i = x at *
      generalize textsB (ts.take i) = T at *
      rw [hbl] at hcc HU HU1
      clear hbl
      by_cases hlong : x.length ≤ 65535
      · have hlong' : ¬ (65535 : Int) < (x.length : Int) := by omega
        have HLo := Lib.hid hlong
        have HBl := Lib.hid (show (d ++ T).length ≤ 1101000000000 by have := HD.out; have := HLe.out; have := HL.out; rw [List.length_append]; omega)
        have HP2 := Lib.hid (put_any (.slice none 0 0) [] 2 x.length wr.heap.size wr (World.ownsRow_nil _ _ _ _) (Nat.le_refl _) (by omega) (by simp))
        have HSz := Lib.hid (Below.size HBw.out)
        have HBlt := Lib.hid (show w.heap.size < wr.heap.size from Lib.IsBuffer.lt HBf.out)
        clear hlong
        go_wp2_with fail
        refine HP2.out.mono ?_
        rintro e w3 ⟨a3, c3, rfl, ho3, hb3⟩
        rw [List.nil_append] at ho3
        have HB3 := Lib.hid (show Below w.heap.size w w3 from HBw.out.trans (Below.mono hb3 HSz.out))
        have HWr := Lib.hid (bufWrite_any w.heap.size w.heap.size (.slice a3 (bv (beL 2 x.length)).length c3) (d ++ T) (beL 2 x.length) w3 (HBf.out.old hb3) (Below.size HB3.out) (Rd.of_own ho3) (fun g hg hx => by have := (own_lt ho3 hg).1; have := HBlt.out; omega) (by rw [beL_length]; have := HBl.out; omega))
        have H33 := Lib.hid hb3
        clear ho3 hb3
        rw [List.nil_append]
        go_wp2_with fail
        refine HWr.out.mono ?_
        rintro e w4 ⟨rfl, hbuf4, hb4⟩
        have HB4 := Lib.hid (HB3.out.trans hb4)
        have hr4 := HU.out.below (Below.trans (Below.mono H33.out HSz.out) hb4) (fun g hg hx => HU1.out g hg hx)
        have HWx := Lib.hid (bufWrite_any w.heap.size w.heap.size (.slice au x.length cu) (d ++ T ++ beL 2 x.length) x w4 hbuf4 (Below.size HB4.out) hr4 (fun g hg hx => by have := HU1.out g hg hx; omega) (by rw [List.length_append, beL_length]; have := HBl.out; have := HLo.out; omega))
        have HTx := Lib.hid (show d ++ T ++ beL 2 x.length ++ x = d ++ (T ++ (beL 2 x.length ++ x)) by simp only [List.append_assoc])
        clear hbuf4 hb4 hr4
        go_wp2_with fail
        refine HWx.out.mono ?_
        rintro e w5 ⟨rfl, hbuf5, hb5⟩
        rw [HTx.out, ← HTS.out] at hbuf5
        have HBf5 := Lib.hid hbuf5
        have HB5 := Lib.hid (HB4.out.trans hb5)
        have HG := Lib.hid (HGood.out HLo.out)
        clear hbuf5 hb5
        go_wp2_with fail
        go_roundw
        case rel => exact ⟨i + 1, by omega, by go_num, HBf5.out, HB5.out, HG.out⟩
        case measure => simp [intOf]; omega
      · have hlong' : (65535 : Int) < (x.length : Int) := by omega
        have HQ := Lib.hid (HBad.out hlong)
        clear hlong
        go_wp2_with fail
        go_ret2
        exact TextSays.bad HQ.out HBw.out
    · obtain rfl : i = ts.length := by omega
      have hlt' : ¬ ((ts.length : Nat) : Int) < (ts.length : Nat) := by omega
      have HQ := Lib.hid (textOk_true HAll.out)
      have hbf := HBf.out
      rw [List.take_length] at hbf
      have HBy := Lib.hid (bufBytes_any w.heap.size w.heap.size (d ++ textsB ts) wr hbf)
      clear hbf
      go_wp2_with fail
      refine HBy.out.mono ?_
      rintro e w3 ⟨a3, c3, rfl, ho3, hb3⟩
      have HO3 := Lib.hid ho3
      have HB3 := Lib.hid (HBw.out.trans (Below.mono hb3 (Below.size HBw.out)))
      clear ho3 hb3
      go_wp2_with fail
      go_ret2
      exact TextSays.good HQ.out HO3.out HB3.out
set_option maxRecDepth 100000 in
set_option maxHeartbeats 1000000 in
theorem refText_any (vb vp : Value) (d : List (BitVec 8)) (ts : List (List (BitVec 8))) (w : World) (hb : Rd w vb (bv d)) (hp : RdAll w vp ts) (hd : d.length ≤ 1073741824) (hl : ts.length ≤ 16777216) :
    Calls Tryd.prog 22 #[vb, vp] w (TextSays d ts w) := by
  have HB := Lib.hid hb
  have HP := Lib.hid hp
  have HL := Lib.hid hl
  have HD := Lib.hid hd
  obtain ⟨ab, cb, rfl, -, -, -, -⟩ := hb
  obtain ⟨ap, cp, rfl, -⟩ := hp.shape
  clear hd hl hp
  go_enter Tryd.func22, Tryd.ntmps22
  go_wp2_with fail
  refine (copy_any _ d w HB.out (by have := HD.out; omega)).mono ?_
  rintro e w2 ⟨a2, c2, rfl, ho2, hb2⟩
  have HO2 := Lib.hid ho2
  have HF2 := Lib.hid (show Below w.heap.size w w2 from hb2)
  clear ho2 hb2
  go_wp2_with fail
  go_loopw [6, 13] (fun v6 v13 wr => ∃ i : Nat, i ≤ ts.length ∧ v13 = .int .i64 i ∧ wr.ownsRow w.heap.size 5 1 v6 (bv (d ++ textsB (ts.take i))).length (bv (d ++ textsB (ts.take i))) ∧ Below w.heap.size w wr ∧ ∀ j, j < i → (txt ts j).length ≤ 65535) (fun _ v _ => ts.length - (intOf v).toNat)
  case atStart => exact ⟨0, by omega, rfl, by simp only [textsB, List.take_zero, List.flatMap_nil, List.append_nil]; exact HO2.out, HF2.out, fun j hj => by omega⟩
  case round =>
    obtain ⟨i, hi, rfl, hown, hbw, hall⟩ := hrel
    have HOw := Lib.hid hown
    have HBw := Lib.hid hbw
    have HAll := Lib.hid hall
    obtain ⟨al, cl, rfl⟩ := own_shape hown
    clear hown hbw hall
    by_cases hlt : i < ts.length
    · obtain ⟨g, o, cap', u, hvv, hcc, hu⟩ := (HP.out.below HBw.out).cell hlt
      cases hvv
      have hlt' : (i : Int) < (ts.length : Nat) := by omega
      have hi63 : (i : Int) + 1 ≤ 9223372036854775807 := by have := HL.out; omega
      have hu1 : ∀ g, u.ownBlock = some g → bv (ts.getD i []) ≠ [] → g < w.heap.size := fun g hg hx => HP.out.elem_lt HBw.out hlt rfl hcc g hg hx
      have HU := Lib.hid hu
      have HU1 := Lib.hid hu1
      have HLe := Lib.hid (textsB_le ts i hi HAll.out)
      have HTS := Lib.hid (textsB_succ ts i hlt)
      have HBad := Lib.hid (@textOk_false ts i hlt)
      have HGood := Lib.hid (fun (h : (txt ts i).length ≤ 65535) => (fun j (hj : j < i + 1) => by
        by_cases hj2 : j < i
        · exact HAll.out j hj2
        · obtain rfl : j = i := by omega
          exact h : ∀ j, j < i + 1 → (txt ts j).length ≤ 65535))
      obtain ⟨au, cu, rfl, -, -, -, -⟩ := hu
      clear hu1
      change Hid (Rd wr (.slice au (bv (txt ts i)).length cu) (bv (txt ts i))) at HU
      change Hid (∀ g, Value.ownBlock (.slice au (bv (txt ts i)).length cu) = some g → bv (txt ts i) ≠ [] → g < w.heap.size) at HU1
      have hbl := bv_length (txt ts i)
      change wr.cell? _ = some (.slice au (bv (txt ts i)).length cu) at hcc
      generalize txt ts i = x at *
      generalize textsB (ts.take i) = T at *
      rw [hbl] at hcc HU HU1
      clear hbl
      by_cases hlong : x.length ≤ 65535
      · have hlong' : ¬ (65535 : Int) < (x.length : Int) := by omega
        have HLo := Lib.hid hlong
        have HBl := Lib.hid (show (bv (d ++ T)).length ≤ 1101000000000 by have := HD.out; have := HLe.out; have := HL.out; rw [bv_length, List.length_append]; omega)
        have HBy := Lib.hid (refBytes_any 2 x.length wr (by omega) (by omega))
        have HSz := Lib.hid (Below.size HBw.out)
        clear hlong
        go_wp2_with fail
        refine HBy.out.mono ?_
        rintro e w3 ⟨a3, c3, rfl, ho3, hb3⟩
        have HO3 := Lib.hid (ownsRow_below HOw.out (w' := w3) fun g hg => Below.block hb3 g (own_lt HOw.out hg).2)
        have HR3 := Lib.hid (Rd.of_own ho3)
        have HB3 := Lib.hid (show Below w.heap.size w w3 from HBw.out.trans (Below.mono hb3 HSz.out))
        have HU3 := Lib.hid (HU.out.grow hb3)
        have H2 := Lib.hid (show (bv (beL 2 x.length)).length = 2 by rw [bv_length, beL_length])
        have HXl := Lib.hid (bv_length x)
        have HTx := Lib.hid (show d ++ (T ++ (beL 2 x.length ++ x)) = (d ++ T) ++ beL 2 x.length ++ x by simp only [List.append_assoc])
        clear ho3 hb3
        go_wp2_with (first
          | (at_builtin; refine wpList_append_rd rfl _ _ 24 rfl w.heap.size 5 (.int .u8 0) 1 Tryd.underlying24 info_byte rfl (.slice al (bv (d ++ T)).length cl) (.slice a3 (bv (beL 2 x.length)).length c3) (bv (d ++ T)) (bv (beL 2 x.length)) rfl rfl HO3.out HR3.out (bv_one _) (by have := HBl.out; have := H2.out; omega) (by have := HBl.out; have := H2.out; omega) (Below.size HB3.out) ?_; intro v4 w4 k1 k2 k3; have HO4 := Lib.hid (show w4.ownsRow w.heap.size 5 1 v4 (bv ((d ++ T) ++ beL 2 x.length)).length (bv ((d ++ T) ++ beL 2 x.length)) by rw [bv_append _ (beL 2 x.length)]; exact k1); have h34 := (show Below w.heap.size w3 w4 from (Below.refl w.heap.size w3).grown k2 (Below.size HB3.out) (fun g hg => (own_lt HO3.out hg).1)); have HB4 := Lib.hid (HB3.out.trans h34); have HU4 := Lib.hid (HU3.out.below h34 (fun g hg hx => HU1.out g hg hx)); clear k1 k2 k3 h34)
          | (at_builtin; refine wpList_append_rd rfl _ _ 24 rfl w.heap.size 5 (.int .u8 0) 1 Tryd.underlying24 info_byte rfl v4 (.slice au x.length cu) (bv ((d ++ T) ++ beL 2 x.length)) (bv x) rfl rfl HO4.out HU4.out (bv_one _) (by have := HBl.out; have := H2.out; have := HXl.out; have := HLo.out; rw [bv_append, List.length_append]; omega) (by have := HBl.out; have := H2.out; have := HXl.out; have := HLo.out; rw [bv_append, List.length_append]; omega) (Below.size HB4.out) ?_; intro v5 w5 k1 k2 k3; have HO5 := Lib.hid (show w5.ownsRow w.heap.size 5 1 v5 (bv (d ++ textsB (ts.take (i + 1)))).length (bv (d ++ textsB (ts.take (i + 1)))) by rw [HTS.out, HTx.out, bv_append _ x]; exact k1); have HB5 := Lib.hid (HB4.out.grown k2 (Below.size HB4.out) (fun g hg => (own_lt HO4.out hg).1)); clear k1 k2 k3))
        have HG := Lib.hid (HGood.out HLo.out)
        go_roundw
        case rel => exact ⟨i + 1, by omega, by go_num, HO5.out, HB5.out, HG.out⟩
        case measure => simp [intOf]; omega
      · have hlong' : (65535 : Int) < (x.length : Int) := by omega
        have HQ := Lib.hid (HBad.out hlong)
        clear hlong
        go_wp2_with fail
        go_ret2
        exact TextSays.bad HQ.out HBw.out
    · obtain rfl : i = ts.length := by omega
      have hlt' : ¬ ((ts.length : Nat) : Int) < (ts.length : Nat) := by omega
      have HQ := Lib.hid (textOk_true HAll.out)
      rw [List.take_length] at HOw ⊢
      go_wp2_with fail
      go_ret2
      exact TextSays.good HQ.out HOw.out HBw.out
end Go.Proofs.YtanodhagpegbfaaDoor
/- coterielaw01.live: the chapter's examples hold. -/
namespace Go.Proofs.YtanodhagpegbfaaDoor
open Go Go.RowKit
theorem num300 : numErr 2 [300] = 0 ∧ numB [] 2 [300] = [1, 44] := by decide
theorem text78 : textErr [[7, 8]] = 0 ∧ textB [] [[7, 8]] = [0, 2, 7, 8] := by decide
end Go.Proofs.YtanodhagpegbfaaDoor
/- coterielaw01.WireOrder: it answers true. -/
namespace Go.Proofs.YtanodhagpegbfaaDoor
open Go Go.RowKit
theorem mod_succ (n W : Nat) : n % 256 ^ (W + 1) = (n / 256 ^ W % 256) * 256 ^ W + n % 256 ^ W := by
  rw [Nat.pow_succ, Nat.mod_mul, Nat.mul_comm, Nat.add_comm]
theorem u8_nat (x : Nat) : (UInt8.ofBitVec (BitVec.ofNat 8 x)).toNat = x % 256 := by
  show (BitVec.ofNat 8 x).toNat = _
  rw [BitVec.toNat_ofNat]
theorem u8_lt (x y : Nat) : UInt8.ofBitVec (BitVec.ofNat 8 x) < UInt8.ofBitVec (BitVec.ofNat 8 y) ↔ x % 256 < y % 256 := by
  rw [UInt8.lt_iff_toNat_lt, u8_nat, u8_nat]
theorem u8_eq (x y : Nat) : (UInt8.ofBitVec (BitVec.ofNat 8 x) == UInt8.ofBitVec (BitVec.ofNat 8 y)) = decide (x % 256 = y % 256) := by
  by_cases h : x % 256 = y % 256
  · rw [decide_eq_true h, beq_iff_eq]
    apply UInt8.toNat_inj.1
    rw [u8_nat, u8_nat, h]
  · rw [decide_eq_false h, beq_eq_false_iff_ne]
    intro e
    have := congrArg UInt8.toNat e
    rw [u8_nat, u8_nat] at this
    exact h this
theorem two_lt (p q r s P : Nat) (hr : r < P) (hs : s < P) : p * P + r < q * P + s ↔ p < q ∨ (p = q ∧ r < s) := by
  constructor
  · intro h
    by_cases h1 : p < q
    · exact .inl h1
    · by_cases h2 : p = q
      · subst h2; exact .inr ⟨rfl, by omega⟩
      · have h3 : (q + 1) * P ≤ p * P := Nat.mul_le_mul_right P (by omega)
        rw [Nat.add_mul, Nat.one_mul] at h3
        omega
  · rintro (h | ⟨rfl, h⟩)
    · have h3 : (p + 1) * P ≤ q * P := Nat.mul_le_mul_right P (by omega)
      rw [Nat.add_mul, Nat.one_mul] at h3
      omega
    · omega
theorem less_be : ∀ W a b : Nat, Op.bytesLess ((beL W a).map UInt8.ofBitVec) ((beL W b).map UInt8.ofBitVec) = decide (a % 256 ^ W < b % 256 ^ W)
  | 0, a, b => by rw [Nat.pow_zero, Nat.mod_one, Nat.mod_one]; rfl
  | W + 1, a, b => by
    have hp : 0 < 256 ^ W := Nat.pow_pos (by omega)
    rw [beL, beL, List.map_cons, List.map_cons, Op.bytesLess, less_be W a b, u8_eq, mod_succ a, mod_succ b]
    have h := two_lt (a / 256 ^ W % 256) (b / 256 ^ W % 256) (a % 256 ^ W) (b % 256 ^ W) (256 ^ W) (Nat.mod_lt _ hp) (Nat.mod_lt _ hp)
    have h2 := u8_lt (a / 256 ^ W) (b / 256 ^ W)
    rw [Bool.eq_iff_iff, decide_eq_true_iff, h, Bool.or_eq_true, Bool.and_eq_true, decide_eq_true_iff, decide_eq_true_iff, decide_eq_true_iff, h2]
theorem beL_inj : ∀ W a b : Nat, beL W a = beL W b ↔ a % 256 ^ W = b % 256 ^ W
  | 0, a, b => by rw [Nat.pow_zero, Nat.mod_one, Nat.mod_one]; simp [beL]
  | W + 1, a, b => by
    have hp : 0 < 256 ^ W := Nat.pow_pos (by omega)
    rw [beL, beL, List.cons.injEq, beL_inj W a b, mod_succ a, mod_succ b]
    have e : BitVec.ofNat 8 (a / 256 ^ W) = BitVec.ofNat 8 (b / 256 ^ W) ↔ a / 256 ^ W % 256 = b / 256 ^ W % 256 := by
      constructor
      · intro h; have := congrArg BitVec.toNat h; simpa using this
      · intro h; apply BitVec.eq_of_toNat_eq; simpa using h
    rw [e]
    have h1 := two_lt (a / 256 ^ W % 256) (b / 256 ^ W % 256) (a % 256 ^ W) (b % 256 ^ W) (256 ^ W) (Nat.mod_lt _ hp) (Nat.mod_lt _ hp)
    have h2 := two_lt (b / 256 ^ W % 256) (a / 256 ^ W % 256) (b % 256 ^ W) (a % 256 ^ W) (256 ^ W) (Nat.mod_lt _ hp) (Nat.mod_lt _ hp)
    constructor
    · rintro ⟨h, k⟩; rw [h, k]
    · intro h
      have n1 : ¬ (a / 256 ^ W % 256 < b / 256 ^ W % 256 ∨ (a / 256 ^ W % 256 = b / 256 ^ W % 256 ∧ a % 256 ^ W < b % 256 ^ W)) := fun k => by have := h1.2 k; omega
      have n2 : ¬ (b / 256 ^ W % 256 < a / 256 ^ W % 256 ∨ (b / 256 ^ W % 256 = a / 256 ^ W % 256 ∧ b % 256 ^ W < a % 256 ^ W)) := fun k => by have := h2.2 k; omega
      omega
theorem be_less (U a b : Nat) (ha : a < 256 ^ U) (hb : b < 256 ^ U) : Op.bytesLess (bstr (beL U a)).toList (bstr (beL U b)).toList = decide ((a : Int) < (b : Int)) := by
  rw [bstr_toList, bstr_toList, less_be, Nat.mod_eq_of_lt ha, Nat.mod_eq_of_lt hb]
  exact decide_eq_decide.2 (by omega)
theorem be_same (U a b : Nat) (ha : a < 256 ^ U) (hb : b < 256 ^ U) : decide (beL U a = beL U b) = decide ((a : Int) = (b : Int)) := by
  refine decide_eq_decide.2 ?_
  rw [beL_inj, Nat.mod_eq_of_lt ha, Nat.mod_eq_of_lt hb]
  omega
theorem numOk_one (W : Int) (a : Nat) : numOk W [a] = (decide (1 ≤ W) && (decide (W ≤ 8) && fitsB W.toNat a)) := by simp [numOk, overB]
theorem rd_num (w : World) (a : Nat) : Rd (w.alloc (.cells #[.int .u64 (a : Int)] 37)) (.slice (some ⟨w.heap.size, 0, none⟩) 1 1) (nv [a]) := Rd.lit w #[.int .u64 (a : Int)] 37 1 rfl (by decide)
end Go.Proofs.YtanodhagpegbfaaDoor
/- Numbers and texts read: wire.TakeNum, TakeText, Texts, End, and the document's. -/
namespace Go.Proofs.YtanodhagpegbfaaDoor
open Go Go.RowKit
/-- A number, of its bytes, the highest first. -/
def beN (l : List (BitVec 8)) : Nat := l.foldl (fun n c => n * 256 + c.toNat) 0
theorem beN_snoc (l : List (BitVec 8)) (c : BitVec 8) : beN (l ++ [c]) = beN l * 256 + c.toNat := by simp [beN]
theorem beN_lt : ∀ l : List (BitVec 8), beN l < 256 ^ l.length := by
  intro l
  generalize hn : l.length = n
  induction n generalizing l with
  | zero => rw [List.eq_nil_of_length_eq_zero hn]; decide
  | succ n ih =>
    obtain ⟨m, c, rfl⟩ : ∃ m c, l = m ++ [c] := ⟨l.dropLast, l.getLast (by intro h; simp [h] at hn), (List.dropLast_concat_getLast _).symm⟩
    have hm : m.length = n := by simpa using hn
    have := ih m hm
    have hc := c.isLt
    rw [beN_snoc, Nat.pow_succ]
    omega
/-- What TakeNum hands back: a number, the place behind it, and why not. -/
def takeNum (b : List (BitVec 8)) (p W : Int) : Nat × Int × Int :=
  if p < 0 ∨ (b.length : Int) < p ∨ W < 1 ∨ 8 < W then (0, 0, 1) else if (b.length : Int) - p < W then (0, 0, 2) else (beN ((b.drop p.toNat).take W.toNat), p + W, 0)
/-- A byte of those from a place on. -/
def byteFrom (b : List (BitVec 8)) (p i : Nat) : BitVec 8 := b.getD (p + i) 0
theorem take_from_succ (b : List (BitVec 8)) (p i : Nat) (h : p + i < b.length) : (b.drop p).take (i + 1) = (b.drop p).take i ++ [byteFrom b p i] := by
  rw [List.take_add_one]
  congr 1
  rw [List.getElem?_drop, List.getElem?_eq_getElem h]
  unfold byteFrom
  rw [List.getD_eq_getElem?_getD, List.getElem?_eq_getElem h]
  rfl
theorem takeNum_ok {b : List (BitVec 8)} {p W : Int} (h : (takeNum b p W).2.2 = 0) : 0 ≤ p ∧ 1 ≤ W ∧ W ≤ 8 ∧ p + W ≤ b.length := by
  unfold takeNum at h
  split at h
  · cases h
  · split at h
    · cases h
    · omega
def tnV (x : Nat × Int × Int) : Value := .tuple #[.int .u64 ((x.1 : Nat) : Int), .int .i64 x.2.1, .int .i64 x.2.2]
theorem shl_or (n : Nat) (c : BitVec 8) (hn : n < 72057594037927936) : bits .or .u64 ((n : Int) * 256) (bn c) = ((n * 256 + c.toNat : Nat) : Int) := by
  have hc := c.isLt
  show IntKind.u64.wrap ((BitVec.ofInt 64 ((n : Int) * 256) ||| BitVec.ofInt 64 (bn c)).toNat : Int) = _
  have e1 : (BitVec.ofInt 64 ((n : Int) * 256)).toNat = n <<< 8 := by rw [BitVec.toNat_ofInt, Nat.shiftLeft_eq]; omega
  have e2 : (BitVec.ofInt 64 (bn c)).toNat = c.toNat := by unfold bn; rw [BitVec.toNat_ofInt]; omega
  rw [BitVec.toNat_or, e1, e2, ← Nat.shiftLeft_add_eq_or_of_lt hc, Nat.shiftLeft_eq, IntKind.wrap_u64]
  omega
set_option maxRecDepth 100000 in
theorem cut_lh {w : World} {ao : Option Addr} {len cap p n : Nat} {b : List (BitVec 8)} (h : Rd w (.slice ao len cap) (bv b)) (hj : p + n ≤ b.length) (l r : Int) (hl : l = ((p : Nat) : Int)) (hr : r = ((p + n : Nat) : Int)) :
    ∃ ax, (∀ wx, (Instr.slice 24 (.slice ao len cap) (some (.int .i64 l)) (some (.int .i64 r)) none).run Tryd.prog wx = .ok (.slice ax n (cap - p)) wx) ∧ Rd w (.slice ax n (cap - p)) (bv ((b.drop p).take n)) := by
  subst hl hr
  have hs := h.sl
  rw [bv_length] at hs
  have h1 := (h.from (n := p) (by rw [bv_length]; omega)).to (n := n) (by rw [List.length_drop, bv_length]; omega)
  rw [← bv_drop, ← bv_take] at h1
  refine ⟨_, fun wx => ?_, h1⟩
  obtain ⟨i0, hi, hz1, hz2, hz3⟩ := info_parts info_byte
  have hc : Tryd.prog.cellsOf 5 = 1 := by simp [Program.cellsOf, hi, hz2]
  rw [run_slice_lh wx 24 ao len cap Tryd.underlying24 .i64 .i64 ((p : Nat) : Int) ((p + n : Nat) : Int) (by omega) (by omega) (by omega)]
  rw [show Tryd.prog.elem 24 = 5 from rfl, run_sizeOf wx hi]
  simp only [Result.andThen, sliced, Int.toNat_natCast]
  rw [hc, Nat.mul_one, Nat.add_sub_cancel_left]
theorem sub_at (b : List (BitVec 8)) (p n i : Nat) (h : i < n) : ((b.drop p).take n).getD i 0 = byteFrom b p i := by
  unfold byteFrom
  rw [List.getD_eq_getElem?_getD, List.getElem?_take_of_lt h, List.getElem?_drop, List.getD_eq_getElem?_getD]
/-- A place is one. -/
def plc (p : Int) (n : Nat) : Bool := decide (0 ≤ p ∧ p ≤ (n : Int))
end Go.Proofs.YtanodhagpegbfaaDoor
/- Texts read: wire.TakeText, Texts, End, and the document's; and coterieref01.SameAll. -/
namespace Go.Proofs.YtanodhagpegbfaaDoor
open Go Go.RowKit
/-- What TakeText hands back: a text, the place behind it, and why not. -/
def takeText (b : List (BitVec 8)) (p : Int) : List (BitVec 8) × Int × Int :=
  if (takeNum b p 2).2.2 ≠ 0 then ([], 0, (takeNum b p 2).2.2) else if (b.length : Int) - (takeNum b p 2).2.1 < ((takeNum b p 2).1 : Int) then ([], 0, 2)
  else ((b.drop (takeNum b p 2).2.1.toNat).take (takeNum b p 2).1, (takeNum b p 2).2.1 + ((takeNum b p 2).1 : Int), 0)
theorem takeText_bad {b : List (BitVec 8)} {p : Int} {n : Nat} {q e : Int} (h : takeNum b p 2 = (n, q, e)) (he : e ≠ 0) : takeText b p = ([], 0, e) := by
  unfold takeText; rw [h, if_pos he]
theorem takeText_short {b : List (BitVec 8)} {p : Int} {n : Nat} {q : Int} (h : takeNum b p 2 = (n, q, 0)) (hs : (b.length : Int) - q < n) : takeText b p = ([], 0, 2) := by
  unfold takeText; rw [h, if_neg (by simp), if_pos hs]
theorem takeText_good {b : List (BitVec 8)} {p : Int} {n : Nat} {q : Int} (h : takeNum b p 2 = (n, q, 0)) (hs : ¬ (b.length : Int) - q < n) : takeText b p = ((b.drop q.toNat).take n, q + n, 0) := by
  unfold takeText; rw [h, if_neg (by simp), if_neg hs]
theorem takeNum2 {b : List (BitVec 8)} {p : Int} {n : Nat} {q : Int} (h : takeNum b p 2 = (n, q, 0)) : 0 ≤ p ∧ q = p + 2 ∧ q ≤ b.length ∧ n < 65536 := by
  have h1 := takeNum_ok (b := b) (p := p) (W := 2) (by rw [h])
  unfold takeNum at h
  rw [if_neg (by omega), if_neg (by omega)] at h
  simp only [Prod.mk.injEq, and_true] at h
  obtain ⟨rfl, rfl⟩ := h
  have h2 := beN_lt ((b.drop p.toNat).take (Int.toNat 2))
  have h3 : ((b.drop p.toNat).take (Int.toNat 2)).length ≤ 2 := by rw [List.length_take]; exact Nat.min_le_left _ _
  have h4 := Nat.lt_of_lt_of_le h2 (Nat.pow_le_pow_right (by omega) h3)
  exact ⟨h1.1, rfl, by omega, by omega⟩
theorem takeText_ok {b : List (BitVec 8)} {p : Int} (h : (takeText b p).2.2 = 0) : 0 ≤ p ∧ p + 2 ≤ (takeText b p).2.1 ∧ (takeText b p).2.1 ≤ b.length ∧ (takeText b p).1.length ≤ 65535 := by
  obtain ⟨n, q, e, hn⟩ : ∃ n q e, takeNum b p 2 = (n, q, e) := ⟨_, _, _, rfl⟩
  by_cases he : e = 0
  · subst he
    have h2 := takeNum2 hn
    by_cases hs : (b.length : Int) - q < n
    · rw [takeText_short hn hs] at h; cases h
    · rw [takeText_good hn hs]
      refine ⟨h2.1, by simp only; omega, by simp only; omega, ?_⟩
      simp only
      rw [List.length_take]
      omega
  · rw [takeText_bad hn he] at h
    exact absurd h he
/-- What TakeText hands back, as values. -/
def TTSays (x : List (BitVec 8) × Int × Int) (w : World) (e : Ending) (w' : World) : Prop :=
  ∃ ao cap, e = .returned (.tuple #[.slice ao (bv x.1).length cap, .int .i64 x.2.1, .int .i64 x.2.2]) ∧ w'.ownsRow w.heap.size 5 1 (.slice ao (bv x.1).length cap) (bv x.1).length (bv x.1) ∧ Below w.heap.size w w'
theorem TTSays.none {x : List (BitVec 8) × Int × Int} {q e : Int} {w : World} (h : x = ([], q, e)) : TTSays x w (.returned (.tuple #[.slice none 0 0, .int .i64 q, .int .i64 e])) w := by
  subst h
  exact ⟨_, _, rfl, World.ownsRow_nil _ _ _ _, Below.refl _ _⟩
theorem TTSays.some {x : List (BitVec 8) × Int × Int} {t : List (BitVec 8)} {q e : Int} {ao : Option Addr} {n cap : Nat} {w w' : World} (h : x = (t, q, e)) (hn : n = (bv t).length) (ho : w'.ownsRow w.heap.size 5 1 (.slice ao (bv t).length cap) (bv t).length (bv t)) (hb : Below w.heap.size w w') :
    TTSays x w (.returned (.tuple #[.slice ao n cap, .int .i64 q, .int .i64 e])) w' := by
  subst h hn
  exact ⟨_, _, rfl, ho, hb⟩
def textsGo (b : List (BitVec 8)) : Nat → Int → List (List (BitVec 8)) × Int × Int
  | 0, p => ([], p, 0)
  | k + 1, p => if (takeText b p).2.2 ≠ 0 then ([], 0, (takeText b p).2.2) else
      if (textsGo b k (takeText b p).2.1).2.2 ≠ 0 then ([], 0, (textsGo b k (takeText b p).2.1).2.2) else ((takeText b p).1 :: (textsGo b k (takeText b p).2.1).1, (textsGo b k (takeText b p).2.1).2.1, 0)
theorem textsGo_cons {b : List (BitVec 8)} {k : Nat} {p : Int} {t : List (BitVec 8)} {q : Int} {l : List (List (BitVec 8))} {r : Int} (h : takeText b p = (t, q, 0)) (h2 : textsGo b k q = (l, r, 0)) : textsGo b (k + 1) p = (t :: l, r, 0) := by
  unfold textsGo; rw [h, if_neg (by simp), h2, if_neg (by simp)]
theorem textsGo_bad1 {b : List (BitVec 8)} {k : Nat} {p : Int} {t : List (BitVec 8)} {q e : Int} (h : takeText b p = (t, q, e)) (he : e ≠ 0) : textsGo b (k + 1) p = ([], 0, e) := by
  unfold textsGo; rw [h, if_pos he]
theorem textsGo_bad2 {b : List (BitVec 8)} {k : Nat} {p : Int} {t : List (BitVec 8)} {q : Int} {l : List (List (BitVec 8))} {r e : Int} (h : takeText b p = (t, q, 0)) (h2 : textsGo b k q = (l, r, e)) (he : e ≠ 0) : textsGo b (k + 1) p = ([], 0, e) := by
  unfold textsGo; rw [h, if_neg (by simp), h2, if_pos he]
theorem textsGo_split {b : List (BitVec 8)} {k : Nat} {p : Int} {l : List (List (BitVec 8))} {r : Int} (h : textsGo b (k + 1) p = (l, r, 0)) : ∃ t q m, takeText b p = (t, q, 0) ∧ textsGo b k q = (m, r, 0) ∧ l = t :: m := by
  obtain ⟨t, q, e, h1⟩ : ∃ t q e, takeText b p = (t, q, e) := ⟨_, _, _, rfl⟩
  by_cases he : e = 0
  · subst he
    obtain ⟨m, r2, f, h2⟩ : ∃ m r2 f, textsGo b k q = (m, r2, f) := ⟨_, _, _, rfl⟩
    by_cases hf : f = 0
    · subst hf
      rw [textsGo_cons h1 h2] at h
      simp only [Prod.mk.injEq, and_true] at h
      obtain ⟨rfl, rfl⟩ := h
      exact ⟨t, q, m, h1, h2, rfl⟩
    · rw [textsGo_bad2 h1 h2 hf] at h
      simp only [Prod.mk.injEq] at h
      exact absurd h.2.2 hf
  · rw [textsGo_bad1 h1 he] at h
    simp only [Prod.mk.injEq] at h
    exact absurd h.2.2 he
theorem textsGo_snoc {b : List (BitVec 8)} : ∀ (i : Nat) {p : Int} {l : List (List (BitVec 8))} {q : Int} {t : List (BitVec 8)} {r : Int}, textsGo b i p = (l, q, 0) → takeText b q = (t, r, 0) → textsGo b (i + 1) p = (l ++ [t], r, 0)
  | 0, p, l, q, t, r, h, h2 => by
    simp only [textsGo, Prod.mk.injEq, and_true] at h
    obtain ⟨rfl, rfl⟩ := h
    exact textsGo_cons h2 rfl
  | i + 1, p, l, q, t, r, h, h2 => by
    obtain ⟨s, q1, m, h3, h4, rfl⟩ := textsGo_split h
    exact textsGo_cons h3 (textsGo_snoc i h4 h2)
theorem textsGo_fail {b : List (BitVec 8)} (k : Nat) : ∀ (i : Nat) {p : Int} {l : List (List (BitVec 8))} {q : Int} {t : List (BitVec 8)} {r e : Int}, textsGo b i p = (l, q, 0) → takeText b q = (t, r, e) → e ≠ 0 → textsGo b (i + (k + 1)) p = ([], 0, e)
  | 0, p, l, q, t, r, e, h, h2, he => by
    simp only [textsGo, Prod.mk.injEq, and_true] at h
    obtain ⟨rfl, rfl⟩ := h
    rw [Nat.zero_add]
    exact textsGo_bad1 h2 he
  | i + 1, p, l, q, t, r, e, h, h2, he => by
    obtain ⟨s, q1, m, h3, h4, rfl⟩ := textsGo_split h
    rw [show i + 1 + (k + 1) = (i + (k + 1)) + 1 by omega]
    exact textsGo_bad2 h3 (textsGo_fail k i h4 h2 he) he
theorem textsGo_len {b : List (BitVec 8)} : ∀ (i : Nat) {p : Int} {l : List (List (BitVec 8))} {q : Int}, textsGo b i p = (l, q, 0) → l.length = i
  | 0, p, l, q, h => by
    simp only [textsGo, Prod.mk.injEq, and_true] at h
    obtain ⟨rfl, rfl⟩ := h
    rfl
  | i + 1, p, l, q, h => by
    obtain ⟨s, q1, m, h3, h4, rfl⟩ := textsGo_split h
    rw [List.length_cons, textsGo_len i h4]
/-- What Texts hands back. -/
def texts (b : List (BitVec 8)) (p many : Int) : List (List (BitVec 8)) × Int × Int := if many < 0 ∨ p < 0 ∨ (b.length : Int) < p then ([], 0, 1) else textsGo b many.toNat p
def TXSays (x : List (List (BitVec 8)) × Int × Int) (w : World) (e : Ending) (w' : World) : Prop :=
  ∃ ao cap, e = .returned (.tuple #[.slice ao x.1.length cap, .int .i64 x.2.1, .int .i64 x.2.2]) ∧ RdAll w' (.slice ao x.1.length cap) x.1 ∧ Below w.heap.size w w'
theorem TXSays.none {x : List (List (BitVec 8)) × Int × Int} {q e : Int} {w w' : World} (h : x = ([], q, e)) (hb : Below w.heap.size w w') : TXSays x w (.returned (.tuple #[.slice none 0 0, .int .i64 q, .int .i64 e])) w' := by
  subst h
  exact ⟨_, _, rfl, RdAll.nil _, hb⟩
/-- Texts, each a row of its own; the slice of them too. -/
def OwnT (B : Nat) (v : Value) (l : List (List (BitVec 8))) (w : World) : Prop :=
  ∃ vs, w.ownsRow B 24 1 v vs.length vs ∧ vs.length = l.length ∧ ∀ j u, vs[j]? = some u → w.ownsRow B 5 1 u (bv (txt l j)).length (bv (txt l j))
theorem own_ne {w : World} {B1 B2 e1 e2 n1 n2 : Nat} {v1 v2 : Value} {x1 x2 : List Value} (h1 : w.ownsRow B1 e1 1 v1 n1 x1) (h2 : w.ownsRow B2 e2 1 v2 n2 x2) (he : e1 ≠ e2) : v1.ownBlock = none ∨ v1.ownBlock ≠ v2.ownBlock := by
  rcases h1.2 with ⟨rfl, -⟩ | ⟨g1, c1, k1, rfl, -, q1, -⟩
  · exact .inl rfl
  · refine .inr ?_
    rcases h2.2 with ⟨rfl, -⟩ | ⟨g2, c2, k2, rfl, -, q2, -⟩
    · simp [Value.ownBlock]
    · simp only [Value.ownBlock, ne_eq, Option.some.injEq]
      intro h
      subst h
      rw [q1] at q2
      simp only [Option.some.injEq, Obj.cells.injEq] at q2
      exact he q2.2.1
theorem OwnT.below {B : Nat} {v : Value} {l : List (List (BitVec 8))} {w w' : World} (h : OwnT B v l w) (hb : Aft w w') : OwnT B v l w' := by
  obtain ⟨vs, h1, h2, h3⟩ := h
  exact ⟨vs, ownsRow_below h1 (fun g hg => Below.block hb g (own_lt h1 hg).2), h2, fun j u hu => ownsRow_below (h3 j u hu) (fun g hg => Below.block hb g (own_lt (h3 j u hu) hg).2)⟩
theorem OwnT.all {B : Nat} {v : Value} {l : List (List (BitVec 8))} {w : World} (h : OwnT B v l w) : RdAll w v l := by
  obtain ⟨vs, h1, h2, h3⟩ := h
  exact ⟨vs, Rd.of_own h1, h2, fun i u hu => Rd.of_own (h3 i u hu)⟩
theorem OwnT.nil (B : Nat) (w : World) : OwnT B (.slice none 0 0) [] w := ⟨[], World.ownsRow_nil _ _ _ _, rfl, fun j u hu => by simp at hu⟩
theorem OwnT.shape {B : Nat} {v : Value} {l : List (List (BitVec 8))} {w : World} (h : OwnT B v l w) : ∃ a c, v = .slice a l.length c := by
  obtain ⟨vs, h1, h2, -⟩ := h
  obtain ⟨a, c, rfl⟩ := own_shape h1
  exact ⟨a, c, by rw [h2]⟩
theorem txt_snoc (l : List (List (BitVec 8))) (t : List (BitVec 8)) (j : Nat) : txt (l ++ [t]) j = if j < l.length then txt l j else if j = l.length then t else [] := by
  unfold txt
  rw [List.getD_eq_getElem?_getD, List.getD_eq_getElem?_getD]
  by_cases h : j < l.length
  · rw [if_pos h, List.getElem?_append_left h]
  · rw [if_neg h, List.getElem?_append_right (by omega)]
    by_cases h2 : j = l.length
    · rw [if_pos h2, h2, Nat.sub_self]; rfl
    · rw [if_neg h2, List.getElem?_eq_none (by simp; omega)]; rfl
theorem OwnT.snoc {B : Nat} {v v' u : Value} {l : List (List (BitVec 8))} {t : List (BitVec 8)} {vs : List Value} {w w' : World} (h1 : w.ownsRow B 24 1 v vs.length vs) (h2 : vs.length = l.length) (h3 : ∀ j u, vs[j]? = some u → w.ownsRow B 5 1 u (bv (txt l j)).length (bv (txt l j)))
    (hu : w.ownsRow B 5 1 u (bv t).length (bv t)) (hn : w'.ownsRow B 24 1 v' (vs ++ [u]).length (vs ++ [u])) (hg : w.grownBy w' v.ownBlock) : OwnT B v' (l ++ [t]) w' := by
  have hne : (5 : Nat) ≠ 24 := by decide
  refine ⟨vs ++ [u], hn, by simp [h2], fun j x hx => ?_⟩
  rw [txt_snoc]
  by_cases hj : j < vs.length
  · rw [List.getElem?_append_left hj] at hx
    rw [if_pos (by omega)]
    exact (h3 j x hx).kept hg (own_ne (h3 j x hx) h1 hne)
  · rw [List.getElem?_append_right (by omega)] at hx
    have hj2 : j = vs.length := by
      have := (List.getElem?_eq_some_iff.1 hx).1
      simp at this
      omega
    subst hj2
    rw [Nat.sub_self] at hx
    cases hx
    rw [if_neg (by omega), if_pos h2]
    exact hu.kept hg (own_ne hu h1 hne)
end Go.Proofs.YtanodhagpegbfaaDoor
/- wire.Texts, End, the document's, and coterieref01.SameAll. -/
namespace Go.Proofs.YtanodhagpegbfaaDoor
open Go Go.RowKit
theorem OwnT.one {B : Nat} {l : List (List (BitVec 8))} {w : World} {vs : List Value} (h : ∀ j u, vs[j]? = some u → w.ownsRow B 5 1 u (bv (txt l j)).length (bv (txt l j))) : ∀ u ∈ vs, u.oneCell' = true := by
  intro u hu
  obtain ⟨i, hi⟩ := List.getElem?_of_mem hu
  obtain ⟨a, c, rfl⟩ := own_shape (h i u hi)
  rfl
/-- What End hands back. -/
def endOf (n : Nat) (p : Int) : Int := if p < 0 ∨ (n : Int) < p then 1 else if p < n then 3 else 0
theorem txt_ext {l m : List (List (BitVec 8))} (h : l.length = m.length) (h2 : ∀ j, j < l.length → txt l j = txt m j) : l = m := by
  apply List.ext_getElem h
  intro i h3 h4
  have := h2 i h3
  simpa [txt, List.getD, List.getElem?_eq_getElem h3, List.getElem?_eq_getElem h4] using this
end Go.Proofs.YtanodhagpegbfaaDoor
/- coterielaw01.WireReads: it answers true. -/
namespace Go.Proofs.YtanodhagpegbfaaDoor
open Go Go.RowKit
theorem tmod3000 (m : Int) : m.tmod 3000 < 3000 ∧ -3000 < m.tmod 3000 := ⟨Int.tmod_lt_of_pos m (by omega), Int.lt_tmod_of_pos m (by omega)⟩
theorem textsGo_le (b : List (BitVec 8)) : ∀ (i : Nat) (p : Int), (textsGo b i p).1.length ≤ i
  | 0, p => by simp [textsGo]
  | i + 1, p => by
    unfold textsGo
    split
    · simp
    · split
      · simp
      · simp only [List.length_cons]
        have := textsGo_le b i (takeText b p).2.1
        omega
theorem texts_len (b : List (BitVec 8)) (p many : Int) : (texts b p many).1.length ≤ many.toNat := by
  unfold texts
  split
  · simp
  · exact textsGo_le b _ _
end Go.Proofs.YtanodhagpegbfaaDoor

