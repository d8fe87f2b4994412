/- Numbers written: math/bits.Len64, wire.fits, the predicate of wire.Num, slices.IndexFunc and ContainsFunc at it, wire.put. -/
import Derived.Test.YtifehfcgmodmaaaDoorRefBytes
import Derived.Lib.Tables
import Derived.Lib.BitFns
import Derived.Lib.ItoaNum
namespace Go.Proofs.YtifehfcgmodmaaaDoor
open Go Go.RowKit
theorem ix8 (y : Int) (h0 : 0 ≤ y) (h1 : y ≤ 255) (w : World) : (Instr.index 9 (.string Lib.len8tab) (.int .u8 y)).run Tryd.prog w = .ok (.int .u8 (Lib.len8 y)) w :=
  Lib.run_index_len8tab w 9 .u8 y Tryd.underlying9 h0 h1
theorem len8_bounds (y : Int) (h0 : 0 ≤ y) (h1 : y ≤ 255) : 0 ≤ Lib.len8 y ∧ Lib.len8 y ≤ 8 := by
  rw [Lib.len8_of y h0 h1]
  have := Lib.bitLen_le8' y h0 h1
  omega
set_option maxRecDepth 100000 in
set_option maxHeartbeats 4000000 in
theorem len64_any (x : Int) (w : World) (h0 : 0 ≤ x) (h1 : x ≤ 18446744073709551615) :
    Calls Tryd.prog 84 #[.int .u64 x] w fun e w' => e = .returned (.int .i64 (Lib.bitLen x.toNat)) ∧ w' = w := by
  go_enter Tryd.func84, Tryd.ntmps84
  by_cases ha : 4294967296 ≤ x
  · by_cases hb : 65536 ≤ x / 4294967296
    · by_cases hc : 256 ≤ x / 4294967296 / 65536
      · have hx := ix8 (x / 4294967296 / 65536 / 256) (by omega) (by omega)
        obtain ⟨l0, l1⟩ := len8_bounds (x / 4294967296 / 65536 / 256) (by omega) (by omega)
        have he := Lib.len8_of (x / 4294967296 / 65536 / 256) (by omega) (by omega)
        have HE := Lib.hid he
        have l := Lib.bitLen_le8' (x / 4294967296 / 65536 / 256) (by omega) (by omega)
        have e : (x / 4294967296 / 65536 / 256).toNat = x.toNat / 72057594037927936 := by omega
        have s := Lib.bitLen_shift56 x.toNat (by omega) (by omega)
        rw [e] at HE
        have HS := Lib.hid s
        clear he l e s
        generalize Lib.len8 (x / 4294967296 / 65536 / 256) = q at *
        go_wp2
        go_ret
        refine ⟨congrArg Ending.returned (congrArg (Value.int IntKind.i64) ?_), rfl⟩
        rw [HS.out]
        have := HE.out
        omega
      · have hx := ix8 (x / 4294967296 / 65536) (by omega) (by omega)
        obtain ⟨l0, l1⟩ := len8_bounds (x / 4294967296 / 65536) (by omega) (by omega)
        have he := Lib.len8_of (x / 4294967296 / 65536) (by omega) (by omega)
        have HE := Lib.hid he
        have l := Lib.bitLen_le8' (x / 4294967296 / 65536) (by omega) (by omega)
        have e : (x / 4294967296 / 65536).toNat = x.toNat / 281474976710656 := by omega
        have s := Lib.bitLen_shift48 x.toNat (by omega) (by omega)
        rw [e] at HE
        have HS := Lib.hid s
        clear he l e s
        generalize Lib.len8 (x / 4294967296 / 65536) = q at *
        go_wp2
        go_ret
        refine ⟨congrArg Ending.returned (congrArg (Value.int IntKind.i64) ?_), rfl⟩
        rw [HS.out]
        have := HE.out
        omega
    · by_cases hc : 256 ≤ x / 4294967296
      · have hx := ix8 (x / 4294967296 / 256) (by omega) (by omega)
        obtain ⟨l0, l1⟩ := len8_bounds (x / 4294967296 / 256) (by omega) (by omega)
        have he := Lib.len8_of (x / 4294967296 / 256) (by omega) (by omega)
        have HE := Lib.hid he
        have l := Lib.bitLen_le8' (x / 4294967296 / 256) (by omega) (by omega)
        have e : (x / 4294967296 / 256).toNat = x.toNat / 1099511627776 := by omega
        have s := Lib.bitLen_shift40 x.toNat (by omega) (by omega)
        rw [e] at HE
        have HS := Lib.hid s
        clear he l e s
        generalize Lib.len8 (x / 4294967296 / 256) = q at *
        go_wp2
        go_ret
        refine ⟨congrArg Ending.returned (congrArg (Value.int IntKind.i64) ?_), rfl⟩
        rw [HS.out]
        have := HE.out
        omega
      · have hx := ix8 (x / 4294967296) (by omega) (by omega)
        obtain ⟨l0, l1⟩ := len8_bounds (x / 4294967296) (by omega) (by omega)
        have he := Lib.len8_of (x / 4294967296) (by omega) (by omega)
        have HE := Lib.hid he
        have l := Lib.bitLen_le8' (x / 4294967296) (by omega) (by omega)
        have e : (x / 4294967296).toNat = x.toNat / 4294967296 := by omega
        have s := Lib.bitLen_shift32 x.toNat (by omega) (by omega)
        rw [e] at HE
        have HS := Lib.hid s
        clear he l e s
        generalize Lib.len8 (x / 4294967296) = q at *
        go_wp2
        go_ret
        refine ⟨congrArg Ending.returned (congrArg (Value.int IntKind.i64) ?_), rfl⟩
        rw [HS.out]
        have := HE.out
        omega
  · by_cases hb : 65536 ≤ x
    · by_cases hc : 256 ≤ x / 65536
      · have hx := ix8 (x / 65536 / 256) (by omega) (by omega)
        obtain ⟨l0, l1⟩ := len8_bounds (x / 65536 / 256) (by omega) (by omega)
        have he := Lib.len8_of (x / 65536 / 256) (by omega) (by omega)
        have HE := Lib.hid he
        have l := Lib.bitLen_le8' (x / 65536 / 256) (by omega) (by omega)
        have e : (x / 65536 / 256).toNat = x.toNat / 16777216 := by omega
        have s := Lib.bitLen_shift24 x.toNat (by omega) (by omega)
        rw [e] at HE
        have HS := Lib.hid s
        clear he l e s
        generalize Lib.len8 (x / 65536 / 256) = q at *
        go_wp2
        go_ret
        refine ⟨congrArg Ending.returned (congrArg (Value.int IntKind.i64) ?_), rfl⟩
        rw [HS.out]
        have := HE.out
        omega
      · have hx := ix8 (x / 65536) (by omega) (by omega)
        obtain ⟨l0, l1⟩ := len8_bounds (x / 65536) (by omega) (by omega)
        have he := Lib.len8_of (x / 65536) (by omega) (by omega)
        have HE := Lib.hid he
        have l := Lib.bitLen_le8' (x / 65536) (by omega) (by omega)
        have e : (x / 65536).toNat = x.toNat / 65536 := by omega
        have s := Lib.bitLen_shift16 x.toNat (by omega) (by omega)
        rw [e] at HE
        have HS := Lib.hid s
        clear he l e s
        generalize Lib.len8 (x / 65536) = q at *
        go_wp2
        go_ret
        refine ⟨congrArg Ending.returned (congrArg (Value.int IntKind.i64) ?_), rfl⟩
        rw [HS.out]
        have := HE.out
        omega
    · by_cases hc : 256 ≤ x
      · have hx := ix8 (x / 256) (by omega) (by omega)
        obtain ⟨l0, l1⟩ := len8_bounds (x / 256) (by omega) (by omega)
        have he := Lib.len8_of (x / 256) (by omega) (by omega)
        have HE := Lib.hid he
        have l := Lib.bitLen_le8' (x / 256) (by omega) (by omega)
        have e : (x / 256).toNat = x.toNat / 256 := by omega
        have s := Lib.bitLen_shift8 x.toNat (by omega) (by omega)
        rw [e] at HE
        have HS := Lib.hid s
        clear he l e s
        generalize Lib.len8 (x / 256) = q at *
        go_wp2
        go_ret
        refine ⟨congrArg Ending.returned (congrArg (Value.int IntKind.i64) ?_), rfl⟩
        rw [HS.out]
        have := HE.out
        omega
      · have hx := ix8 (x) (by omega) (by omega)
        obtain ⟨l0, l1⟩ := len8_bounds (x) (by omega) (by omega)
        have he := Lib.len8_of (x) (by omega) (by omega)
        have HE := Lib.hid he
        have l := Lib.bitLen_le8' (x) (by omega) (by omega)
        clear he l
        generalize Lib.len8 (x) = q at *
        go_wp2
        go_ret
        refine ⟨congrArg Ending.returned (congrArg (Value.int IntKind.i64) ?_), rfl⟩
        have := HE.out
        omega
theorem bitLen_iff (x k : Nat) (hx : x < 18446744073709551616) (hk : k ≤ 64) : Lib.bitLen x ≤ k ↔ x < 2 ^ k := by
  constructor
  · intro h
    by_cases h0 : x = 0
    · subst h0; exact Nat.two_pow_pos k
    · have := (Lib.bitLenAux_bounds 64 x hx h0).2.2
      exact Nat.lt_of_lt_of_le this (Nat.pow_le_pow_right (by omega) h)
  · exact Lib.bitLen_le x k hk
/-- A number stands in a width. -/
def fitsB (W x : Nat) : Bool := decide (x < 256 ^ W)
theorem fits_any (W x : Nat) (w : World) (hW : W ≤ 8) (hx : x < 18446744073709551616) :
    Calls Tryd.prog 74 #[.int .i64 (W : Int), .int .u64 (x : Int)] w fun e w' => e = .returned (.bool (fitsB W x)) ∧ w' = w := by
  have hb : decide ((Lib.bitLen x : Int) ≤ 8 * (W : Int)) = fitsB W x := by
    unfold fitsB
    rw [show (256 : Nat) ^ W = 2 ^ (8 * W) by rw [Nat.pow_mul]]
    refine decide_eq_decide.2 ?_
    rw [← bitLen_iff x (8 * W) hx (by omega)]
    omega
  have hl := len64_any (x : Int) w (by omega) (by omega)
  rw [Int.toNat_natCast] at hl
  have HL := Lib.hid hl
  clear hl
  generalize Lib.bitLen x = L at *
  go_enter Tryd.func74, Tryd.ntmps74
  go_wp2_with fail
  refine HL.out.mono ?_
  rintro e w' ⟨rfl, rfl⟩
  go_wp2_with fail
  go_ret
  exact ⟨by rw [← hb]; rfl, rfl⟩
theorem num1_any (b W x : Nat) (w : World) (hc : w.cell? ⟨b, 0, none⟩ = some (.int .i64 (W : Int))) (hW : W ≤ 8) (hx : x < 18446744073709551616) :
    Calls Tryd.prog 73 #[.int .u64 (x : Int), .pointer (some ⟨b, 0, none⟩)] w fun e w' => e = .returned (.bool (!fitsB W x)) ∧ w' = w := by
  have HL := Lib.hid (fits_any W x w hW hx)
  generalize fitsB W x = B at *
  go_enter Tryd.func73, Tryd.ntmps73
  go_wp2_with fail
  refine HL.out.mono ?_
  rintro e w' ⟨rfl, rfl⟩
  go_wp2_with fail
  go_ret
  exact ⟨rfl, rfl⟩
/-- Numbers, as values. -/
def nv (ns : List Nat) : List Value := ns.map fun (x : Nat) => Value.int .u64 (x : Int)
theorem nv_length (ns : List Nat) : (nv ns).length = ns.length := by simp [nv]
/-- A number of a list. -/
def nat (ns : List Nat) (i : Nat) : Nat := ns.getD i 0
theorem nv_at (ns : List Nat) (i : Nat) (h : i < ns.length) : (nv ns)[i]? = some (.int .u64 ((nat ns i : Nat) : Int)) := by simp [nv, nat, List.getD, List.getElem?_eq_getElem h]
theorem nv_one (ns : List Nat) : ∀ u ∈ nv ns, u.oneCell' = true := by
  intro u hu
  obtain ⟨x, -, rfl⟩ := List.mem_map.1 hu
  rfl
theorem nat_lt {ns : List Nat} (h : ∀ x ∈ ns, x < 18446744073709551616) (i : Nat) : nat ns i < 18446744073709551616 := by
  unfold nat
  rw [List.getD_eq_getElem?_getD]
  cases hi : ns[i]? with
  | none => simp
  | some x => exact h x (List.mem_of_getElem? hi)
theorem Rd.nat_at {w : World} {g o n cap : Nat} {ns : List Nat} (h : Rd w (.slice (some ⟨g, o, none⟩) n cap) (nv ns)) {i : Nat} (hi : i < ns.length) : w.cell? ⟨g, o + i, none⟩ = some (.int .u64 ((nat ns i : Nat) : Int)) := by
  obtain ⟨ao', cap', hv, h1, h2, h3, h4⟩ := h
  cases hv
  have := h4 _ rfl i _ (nv_at ns i hi)
  rwa [Addr.add_lit] at this
/-- One of them at least does not stand in a width. -/
def overB (W : Nat) (ns : List Nat) : Bool := ns.any fun x => !fitsB W x
theorem overB_false {W : Nat} {ns : List Nat} (h : ∀ j, j < ns.length → fitsB W (nat ns j) = true) : overB W ns = false := by
  unfold overB
  rw [List.any_eq_false]
  intro x hx
  obtain ⟨i, hi, rfl⟩ := List.mem_iff_getElem.1 hx
  have := h i hi
  simp only [nat, List.getD_eq_getElem?_getD, List.getElem?_eq_getElem hi, Option.getD_some] at this
  simp [this]
theorem overB_true {W : Nat} {ns : List Nat} {j : Nat} (hj : j < ns.length) (h : fitsB W (nat ns j) = false) : overB W ns = true := by
  unfold overB
  rw [List.any_eq_true]
  refine ⟨ns[j], List.getElem_mem hj, ?_⟩
  simp only [nat, List.getD_eq_getElem?_getD, List.getElem?_eq_getElem hj, Option.getD_some] at h
  simp [h]
set_option maxRecDepth 100000 in
set_option maxHeartbeats 1000000 in
theorem indexFunc_any (v : Value) (ns : List Nat) (b W : Nat) (w : World) (hrd : Rd w v (nv ns)) (hc : w.cell? ⟨b, 0, none⟩ = some (.int .i64 (W : Int))) (hW : W ≤ 8) (hns : ∀ x ∈ ns, x < 18446744073709551616) :
    Calls Tryd.prog 83 #[v, .func (.func 73) #[] #[.pointer (some ⟨b, 0, none⟩)]] w fun e w' => ∃ i : Int, (0 ≤ i ↔ overB W ns = true) ∧ e = .returned (.int .i64 i) ∧ w' = w := by
  have HR := Lib.hid hrd
  obtain ⟨ao, cap, rfl, -, -, -, -⟩ := hrd
  have HC := Lib.hid (fun i => num1_any b W (nat ns i) w hc hW (nat_lt hns i))
  clear hc
  go_enter Tryd.func83, Tryd.ntmps83
  go_wp2_with fail
  go_loopw [8] (fun v8 wr => ∃ i : Nat, i ≤ ns.length ∧ v8 = .int .i64 i ∧ wr = w ∧ ∀ j, j < i → fitsB W (nat ns j) = true) (fun v _ => ns.length - (intOf v).toNat)
  case atStart => exact ⟨0, by omega, rfl, rfl, fun j hj => by omega⟩
  case round =>
    obtain ⟨i, hi, rfl, rfl, hall⟩ := hrel
    have HA := Lib.hid hall
    clear hall
    by_cases hlt : i < ns.length
    · have hlt' : (i : Int) < ((nv ns).length : Nat) := by rw [nv_length]; omega
      have hi63 : (i : Int) + 1 ≤ 9223372036854775807 := by have := HR.out.sl; rw [nv_length] at this; omega
      obtain ⟨g, o, rfl, -, hca⟩ := HR.out.some_of (by rw [nv_length]; omega)
      have hcell := HR.out.nat_at hlt
      have HCi := Lib.hid (HC.out i)
      have hov := @overB_true W ns i hlt
      have HOv := Lib.hid hov
      clear hov
      generalize hx : nat ns i = x at hcell HCi HOv
      have HX := Lib.hid hx
      clear hx
      go_wp2_with fail
      refine HCi.out.mono ?_
      rintro e w' ⟨rfl, rfl⟩
      cases hf : fitsB W x with
      | false =>
        simp only [Bool.not_false]
        go_wp2_with fail
        go_ret
        exact ⟨i, by simp [HOv.out hf], rfl, rfl⟩
      | true =>
        simp only [Bool.not_true]
        go_wp2_with fail
        go_roundw
        case rel => exact ⟨i + 1, by omega, by go_num, trivial, fun j hj => by
          by_cases hj2 : j < i
          · exact HA.out j hj2
          · obtain rfl : j = i := by omega
            rw [HX.out]; exact hf⟩
        case measure => simp [intOf]; omega
    · obtain rfl : i = ns.length := by omega
      have hlt' : ¬ ((ns.length : Nat) : Int) < ((nv ns).length : Nat) := by rw [nv_length]; omega
      have HOv := Lib.hid (overB_false HA.out)
      go_wp2_with fail
      go_ret
      exact ⟨-1, ⟨fun h => absurd h (by decide), fun h => by rw [HOv.out] at h; cases h⟩, rfl, rfl⟩
set_option maxRecDepth 100000 in
theorem containsFunc_any (v : Value) (ns : List Nat) (b W : Nat) (w : World) (hrd : Rd w v (nv ns)) (hc : w.cell? ⟨b, 0, none⟩ = some (.int .i64 (W : Int))) (hW : W ≤ 8) (hns : ∀ x ∈ ns, x < 18446744073709551616) :
    Calls Tryd.prog 72 #[v, .func (.func 73) #[] #[.pointer (some ⟨b, 0, none⟩)]] w fun e w' => e = .returned (.bool (overB W ns)) ∧ w' = w := by
  have HI := Lib.hid (indexFunc_any v ns b W w hrd hc hW hns)
  clear hrd hc
  go_enter Tryd.func72, Tryd.ntmps72
  go_wp2_with fail
  refine HI.out.mono ?_
  rintro e w' ⟨i, hi, rfl, rfl⟩
  have HE := Lib.hid (show decide (0 ≤ i) = overB W ns by cases h : overB W ns <;> simp [h] at hi ⊢ <;> omega)
  clear hi
  go_wp2_with fail
  go_ret
  exact ⟨by rw [← HE.out]; rfl, rfl⟩
end Go.Proofs.YtifehfcgmodmaaaDoor
