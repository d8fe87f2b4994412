/- mac.Equal. -/
import Derived.Test.YtifehfcgmodmaaaDoorLive3
namespace Go.Proofs.YtifehfcgmodmaaaDoor
open Go Go.RowKit
def accOf (xs ys : List (BitVec 8)) : Nat → BitVec 8
  | 0 => 0
  | i + 1 => accOf xs ys i ||| (xs.getD i 0 ^^^ ys.getD i 0)
theorem bn_or (x y : BitVec 8) : bits .or .u8 (bn x) (bn y) = bn (x ||| y) := by
  have e : ∀ x : BitVec 8, BitVec.ofInt 8 (bn x) = x := fun x => by
    apply BitVec.eq_of_toNat_eq
    have := x.isLt
    unfold bn
    rw [BitVec.toNat_ofInt]
    omega
  show IntKind.u8.wrap ((BitVec.ofInt 8 (bn x) ||| BitVec.ofInt 8 (bn y)).toNat : Int) = _
  rw [e, e]
  have := (x ||| y).isLt
  unfold bn
  rw [IntKind.wrap_u8]
  omega
theorem or_zero {x y : BitVec 8} : x ||| y = 0 ↔ x = 0 ∧ y = 0 := by
  constructor
  · intro h
    have h1 : ∀ i, (x ||| y).getLsbD i = false := fun i => by rw [h]; simp
    refine ⟨BitVec.eq_of_getLsbD_eq fun i hi => ?_, BitVec.eq_of_getLsbD_eq fun i hi => ?_⟩
    · have := h1 i; simp only [BitVec.getLsbD_or, Bool.or_eq_false_iff] at this; simpa using this.1
    · have := h1 i; simp only [BitVec.getLsbD_or, Bool.or_eq_false_iff] at this; simpa using this.2
  · rintro ⟨rfl, rfl⟩; rfl
theorem acc_zero (xs ys : List (BitVec 8)) : ∀ i, accOf xs ys i = 0 ↔ ∀ j, j < i → xs.getD j 0 = ys.getD j 0
  | 0 => by simp [accOf]
  | i + 1 => by
    rw [accOf, or_zero, acc_zero xs ys i]
    constructor
    · rintro ⟨h1, h2⟩ j hj
      by_cases h : j = i
      · subst h; exact BitVec.xor_eq_zero_iff.1 h2
      · exact h1 j (by omega)
    · intro h
      exact ⟨fun j hj => h j (by omega), BitVec.xor_eq_zero_iff.2 (h i (by omega))⟩
theorem acc_end (xs ys : List (BitVec 8)) (h : xs.length = ys.length) : (bn (accOf xs ys xs.length) == 0) = decide (xs = ys) := by
  have e : accOf xs ys xs.length = 0 ↔ xs = ys := by
    rw [acc_zero]
    constructor
    · intro h2
      apply List.ext_getElem h
      intro i h3 h4
      have := h2 i h3
      simpa [List.getD, List.getElem?_eq_getElem h3, List.getElem?_eq_getElem h4] using this
    · rintro rfl j _; rfl
  by_cases h3 : xs = ys
  · rw [e.2 h3]; simp [h3, bn]
  · have h4 : accOf xs ys xs.length ≠ 0 := fun h5 => h3 (e.1 h5)
    have h5 : bn (accOf xs ys xs.length) ≠ 0 := fun h6 => h4 (bn_inj (y := 0) (by rw [h6]; rfl))
    simp [h3, h5]
theorem Rd.cell_at {w : World} {g o n cap : Nat} {xs : List (BitVec 8)} (h : Rd w (.slice (some ⟨g, o, none⟩) n cap) (bv xs)) {i : Nat} (hi : i < xs.length) : w.cell? ⟨g, o + i, none⟩ = some (.int .u8 (bn (xs.getD i 0))) := by
  obtain ⟨ao', cap', hv, h1, h2, h3, h4⟩ := h
  cases hv
  have := h4 _ rfl i (.int .u8 (bn (xs.getD i 0))) (by simp [bv, List.getD, List.getElem?_eq_getElem hi])
  rwa [Addr.add_lit] at this
theorem Rd.some_of {w : World} {ao : Option Addr} {n cap : Nat} {xs : List Value} (h : Rd w (.slice ao n cap) xs) (hx : 0 < xs.length) : ∃ g o, ao = some ⟨g, o, none⟩ ∧ n = xs.length ∧ xs.length ≤ cap := by
  have hs := h.sl
  obtain ⟨g, o, cap', hv, _⟩ := h.at hx
  cases hv
  exact ⟨g, o, rfl, rfl, hs.2.1⟩
attribute [local go_sem] bn_xor bn_or
set_option maxRecDepth 100000 in
set_option maxHeartbeats 1000000 in
theorem macEq_any (va vb : Value) (xs ys : List (BitVec 8)) (w : World) (hra : Rd w va (bv xs)) (hrb : Rd w vb (bv ys)) :
    Calls Tryd.prog 29 #[va, vb] w fun e w' => e = .returned (.bool (decide (xs = ys))) ∧ Below w.heap.size w w' := by
  have HA := Lib.hid hra
  have HB := Lib.hid hrb
  obtain ⟨aoa, capa, rfl, -, -, -, -⟩ := hra
  obtain ⟨aob, capb, rfl, -, -, -, -⟩ := hrb
  go_enter Tryd.func29, Tryd.ntmps29
  by_cases hl : xs.length = ys.length
  · have hl' : (bv xs).length = (bv ys).length := by rw [bv_length, bv_length]; exact hl
    have HL := Lib.hid hl'
    rw [hl'] at HA ⊢
    clear hl'
    go_wp2_with fail
    go_loopw [5, 14] (fun v5 v14 wr => ∃ i : Nat, i ≤ xs.length ∧ v14 = .int .i64 i ∧ v5 = .int .u8 (bn (accOf xs ys i)) ∧ Aft w wr) (fun _ v _ => xs.length - (intOf v).toNat)
    case atStart => exact ⟨0, by omega, rfl, rfl, Aft.refl _⟩
    case round =>
      obtain ⟨i, hi, rfl, rfl, hbw⟩ := hrel
      by_cases hlt : i < xs.length
      · have hlt' : (i : Int) < ((bv ys).length : Nat) := by rw [bv_length]; omega
        have hi63 : (i : Int) + 1 ≤ 9223372036854775807 := by have := HA.out.sl; rw [bv_length] at this; omega
        obtain ⟨ga, oa, rfl, -, hca⟩ := HA.out.some_of (by rw [bv_length]; omega)
        obtain ⟨gb, ob, rfl, -, hcb⟩ := HB.out.some_of (by rw [bv_length]; omega)
        have hRA := Lib.hid (HA.out.grow hbw)
        have hRB := Lib.hid (HB.out.grow hbw)
        have HBw := Lib.hid hbw
        clear hbw
        go_wp2_with fail
        refine wp_region_lexF (fun i => ([] : List Nat).getD i 0) 12 (by kernel_rfl) (by kernel_rfl) ?_; intro wi hwi
        have HWi := Lib.hid (show Aft wr wi by rw [hwi]; exact (Below.refl _ _).drew)
        clear hwi
        have cA := fun u : Later wi.heap.size wi => (hRA.out.grow (Aft.trans HWi.out u.h)).cell_at hlt
        have cB := fun u : Later wi.heap.size wi => (hRB.out.grow (Aft.trans HWi.out u.h)).cell_at (xs := ys) (i := i) (by omega)
        repeat (first | (refine lf_skip (by go_big_quiet_skip; exact wpQuiet_nil trivial) (by kernel_rfl) ?_; simp only [Act.put, List.setIfInBounds_toArray, List.set_cons_succ, List.set_cons_zero]) | (refine lf_quiet rfl (by go_big_quiet_want; exact quiet_false (by assumption)) (by kernel_rfl) rfl ?_; intro Kx hKx; go_big_quiet_op; go_big_quiet_on))
        refine lf_done ?_
        intro wj hj
        have HJ := Lib.hid (Aft.trans HBw.out (Aft.trans HWi.out hj))
        clear hj
        go_wp2_with fail
        go_roundw
        case rel => exact ⟨i + 1, by omega, by go_num, by simp [accOf], HJ.out⟩
        case measure => simp [intOf]; omega
      · obtain rfl : i = xs.length := by omega
        have hlt' : ¬ (((xs.length : Nat) : Int) < ((bv ys).length : Nat)) := by rw [bv_length]; omega
        have he := acc_end xs ys hl
        go_wp2_with fail
        go_ret
        exact ⟨by have h9 := he; rw [hl] at h9; exact congrArg (fun b => Ending.returned (.bool b)) h9, hbw⟩
  · have hl' : ¬ (bv xs).length = (bv ys).length := by rw [bv_length, bv_length]; exact hl
    have hne : decide (xs = ys) = false := decide_eq_false fun h => hl (by rw [h])
    go_wp2_with fail
    go_ret
    exact ⟨by rw [hne]; rfl, Below.refl _ _⟩
end Go.Proofs.YtifehfcgmodmaaaDoor
