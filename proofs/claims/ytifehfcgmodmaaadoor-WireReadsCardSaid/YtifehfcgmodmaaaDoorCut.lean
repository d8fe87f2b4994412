/- Slices cut at a number: what the walk's slice instruction hands back, and what it reads as. Of whatever program. -/
import Derived.Test.YtifehfcgmodmaaaDoorRd
namespace Go.Proofs.YtifehfcgmodmaaaDoor
open Go Go.RowKit
theorem cut_to {P : Program} {t e : TypeId} (ht : P.underlying t = some (.slice e)) {ao : Option Addr} {len cap : Nat} {n : Nat} (hn : n ≤ cap) (w : World) {i : TypeInfo} (hi : P.info? e = some i) :
    (Instr.sliceAt t (.slice ao len cap) none (some (.int .i64 (n : Int))) none).run P w = .ok (.slice ao n cap) w := by
  have he : P.elem t = e := by simp [Program.elem, ht]
  rw [run_sliceAt_slice (w := w) t _ _ _ _ (by rw [he]; exact ht), run_slice_h w t ao len cap (by rw [he]; exact ht) .i64 (n : Int) (by omega) (by omega), he, run_sizeOf w hi]
  simp only [Result.andThen, sliced, Int.toNat_natCast, Nat.zero_mul, Nat.sub_zero]
  cases ao <;> simp [Addr.add]
theorem cut_from {P : Program} {t e : TypeId} (ht : P.underlying t = some (.slice e)) {ao : Option Addr} {len cap : Nat} {n : Nat} (hn : n ≤ len) (w : World) {i : TypeInfo} (hi : P.info? e = some i) (h1 : i.size = 1) :
    (Instr.sliceAt t (.slice ao len cap) (some (.int .i64 (n : Int))) none none).run P w = .ok (.slice (if cap = n then ao else ao.map (·.add n)) (len - n) (cap - n)) w := by
  have he : P.elem t = e := by simp [Program.elem, ht]
  have hc : P.cellsOf e = 1 := by simp [Program.cellsOf, hi, h1]
  rw [run_sliceAt_slice (w := w) t _ _ _ _ (by rw [he]; exact ht), run_slice_l w t ao len cap (by rw [he]; exact ht) .i64 (n : Int) (by omega) (by omega), he, run_sizeOf w hi]
  simp only [Result.andThen, sliced, Int.toNat_natCast, hc, Nat.mul_one]
theorem Rd.to {w : World} {ao : Option Addr} {cap len : Nat} {xs : List Value} (h : Rd w (.slice ao len cap) xs) {n : Nat} (hn : n ≤ xs.length) : Rd w (.slice ao n cap) (xs.take n) := by
  obtain ⟨ao', cap', hv, h1, h2, h3, h4⟩ := h
  cases hv
  refine ⟨ao, cap, by rw [List.length_take, Nat.min_eq_left hn], by rw [List.length_take]; omega, h2, h3, fun ad ha j u hu => ?_⟩
  refine h4 ad ha j u ?_
  rw [List.getElem?_take] at hu
  split at hu
  · exact hu
  · cases hu
theorem Rd.from {w : World} {ao : Option Addr} {cap len : Nat} {xs : List Value} (h : Rd w (.slice ao len cap) xs) {n : Nat} (hn : n ≤ xs.length) : Rd w (.slice (if cap = n then ao else ao.map (·.add n)) (len - n) (cap - n)) (xs.drop n) := by
  obtain ⟨ao', cap', hv, h1, h2, h3, h4⟩ := h
  cases hv
  refine ⟨_, cap - n, by rw [List.length_drop], by rw [List.length_drop]; omega, by omega, fun e => ?_, fun ad ha j u hu => ?_⟩
  · by_cases hc : cap = n
    · omega
    · rw [if_neg hc, Option.map_eq_none_iff] at e
      have := h3 e
      omega
  · rw [List.getElem?_drop] at hu
    have hj : n + j < xs.length := (List.getElem?_eq_some_iff.1 hu).1
    rw [if_neg (by omega)] at ha
    obtain ⟨a0, ha0, rfl⟩ := Option.map_eq_some_iff.1 ha
    have := h4 a0 ha0 (n + j) u hu
    rw [show (a0.add n).add j = a0.add (n + j) by unfold Addr.add; by_cases h0 : n = 0 <;> by_cases h1 : j = 0 <;> simp [h0, h1, Nat.add_assoc]]
    exact this
theorem Rd.sl {w : World} {ao : Option Addr} {cap len : Nat} {xs : List Value} (h : Rd w (.slice ao len cap) xs) : len = xs.length ∧ xs.length ≤ cap ∧ cap ≤ 9223372036854775807 := by
  obtain ⟨ao', cap', hv, h1, h2, h3, h4⟩ := h
  cases hv
  exact ⟨rfl, h1, h2⟩
theorem cut_from_ex {P : Program} {t e : TypeId} (ht : P.underlying t = some (.slice e)) {i : TypeInfo} (hi : P.info? e = some i) (h1 : i.size = 1) {w : World} {ao : Option Addr} {cap len : Nat} {xs : List Value} (h : Rd w (.slice ao len cap) xs) {n : Nat} (hn : n ≤ xs.length) :
    ∃ ax, (∀ wx, (Instr.slice t (.slice ao len cap) (some (.int .i64 (n : Int))) none none).run P wx = .ok (.slice ax (len - n) (cap - n)) wx) ∧ Rd w (.slice ax (len - n) (cap - n)) (xs.drop n) :=
  ⟨_, fun wx => by rw [← run_sliceAt_slice wx t _ _ _ _ (by rw [show P.elem t = e by simp [Program.elem, ht]]; exact ht)]; exact cut_from ht (by have := h.sl; omega) wx hi h1, h.from hn⟩
end Go.Proofs.YtifehfcgmodmaaaDoor
