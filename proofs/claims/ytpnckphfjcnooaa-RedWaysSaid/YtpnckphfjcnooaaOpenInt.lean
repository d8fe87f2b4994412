/- A slice of int as an argument, opened. -/
import Derived.Test.YtpnckphfjcnooaaA8
import Derived.Test.YtpnckphfjcnooaaTKit
namespace Go.Proofs.Ytpnckphfjcnooaa
open Go Go.RowKit Go.ChangeShapes Go.WideShapes
set_option maxRecDepth 100000
theorem open_intsV {H : Type} {enc : TypeId × Value → H} {w : World} {base : Nat} {spare : Nat → Bool} {held : Bool} {v : Value} {d : DataW H} {ps : List MemPlace} {W2 : World} {r : Reach} (hok : Value.okWide Try.prog W2 r base 22 v) (h : DataW.Trod enc Try.prog w 0 spare held 22 v d ps) :
    ∃ l : List Int, Rd w v (zv l) := by
  obtain ⟨a0, n0, c0, rfl⟩ := okWide_slice Try.underlying22 hok
  obtain ⟨fuel, hf⟩ := h
  rcases open_ints Try.underlying22 Try.underlying3 (by kernel_rfl) hf with ⟨h1, h2⟩ | ⟨a, len, cap, zs, h1, -, hl, hm, hz, h2, hc, hw⟩
  · have hv : Value.slice a0 n0 c0 = .slice none 0 0 := List.singleton_inj.1 h1
    rw [hv]
    exact ⟨[], Rd.nil w⟩
  · have hv := List.singleton_inj.1 h1
    rw [hv]
    have hzl : len ≤ zs.length := by rw [hz]; split <;> omega
    have hlen : (zv (zs.take len)).length = len := by rw [zv_length, List.length_take]; omega
    refine ⟨zs.take len, ⟨some a, cap, by rw [hlen], by omega, hm, (fun h => by cases h), fun ad ha j u hu => ?_⟩⟩
    cases ha
    have hj : j < len := by rw [← hlen]; exact (List.getElem?_eq_some_iff.1 hu).1
    rw [hc j (by omega)]
    have hj2 : j < zs.length := by omega
    simp only [zv, List.getElem?_map, List.getElem?_take_of_lt hj, List.getElem?_eq_getElem hj2, Option.map_some, Option.some.injEq] at hu
    subst hu
    rw [List.getD, List.getElem?_eq_getElem hj2, Option.getD_some]
end Go.Proofs.Ytpnckphfjcnooaa
