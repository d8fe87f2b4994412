/- A tree, and a list of numbers, that come in, opened: what they hold fits. -/
import Derived.Test.YtfgammcefaomeaaB6
namespace Go.Proofs.Ytfgammcefaomeaa
open Go Go.RowKit Go.ChangeShapes Go.WideShapes
set_option maxRecDepth 100000
section
variable {H : Type} {enc : TypeId × Value → H} {w : World} {base : Nat} {spare : Nat → Bool} {held : Bool}
theorem open_intsCW {fuel : Nat} {cs : List Value} {x : DataW H × List MemPlace} (h : DataW.trod enc Try.prog w base spare held fuel 22 cs = some x) : ∃ v l, cs = [v] ∧ Rd w v (zv l) ∧ ∀ z ∈ l, (Lit.int .i64 z).wf = true := by
  rcases open_ints Try.underlying22 Try.underlying3 (by kernel_rfl) h with ⟨rfl, rfl⟩ | ⟨a, len, cap, zs, rfl, -, hl, hm, hz, rfl, hc, hw⟩
  · exact ⟨_, [], rfl, Rd.nil w, fun z hz => by cases hz⟩
  · have hzl : len ≤ zs.length := by rw [hz]; split <;> omega
    have hlen : (zv (zs.take len)).length = len := by rw [zv_length, List.length_take]; omega
    refine ⟨_, zs.take len, rfl, ⟨some a, cap, by rw [hlen], by omega, hm, (fun h => by cases h), fun ad ha j u hu => ?_⟩, fun z hz => hw z (List.mem_of_mem_take hz)⟩
    cases ha
    have hj : j < len := by rw [← hlen]; exact (List.getElem?_eq_some_iff.1 hu).1
    rw [hc j (by omega)]
    have hj2 : j < zs.length := by omega
    simp only [zv, List.getElem?_map, List.getElem?_take_of_lt hj, List.getElem?_eq_getElem hj2, Option.map_some, Option.some.injEq] at hu
    subst hu
    rw [List.getD, List.getElem?_eq_getElem hj2, Option.getD_some]
theorem open_intsVW {v : Value} {d : DataW H} {ps : List MemPlace} {W2 : World} {r : Reach} {b2 : Nat} (hok : Value.okWide Try.prog W2 r b2 22 v) (h : DataW.Trod enc Try.prog w 0 spare held 22 v d ps) :
    ∃ l : List Int, Rd w v (zv l) ∧ ∀ z ∈ l, (Lit.int .i64 z).wf = true := by
  obtain ⟨a0, n0, c0, rfl⟩ := okWide_slice Try.underlying22 hok
  obtain ⟨fuel, hf⟩ := h
  obtain ⟨v, l, h1, h2, h3⟩ := open_intsCW hf
  have hv : Value.slice a0 n0 c0 = v := List.singleton_inj.1 h1
  rw [hv]
  exact ⟨l, h2, h3⟩
theorem open_shapeCW {fuel : Nat} {cs : List Value} {x : DataW H × List MemPlace} (h : DataW.trod enc Try.prog w base spare held fuel 25 cs = some x) :
    ∃ vi vl ids ls, cs = shpL vi vl ∧ Rd w vi (zv ids) ∧ RdLs w vl ls ∧ ∀ z ∈ ids, (Lit.int .i64 z).wf = true := by
  obtain ⟨xs, m, _, hx1, hl, hlen, hf⟩ := DataW.trod_struct Try.underlying25 h
  have hl : cs.length = 2 := by rw [hl]; kernel_rfl
  have hlen : xs.length = 2 := hlen
  have f0 := hf 0 _ rfl
  have f1 := hf 1 _ rfl
  rw [List.getElem?_eq_getElem (by omega)] at f0 f1
  match cs, hl with
  | [c0, c1], _ =>
    have hk1 : Try.prog.cellsOf 22 = 1 := by kernel_rfl
    have hk2 : Try.prog.cellsOf 23 = 1 := by kernel_rfl
    obtain ⟨v, l, e8, hr, hw⟩ := open_intsCW f0
    obtain ⟨v2, ls, e9, hr2⟩ := open_levels f1
    simp [hk1] at e8
    simp [hk2] at e9
    subst e8 e9
    exact ⟨_, _, l, ls, rfl, hr, hr2, hw⟩
theorem open_shapeVW {v : Value} {d : DataW H} {ps : List MemPlace} {W2 : World} {r : Reach} {b2 : Nat} (hok : Value.okWide Try.prog W2 r b2 25 v) (h : DataW.Trod enc Try.prog w 0 spare held 25 v d ps) :
    ∃ vi vl ids ls, v = .agg (shpL vi vl).toArray ∧ Rd w vi (zv ids) ∧ RdLs w vl ls ∧ ∀ z ∈ ids, (Lit.int .i64 z).wf = true := by
  obtain ⟨cs, rfl, -⟩ := okWide_struct Try.underlying25 hok
  obtain ⟨fuel, hf⟩ := h
  obtain ⟨vi, vl, ids, ls, h1, h2, h3, h4⟩ := open_shapeCW hf
  refine ⟨vi, vl, ids, ls, ?_, h2, h3, h4⟩
  have : cs.toList = _ := h1
  rw [← this]
end
end Go.Proofs.Ytfgammcefaomeaa
