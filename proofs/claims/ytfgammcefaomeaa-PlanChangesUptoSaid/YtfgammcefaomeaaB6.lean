import Derived.Test.YtfgammcefaomeaaB1
import Derived.Test.YtfgammcefaomeaaB2
import Derived.Test.YtfgammcefaomeaaB4
import Derived.Deep.Slices
import Derived.Carry
/- A slice of int as an argument, opened. -/
namespace Go.Proofs.Ytfgammcefaomeaa
open Go Go.RowKit Go.ChangeShapes Go.WideShapes
set_option maxRecDepth 100000
theorem open_intsV {H : Type} {enc : TypeId × Value → H} {w : World} {base : Nat} {spare : Nat → Bool} {held : Bool} {v : Value} {d : DataW H} {ps : List MemPlace} {W2 : World} {r : Reach} (hok : Value.okWide Try.prog W2 r base 22 v) (h : DataW.Trod enc Try.prog w 0 spare held 22 v d ps) :
    ∃ l : List Int, Rd w v (zv l) := by
  obtain ⟨a0, n0, c0, rfl⟩ := okWide_slice Try.underlying22 hok
  obtain ⟨fuel, hf⟩ := h
  rcases open_ints Try.underlying22 Try.underlying3 (by kernel_rfl) hf with ⟨h1, h2⟩ | ⟨a, len, cap, zs, h1, -, hl, hm, hz, h2, hc, hw⟩
  · have hv : Value.slice a0 n0 c0 = .slice none 0 0 := List.singleton_inj.1 h1
    rw [hv]
    exact ⟨[], Rd.nil w⟩
  · have hv := List.singleton_inj.1 h1
    rw [hv]
    have hzl : len ≤ zs.length := by rw [hz]; split <;> omega
    have hlen : (zv (zs.take len)).length = len := by rw [zv_length, List.length_take]; omega
    refine ⟨zs.take len, ⟨some a, cap, by rw [hlen], by omega, hm, (fun h => by cases h), fun ad ha j u hu => ?_⟩⟩
    cases ha
    have hj : j < len := by rw [← hlen]; exact (List.getElem?_eq_some_iff.1 hu).1
    rw [hc j (by omega)]
    have hj2 : j < zs.length := by omega
    simp only [zv, List.getElem?_map, List.getElem?_take_of_lt hj, List.getElem?_eq_getElem hj2, Option.map_some, Option.some.injEq] at hu
    subst hu
    rw [List.getD, List.getElem?_eq_getElem hj2, Option.getD_some]
end Go.Proofs.Ytfgammcefaomeaa
/- A tree that comes in: its members, and its levels. -/
namespace Go.Proofs.Ytfgammcefaomeaa
open Go Go.RowKit Go.ChangeShapes Go.WideShapes
set_option maxRecDepth 100000
section
variable {H : Type} {enc : TypeId × Value → H} {w : World} {base : Nat} {spare : Nat → Bool} {held : Bool}
theorem open_intsC {fuel : Nat} {cs : List Value} {x : DataW H × List MemPlace} (h : DataW.trod enc Try.prog w base spare held fuel 22 cs = some x) : ∃ v l, cs = [v] ∧ Rd w v (zv l) := by
  rcases open_ints Try.underlying22 Try.underlying3 (by kernel_rfl) h with ⟨rfl, rfl⟩ | ⟨a, len, cap, zs, rfl, -, hl, hm, hz, rfl, hc, hw⟩
  · exact ⟨_, [], rfl, Rd.nil w⟩
  · have hzl : len ≤ zs.length := by rw [hz]; split <;> omega
    have hlen : (zv (zs.take len)).length = len := by rw [zv_length, List.length_take]; omega
    refine ⟨_, zs.take len, rfl, ⟨some a, cap, by rw [hlen], by omega, hm, (fun h => by cases h), fun ad ha j u hu => ?_⟩⟩
    cases ha
    have hj : j < len := by rw [← hlen]; exact (List.getElem?_eq_some_iff.1 hu).1
    rw [hc j (by omega)]
    have hj2 : j < zs.length := by omega
    simp only [zv, List.getElem?_map, List.getElem?_take_of_lt hj, List.getElem?_eq_getElem hj2, Option.map_some, Option.some.injEq] at hu
    subst hu
    rw [List.getD, List.getElem?_eq_getElem hj2, Option.getD_some]
theorem open_levels {fuel : Nat} {cs : List Value} {x : DataW H × List MemPlace} (h : DataW.trod enc Try.prog w base spare held fuel 23 cs = some x) : ∃ v ls, cs = [v] ∧ RdLs w v ls := by
  rcases Deep.open_slice1 Try.underlying23 (by kernel_rfl) h with ⟨rfl, rfl⟩ | ⟨a, len, cap, m, n, V, D, Pl, rfl, -, hl, hm, hz, rfl, hc⟩
  · exact ⟨_, [], rfl, RdLs.nil w⟩
  · have hml : len ≤ m := by rw [hz]; split <;> omega
    obtain ⟨L, hL⟩ := Deep.choose_lt (α := List Int) (n := len) (p := fun i l => Rd w (V i) (zv l)) (fun i hi => by
      obtain ⟨v, l, h1, h2⟩ := open_intsC (hc i (by omega)).2
      obtain rfl := List.singleton_inj.1 h1
      exact ⟨l, h2⟩)
    refine ⟨_, (List.range len).map L, rfl, ⟨(List.range len).map V, ⟨some a, cap, by simp, by simpa using hl, hm, (fun h => by cases h), fun ad ha j u hu => ?_⟩, by simp, fun i v hv => ?_⟩⟩
    · cases ha
      have hj : j < len := by have := (List.getElem?_eq_some_iff.1 hu).1; simpa using this
      simp only [List.getElem?_map, List.getElem?_range hj, Option.map_some, Option.some.injEq] at hu
      subst hu
      exact (hc j (by omega)).1
    · have hj : i < len := by have := (List.getElem?_eq_some_iff.1 hv).1; simpa using this
      simp only [List.getElem?_map, List.getElem?_range hj, Option.map_some, Option.some.injEq] at hv
      subst hv
      simpa [List.getD, List.getElem?_map, List.getElem?_range hj] using hL i hj
theorem open_shapeC {fuel : Nat} {cs : List Value} {x : DataW H × List MemPlace} (h : DataW.trod enc Try.prog w base spare held fuel 25 cs = some x) :
    ∃ vi vl ids ls, cs = shpL vi vl ∧ Rd w vi (zv ids) ∧ RdLs w vl ls := by
  obtain ⟨xs, m, _, hx1, hl, hlen, hf⟩ := DataW.trod_struct Try.underlying25 h
  have hl : cs.length = 2 := by rw [hl]; kernel_rfl
  have hlen : xs.length = 2 := hlen
  have f0 := hf 0 _ rfl
  have f1 := hf 1 _ rfl
  rw [List.getElem?_eq_getElem (by omega)] at f0 f1
  match cs, hl with
  | [c0, c1], _ =>
    have hk1 : Try.prog.cellsOf 22 = 1 := by kernel_rfl
    have hk2 : Try.prog.cellsOf 23 = 1 := by kernel_rfl
    obtain ⟨v, l, e8, hr⟩ := open_intsC f0
    obtain ⟨v2, ls, e9, hr2⟩ := open_levels f1
    simp [hk1] at e8
    simp [hk2] at e9
    subst e8 e9
    exact ⟨_, _, l, ls, rfl, hr, hr2⟩
theorem open_shapeV {v : Value} {d : DataW H} {ps : List MemPlace} {W2 : World} {r : Reach} {b2 : Nat} (hok : Value.okWide Try.prog W2 r b2 25 v) (h : DataW.Trod enc Try.prog w 0 spare held 25 v d ps) :
    ∃ vi vl ids ls, v = .agg (shpL vi vl).toArray ∧ Rd w vi (zv ids) ∧ RdLs w vl ls := by
  obtain ⟨cs, rfl, -⟩ := okWide_struct Try.underlying25 hok
  obtain ⟨fuel, hf⟩ := h
  obtain ⟨vi, vl, ids, ls, h1, h2, h3⟩ := open_shapeC hf
  refine ⟨vi, vl, ids, ls, ?_, h2, h3⟩
  have : cs.toList = _ := h1
  rw [← this]
end
end Go.Proofs.Ytfgammcefaomeaa
/- A list of nodes, as an argument: opened. -/
namespace Go.Proofs.Ytfgammcefaomeaa
open Go Go.RowKit Go.ChangeShapes Go.WideShapes Go.ChangeAt
section
variable {H : Type} {enc : TypeId × Value → H} {w : World} {base : Nat} {spare : Nat → Bool} {held : Bool}
set_option maxRecDepth 100000 in
theorem open_ndCells {fuel : Nat} {cs : List Value} {x : DataW H × List MemPlace} (hl : cs.length = 7) (h : DataW.trod enc Try.prog w base spare held fuel 38 cs = some x) : ∃ s : Nd × Value, cs = ndR s.1 s.2 ∧ Rd w s.2 (zv s.1.ks) := by
  obtain ⟨xs, m, _, hx1, hl2, hlen, hf⟩ := DataW.trod_struct Try.underlying38 h
  have hlen : xs.length = 7 := hlen
  have hk0 : Try.prog.cellsOf 3 = 1 := by kernel_rfl
  have hk1 : Try.prog.cellsOf 4 = 1 := by kernel_rfl
  have hk2 : Try.prog.cellsOf 22 = 1 := by kernel_rfl
  have f0 := hf 0 _ rfl
  have f1 := hf 1 _ rfl
  have f2 := hf 2 _ rfl
  have f3 := hf 3 _ rfl
  have f4 := hf 4 _ rfl
  have f5 := hf 5 _ rfl
  have f6 := hf 6 _ rfl
  rw [List.getElem?_eq_getElem (by omega)] at f0 f1 f2 f3 f4 f5 f6
  match cs, hl with
  | [c0, c1, c2, c3, c4, c5, c6], _ =>
    obtain ⟨z0, e0, -, -⟩ := DataW.trod_int Try.underlying3 f0
    obtain ⟨z1, e1, -, -⟩ := DataW.trod_int Try.underlying3 f1
    obtain ⟨b2, e2, -⟩ := DataW.trod_bool Try.underlying4 f2
    obtain ⟨z3, e3, -, -⟩ := DataW.trod_int Try.underlying3 f3
    obtain ⟨z4, e4, -, -⟩ := DataW.trod_int Try.underlying3 f4
    obtain ⟨v5, l5, e5, hr⟩ := open_intsC f5
    obtain ⟨z6, e6, -, -⟩ := DataW.trod_int Try.underlying3 f6
    simp [hk0, hk1, hk2] at e0 e1 e2 e3 e4 e5 e6
    subst e0 e1 e2 e3 e4 e5 e6
    exact ⟨(⟨z0, z1, b2, z3, z4, l5, z6⟩, c5), rfl, hr⟩
set_option maxRecDepth 100000 in
theorem open_ndsV {r : Reach} {b2 : Nat} {v : Value} {d : DataW H} {ps : List MemPlace} (hok : Value.okWide Try.prog w r b2 34 v) (h : DataW.Trod enc Try.prog w 0 spare held 34 v d ps) :
    ∃ zs : List (Nd × Value), RdN w v zs := by
  obtain ⟨a0, n0, c0, rfl⟩ := okWide_slice Try.underlying34 hok
  obtain ⟨fuel, hf⟩ := h
  rcases Deep.open_slice Try.underlying34 hf with ⟨h1, h2⟩ | ⟨a, len, cap, m, n, D, Pl, h1, hb, hl, hm, hmm, hx, hi⟩
  · have hv : Value.slice a0 n0 c0 = .slice none 0 0 := List.singleton_inj.1 h1
    rw [hv]
    exact ⟨[], RdR.nil 7 w, fun z hz => by simp at hz⟩
  · have hv := List.singleton_inj.1 h1
    rw [hv] at hok ⊢
    have hk0 : Try.prog.cellsOf 38 = 7 := by kernel_rfl
    rw [hk0] at hi
    have hlm : len ≤ m := by rw [hmm]; split <;> omega
    simp only [Value.okWide, Cell.okWide, Try.underlying34, Cell.ok] at hok
    obtain ⟨-, -, -, hsp, row, cells, hsh, -⟩ := hok
    have hbl : a.block < w.heap.size := by
      rcases Nat.lt_or_ge a.block w.heap.size with h' | h'
      · exact h'
      · simp [World.shape?, Array.getElem?_eq_none h'] at hsh
    obtain ⟨b, off, sp⟩ := a
    simp only at hsp hbl
    subst hsp
    haveI : Inhabited (Nd × Value) := ⟨ndP⟩
    obtain ⟨K, hK⟩ := Deep.choose_lt (α := Nd × Value) (n := len) (p := fun i s => (∀ j, j < 7 → w.cell? (Addr.add ⟨b, off, none⟩ (i * 7 + j)) = (ndR s.1 s.2)[j]?) ∧ Rd w s.2 (zv s.1.ks)) (fun i him => by
      obtain ⟨cs', h3, h4⟩ := hi i (by omega)
      obtain ⟨-, hcl, hat⟩ := World.cells?_some h3
      obtain ⟨s, rfl, hw⟩ := open_ndCells hcl h4
      exact ⟨s, fun j hj => by rw [← Deep.add_add, hat j hj], hw⟩)
    have hrow : Row 7 (ndRs ((List.range len).map K)) := by
      intro r hr
      obtain ⟨s, hs, rfl⟩ := List.mem_map.1 hr
      obtain ⟨i, hi2, rfl⟩ := List.mem_map.1 hs
      have h5 := (hK i (List.mem_range.1 hi2)).2
      obtain ⟨ka, kc, hk, -, -⟩ := h5.numS
      rw [hk]
      exact ⟨rfl, ndR_one⟩
    refine ⟨(List.range len).map K, ⟨hrow, .inr ⟨b, off, cap, by simp [ndRs], by simpa [ndRs] using hl, by unfold maxLen at hm; omega, hbl, fun i hi j u hu => ?_⟩⟩, fun z hz => ?_⟩
    · have hil : i < len := by simpa [ndRs] using hi
      have hg : (ndRs ((List.range len).map K)).getD i [] = ndR (K i).1 (K i).2 := by simp [ndRs, hil]
      rw [hg] at hu
      have hj : j < 7 := (List.getElem?_eq_some_iff.1 hu).1
      have := (hK i hil).1 j hj
      rw [Addr.add_lit] at this
      rw [Nat.add_assoc, this]
      exact hu
    · obtain ⟨i, hi, rfl⟩ := List.mem_map.1 hz
      exact (hK i (List.mem_range.1 hi)).2
end
end Go.Proofs.Ytfgammcefaomeaa
/- Five arguments, opened and put together again. -/
namespace Go.Proofs.Ytfgammcefaomeaa
open Go Go.RowKit Go.ChangeShapes Go.WideShapes
variable {H : Type} {enc : TypeId × Value → H} {P : Program} {w : World} {base : Nat} {spare : Nat → Bool} {held : Bool}
theorem trodAll_five {t0 t1 t2 t3 t4 : TypeId} {args : Array Value} {ds : List (DataW H)} {ps : List MemPlace} (h : DataW.TrodAll enc P w base spare held [t0, t1, t2, t3, t4] args.toList ds ps) :
    ∃ v0 v1 v2 v3 v4 d0 d1 d2 d3 d4 p0 p1 p2 p3 p4, args = #[v0, v1, v2, v3, v4] ∧ ds = [d0, d1, d2, d3, d4] ∧ ps = p0 ++ p1 ++ p2 ++ p3 ++ p4 ∧ DataW.Trod enc P w base spare held t0 v0 d0 p0 ∧ DataW.Trod enc P w base spare held t1 v1 d1 p1 ∧ DataW.Trod enc P w base spare held t2 v2 d2 p2 ∧ DataW.Trod enc P w base spare held t3 v3 d3 p3 ∧ DataW.Trod enc P w base spare held t4 v4 d4 p4 := by
  obtain ⟨v0, l0, d0, e0, p0, q0, hargs, rfl, rfl, h0, k0⟩ := trodAll_cons h
  obtain ⟨v1, l1, d1, e1, p1, q1, rfl, rfl, rfl, h1, k1⟩ := trodAll_cons k0
  obtain ⟨v2, l2, d2, e2, p2, q2, rfl, rfl, rfl, h2, k2⟩ := trodAll_cons k1
  obtain ⟨v3, l3, d3, e3, p3, q3, rfl, rfl, rfl, h3, k3⟩ := trodAll_cons k2
  obtain ⟨v4, l4, d4, e4, p4, q4, rfl, rfl, rfl, h4, k4⟩ := trodAll_cons k3
  obtain ⟨rfl, rfl, rfl⟩ := trodAll_nil k4
  exact ⟨v0, v1, v2, v3, v4, d0, d1, d2, d3, d4, p0, p1, p2, p3, p4, by cases args; simp_all, rfl, by simp, h0, h1, h2, h3, h4⟩
theorem trodAll_mk5 {t0 t1 t2 t3 t4 : TypeId} {v0 v1 v2 v3 v4 : Value} {d0 d1 d2 d3 d4 : DataW H} {p0 p1 p2 p3 p4 : List MemPlace} (h0 : DataW.Trod enc P w base spare held t0 v0 d0 p0) (h1 : DataW.Trod enc P w base spare held t1 v1 d1 p1)
    (h2 : DataW.Trod enc P w base spare held t2 v2 d2 p2) (h3 : DataW.Trod enc P w base spare held t3 v3 d3 p3) (h4 : DataW.Trod enc P w base spare held t4 v4 d4 p4) :
    DataW.TrodAll enc P w base spare held [t0, t1, t2, t3, t4] [v0, v1, v2, v3, v4] [d0, d1, d2, d3, d4] (p0 ++ (p1 ++ (p2 ++ (p3 ++ p4)))) := ⟨p0, p1 ++ (p2 ++ (p3 ++ p4)), h0, trodAll_mk4 h1 h2 h3 h4, rfl⟩
end Go.Proofs.Ytfgammcefaomeaa
