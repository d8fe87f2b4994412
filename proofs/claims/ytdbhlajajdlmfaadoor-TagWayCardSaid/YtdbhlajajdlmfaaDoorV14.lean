/- A tree with its points that comes in; a key; the table. -/
import Derived.Test.YtdbhlajajdlmfaaDoorB1
import Derived.Test.YtdbhlajajdlmfaaDoorB2
import Derived.Test.YtdbhlajajdlmfaaDoorV2
namespace Go.Proofs.YtdbhlajajdlmfaaDoor
open Go Go.RowKit Go.ChangeShapes Go.WideShapes
set_option maxRecDepth 100000
theorem open_intsV {H : Type} {enc : TypeId × Value → H} {w : World} {base : Nat} {spare : Nat → Bool} {held : Bool} {v : Value} {d : DataW H} {ps : List MemPlace} {W2 : World} {r : Reach} (hok : Value.okWide Tryd.prog W2 r base 22 v) (h : DataW.Trod enc Tryd.prog w 0 spare held 22 v d ps) :
    ∃ l : List Int, Rd w v (zv l) := by
  obtain ⟨a0, n0, c0, rfl⟩ := okWide_slice Tryd.underlying22 hok
  obtain ⟨fuel, hf⟩ := h
  rcases open_ints Tryd.underlying22 Tryd.underlying3 (by kernel_rfl) hf with ⟨h1, h2⟩ | ⟨a, len, cap, zs, h1, -, hl, hm, hz, h2, hc, hw⟩
  · have hv : Value.slice a0 n0 c0 = .slice none 0 0 := List.singleton_inj.1 h1
    rw [hv]
    exact ⟨[], Rd.nil w⟩
  · have hv := List.singleton_inj.1 h1
    rw [hv]
    have hzl : len ≤ zs.length := by rw [hz]; split <;> omega
    have hlen : (zv (zs.take len)).length = len := by rw [zv_length, List.length_take]; omega
    refine ⟨zs.take len, ⟨some a, cap, by rw [hlen], by omega, hm, (fun h => by cases h), fun ad ha j u hu => ?_⟩⟩
    cases ha
    have hj : j < len := by rw [← hlen]; exact (List.getElem?_eq_some_iff.1 hu).1
    rw [hc j (by omega)]
    have hj2 : j < zs.length := by omega
    simp only [zv, List.getElem?_map, List.getElem?_take_of_lt hj, List.getElem?_eq_getElem hj2, Option.map_some, Option.some.injEq] at hu
    subst hu
    rw [List.getD, List.getElem?_eq_getElem hj2, Option.getD_some]
section
variable {H : Type} {enc : TypeId × Value → H} {w : World} {base : Nat} {spare : Nat → Bool} {held : Bool}
theorem open_intsC {fuel : Nat} {cs : List Value} {x : DataW H × List MemPlace} (h : DataW.trod enc Tryd.prog w base spare held fuel 22 cs = some x) : ∃ v l, cs = [v] ∧ Rd w v (zv l) := by
  rcases open_ints Tryd.underlying22 Tryd.underlying3 (by kernel_rfl) h with ⟨rfl, rfl⟩ | ⟨a, len, cap, zs, rfl, -, hl, hm, hz, rfl, hc, hw⟩
  · exact ⟨_, [], rfl, Rd.nil w⟩
  · have hzl : len ≤ zs.length := by rw [hz]; split <;> omega
    have hlen : (zv (zs.take len)).length = len := by rw [zv_length, List.length_take]; omega
    refine ⟨_, zs.take len, rfl, ⟨some a, cap, by rw [hlen], by omega, hm, (fun h => by cases h), fun ad ha j u hu => ?_⟩⟩
    cases ha
    have hj : j < len := by rw [← hlen]; exact (List.getElem?_eq_some_iff.1 hu).1
    rw [hc j (by omega)]
    have hj2 : j < zs.length := by omega
    simp only [zv, List.getElem?_map, List.getElem?_take_of_lt hj, List.getElem?_eq_getElem hj2, Option.map_some, Option.some.injEq] at hu
    subst hu
    rw [List.getD, List.getElem?_eq_getElem hj2, Option.getD_some]
theorem open_levels {fuel : Nat} {cs : List Value} {x : DataW H × List MemPlace} (h : DataW.trod enc Tryd.prog w base spare held fuel 23 cs = some x) : ∃ v ls, cs = [v] ∧ RdLs w v ls := by
  rcases Deep.open_slice1 Tryd.underlying23 (by kernel_rfl) h with ⟨rfl, rfl⟩ | ⟨a, len, cap, m, n, V, D, Pl, rfl, -, hl, hm, hz, rfl, hc⟩
  · exact ⟨_, [], rfl, RdLs.nil w⟩
  · have hml : len ≤ m := by rw [hz]; split <;> omega
    obtain ⟨L, hL⟩ := Deep.choose_lt (α := List Int) (n := len) (p := fun i l => Rd w (V i) (zv l)) (fun i hi => by
      obtain ⟨v, l, h1, h2⟩ := open_intsC (hc i (by omega)).2
      obtain rfl := List.singleton_inj.1 h1
      exact ⟨l, h2⟩)
    refine ⟨_, (List.range len).map L, rfl, ⟨(List.range len).map V, ⟨some a, cap, by simp, by simpa using hl, hm, (fun h => by cases h), fun ad ha j u hu => ?_⟩, by simp, fun i v hv => ?_⟩⟩
    · cases ha
      have hj : j < len := by have := (List.getElem?_eq_some_iff.1 hu).1; simpa using this
      simp only [List.getElem?_map, List.getElem?_range hj, Option.map_some, Option.some.injEq] at hu
      subst hu
      exact (hc j (by omega)).1
    · have hj : i < len := by have := (List.getElem?_eq_some_iff.1 hv).1; simpa using this
      simp only [List.getElem?_map, List.getElem?_range hj, Option.map_some, Option.some.injEq] at hv
      subst hv
      simpa [List.getD, List.getElem?_map, List.getElem?_range hj] using hL i hj
theorem open_shapeC {fuel : Nat} {cs : List Value} {x : DataW H × List MemPlace} (h : DataW.trod enc Tryd.prog w base spare held fuel 25 cs = some x) :
    ∃ vi vl ids ls, cs = shpL vi vl ∧ Rd w vi (zv ids) ∧ RdLs w vl ls := by
  obtain ⟨xs, m, _, hx1, hl, hlen, hf⟩ := DataW.trod_struct Tryd.underlying25 h
  have hl : cs.length = 2 := by rw [hl]; kernel_rfl
  have hlen : xs.length = 2 := hlen
  have f0 := hf 0 _ rfl
  have f1 := hf 1 _ rfl
  rw [List.getElem?_eq_getElem (by omega)] at f0 f1
  match cs, hl with
  | [c0, c1], _ =>
    have hk1 : Tryd.prog.cellsOf 22 = 1 := by kernel_rfl
    have hk2 : Tryd.prog.cellsOf 23 = 1 := by kernel_rfl
    obtain ⟨v, l, e8, hr⟩ := open_intsC f0
    obtain ⟨v2, ls, e9, hr2⟩ := open_levels f1
    simp [hk1] at e8
    simp [hk2] at e9
    subst e8 e9
    exact ⟨_, _, l, ls, rfl, hr, hr2⟩
theorem open_shapeV {v : Value} {d : DataW H} {ps : List MemPlace} {W2 : World} {r : Reach} {b2 : Nat} (hok : Value.okWide Tryd.prog W2 r b2 25 v) (h : DataW.Trod enc Tryd.prog w 0 spare held 25 v d ps) :
    ∃ vi vl ids ls, v = .agg (shpL vi vl).toArray ∧ Rd w vi (zv ids) ∧ RdLs w vl ls := by
  obtain ⟨cs, rfl, -⟩ := okWide_struct Tryd.underlying25 hok
  obtain ⟨fuel, hf⟩ := h
  obtain ⟨vi, vl, ids, ls, h1, h2, h3⟩ := open_shapeC hf
  refine ⟨vi, vl, ids, ls, ?_, h2, h3⟩
  have : cs.toList = _ := h1
  rw [← this]
set_option maxRecDepth 100000 in
theorem open_keysC {fuel : Nat} {cs : List Value} {x : DataW H × List MemPlace} (h : DataW.trod enc Tryd.prog w base spare held fuel 26 cs = some x) : ∃ v l, cs = [v] ∧ RdK w v l := by
  rcases Deep.open_slice Tryd.underlying26 h with ⟨h1, h2⟩ | ⟨a, len, cap, m, n, D, Pl, h1, hb, hl, hm, hmm, hx, hi⟩
  · exact ⟨_, [], h1, RdK.nil w⟩
  · have hk0 : Tryd.prog.cellsOf 30 = 32 := by kernel_rfl
    rw [hk0] at hi
    have hlm : len ≤ m := by rw [hmm]; split <;> omega
    obtain ⟨K, hK⟩ := Deep.choose_lt (α := List (BitVec 8)) (n := len) (p := fun i k => k.length = 32 ∧ ∀ j, j < 32 → w.cell? (a.add (i * 32 + j)) = (bv k)[j]?) (fun i him => by
      obtain ⟨cs', h3, h4⟩ := hi i (by omega)
      obtain ⟨-, hcl, hat⟩ := World.cells?_some h3
      obtain ⟨k, rfl, hk⟩ := open_keyCells hcl h4
      exact ⟨k, hk, fun j hj => by rw [← Deep.add_add, hat j hj]⟩)
    have hks : ∀ k ∈ (List.range len).map K, k.length = 32 := fun k hk => by
      obtain ⟨i, hir, rfl⟩ := List.mem_map.1 hk
      exact (hK i (List.mem_range.1 hir)).1
    refine ⟨_, (List.range len).map K, h1, some a, cap, by simp, by simpa using hl, by unfold maxLen at hm; omega, (fun h => by cases h), hks, fun ad ha i hi => ?_⟩
    cases ha
    have hil : i < len := by simpa using hi
    have hg : ((List.range len).map K).getD i [] = K i := by simp [List.getD_eq_getElem?_getD, hil]
    obtain ⟨h7, h8⟩ := hK i hil
    rw [hg]
    refine ⟨some (a.add (i * 32)), 32, by rw [bv_length, h7], by rw [bv_length, h7]; exact Nat.le_refl _, by omega, (fun h => by cases h), fun ad ha j u hu => ?_⟩
    cases ha
    have hj : j < 32 := by
      have := (List.getElem?_eq_some_iff.1 hu).1
      rwa [bv_length, h7] at this
    rw [Deep.add_add, h8 j hj, hu]
theorem open_treeC {fuel : Nat} {cs : List Value} {x : DataW H × List MemPlace} (h : DataW.trod enc Tryd.prog w base spare held fuel 28 cs = some x) :
    ∃ kind vi vl vp ids ls ps, cs = trL kind vi vl vp ∧ RdTr w vi vl vp ids ls ps := by
  obtain ⟨xs, m, _, hx1, hl, hlen, hf⟩ := DataW.trod_struct Tryd.underlying28 h
  have hl : cs.length = 4 := by rw [hl]; kernel_rfl
  have hlen : xs.length = 3 := hlen
  have f0 := hf 0 _ rfl
  have f1 := hf 1 _ rfl
  have f2 := hf 2 _ rfl
  rw [List.getElem?_eq_getElem (by omega)] at f0 f1 f2
  match cs, hl with
  | [c0, c1, c2, c3], _ =>
    have hk1 : Tryd.prog.cellsOf 3 = 1 := by kernel_rfl
    have hk2 : Tryd.prog.cellsOf 25 = 2 := by kernel_rfl
    have hk3 : Tryd.prog.cellsOf 26 = 1 := by kernel_rfl
    obtain ⟨z0, e0, -, -⟩ := DataW.trod_int Tryd.underlying3 f0
    obtain ⟨vi, vl, ids, ls, e1, hr1, hr2⟩ := open_shapeC f1
    obtain ⟨vp, ps, e2, hr3⟩ := open_keysC f2
    simp [hk1] at e0
    simp [hk2, shpL] at e1
    simp [hk3] at e2
    obtain ⟨rfl, rfl⟩ := e1
    subst e0 e2
    exact ⟨z0, _, _, _, ids, ls, ps, rfl, hr1, hr2, hr3⟩
theorem open_treeV {v : Value} {d : DataW H} {ps : List MemPlace} {W2 : World} {r : Reach} {b2 : Nat} (hok : Value.okWide Tryd.prog W2 r b2 28 v) (h : DataW.Trod enc Tryd.prog w 0 spare held 28 v d ps) :
    ∃ kind vi vl vp ids ls qs, v = .agg (trL kind vi vl vp).toArray ∧ RdTr w vi vl vp ids ls qs := by
  obtain ⟨cs, rfl, -⟩ := okWide_struct Tryd.underlying28 hok
  obtain ⟨fuel, hf⟩ := h
  obtain ⟨kind, vi, vl, vp, ids, ls, qs, h1, h2⟩ := open_treeC hf
  refine ⟨kind, vi, vl, vp, ids, ls, qs, ?_, h2⟩
  have : cs.toList = _ := h1
  rw [← this]
end
theorem okWide_array {P : Program} {w : World} {r : Reach} {base : Nat} {t : TypeId} {v : Value} {n : Nat} {e : TypeId} (ht : P.underlying t = some (.array n e)) (h : Value.okWide P w r base t v) : ∃ cs, v = .agg cs ∧ cs.size = P.cellsOf t := by
  simp only [Value.okWide, ht] at h
  obtain ⟨cs, h1, h2, _⟩ := h
  exact ⟨cs, h1, h2⟩
set_option maxRecDepth 100000 in
theorem open_keyV {H : Type} {enc : TypeId × Value → H} {w : World} {base : Nat} {spare : Nat → Bool} {held : Bool} {v : Value} {d : DataW H} {ps : List MemPlace} {W2 : World} {r : Reach} (hok : Value.okWide Tryd.prog W2 r base 30 v) (h : DataW.Trod enc Tryd.prog w 0 spare held 30 v d ps) :
    ∃ k : List (BitVec 8), v = .agg (bv k).toArray ∧ k.length = 32 := by
  obtain ⟨cs, rfl, hcs⟩ := okWide_array Tryd.underlying30 hok
  obtain ⟨fuel, hf⟩ := h
  have hsz : cs.size = 32 := by rw [hcs]; kernel_rfl
  have g := ints_of_array Tryd.underlying30 Tryd.underlying5 (by kernel_rfl) hf
  obtain ⟨Z, hZ⟩ := Deep.choose_lt (α := Int) (n := 32) (p := fun i z => cs[i]? = some (.int .u8 z) ∧ (Lit.int .u8 z).wf = true) (fun i hi => by
    obtain ⟨z, h1, h2⟩ := g i hi
    exact ⟨z, by simpa [Value.cells] using h1, h2⟩)
  refine ⟨(List.range 32).map fun i => BitVec.ofInt 8 (Z i), ?_, by simp⟩
  congr 1
  apply Array.ext_getElem?
  intro i
  by_cases hi : i < 32
  · rw [(hZ i hi).1]
    simp only [bv, List.map_map, List.getElem?_toArray, List.getElem?_map, List.getElem?_range hi, Option.map_some, Function.comp]
    rw [← bn_of (hZ i hi).2]
  · rw [Array.getElem?_eq_none (by omega), Array.getElem?_eq_none (by simp [bv]; omega)]
theorem tabK_of {W : World} {name : String} {g : Nat} (hg : Tryd.prog.globalNamed name = some g) (h : Lib.TabIs Tryd.prog W name .u32 (k0.map wn)) : TabK K0 g W := by
  unfold Lib.TabIs World.var? at h
  rw [hg] at h
  simp only [Option.bind_some] at h
  split at h
  next cs T fr hb =>
    obtain rfl := Option.some.inj h
    refine ⟨T, _, fr, hb, by decide, fun i hi => ?_⟩
    have hi2 : i < k0.length := hi
    unfold K0
    simp [List.getD, List.getElem?_eq_getElem hi2]
  next => cases h
end Go.Proofs.YtdbhlajajdlmfaaDoor
