/- A plan that comes in, opened: with how much it holds. -/
import Derived.Test.YtfgammcefaomeaaOpenPl
import Derived.Test.YtfgammcefaomeaaP5
import Derived.Test.YtfgammcefaomeaaB1
import Derived.Deep.Slices
import Derived.Test.YtfgammcefaomeaaRows
namespace Go.Proofs.Ytfgammcefaomeaa
open Go Go.RowKit Go.ChangeShapes Go.WideShapes Go.ChangeAt
theorem bulk_oneP {H : Type} (d : DataW H) : 1 ≤ Rows.uptoBulk d := by
  cases d with
  | lit l => cases l <;> simp [Rows.uptoBulk]
  | nil => simp [Rows.uptoBulk]
  | ptr d => simp [Rows.uptoBulk]
  | slice elems spare => simp [Rows.uptoBulk]
  | agg parts => simp [Rows.uptoBulk]
  | iface t d => simp [Rows.uptoBulk]
  | map entries => simp [Rows.uptoBulk]
  | held h => simp [Rows.uptoBulk]
theorem bulk_lengthP {H : Type} (l : List (DataW H)) : l.length ≤ Rows.uptoBulkAll l := by
  induction l with
  | nil => simp [Rows.uptoBulkAll]
  | cons x r ih => have := bulk_oneP x; simp only [Rows.uptoBulkAll, List.length_cons]; omega
theorem bulk_elemsP {H : Type} (elems spare : List (DataW H)) : Rows.uptoBulkAll elems + 1 ≤ Rows.uptoBulk (.slice elems spare) := by
  simp only [Rows.uptoBulk]
  omega
theorem bulk_partP {H : Type} {d : DataW H} {l : List (DataW H)} (h : d ∈ l) : Rows.uptoBulk d ≤ Rows.uptoBulkAll l := by
  induction l with
  | nil => cases h
  | cons x r ih =>
    simp only [Rows.uptoBulkAll]
    cases List.mem_cons.1 h with
    | inl e => subst e; omega
    | inr e => have := ih e; omega
section
variable {H : Type} {enc : TypeId × Value → H} {w : World} {base : Nat} {spare : Nat → Bool} {held : Bool}
theorem open_intsP {fuel : Nat} {cs : List Value} {x : DataW H × List MemPlace} (h : DataW.trod enc Try.prog w base spare held fuel 22 cs = some x) : ∃ v l, cs = [v] ∧ Rd w v (zv l) ∧ l.length ≤ Rows.uptoBulk x.1 := by
  rcases open_ints Try.underlying22 Try.underlying3 (by kernel_rfl) h with ⟨rfl, rfl⟩ | ⟨a, len, cap, zs, rfl, -, hl, hm, hz, rfl, hc, hw⟩
  · exact ⟨_, [], rfl, Rd.nil w, Nat.zero_le _⟩
  · have hzl : len ≤ zs.length := by rw [hz]; split <;> omega
    have hlen : (zv (zs.take len)).length = len := by rw [zv_length, List.length_take]; omega
    refine ⟨_, zs.take len, rfl, ⟨some a, cap, by rw [hlen], by omega, hm, (fun h => by cases h), fun ad ha j u hu => ?_⟩, ?_⟩
    rotate_left 1
    · have h2 := bulk_elemsP (ChangeShapes.lits (H := H) .i64 (zs.take len)) (ChangeShapes.lits .i64 (zs.drop len))
      have h3 := bulk_lengthP (ChangeShapes.lits (H := H) .i64 (zs.take len))
      simp only [ChangeShapes.lits, List.length_map, List.length_take] at h2 h3 ⊢
      omega
    cases ha
    have hj : j < len := by rw [← hlen]; exact (List.getElem?_eq_some_iff.1 hu).1
    rw [hc j (by omega)]
    have hj2 : j < zs.length := by omega
    simp only [zv, List.getElem?_map, List.getElem?_take_of_lt hj, List.getElem?_eq_getElem hj2, Option.map_some, Option.some.injEq] at hu
    subst hu
    rw [List.getD, List.getElem?_eq_getElem hj2, Option.getD_some]
set_option maxRecDepth 100000 in
theorem open_stCells {fuel : Nat} {cs : List Value} {x : DataW H × List MemPlace} (hl : cs.length = 3) (h : DataW.trod enc Try.prog w base spare held fuel 40 cs = some x) : ∃ s : Stp × Value, cs = stR s.1.nd s.1.fr s.2 ∧ Rd w s.2 (zv s.1.sd) := by
  obtain ⟨xs, m, _, hx1, hl2, hlen, hf⟩ := DataW.trod_struct Try.underlying40 h
  have hlen : xs.length = 3 := hlen
  have hk0 : Try.prog.cellsOf 3 = 1 := by kernel_rfl
  have hk2 : Try.prog.cellsOf 22 = 1 := by kernel_rfl
  have f0 := hf 0 _ rfl
  have f1 := hf 1 _ rfl
  have f2 := hf 2 _ rfl
  rw [List.getElem?_eq_getElem (by omega)] at f0 f1 f2
  match cs, hl with
  | [c0, c1, c2], _ =>
    obtain ⟨z0, e0, -, -⟩ := DataW.trod_int Try.underlying3 f0
    obtain ⟨z1, e1, -, -⟩ := DataW.trod_int Try.underlying3 f1
    obtain ⟨v2, l2, e2, hr, -⟩ := open_intsP f2
    simp [hk0, hk2] at e0 e1 e2
    subst e0 e1 e2
    exact ⟨(⟨z0, z1, l2⟩, c2), rfl, hr⟩
set_option maxRecDepth 100000 in
theorem open_stepsC {fuel : Nat} {b2 : Nat} {r : Reach} {v : Value} {x : DataW H × List MemPlace} (hok : Cell.okWide Try.prog w r b2 28 v) (hf : DataW.trod enc Try.prog w 0 spare held fuel 28 [v] = some x) :
    ∃ ps : List (Stp × Value), RdSt w v ps ∧ ps.length ≤ Rows.uptoBulk x.1 := by
  rcases Deep.open_slice Try.underlying28 hf with ⟨h1, h2⟩ | ⟨a, len, cap, m, n, D, Pl, h1, hb, hl, hm, hmm, hx, hi⟩
  · rw [List.singleton_inj.1 h1]
    exact ⟨[], ⟨RdR.nil 3 w, fun z hz => by simp at hz⟩, Nat.zero_le _⟩
  · have hv := List.singleton_inj.1 h1
    rw [hv] at hok ⊢
    have hk0 : Try.prog.cellsOf 40 = 3 := by kernel_rfl
    rw [hk0] at hi
    have hlm : len ≤ m := by rw [hmm]; split <;> omega
    simp only [Cell.okWide, Try.underlying28, Cell.ok] at hok
    obtain ⟨-, -, -, hsp, row, cells, hsh, -⟩ := hok
    have hbl : a.block < w.heap.size := by
      rcases Nat.lt_or_ge a.block w.heap.size with h' | h'
      · exact h'
      · simp [World.shape?, Array.getElem?_eq_none h'] at hsh
    obtain ⟨b, off, sp⟩ := a
    simp only at hsp hbl
    subst hsp
    haveI : Inhabited (Stp × Value) := ⟨stP⟩
    obtain ⟨K, hK⟩ := Deep.choose_lt (α := Stp × Value) (n := len) (p := fun i s => (∀ j, j < 3 → w.cell? (Addr.add ⟨b, off, none⟩ (i * 3 + j)) = (stR s.1.nd s.1.fr s.2)[j]?) ∧ Rd w s.2 (zv s.1.sd)) (fun i him => by
      obtain ⟨cs', h3, h4⟩ := hi i (by omega)
      obtain ⟨-, hcl, hat⟩ := World.cells?_some h3
      obtain ⟨s, rfl, hw⟩ := open_stCells hcl h4
      exact ⟨s, fun j hj => by rw [← Deep.add_add, hat j hj], hw⟩)
    have hrow : Row 3 (stRs ((List.range len).map K)) := by
      intro r hr
      obtain ⟨s, hs, rfl⟩ := List.mem_map.1 hr
      obtain ⟨i, hi2, rfl⟩ := List.mem_map.1 hs
      have h5 := (hK i (List.mem_range.1 hi2)).2
      obtain ⟨ka, kc, hk, -, -⟩ := h5.numS
      rw [hk]
      exact ⟨rfl, stR_one⟩
    refine ⟨(List.range len).map K, ⟨⟨hrow, .inr ⟨b, off, cap, by simp [stRs], by simpa [stRs] using hl, by unfold maxLen at hm; omega, hbl, fun i hi j u hu => ?_⟩⟩, fun z hz => ?_⟩, ?_⟩
    · have hil : i < len := by simpa [stRs] using hi
      have hg : (stRs ((List.range len).map K)).getD i [] = stR (K i).1.nd (K i).1.fr (K i).2 := by simp [stRs, hil]
      rw [hg] at hu
      have hj : j < 3 := (List.getElem?_eq_some_iff.1 hu).1
      have := (hK i hil).1 j hj
      rw [Addr.add_lit] at this
      rw [Nat.add_assoc, this]
      exact hu
    · obtain ⟨i, hi, rfl⟩ := List.mem_map.1 hz
      exact (hK i (List.mem_range.1 hi)).2
    · have h3 := bulk_lengthP ((List.range len).map D)
      have h4 := bulk_elemsP ((List.range len).map D) ((List.range (m - len)).map fun j => D (len + j))
      rw [hx]
      simp only [List.length_map, List.length_range] at h3 ⊢
      omega
set_option maxRecDepth 100000 in
theorem open_planV {v : Value} {d : DataW H} {ps : List MemPlace} {r : Reach} {b2 : Nat} (hok : Value.okWide Try.prog w r b2 30 v) (h : DataW.Trod enc Try.prog w 0 spare held 30 v d ps) :
    ∃ vk vs k zs, v = .agg (plR vk vs).toArray ∧ Rd w vk (zv k) ∧ RdSt w vs zs ∧ k.length ≤ Rows.uptoBulk d ∧ zs.length ≤ Rows.uptoBulk d := by
  simp only [Value.okWide, Try.underlying30] at hok
  obtain ⟨cs, rfl, hsz, ts, hts, -, hall⟩ := hok
  have hts2 : Try.prog.cellTypes Try.prog.depth 30 = some [22, 28] := by kernel_rfl
  rw [hts2] at hts
  have hts := (Option.some.inj hts).symm
  subst hts
  obtain ⟨fuel, hf⟩ := h
  obtain ⟨xs, m, _, hx1, hl, hlen, hf⟩ := DataW.trod_struct Try.underlying30 hf
  have hl : (Value.agg cs).cells.toList.length = 2 := by rw [hl]; kernel_rfl
  have hlen : xs.length = 2 := hlen
  have hcs : (Value.agg cs).cells = cs := rfl
  rw [hcs] at hl hf
  have hk1 : Try.prog.cellsOf 22 = 1 := by kernel_rfl
  have hk2 : Try.prog.cellsOf 28 = 1 := by kernel_rfl
  have f0 := hf 0 _ rfl
  have f1 := hf 1 _ rfl
  rw [List.getElem?_eq_getElem (by omega)] at f0 f1
  obtain ⟨L, hL⟩ : ∃ L, L = cs.toList := ⟨_, rfl⟩
  have hcs2 : cs = L.toArray := by rw [hL]
  rw [← hL] at f0 f1 hl
  match L, hl, hcs2 with
  | [c0, c1], _, hcs2 =>
    obtain ⟨v0, l0, e0, hr0, hb0⟩ := open_intsP f0
    simp [hk1] at e0
    subst e0
    have hc1 : cs[1]? = some c1 := by rw [hcs2]; rfl
    obtain ⟨u, hu, hcok⟩ := hall 1 c1 hc1
    have hu : some 28 = some u := hu
    have hu := Option.some.inj hu
    subst hu
    simp [hk2] at f1
    obtain ⟨zs, hz1, hz2⟩ := open_stepsC hcok f1
    have h4 : xs[0].1 ∈ xs.map (·.1) := List.mem_map.2 ⟨_, List.getElem_mem _, rfl⟩
    have h5 : xs[1].1 ∈ xs.map (·.1) := List.mem_map.2 ⟨_, List.getElem_mem _, rfl⟩
    have h4 := bulk_partP h4
    have h5 := bulk_partP h5
    have hd : d = .agg (xs.map (·.1)) := congrArg Prod.fst hx1
    refine ⟨c0, c1, l0, zs, by rw [hcs2]; rfl, hr0, hz1, ?_, ?_⟩
    · rw [hd]
      simp only [Rows.uptoBulk]
      omega
    · rw [hd]
      simp only [Rows.uptoBulk]
      omega
end
end Go.Proofs.Ytfgammcefaomeaa
