/- A list of rules, as an argument: opened. -/
import Derived.Test.YtfgammcefaomeaaB6
import Derived.Test.YtfgammcefaomeaaKR
import Derived.Test.YtfgammcefaomeaaB1
import Derived.Deep.Slices
namespace Go.Proofs.Ytfgammcefaomeaa
open Go Go.RowKit Go.ChangeShapes Go.WideShapes Go.ChangeAt
theorem bulk_one {H : Type} (d : DataW H) : 1 ≤ Rows.uptoBulk d := by
  cases d with
  | lit l => cases l <;> simp [Rows.uptoBulk]
  | nil => simp [Rows.uptoBulk]
  | ptr d => simp [Rows.uptoBulk]
  | slice elems spare => simp [Rows.uptoBulk]
  | agg parts => simp [Rows.uptoBulk]
  | iface t d => simp [Rows.uptoBulk]
  | map entries => simp [Rows.uptoBulk]
  | held h => simp [Rows.uptoBulk]
theorem bulk_length {H : Type} (l : List (DataW H)) : l.length ≤ Rows.uptoBulkAll l := by
  induction l with
  | nil => simp [Rows.uptoBulkAll]
  | cons x r ih => have := bulk_one x; simp only [Rows.uptoBulkAll, List.length_cons]; omega
theorem bulk_elems {H : Type} (elems spare : List (DataW H)) : Rows.uptoBulkAll elems + 1 ≤ Rows.uptoBulk (.slice elems spare) := by
  simp only [Rows.uptoBulk]
  omega
theorem bulk_part {H : Type} {d : DataW H} {l : List (DataW H)} (h : d ∈ l) : Rows.uptoBulk d ≤ Rows.uptoBulkAll l := by
  induction l with
  | nil => cases h
  | cons x r ih =>
    simp only [Rows.uptoBulkAll]
    cases List.mem_cons.1 h with
    | inl e => subst e; omega
    | inr e => have := ih e; omega
section
variable {H : Type} {enc : TypeId × Value → H} {w : World} {base : Nat} {spare : Nat → Bool} {held : Bool}
theorem open_intsB {fuel : Nat} {cs : List Value} {x : DataW H × List MemPlace} (h : DataW.trod enc Try.prog w base spare held fuel 22 cs = some x) : ∃ v l, cs = [v] ∧ Rd w v (zv l) ∧ l.length ≤ Rows.uptoBulk x.1 := by
  rcases open_ints Try.underlying22 Try.underlying3 (by kernel_rfl) h with ⟨rfl, rfl⟩ | ⟨a, len, cap, zs, rfl, -, hl, hm, hz, rfl, hc, hw⟩
  · exact ⟨_, [], rfl, Rd.nil w, Nat.zero_le _⟩
  · have hzl : len ≤ zs.length := by rw [hz]; split <;> omega
    have hlen : (zv (zs.take len)).length = len := by rw [zv_length, List.length_take]; omega
    refine ⟨_, zs.take len, rfl, ⟨some a, cap, by rw [hlen], by omega, hm, (fun h => by cases h), fun ad ha j u hu => ?_⟩, ?_⟩
    rotate_left 1
    · have h2 := bulk_elems (ChangeShapes.lits (H := H) .i64 (zs.take len)) (ChangeShapes.lits .i64 (zs.drop len))
      have h3 := bulk_length (ChangeShapes.lits (H := H) .i64 (zs.take len))
      simp only [ChangeShapes.lits, List.length_map, List.length_take] at h2 h3 ⊢
      omega
    cases ha
    have hj : j < len := by rw [← hlen]; exact (List.getElem?_eq_some_iff.1 hu).1
    rw [hc j (by omega)]
    have hj2 : j < zs.length := by omega
    simp only [zv, List.getElem?_map, List.getElem?_take_of_lt hj, List.getElem?_eq_getElem hj2, Option.map_some, Option.some.injEq] at hu
    subst hu
    rw [List.getD, List.getElem?_eq_getElem hj2, Option.getD_some]
set_option maxRecDepth 100000 in
theorem open_rlCells {fuel : Nat} {cs : List Value} {x : DataW H × List MemPlace} (hl : cs.length = 2) (h : DataW.trod enc Try.prog w base spare held fuel 58 cs = some x) : ∃ s : Rl × Value, cs = rlR s.1 s.2 ∧ Rd w s.2 (zv s.1.frm) ∧ s.1.frm.length ≤ Rows.uptoBulk x.1 := by
  obtain ⟨xs, m, _, hx1, hl2, hlen, hf⟩ := DataW.trod_struct Try.underlying58 h
  have hlen : xs.length = 2 := hlen
  have hk0 : Try.prog.cellsOf 3 = 1 := by kernel_rfl
  have hk2 : Try.prog.cellsOf 22 = 1 := by kernel_rfl
  have f0 := hf 0 _ rfl
  have f1 := hf 1 _ rfl
  rw [List.getElem?_eq_getElem (by omega)] at f0 f1
  match cs, hl with
  | [c0, c1], _ =>
    obtain ⟨v0, l0, e0, hr, hb⟩ := open_intsB f0
    obtain ⟨z1, e1, -, -⟩ := DataW.trod_int Try.underlying3 f1
    simp [hk0, hk2] at e0 e1
    subst e0 e1
    refine ⟨(⟨l0, z1⟩, c0), rfl, hr, ?_⟩
    have h4 : xs[0].1 ∈ xs.map (·.1) := List.mem_map.2 ⟨_, List.getElem_mem _, rfl⟩
    have h5 := bulk_part h4
    rw [hx1]
    simp only [Rows.uptoBulk]
    (try simp only at hb ⊢)
    omega
set_option maxRecDepth 100000 in
theorem open_rlsV {r : Reach} {b2 : Nat} {v : Value} {d : DataW H} {ps : List MemPlace} (hok : Value.okWide Try.prog w r b2 56 v) (h : DataW.Trod enc Try.prog w 0 spare held 56 v d ps) :
    ∃ zs : List (Rl × Value), RdRl w v zs ∧ ∀ p ∈ zs, p.1.frm.length ≤ Rows.uptoBulk d := by
  obtain ⟨a0, n0, c0, rfl⟩ := okWide_slice Try.underlying56 hok
  obtain ⟨fuel, hf⟩ := h
  rcases Deep.open_slice Try.underlying56 hf with ⟨h1, h2⟩ | ⟨a, len, cap, m, n, D, Pl, h1, hb, hl, hm, hmm, hx, hi⟩
  · have hv : Value.slice a0 n0 c0 = .slice none 0 0 := List.singleton_inj.1 h1
    rw [hv]
    exact ⟨[], ⟨RdR.nil 2 w, fun z hz => by simp at hz⟩, fun z hz => by simp at hz⟩
  · have hv := List.singleton_inj.1 h1
    rw [hv] at hok ⊢
    have hk0 : Try.prog.cellsOf 58 = 2 := by kernel_rfl
    rw [hk0] at hi
    have hlm : len ≤ m := by rw [hmm]; split <;> omega
    simp only [Value.okWide, Cell.okWide, Try.underlying56, Cell.ok] at hok
    obtain ⟨-, -, -, hsp, row, cells, hsh, -⟩ := hok
    have hbl : a.block < w.heap.size := by
      rcases Nat.lt_or_ge a.block w.heap.size with h' | h'
      · exact h'
      · simp [World.shape?, Array.getElem?_eq_none h'] at hsh
    obtain ⟨b, off, sp⟩ := a
    simp only at hsp hbl
    subst hsp
    haveI : Inhabited (Rl × Value) := ⟨rlP⟩
    obtain ⟨K, hK⟩ := Deep.choose_lt (α := Rl × Value) (n := len) (p := fun i s => ((∀ j, j < 2 → w.cell? (Addr.add ⟨b, off, none⟩ (i * 2 + j)) = (rlR s.1 s.2)[j]?) ∧ Rd w s.2 (zv s.1.frm)) ∧ s.1.frm.length ≤ Rows.uptoBulk (D i)) (fun i him => by
      obtain ⟨cs', h3, h4⟩ := hi i (by omega)
      obtain ⟨-, hcl, hat⟩ := World.cells?_some h3
      obtain ⟨s, rfl, hw, hs⟩ := open_rlCells hcl h4
      exact ⟨s, ⟨fun j hj => by rw [← Deep.add_add, hat j hj], hw⟩, hs⟩)
    have hrow : Row 2 (rlRs ((List.range len).map K)) := by
      intro r hr
      obtain ⟨s, hs, rfl⟩ := List.mem_map.1 hr
      obtain ⟨i, hi2, rfl⟩ := List.mem_map.1 hs
      have h5 := (hK i (List.mem_range.1 hi2)).1.2
      obtain ⟨ka, kc, hk, -, -⟩ := h5.numS
      rw [hk]
      exact ⟨rfl, rlR_one⟩
    have hd : d = .slice ((List.range len).map D) ((List.range (m - len)).map fun j => D (len + j)) := congrArg Prod.fst hx
    refine ⟨(List.range len).map K, ⟨⟨hrow, .inr ⟨b, off, cap, by simp [rlRs], by simpa [rlRs] using hl, by unfold maxLen at hm; omega, hbl, fun i hi j u hu => ?_⟩⟩, fun z hz => ?_⟩, fun z hz => ?_⟩
    · have hil : i < len := by simpa [rlRs] using hi
      have hg : (rlRs ((List.range len).map K)).getD i [] = rlR (K i).1 (K i).2 := by simp [rlRs, hil]
      rw [hg] at hu
      have hj : j < 2 := (List.getElem?_eq_some_iff.1 hu).1
      have := (hK i hil).1.1 j hj
      rw [Addr.add_lit] at this
      rw [Nat.add_assoc, this]
      exact hu
    · obtain ⟨i, hi, rfl⟩ := List.mem_map.1 hz
      exact (hK i (List.mem_range.1 hi)).1.2
    · obtain ⟨i, hi, rfl⟩ := List.mem_map.1 hz
      have h1 := (hK i (List.mem_range.1 hi)).2
      have h2 : D i ∈ (List.range len).map D := List.mem_map.2 ⟨i, hi, rfl⟩
      have h3 := bulk_part h2
      have h4 := bulk_elems ((List.range len).map D) ((List.range (m - len)).map fun j => D (len + j))
      rw [hd]
      omega
end
end Go.Proofs.Ytfgammcefaomeaa
