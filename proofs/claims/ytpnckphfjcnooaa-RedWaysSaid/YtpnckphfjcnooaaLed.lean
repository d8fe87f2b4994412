/- A ledger of the blocks that a walk has made: what each holds now, by its number in the order of making. -/
import Derived.Test.YtpnckphfjcnooaaStruct
import Derived.Test.YtpnckphfjcnooaaMacExpands
namespace Go.Proofs.Ytpnckphfjcnooaa
open Go Go.RowKit
structure Led (w0 w : World) (L : List (Nat × Obj)) : Prop where
  aft : Aft w0 w
  has : ∀ (i g : Nat) (o : Obj), L[i]? = some (g, o) → w.heap[g]? = some o ∧ w0.heap.size ≤ g
  inc : ∀ (i j g h : Nat) (o p : Obj), i < j → L[i]? = some (g, o) → L[j]? = some (h, p) → g < h
theorem Led.start (w : World) : Led w w [] := ⟨Aft.refl w, fun _ _ _ h => by simp at h, fun _ _ _ _ _ _ _ h => by simp at h⟩
theorem Led.get {w0 w : World} {L : List (Nat × Obj)} (h : Led w0 w L) (i : Nat) {g : Nat} {o : Obj} (hi : L[i]? = some (g, o)) : w.heap[g]? = some o := (h.has i g o hi).1
theorem Led.call {w0 w w' : World} {L : List (Nat × Obj)} (h : Led w0 w L) (ha : Aft w w') : Led w0 w' L :=
  ⟨Aft.trans h.aft ha, fun i g o hi => ⟨Aft.get ha (h.get i hi), (h.has i g o hi).2⟩, h.inc⟩
theorem Led.fresh {w0 w w' : World} {L : List (Nat × Obj)} {obj : Obj} {g0 : Nat} (h : Led w0 w L) (ha : Aft w w') (hle : w.heap.size ≤ g0) (hg : w'.heap[g0]? = some obj) : Led w0 w' (L ++ [(g0, obj)]) := by
  have hlt : ∀ (i g : Nat) (o : Obj), L[i]? = some (g, o) → g < w.heap.size := fun i g o hi => heap_lt (h.get i hi)
  have hsz := Below.size h.aft
  refine ⟨Aft.trans h.aft ha, fun i g o hi => ?_, fun i j g k o p hij hi hj => ?_⟩
  · by_cases hl : i < L.length
    · rw [List.getElem?_append_left hl] at hi
      exact ⟨Aft.get ha (h.get i hi), (h.has i g o hi).2⟩
    · rw [List.getElem?_append_right (by omega)] at hi
      have : i - L.length = 0 := by have := (List.getElem?_eq_some_iff.1 hi).1; simp at this; omega
      rw [this] at hi
      cases hi
      exact ⟨hg, by omega⟩
  · by_cases hl : j < L.length
    · rw [List.getElem?_append_left hl] at hj
      rw [List.getElem?_append_left (by omega)] at hi
      exact h.inc i j g k o p hij hi hj
    · rw [List.getElem?_append_right (by omega)] at hj
      have h0 : j - L.length = 0 := by have := (List.getElem?_eq_some_iff.1 hj).1; simp at this; omega
      rw [h0] at hj
      cases hj
      rw [List.getElem?_append_left (by omega)] at hi
      have := hlt i g o hi
      omega
theorem Led.alloc {w0 w w' : World} {L : List (Nat × Obj)} {obj : Obj} (h : Led w0 w L) (ha : Aft w w') (hg : w'.heap[w.heap.size]? = some obj) : Led w0 w' (L ++ [(w.heap.size, obj)]) := h.fresh ha (Nat.le_refl _) hg
theorem Led.store {w0 w w' : World} {L : List (Nat × Obj)} (h : Led w0 w L) (i : Nat) {g : Nat} {old new : Obj} (hi : L[i]? = some (g, old)) (h1 : Hid (w'.heap[g]? = some new)) (h2 : Hid (∀ k, k ≠ g → w'.heap[k]? = w.heap[k]?))
    (h3 : ∀ k w0, k ≤ g → Below k w0 w → Below k w0 w') : Led w0 w' (L.set i (g, new)) := by
  have hl : i < L.length := (List.getElem?_eq_some_iff.1 hi).1
  have hset : ∀ (j k : Nat) (o : Obj), (L.set i (g, new))[j]? = some (k, o) → ∃ o', L[j]? = some (k, o') ∧ (j ≠ i → o' = o) := by
    intro j k o hj
    by_cases hji : j = i
    · subst hji
      rw [List.getElem?_set_self hl] at hj
      cases hj
      exact ⟨old, hi, fun h => absurd rfl h⟩
    · rw [List.getElem?_set_ne (Ne.symm hji)] at hj
      exact ⟨o, hj, fun _ => rfl⟩
  refine ⟨h3 _ _ (h.has i g old hi).2 h.aft, fun j k o hj => ?_, fun j l k m o p hjl hj hp => ?_⟩
  · obtain ⟨o', ho, hoo⟩ := hset j k o hj
    refine ⟨?_, (h.has j k o' ho).2⟩
    by_cases hji : j = i
    · subst hji
      rw [List.getElem?_set_self hl] at hj
      cases hj
      exact h1
    · obtain rfl := hoo hji
      have hne : k ≠ g := by
        intro e
        subst e
        rcases Nat.lt_or_gt_of_ne hji with hlt | hlt
        · exact absurd (h.inc j i k k _ _ hlt ho hi) (Nat.lt_irrefl _)
        · exact absurd (h.inc i j k k _ _ hlt hi ho) (Nat.lt_irrefl _)
      exact (h2 k hne).trans (h.get j ho)
  · obtain ⟨o', ho, -⟩ := hset j k o hj
    obtain ⟨p', hp', -⟩ := hset l m p hp
    exact h.inc j l k m o' p' hjl ho hp'
theorem Led.tab {w0 w : World} {L : List (Nat × Obj)} {b : Nat} (h : Led w0 w L) (hK : TabK K0 b w0) : TabK K0 b w := TabK_fr hK (Fr.of_below (S := fun _ => False) h.aft) (fun h => h)
theorem Led.le {w0 w : World} {L : List (Nat × Obj)} (h : Led w0 w L) (i : Nat) {g : Nat} {o : Obj} (hi : L[i]? = some (g, o)) : w0.heap.size ≤ g := (h.has i g o hi).2
/-- A struct, built: its value by an equation. -/
theorem wpList_buildO {P : Program} {ops : Array Oper} {rest : List Oper} {o : Oper} {a : Act} {w : World} {Q : Exit → Act → World → Prop} (hw : Region.wanted o (yielded ops a.tmps) = true) (ty : TypeId) (parts : Array (Nat × Operand)) (ho : o.op = .build ty parts) (vs : Array (Nat × Value))
    (hp : (parts.map fun (i, x) => (i, a.eval x)) = vs) (v : Value) (hv : ∀ w1, (Instr.build ty vs).run P w1 = .ok v w1) (h : wpList P ops Q rest (a.put o.dst v) w) : wpList P ops Q (o :: rest) a w := by
  unfold wpList
  rw [if_pos hw]
  refine .inl (wp_noOut ?_)
  unfold Oper.wp execOp
  simp only [ho, hp, Sem.run_bind, hv, Result.andThen_ok, Sem.run_pure]
  exact h
end Go.Proofs.Ytpnckphfjcnooaa

