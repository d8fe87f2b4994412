/- What RatchetOnce wants beside: lists of keys, and a ledger without some of its blocks. -/
import Derived.Test.YtanodhagpegbfaaDoorROncePure
import Derived.Test.YtanodhagpegbfaaDoorRLive
namespace Go.Proofs.YtanodhagpegbfaaDoor
open Go Go.RowKit
theorem getElem?_snoc {α : Type} {L : List α} {x y : α} {i : Nat} (h : (L ++ [x])[i]? = some y) (hl : ¬ i < L.length) : i = L.length ∧ x = y := by
  rw [List.getElem?_append_right (by omega)] at h
  have h0 : i - L.length = 0 := by have := (List.getElem?_eq_some_iff.1 h).1; simp at this; omega
  rw [h0] at h
  exact ⟨by omega, Option.some.inj h⟩
theorem wpList_keySliceR {ops : Array Oper} {rest : List Oper} {o : Oper} {a : Act} {w : World} {Q : Exit → Act → World → Prop} (hw : Region.wanted o (yielded ops a.tmps) = true) (x : Operand) (ho : o.op = .buildSlice 47 1 #[(0, x)]) (X : List (BitVec 8)) (hX : X.length = 32) (hx : a.eval x = .agg (bv X).toArray)
    (h : ∀ w', Aft w w' → Hid (w'.heap[w.heap.size]? = some (.cells (bv X).toArray 23)) → wpList Tryd.prog ops Q rest (a.put o.dst (.slice (some ⟨w.heap.size, 0, none⟩) 1 1)) w') : wpList Tryd.prog ops Q (o :: rest) a w := by
  unfold wpList
  rw [if_pos hw]
  exact .inl (wp_noOut (wp_keySlice x ho X hX hx (h _ (Aft.alloc w _) (heap_alloc_new w _))))
theorem wpList_append_keyR {ops : Array Oper} {rest : List Oper} {o : Oper} {a : Act} {w : World} {Q : Exit → Act → World → Prop} (hw : Region.wanted o (yielded ops a.tmps) = true) (s x : Operand) (ho : o.op = .call { callee := .builtin .append, args := #[s, x], argTypes := #[47, 47] })
    (base : Nat) (v : Value) (ks : List (List (BitVec 8))) (hs : a.eval s = v) (hown : OwnK w base v ks) (g : Nat) (hx : a.eval x = .slice (some ⟨g, 0, none⟩) 1 1) (X : List (BitVec 8)) (hX : X.length = 32) (t : TypeId) (fr : Nat × Nat) (hg : w.heap[g]? = some (.cells (bv X).toArray t fr))
    (hl : ks.length ≤ 1000000) (hbase : base ≤ w.heap.size) (h : ∀ v' w', OwnK w' base v' (ks ++ [X]) → w.grownBy w' v.ownBlock → wpList Tryd.prog ops Q rest (a.put o.dst v') w') : wpList Tryd.prog ops Q (o :: rest) a w := by
  unfold wpList
  rw [if_pos hw]
  exact .inl (wp_noOut (wp_append_key s x ho base v ks hs hown g hx X hX t fr hg hl hbase h))
theorem OwnK.stored {w w' : World} {base g : Nat} {v : Value} {ks : List (List (BitVec 8))} {cs : Array Value} {t : TypeId} {fr : Nat × Nat} (h : OwnK w base v ks) (hg : w.heap[g]? = some (.cells cs t fr)) (ht : t ≠ 23) (hb : ∀ k, k ≠ g → w'.heap[k]? = w.heap[k]?) : OwnK w' base v ks := by
  refine h.keep fun k hk => hb k ?_
  rintro rfl
  rcases h.2.2 with ⟨rfl, -⟩ | ⟨g, cap, cur, rfl, -, hg', -⟩
  · cases hk
  · cases hk
    rw [hg] at hg'
    cases hg'
    exact ht rfl
theorem OwnK.shape {w : World} {base : Nat} {v : Value} {ks : List (List (BitVec 8))} (h : OwnK w base v ks) : ∃ ao cap, v = .slice ao ks.length cap := own_shape h.2
theorem Led.grownK {w0 w w' : World} {L : List (Nat × Obj)} {v : Value} {base : Nat} {ks : List (List (BitVec 8))} (h : Led w0 w L) (ho : OwnK w base v ks) (hb : w0.heap.size ≤ base) (hg : w.grownBy w' v.ownBlock)
    (hx : ∀ k, v.ownBlock = some k → ∀ (i g : Nat) (cs : Array Value) (fr : Nat × Nat), L[i]? = some (g, Obj.cells cs 23 fr) → g ≠ k) : Led w0 w' L := by
  refine h.grown hg fun k hk => ⟨by have := (ho.lt k hk).1; omega, fun p hp e => ?_⟩
  obtain ⟨i, hi⟩ := List.mem_iff_getElem?.1 hp
  rcases ho.2.2 with ⟨rfl, -⟩ | ⟨g, cap, cur, rfl, -, hgc, -⟩
  · cases hk
  · cases hk
    have := h.get i (g := p.1) (o := p.2) hi
    rw [e] at this
    have h2 : p.2 = .cells cur 23 (0, 0) := Option.some.inj (this.symm.trans hgc)
    exact hx g rfl i p.1 cur (0, 0) (by rw [hi, ← h2]) e
theorem Led.skip {w0 w : World} {L : List (Nat × Obj)} (h : Led w0 w L) (n : Nat) : Led w0 w (L.eraseIdx n) :=
  have ht : ∀ (i : Nat) (p : Nat × Obj), (L.eraseIdx n)[i]? = some p → L[if i < n then i else i + 1]? = some p := fun i p hp => by
    rw [List.getElem?_eraseIdx] at hp
    split at hp
    · rename_i hq; rw [if_pos hq]; exact hp
    · rename_i hq; rw [if_neg hq]; exact hp
  ⟨h.aft, fun i g o hi => h.has _ g o (ht i _ hi), fun i j g k o p hij hi hj => h.inc _ _ g k o p (by split <;> split <;> omega) (ht i _ hi) (ht j _ hj)⟩
theorem Led.add {w0 w : World} {L : List (Nat × Obj)} {g : Nat} {o : Obj} (h : Led w0 w L) (hg : w.heap[g]? = some o) (hl : w0.heap.size ≤ g) (hi : ∀ (i k : Nat) (p : Obj), L[i]? = some (k, p) → k < g) : Led w0 w (L ++ [(g, o)]) := by
  refine ⟨h.aft, fun i k p hp => ?_, fun i j k m p q hij hp hq => ?_⟩
  · by_cases hlt : i < L.length
    · rw [List.getElem?_append_left hlt] at hp
      exact h.has i k p hp
    · obtain ⟨-, e⟩ := getElem?_snoc hp hlt
      cases e
      exact ⟨hg, hl⟩
  · by_cases hlt : j < L.length
    · rw [List.getElem?_append_left hlt] at hq
      rw [List.getElem?_append_left (by omega)] at hp
      exact h.inc i j k m p q hij hp hq
    · obtain ⟨hj, e⟩ := getElem?_snoc hq hlt
      cases e
      rw [List.getElem?_append_left (by omega)] at hp
      exact hi i k p hp
theorem Sks.nilGrow {n₀ n₁ : Nat} {w w' : World} {v : Value} (h : n₀ ≤ n₁) : Sks n₀ w v [] → Sks n₁ w' v []
  | .inl e => .inl e
  | .inr ⟨b, off, cap, e, hb, _⟩ => .inr ⟨b, off, cap, e, by omega, fun j hj => absurd hj (Nat.not_lt_zero _)⟩
theorem next_none (C : List (BitVec 8)) {i : Nat} (h : i < 40) : rnE i [] = 0 ∧ rnK C i [] = drvKey C keyS [] ∧ rnC C i [] = drvKey C chainS [] ∧ rnG i [] = i + 1 ∧ rnZ i [] = [] := by
  have hc : chkE i [] = 0 := if_pos ⟨by omega, by simp, rfl⟩
  have he : rnE i [] = 0 := by
    unfold rnE
    rw [if_neg (by rw [hc]; simp), if_neg (by omega)]
  refine ⟨he, ?_, ?_, ?_, ?_⟩
  · unfold rnK; rw [if_pos he]
  · unfold rnC; rw [if_pos he]
  · unfold rnG; rw [if_pos he]
  · unfold rnZ; rw [if_pos he]
end Go.Proofs.YtanodhagpegbfaaDoor
