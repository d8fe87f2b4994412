/- Nodes' kids stand ahead of them: PlOk of any two trees that may be. -/
import Derived.Test.YtfgammcefaomeaaP6
import Derived.Test.YtfgammcefaomeaaQ
namespace Go.Proofs.Ytfgammcefaomeaa
open Go Go.RowKit
set_option linter.unusedSimpArgs false
/-- Kids stand ahead. -/
def KdOk (b : Nat) (S : List Nd) : Prop := ∀ i, i < S.length → ∀ k ∈ (S.getD i nd0).ks, ∃ j : Nat, k = (j : Int) ∧ b ≤ j ∧ j < b + i
theorem KdOk.app {b : Nat} {A B : List Nd} (h1 : KdOk b A) (h2 : KdOk (b + A.length) B) : KdOk b (A ++ B) := by
  intro i hi k hk
  rw [List.length_append] at hi
  by_cases h : i < A.length
  · rw [getD_app_left h] at hk
    exact h1 i h k hk
  · rw [getD_app_right (by omega)] at hk
    obtain ⟨j, q1, q2, q3⟩ := h2 (i - A.length) (by omega) k hk
    exact ⟨j, q1, by omega, by omega⟩
theorem KdOk.snoc {b : Nat} {A : List Nd} {x : Nd} (h1 : KdOk b A) (hx : ∀ k ∈ x.ks, ∃ j : Nat, k = (j : Int) ∧ b ≤ j ∧ j < b + A.length) : KdOk b (A ++ [x]) := by
  intro i hi k hk
  rw [List.length_append, List.length_singleton] at hi
  by_cases h : i < A.length
  · rw [getD_app_left h] at hk
    exact h1 i h k hk
  · obtain rfl : i = A.length := by omega
    rw [getD_app_right (Nat.le_refl _), Nat.sub_self] at hk
    exact hx k hk
theorem upL_ks (A : List Nd) (n : Int) (i : Nat) : ((upL A n).getD i nd0).ks = (A.getD i nd0).ks := by
  unfold upL
  by_cases h : i = A.length - 1
  · subst h
    by_cases h0 : A.length - 1 < A.length
    · rw [List.getD_eq_getElem?_getD, List.getElem?_set_self h0]
      rfl
    · rw [List.set_eq_of_length_le (by omega)]
  · rw [List.getD_eq_getElem?_getD, List.getElem?_set_ne (by omega), ← List.getD_eq_getElem?_getD]
theorem KdOk.upL {b : Nat} {A : List Nd} (h : KdOk b A) (n : Int) : KdOk b (upL A n) := by
  intro i hi k hk
  rw [upL_length] at hi
  rw [upL_ks] at hk
  exact h i hi k hk
theorem kz_in {ks : List Nat} {k : Int} (h : k ∈ kz ks) : ∃ j : Nat, k = (j : Int) ∧ j ∈ ks := by
  obtain ⟨j, h1, h2⟩ := List.mem_map.1 h
  exact ⟨j, h2.symm, h1⟩
theorem seg_kd (kind : Int) (ls : List (List Int)) : ∀ (L at' b : Nat), KdOk b (seg kind ls L at' b)
  | 0, at', b => by
    intro i hi k hk
    simp only [seg, List.length_singleton] at hi
    obtain rfl : i = 0 := by omega
    simp [seg, ndN, kz] at hk
  | L + 1, at', b => by
    have hA := seg_kd kind ls L (fstN ls L at') b
    have pA := seg_pos kind ls L (fstN ls L at') b
    have hB := seg_kd kind ls L (fstN ls L at' + 1) (b + (seg kind ls L (fstN ls L at') b).length)
    have pB := seg_pos kind ls L (fstN ls L at' + 1) (b + (seg kind ls L (fstN ls L at') b).length)
    simp only [seg]
    generalize seg kind ls L (fstN ls L at') b = A at *
    generalize seg kind ls L (fstN ls L at' + 1) (b + A.length) = B at *
    split
    · rw [← List.append_assoc]
      refine KdOk.snoc ((hA.upL _).app (by rw [upL_length]; exact hB.upL _)) fun k hk => ?_
      obtain ⟨j, h1, h2⟩ := kz_in hk
      simp only [List.mem_cons, List.not_mem_nil, or_false] at h2
      rw [List.length_append, upL_length, upL_length]
      exact ⟨j, h1, by omega, by omega⟩
    · split
      · have hC := seg_kd kind ls L (fstN ls L at' + 2) (b + A.length + B.length)
        have pC := seg_pos kind ls L (fstN ls L at' + 2) (b + A.length + B.length)
        generalize seg kind ls L (fstN ls L at' + 2) (b + A.length + B.length) = C at *
        rw [← List.append_assoc, ← List.append_assoc]
        refine KdOk.snoc (((hA.upL _).app (by rw [upL_length]; exact hB.upL _)).app (by rw [List.length_append, upL_length, upL_length, ← Nat.add_assoc]; exact hC.upL _)) fun k hk => ?_
        obtain ⟨j, h1, h2⟩ := kz_in hk
        simp only [List.mem_cons, List.not_mem_nil, or_false] at h2
        rw [List.length_append, List.length_append, upL_length, upL_length, upL_length]
        exact ⟨j, h1, by omega, by omega⟩
      · have hC := seg_kd kind ls L (fstN ls L at' + 2) (b + A.length + B.length + 1)
        have pC := seg_pos kind ls L (fstN ls L at' + 2) (b + A.length + B.length + 1)
        generalize seg kind ls L (fstN ls L at' + 2) (b + A.length + B.length + 1) = C at *
        rw [← List.append_assoc, ← List.singleton_append, ← List.append_assoc, ← List.append_assoc]
        refine KdOk.snoc ((KdOk.snoc ((hA.upL _).app (by rw [upL_length]; exact hB.upL _)) fun k hk => ?_).app (by rw [List.length_append, List.length_append, upL_length, upL_length, List.length_singleton, ← Nat.add_assoc, ← Nat.add_assoc]; exact hC.upL _)) fun k hk => ?_
        · obtain ⟨j, h1, h2⟩ := kz_in hk
          simp only [List.mem_cons, List.not_mem_nil, or_false] at h2
          rw [List.length_append, upL_length, upL_length]
          exact ⟨j, h1, by omega, by omega⟩
        · obtain ⟨j, h1, h2⟩ := kz_in hk
          simp only [List.mem_cons, List.not_mem_nil, or_false] at h2
          rw [List.length_append, List.length_append, List.length_append, upL_length, upL_length, upL_length, List.length_singleton]
          exact ⟨j, h1, by omega, by omega⟩
theorem nodes_kd {kind : Int} {ids : List Int} {ls : List (List Int)} (hok : OkT ids ls) {i : Nat} (hi : i < (nodesL kind ids ls).length) : ∀ k ∈ ((nodesL kind ids ls).getD i nd0).ks, ∃ j : Nat, k = (j : Int) ∧ j < i := by
  by_cases hz : ids.length = 0
  · unfold nodesL at hi
    rw [if_pos hz] at hi
    simp at hi
  · rw [nodes_seg hok hz] at hi ⊢
    intro k hk
    obtain ⟨j, h1, -, h2⟩ := seg_kd kind ls ls.length 0 0 i hi k hk
    exact ⟨j, h1, by omega⟩
theorem nodes_few {kind : Int} {ids : List Int} {ls : List (List Int)} (hok : OkT ids ls) : (nodesL kind ids ls).length ≤ 90000 := by
  have h := (below_length kind ls ls.length 0 []).2
  have h9 : 3 ^ ls.length ≤ 3 ^ 9 := Nat.pow_le_pow_right (by decide) (lv_nine2 hok)
  unfold nodesL
  split
  · simp
  · simp only [List.length_nil] at h
    omega
/-- A leaf, or a node above others. -/
theorem nodes_lv {kind : Int} {ids : List Int} {ls : List (List Int)} (hok : OkT ids ls) {i : Nat} (hi : i < (nodesL kind ids ls).length) :
    (((nodesL kind ids ls).getD i nd0).lv = 0 ∧ ((nodesL kind ids ls).getD i nd0).ks = [] ∧ ∃ j : Nat, ((nodesL kind ids ls).getD i nd0).ix = (j : Int) ∧ j < ids.length) ∨ (0 < ((nodesL kind ids ls).getD i nd0).lv ∧ ((nodesL kind ids ls).getD i nd0).ks ≠ []) := by
  rcases nodes_good (kind := kind) hok hi with ⟨at', h1, h2, h3, h4, -⟩ | ⟨L, at', ks, h1, h2, h3, h4, -⟩
  · exact .inl ⟨h2, h3, at', h4, h1⟩
  · refine .inr ⟨by rw [h1]; omega, fun q => ?_⟩
    rw [h3] at q
    have := congrArg List.length q
    simp [kz] at this
    rw [this] at h4
    simp at h4
theorem pl_ok {kind : Int} {ids0 : List Int} {ls0 : List (List Int)} {ids : List Int} {ls : List (List Int)} (h0 : OkT ids0 ls0) (h1 : OkT ids ls) (w0 : ∀ x ∈ ids0, (Lit.int .i64 x).wf = true) (w1 : ∀ x ∈ ids, (Lit.int .i64 x).wf = true) : PlOk (nodesL kind ids0 ls0) ids0 (nodesL kind ids ls) ids := by
  refine ⟨fun i hi hz => ?_, fun i hi => ?_, fun i hi => nodes_k3 h0 i, fun i hi hz => ?_, fun i hi hz => ?_, w0, w1⟩
  · rcases nodes_lv (kind := kind) h0 hi with ⟨-, -, q⟩ | ⟨q, -⟩
    · exact q
    · omega
  · rcases nodes_up (kind := kind) h0 hi with q | ⟨j, q1, -, q2⟩
    · exact .inl q
    · exact .inr ⟨j, q1, q2⟩
  · rcases nodes_lv (kind := kind) h1 hi with ⟨-, -, q⟩ | ⟨q, -⟩
    · exact q
    · omega
  · rcases nodes_lv (kind := kind) h1 hi with ⟨q, -, -⟩ | ⟨-, q⟩
    · exact absurd q hz
    · exact ⟨q, nodes_k3 h1 i, nodes_kd h1 hi⟩
/-- What plan.Make needs of its arguments. -/
theorem make_pre {kind by' : Int} {ids0 : List Int} {ls0 : List (List Int)} {ids : List Int} {ls : List (List Int)} (w0 : ∀ x ∈ ids0, (Lit.int .i64 x).wf = true) (w1 : ∀ x ∈ ids, (Lit.int .i64 x).wf = true) (h : mayE kind ids0 ls0 = 0 ∧ mayE kind ids ls = 0 ∧ by' ∈ ids) :
    PlOk (nodesL kind ids0 ls0) ids0 (nodesL kind ids ls) ids ∧ (nodesL kind ids0 ls0).length ≤ 90000 ∧ (nodesL kind ids ls).length ≤ 90000 :=
  ⟨pl_ok (mayE_zero.1 h.1).2 (mayE_zero.1 h.2.1).2 w0 w1, nodes_few (mayE_zero.1 h.1).2, nodes_few (mayE_zero.1 h.2.1).2⟩
end Go.Proofs.Ytfgammcefaomeaa
