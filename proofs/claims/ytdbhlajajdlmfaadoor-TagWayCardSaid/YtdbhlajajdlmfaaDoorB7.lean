import Derived.Test.YtdbhlajajdlmfaaDoorB2
import Derived.Test.YtdbhlajajdlmfaaDoorQ
/- (*plan.maker).kept, walked. -/
namespace Go.Proofs.YtdbhlajajdlmfaaDoor
open Go Go.RowKit
set_option linter.unusedSimpArgs false
theorem getD_memP {l : List Int} {i : Nat} (h : i < l.length) : l.getD i 0 ∈ l := by
  rw [List.getD_eq_getElem?_getD, List.getElem?_eq_getElem h]
  exact List.getElem_mem h
theorem take_getD {l : List Int} {i : Nat} (h : i < l.length) : l.take (i + 1) = l.take i ++ [l.getD i 0] := by
  rw [List.take_add_one, List.getElem?_eq_getElem h, List.getD_eq_getElem?_getD, List.getElem?_eq_getElem h]
  rfl
end Go.Proofs.YtdbhlajajdlmfaaDoor
/- Nodes' kids stand ahead of them: PlOk of any two trees that may be. -/
namespace Go.Proofs.YtdbhlajajdlmfaaDoor
open Go Go.RowKit
set_option linter.unusedSimpArgs false
/-- Kids stand ahead. -/
def KdOk (b : Nat) (S : List Nd) : Prop := ∀ i, i < S.length → ∀ k ∈ (S.getD i nd0).ks, ∃ j : Nat, k = (j : Int) ∧ b ≤ j ∧ j < b + i
theorem KdOk.app {b : Nat} {A B : List Nd} (h1 : KdOk b A) (h2 : KdOk (b + A.length) B) : KdOk b (A ++ B) := by
  intro i hi k hk
  rw [List.length_append] at hi
  by_cases h : i < A.length
  · rw [getD_app_left h] at hk
    exact h1 i h k hk
  · rw [getD_app_right (by omega)] at hk
    obtain ⟨j, q1, q2, q3⟩ := h2 (i - A.length) (by omega) k hk
    exact ⟨j, q1, by omega, by omega⟩
theorem KdOk.snoc {b : Nat} {A : List Nd} {x : Nd} (h1 : KdOk b A) (hx : ∀ k ∈ x.ks, ∃ j : Nat, k = (j : Int) ∧ b ≤ j ∧ j < b + A.length) : KdOk b (A ++ [x]) := by
  intro i hi k hk
  rw [List.length_append, List.length_singleton] at hi
  by_cases h : i < A.length
  · rw [getD_app_left h] at hk
    exact h1 i h k hk
  · obtain rfl : i = A.length := by omega
    rw [getD_app_right (Nat.le_refl _), Nat.sub_self] at hk
    exact hx k hk
theorem upL_ks (A : List Nd) (n : Int) (i : Nat) : ((upL A n).getD i nd0).ks = (A.getD i nd0).ks := by
  unfold upL
  by_cases h : i = A.length - 1
  · subst h
    by_cases h0 : A.length - 1 < A.length
    · rw [List.getD_eq_getElem?_getD, List.getElem?_set_self h0]
      rfl
    · rw [List.set_eq_of_length_le (by omega)]
  · rw [List.getD_eq_getElem?_getD, List.getElem?_set_ne (by omega), ← List.getD_eq_getElem?_getD]
theorem KdOk.upL {b : Nat} {A : List Nd} (h : KdOk b A) (n : Int) : KdOk b (upL A n) := by
  intro i hi k hk
  rw [upL_length] at hi
  rw [upL_ks] at hk
  exact h i hi k hk
theorem kz_in {ks : List Nat} {k : Int} (h : k ∈ kz ks) : ∃ j : Nat, k = (j : Int) ∧ j ∈ ks := by
  obtain ⟨j, h1, h2⟩ := List.mem_map.1 h
  exact ⟨j, h2.symm, h1⟩
theorem seg_kd (kind : Int) (ls : List (List Int)) : ∀ (L at' b : Nat), KdOk b (seg kind ls L at' b)
  | 0, at', b => by
    intro i hi k hk
    simp only [seg, List.length_singleton] at hi
    obtain rfl : i = 0 := by omega
    simp [seg, ndN, kz] at hk
  | L + 1, at', b => by
    have hA := seg_kd kind ls L (fstN ls L at') b
    have pA := seg_pos kind ls L (fstN ls L at') b
    have hB := seg_kd kind ls L (fstN ls L at' + 1) (b + (seg kind ls L (fstN ls L at') b).length)
    have pB := seg_pos kind ls L (fstN ls L at' + 1) (b + (seg kind ls L (fstN ls L at') b).length)
    simp only [seg]
    generalize seg kind ls L (fstN ls L at') b = A at *
    generalize seg kind ls L (fstN ls L at' + 1) (b + A.length) = B at *
    split
    · rw [← List.append_assoc]
      refine KdOk.snoc ((hA.upL _).app (by rw [upL_length]; exact hB.upL _)) fun k hk => ?_
      obtain ⟨j, h1, h2⟩ := kz_in hk
      simp only [List.mem_cons, List.not_mem_nil, or_false] at h2
      rw [List.length_append, upL_length, upL_length]
      exact ⟨j, h1, by omega, by omega⟩
    · split
      · have hC := seg_kd kind ls L (fstN ls L at' + 2) (b + A.length + B.length)
        have pC := seg_pos kind ls L (fstN ls L at' + 2) (b + A.length + B.length)
        generalize seg kind ls L (fstN ls L at' + 2) (b + A.length + B.length) = C at *
        rw [← List.append_assoc, ← List.append_assoc]
        refine KdOk.snoc (((hA.upL _).app (by rw [upL_length]; exact hB.upL _)).app (by rw [List.length_append, upL_length, upL_length, ← Nat.add_assoc]; exact hC.upL _)) fun k hk => ?_
        obtain ⟨j, h1, h2⟩ := kz_in hk
        simp only [List.mem_cons, List.not_mem_nil, or_false] at h2
        rw [List.length_append, List.length_append, upL_length, upL_length, upL_length]
        exact ⟨j, h1, by omega, by omega⟩
      · have hC := seg_kd kind ls L (fstN ls L at' + 2) (b + A.length + B.length + 1)
        have pC := seg_pos kind ls L (fstN ls L at' + 2) (b + A.length + B.length + 1)
        generalize seg kind ls L (fstN ls L at' + 2) (b + A.length + B.length + 1) = C at *
        rw [← List.append_assoc, ← List.singleton_append, ← List.append_assoc, ← List.append_assoc]
        refine KdOk.snoc ((KdOk.snoc ((hA.upL _).app (by rw [upL_length]; exact hB.upL _)) fun k hk => ?_).app (by rw [List.length_append, List.length_append, upL_length, upL_length, List.length_singleton, ← Nat.add_assoc, ← Nat.add_assoc]; exact hC.upL _)) fun k hk => ?_
        · obtain ⟨j, h1, h2⟩ := kz_in hk
          simp only [List.mem_cons, List.not_mem_nil, or_false] at h2
          rw [List.length_append, upL_length, upL_length]
          exact ⟨j, h1, by omega, by omega⟩
        · obtain ⟨j, h1, h2⟩ := kz_in hk
          simp only [List.mem_cons, List.not_mem_nil, or_false] at h2
          rw [List.length_append, List.length_append, List.length_append, upL_length, upL_length, upL_length, List.length_singleton]
          exact ⟨j, h1, by omega, by omega⟩
theorem nodes_kd {kind : Int} {ids : List Int} {ls : List (List Int)} (hok : OkT ids ls) {i : Nat} (hi : i < (nodesL kind ids ls).length) : ∀ k ∈ ((nodesL kind ids ls).getD i nd0).ks, ∃ j : Nat, k = (j : Int) ∧ j < i := by
  by_cases hz : ids.length = 0
  · unfold nodesL at hi
    rw [if_pos hz] at hi
    simp at hi
  · rw [nodes_seg hok hz] at hi ⊢
    intro k hk
    obtain ⟨j, h1, -, h2⟩ := seg_kd kind ls ls.length 0 0 i hi k hk
    exact ⟨j, h1, by omega⟩
theorem nodes_few {kind : Int} {ids : List Int} {ls : List (List Int)} (hok : OkT ids ls) : (nodesL kind ids ls).length ≤ 90000 := by
  have h := (below_length kind ls ls.length 0 []).2
  have h9 : 3 ^ ls.length ≤ 3 ^ 9 := Nat.pow_le_pow_right (by decide) (lv_nine2 hok)
  unfold nodesL
  split
  · simp
  · simp only [List.length_nil] at h
    omega
/-- A leaf, or a node above others. -/
theorem nodes_lv {kind : Int} {ids : List Int} {ls : List (List Int)} (hok : OkT ids ls) {i : Nat} (hi : i < (nodesL kind ids ls).length) :
    (((nodesL kind ids ls).getD i nd0).lv = 0 ∧ ((nodesL kind ids ls).getD i nd0).ks = [] ∧ ∃ j : Nat, ((nodesL kind ids ls).getD i nd0).ix = (j : Int) ∧ j < ids.length) ∨ (0 < ((nodesL kind ids ls).getD i nd0).lv ∧ ((nodesL kind ids ls).getD i nd0).ks ≠ []) := by
  rcases nodes_good (kind := kind) hok hi with ⟨at', h1, h2, h3, h4, -⟩ | ⟨L, at', ks, h1, h2, h3, h4, -⟩
  · exact .inl ⟨h2, h3, at', h4, h1⟩
  · refine .inr ⟨by rw [h1]; omega, fun q => ?_⟩
    rw [h3] at q
    have := congrArg List.length q
    simp [kz] at this
    rw [this] at h4
    simp at h4
end Go.Proofs.YtdbhlajajdlmfaaDoor
/- What nodes of a tree have more: a kid's way up leads to its node; each leaf is there once. -/
namespace Go.Proofs.YtdbhlajajdlmfaaDoor
open Go Go.RowKit
/-- A kid's way up leads to where it is a kid. -/
def ParOk (N : List Nd) (b : Nat) (S : List Nd) : Prop := ∀ i, i < S.length → ∀ k ∈ (S.getD i nd0).ks, ∃ j : Nat, k = (j : Int) ∧ (N.getD j nd0).up = ((b + i : Nat) : Int)
theorem ParOk.app {N : List Nd} {b : Nat} {A B : List Nd} (h1 : ParOk N b A) (h2 : ParOk N (b + A.length) B) : ParOk N b (A ++ B) := by
  intro i hi k hk
  rw [List.length_append] at hi
  by_cases h : i < A.length
  · rw [getD_app_left h] at hk
    exact h1 i h k hk
  · rw [getD_app_right (by omega)] at hk
    obtain ⟨j, q1, q2⟩ := h2 (i - A.length) (by omega) k hk
    exact ⟨j, q1, by rw [q2]; congr 1; omega⟩
theorem ParOk.snoc {N : List Nd} {b : Nat} {A : List Nd} {x : Nd} (h1 : ParOk N b A) (hx : ∀ k ∈ x.ks, ∃ j : Nat, k = (j : Int) ∧ (N.getD j nd0).up = ((b + A.length : Nat) : Int)) : ParOk N b (A ++ [x]) := by
  intro i hi k hk
  rw [List.length_append, List.length_singleton] at hi
  by_cases h : i < A.length
  · rw [getD_app_left h] at hk
    exact h1 i h k hk
  · obtain rfl : i = A.length := by omega
    rw [getD_app_right (Nat.le_refl _), Nat.sub_self] at hk
    exact hx k hk
theorem ParOk.upL {N : List Nd} {b : Nat} {A : List Nd} (h : ParOk N b A) (n : Int) : ParOk N b (upL A n) := by
  intro i hi k hk
  rw [upL_length] at hi
  rw [upL_ks] at hk
  exact h i hi k hk
theorem seg_par (kind : Int) (ls : List (List Int)) (N : List Nd) : ∀ (L at' b : Nat) (u : Int), Emb2 N b (upL (seg kind ls L at' b) u) → ParOk N b (seg kind ls L at' b)
  | 0, at', b, u, _ => by
    intro i hi k hk
    simp only [seg, List.length_singleton] at hi
    obtain rfl : i = 0 := by omega
    simp [seg, ndN, kz] at hk
  | L + 1, at', b, u, he => by
    have hA := seg_pos kind ls L (fstN ls L at') b
    have hB := seg_pos kind ls L (fstN ls L at' + 1) (b + (seg kind ls L (fstN ls L at') b).length)
    have uA := seg_par kind ls N L (fstN ls L at') b
    have uB := seg_par kind ls N L (fstN ls L at' + 1) (b + (seg kind ls L (fstN ls L at') b).length)
    by_cases h2 : (ls.getD L []).getD at' 0 = 2
    · simp only [seg] at he ⊢
      rw [if_pos h2] at he ⊢
      generalize seg kind ls L (fstN ls L at') b = A at *
      generalize seg kind ls L (fstN ls L at' + 1) (b + A.length) = B at *
      rw [← List.append_assoc, upL_snoc, List.append_assoc] at he
      have eA := he.left
      have eB := he.right.left
      rw [upL_length] at eB
      rw [← List.append_assoc]
      refine ParOk.snoc (((uA _ eA).upL _).app (by rw [upL_length]; exact (uB _ eB).upL _)) fun k hk => ?_
      obtain ⟨j, h1, h2⟩ := kz_in hk
      simp only [List.mem_cons, List.not_mem_nil, or_false] at h2
      rw [List.length_append, upL_length, upL_length]
      rcases h2 with rfl | rfl
      · exact ⟨_, h1, (eA.last hA).trans (by congr 1; omega)⟩
      · exact ⟨_, h1, (eB.last hB).trans (by congr 1; omega)⟩
    · by_cases hk : kind = 1
      · have hC := seg_pos kind ls L (fstN ls L at' + 2) (b + (seg kind ls L (fstN ls L at') b).length + (seg kind ls L (fstN ls L at' + 1) (b + (seg kind ls L (fstN ls L at') b).length)).length)
        have uC := seg_par kind ls N L (fstN ls L at' + 2) (b + (seg kind ls L (fstN ls L at') b).length + (seg kind ls L (fstN ls L at' + 1) (b + (seg kind ls L (fstN ls L at') b).length)).length)
        simp only [seg] at he ⊢
        rw [if_neg h2, if_pos hk] at he ⊢
        generalize seg kind ls L (fstN ls L at') b = A at *
        generalize seg kind ls L (fstN ls L at' + 1) (b + A.length) = B at *
        generalize seg kind ls L (fstN ls L at' + 2) (b + A.length + B.length) = C at *
        rw [← List.append_assoc, ← List.append_assoc, upL_snoc, List.append_assoc, List.append_assoc] at he
        have eA := he.left
        have eB := he.right.left
        have eC := he.right.right.left
        rw [upL_length] at eB
        rw [upL_length, upL_length] at eC
        rw [← List.append_assoc, ← List.append_assoc]
        refine ParOk.snoc ((((uA _ eA).upL _).app (by rw [upL_length]; exact (uB _ eB).upL _)).app (by rw [List.length_append, upL_length, upL_length, ← Nat.add_assoc]; exact (uC _ eC).upL _)) fun k hk => ?_
        obtain ⟨j, h1, h2⟩ := kz_in hk
        simp only [List.mem_cons, List.not_mem_nil, or_false] at h2
        rw [List.length_append, List.length_append, upL_length, upL_length, upL_length]
        rcases h2 with rfl | rfl | rfl
        · exact ⟨_, h1, (eA.last hA).trans (by congr 1; omega)⟩
        · exact ⟨_, h1, (eB.last hB).trans (by congr 1; omega)⟩
        · exact ⟨_, h1, (eC.last hC).trans (by congr 1; omega)⟩
      · have hC := seg_pos kind ls L (fstN ls L at' + 2) (b + (seg kind ls L (fstN ls L at') b).length + (seg kind ls L (fstN ls L at' + 1) (b + (seg kind ls L (fstN ls L at') b).length)).length + 1)
        have uC := seg_par kind ls N L (fstN ls L at' + 2) (b + (seg kind ls L (fstN ls L at') b).length + (seg kind ls L (fstN ls L at' + 1) (b + (seg kind ls L (fstN ls L at') b).length)).length + 1)
        rw [seg_red h2 hk] at he ⊢
        simp only [] at he ⊢
        generalize seg kind ls L (fstN ls L at') b = A at *
        generalize seg kind ls L (fstN ls L at' + 1) (b + A.length) = B at *
        generalize seg kind ls L (fstN ls L at' + 2) (b + A.length + B.length + 1) = C at *
        generalize hz : ndN (L + 1) at' false (loN ls (L + 1) at') (loN ls (L + 1) (at' + 1)) [b + A.length + B.length, b + A.length + B.length + 1 + C.length - 1] = z at *
        have ez : z.ks = kz [b + A.length + B.length, b + A.length + B.length + 1 + C.length - 1] := by subst hz; rfl
        generalize hr : ({ ndN (L + 1) at' true (loN ls (L + 1) at') (loN ls L (fstN ls L at' + 2)) [b + A.length - 1, b + A.length + B.length - 1] with up := ((b + A.length + B.length + 1 + C.length : Nat) : Int) } : Nd) = r at *
        have er : r.up = ((b + A.length + B.length + 1 + C.length : Nat) : Int) ∧ r.ks = kz [b + A.length - 1, b + A.length + B.length - 1] := by subst hr; exact ⟨rfl, rfl⟩
        have e0 : upL A ((b + A.length + B.length : Nat) : Int) ++ (upL B ((b + A.length + B.length : Nat) : Int) ++ r :: (upL C ((b + A.length + B.length + 1 + C.length : Nat) : Int) ++ [z])) = (((upL A ((b + A.length + B.length : Nat) : Int) ++ upL B ((b + A.length + B.length : Nat) : Int)) ++ [r]) ++ upL C ((b + A.length + B.length + 1 + C.length : Nat) : Int)) ++ [z] := by simp only [List.append_assoc, List.cons_append, List.nil_append]
        rw [e0, upL_snoc] at he
        rw [e0]
        simp only [List.append_assoc] at he
        have eA := he.left
        have eB := he.right.left
        have eR := he.right.right.left
        have eC := he.right.right.right.left
        rw [upL_length] at eB
        rw [upL_length, upL_length] at eR
        rw [upL_length, upL_length, List.length_singleton] at eC
        have hxr := eR.2 0 Nat.one_pos
        rw [Nat.add_zero] at hxr
        have hxu : (N.getD (b + A.length + B.length) nd0).up = ((b + A.length + B.length + 1 + C.length : Nat) : Int) := by rw [hxr]; exact er.1
        refine ParOk.snoc ((ParOk.snoc (((uA _ eA).upL _).app (by rw [upL_length]; exact (uB _ eB).upL _)) fun k hk => ?_).app (by rw [List.length_append, List.length_append, upL_length, upL_length, List.length_singleton, ← Nat.add_assoc, ← Nat.add_assoc]; exact (uC _ eC).upL _)) fun k hk => ?_
        · rw [er.2] at hk
          obtain ⟨j, h1, h2⟩ := kz_in hk
          simp only [List.mem_cons, List.not_mem_nil, or_false] at h2
          rw [List.length_append, upL_length, upL_length]
          rcases h2 with rfl | rfl
          · exact ⟨_, h1, (eA.last hA).trans (by congr 1; omega)⟩
          · exact ⟨_, h1, (eB.last hB).trans (by congr 1; omega)⟩
        · rw [ez] at hk
          obtain ⟨j, h1, h2⟩ := kz_in hk
          simp only [List.mem_cons, List.not_mem_nil, or_false] at h2
          rw [List.length_append, List.length_append, List.length_append, upL_length, upL_length, upL_length, List.length_singleton]
          rcases h2 with rfl | rfl
          · exact ⟨_, h1, hxu.trans (by congr 1; omega)⟩
          · exact ⟨_, h1, (eC.last hC).trans (by congr 1; omega)⟩
theorem nodes_par {kind : Int} {ids : List Int} {ls : List (List Int)} (hok : OkT ids ls) {p : Nat} (hp : p < (nodesL kind ids ls).length) {k : Int} (hk : k ∈ ((nodesL kind ids ls).getD p nd0).ks) : ∃ j : Nat, k = (j : Int) ∧ j < p ∧ ((nodesL kind ids ls).getD j nd0).up = (p : Int) := by
  by_cases hz : ids.length = 0
  · unfold nodesL at hp
    rw [if_pos hz] at hp
    simp at hp
  · obtain ⟨j, h1, h2⟩ := nodes_kd hok hp k hk
    rw [nodes_seg hok hz] at hp hk ⊢
    have hu := seg_up kind ls ls.length 0 0
    have hps := seg_pos kind ls ls.length 0 0
    obtain ⟨j', h3, h4⟩ := seg_par kind ls (seg kind ls ls.length 0 0) ls.length 0 0 (-1) ⟨by rw [upL_length]; omega, fun j hj => by
      rw [upL_length] at hj
      rw [Nat.zero_add]
      unfold upL
      by_cases e : (seg kind ls ls.length 0 0).length - 1 = j
      · subst e
        rw [List.getD_eq_getElem?_getD (l := List.set _ _ _), List.getElem?_set_self (by omega)]
        have h := hu.2
        unfold lastN at h
        show _ = ({ (seg kind ls ls.length 0 0).getD ((seg kind ls ls.length 0 0).length - 1) nd0 with up := -1 } : Nd)
        rw [← h]
      · rw [List.getD_eq_getElem?_getD (l := List.set _ _ _), List.getElem?_set_ne e, ← List.getD_eq_getElem?_getD]⟩ p hp k hk
    rw [Nat.zero_add] at h4
    have : j' = j := by omega
    subst this
    exact ⟨j', h1, h2, h4⟩
theorem kz_nd {ks : List Nat} (h : ks.Nodup) : (kz ks).Nodup := by
  unfold kz
  exact List.Pairwise.map _ (fun a b hab e => hab (by omega)) h
theorem seg_nd (kind : Int) (ls : List (List Int)) : ∀ (L at' b : Nat), ∀ x ∈ seg kind ls L at' b, x.ks.Nodup
  | 0, at', b => fun x hx => by
    simp only [seg, List.mem_singleton] at hx
    subst hx
    exact List.nodup_nil
  | L + 1, at', b => by
    have gA := seg_nd kind ls L (fstN ls L at') b
    have gB := seg_nd kind ls L (fstN ls L at' + 1) (b + (seg kind ls L (fstN ls L at') b).length)
    have pA := seg_pos kind ls L (fstN ls L at') b
    have pB := seg_pos kind ls L (fstN ls L at' + 1) (b + (seg kind ls L (fstN ls L at') b).length)
    intro x hx
    by_cases h2 : (ls.getD L []).getD at' 0 = 2
    · simp only [seg] at hx
      rw [if_pos h2] at hx
      simp only [List.mem_append, List.mem_singleton] at hx
      rcases hx with hx | hx | rfl
      · exact upL_mem (p := fun x => x.ks.Nodup) (fun _ h => h) gA x hx
      · exact upL_mem (p := fun x => x.ks.Nodup) (fun _ h => h) gB x hx
      · refine kz_nd ?_
        simp only [List.nodup_cons, List.mem_cons, List.not_mem_nil, or_false, List.nodup_nil, and_true, not_false_eq_true]
        omega
    · by_cases hk : kind = 1
      · have gC := seg_nd kind ls L (fstN ls L at' + 2) (b + (seg kind ls L (fstN ls L at') b).length + (seg kind ls L (fstN ls L at' + 1) (b + (seg kind ls L (fstN ls L at') b).length)).length)
        have pC := seg_pos kind ls L (fstN ls L at' + 2) (b + (seg kind ls L (fstN ls L at') b).length + (seg kind ls L (fstN ls L at' + 1) (b + (seg kind ls L (fstN ls L at') b).length)).length)
        simp only [seg] at hx
        rw [if_neg h2, if_pos hk] at hx
        simp only [List.mem_append, List.mem_singleton] at hx
        rcases hx with hx | hx | hx | rfl
        · exact upL_mem (p := fun x => x.ks.Nodup) (fun _ h => h) gA x hx
        · exact upL_mem (p := fun x => x.ks.Nodup) (fun _ h => h) gB x hx
        · exact upL_mem (p := fun x => x.ks.Nodup) (fun _ h => h) gC x hx
        · refine kz_nd ?_
          simp only [List.nodup_cons, List.mem_cons, List.not_mem_nil, or_false, List.nodup_nil, and_true, not_false_eq_true]
          omega
      · have gC := seg_nd kind ls L (fstN ls L at' + 2) (b + (seg kind ls L (fstN ls L at') b).length + (seg kind ls L (fstN ls L at' + 1) (b + (seg kind ls L (fstN ls L at') b).length)).length + 1)
        have pC := seg_pos kind ls L (fstN ls L at' + 2) (b + (seg kind ls L (fstN ls L at') b).length + (seg kind ls L (fstN ls L at' + 1) (b + (seg kind ls L (fstN ls L at') b).length)).length + 1)
        rw [seg_red h2 hk] at hx
        simp only [List.mem_append, List.mem_cons, List.not_mem_nil, or_false] at hx
        rcases hx with hx | hx | rfl | hx | rfl
        · exact upL_mem (p := fun x => x.ks.Nodup) (fun _ h => h) gA x hx
        · exact upL_mem (p := fun x => x.ks.Nodup) (fun _ h => h) gB x hx
        · refine kz_nd (ks := [_, _]) ?_
          simp only [List.nodup_cons, List.mem_cons, List.not_mem_nil, or_false, List.nodup_nil, and_true, not_false_eq_true]
          omega
        · exact upL_mem (p := fun x => x.ks.Nodup) (fun _ h => h) gC x hx
        · refine kz_nd (ks := [_, _]) ?_
          simp only [List.nodup_cons, List.mem_cons, List.not_mem_nil, or_false, List.nodup_nil, and_true, not_false_eq_true]
          omega
theorem nodes_nd {kind : Int} {ids : List Int} {ls : List (List Int)} (hok : OkT ids ls) (k : Nat) : ((nodesL kind ids ls).getD k nd0).ks.Nodup := by
  by_cases hk : k < (nodesL kind ids ls).length
  · have hm : (nodesL kind ids ls).getD k nd0 ∈ nodesL kind ids ls := by
      rw [List.getD_eq_getElem?_getD, List.getElem?_eq_getElem hk]
      exact List.getElem_mem hk
    by_cases hz : ids.length = 0
    · unfold nodesL at hk
      rw [if_pos hz] at hk
      simp at hk
    · rw [nodes_seg hok hz] at hm ⊢
      exact seg_nd kind ls ls.length 0 0 _ hm
  · rw [List.getD_eq_getElem?_getD, List.getElem?_eq_none (by omega)]
    exact List.nodup_nil
/-- Each leaf is there once. -/
def lfC (x : Nat) (c : Cor) : Bool := c.lv == 0 && c.ix == (x : Int)
theorem lfC_no (x L at' : Nat) (r : Bool) (f t : Int) : lfC x ⟨((L + 1 : Nat) : Int), (at' : Nat), r, f, t⟩ = false := by
  have : (((L + 1 : Nat) : Int) == 0) = false := by
    rw [beq_eq_false_iff_ne]
    omega
  unfold lfC
  rw [this]
  rfl
theorem ite_or (P : Prop) [Decidable P] : ((if P then 1 else 0 : Nat) = 1 ∧ P) ∨ ((if P then 1 else 0 : Nat) = 0 ∧ ¬ P) := by
  split
  · exact .inl ⟨rfl, by assumption⟩
  · exact .inr ⟨rfl, by assumption⟩
theorem sk_cnt {n : Nat} {ls : List (List Int)} (h : Fit n ls) (kind : Int) (x : Nat) : ∀ (L at' : Nat), L ≤ ls.length → at' < cntN n ls L → ((skN kind ls L at').filter (lfC x)).length = if loN ls L at' ≤ x ∧ x < loN ls L (at' + 1) then 1 else 0
  | 0, at', _, _ => by
    show (([⟨0, (at' : Nat), false, (at' : Nat), (at' + 1 : Nat)⟩] : List Cor).filter (lfC x)).length = if at' ≤ x ∧ x < at' + 1 then 1 else 0
    by_cases e : at' = x
    · subst e
      rw [if_pos ⟨Nat.le_refl _, Nat.lt_succ_self _⟩, List.filter_cons_of_pos (by simp [lfC])]
      rfl
    · rw [if_neg (by omega), List.filter_cons_of_neg (by
        simp only [lfC, Bool.and_eq_true, beq_iff_eq, not_and]
        intro _
        omega)]
      rfl
  | L + 1, at', hL, ha => by
    obtain ⟨y, hy, hy23, hy1, hy2⟩ := fit_step h hL ha
    have s1 := sk_cnt h kind x L (fstN ls L at') (by omega) (by omega)
    have s2 := sk_cnt h kind x L (fstN ls L at' + 1) (by omega) (by omega)
    have l1 := lo_lt h L (fstN ls L at') (by omega) (by omega)
    have l2 := lo_lt h L (fstN ls L at' + 1) (by omega) (by omega)
    have e1 : loN ls (L + 1) at' = loN ls L (fstN ls L at') := rfl
    have e2 : loN ls (L + 1) (at' + 1) = loN ls L (fstN ls L at' + y) := by
      show loN ls L (fstN ls L (at' + 1)) = _
      rw [hy1]
    rw [e1, e2]
    simp only [skN]
    have t1 := ite_or (loN ls L (fstN ls L at') ≤ x ∧ x < loN ls L (fstN ls L at' + 1))
    have t2 := ite_or (loN ls L (fstN ls L at' + 1) ≤ x ∧ x < loN ls L (fstN ls L at' + 2))
    rw [← s1] at t1
    rw [show fstN ls L at' + 1 + 1 = fstN ls L at' + 2 from rfl] at s2 l2
    rw [← s2] at t2
    clear s1 s2
    rcases hy23 with rfl | rfl
    · rw [if_pos (by rw [hy]; rfl)]
      simp only [List.filter_append, List.length_append, List.filter_cons, lfC_no, List.filter_nil, Bool.false_eq_true, if_false, List.length_nil]
      generalize ((skN kind ls L (fstN ls L at')).filter (lfC x)).length = a1 at *
      generalize ((skN kind ls L (fstN ls L at' + 1)).filter (lfC x)).length = a2 at *
      split <;> omega
    · have s3 := sk_cnt h kind x L (fstN ls L at' + 2) (by omega) (by omega)
      have l3 := lo_lt h L (fstN ls L at' + 2) (by omega) (by omega)
      have t3 := ite_or (loN ls L (fstN ls L at' + 2) ≤ x ∧ x < loN ls L (fstN ls L at' + 3))
      rw [show fstN ls L at' + 2 + 1 = fstN ls L at' + 3 from rfl] at s3 l3
      rw [← s3] at t3
      clear s3
      rw [if_neg (by rw [hy]; decide)]
      by_cases hk : kind = 1
      · rw [if_pos hk]
        simp only [List.filter_append, List.length_append, List.filter_cons, lfC_no, List.filter_nil, Bool.false_eq_true, if_false, List.length_nil]
        generalize ((skN kind ls L (fstN ls L at')).filter (lfC x)).length = a1 at *
        generalize ((skN kind ls L (fstN ls L at' + 1)).filter (lfC x)).length = a2 at *
        generalize ((skN kind ls L (fstN ls L at' + 2)).filter (lfC x)).length = a3 at *
        split <;> omega
      · rw [if_neg hk]
        simp only [List.filter_append, List.length_append, List.filter_cons, lfC_no, List.filter_nil, Bool.false_eq_true, if_false, List.length_nil]
        generalize ((skN kind ls L (fstN ls L at')).filter (lfC x)).length = a1 at *
        generalize ((skN kind ls L (fstN ls L at' + 1)).filter (lfC x)).length = a2 at *
        generalize ((skN kind ls L (fstN ls L at' + 2)).filter (lfC x)).length = a3 at *
        split <;> omega
theorem two_filter {α : Type} {p : α → Bool} {l : List α} {i j : Nat} (hij : i < j) {a b : α} (hi : l[i]? = some a) (hj : l[j]? = some b) (ha : p a = true) (hb : p b = true) : 2 ≤ (l.filter p).length := by
  have e := List.take_append_drop (i + 1) l
  rw [← e, List.filter_append, List.length_append]
  have h1 : 0 < ((l.take (i + 1)).filter p).length := List.length_pos_iff.2 (List.ne_nil_of_mem (List.mem_filter.2 ⟨List.mem_of_getElem? (by rw [List.getElem?_take_of_lt (Nat.lt_succ_self i)]; exact hi), ha⟩))
  have h2 : 0 < ((l.drop (i + 1)).filter p).length := List.length_pos_iff.2 (List.ne_nil_of_mem (List.mem_filter.2 ⟨List.mem_of_getElem? (i := j - (i + 1)) (by rw [List.getElem?_drop, show i + 1 + (j - (i + 1)) = j by omega]; exact hj), hb⟩))
  omega
theorem leaf_one {kind : Int} {ids : List Int} {ls : List (List Int)} (hok : OkT ids ls) {i j x : Nat} (hi : i < (nodesL kind ids ls).length) (hj : j < (nodesL kind ids ls).length) (h1 : ((nodesL kind ids ls).getD i nd0).lv = 0) (h2 : ((nodesL kind ids ls).getD j nd0).lv = 0) (h3 : ((nodesL kind ids ls).getD i nd0).ix = (x : Int)) (h4 : ((nodesL kind ids ls).getD j nd0).ix = (x : Int)) : i = j := by
  by_cases hz : ids.length = 0
  · unfold nodesL at hi
    rw [if_pos hz] at hi
    simp at hi
  rw [nodes_seg hok hz] at *
  have hc := sk_cnt (okLv_fit ls ids.length hok.2) kind x ls.length 0 (Nat.le_refl _) (by rw [cnt_top hok hz]; exact Nat.one_pos)
  have hle : ((skN kind ls ls.length 0).filter (lfC x)).length ≤ 1 := by rw [hc]; split <;> omega
  rw [← seg_cor kind ls ls.length 0 0] at hle
  generalize seg kind ls ls.length 0 0 = N at *
  have key : ∀ i, i < N.length → (N.getD i nd0).lv = 0 → (N.getD i nd0).ix = (x : Int) → (N.map cor)[i]? = some (cor (N.getD i nd0)) ∧ lfC x (cor (N.getD i nd0)) = true := fun i hi h1 h3 => by
    refine ⟨by rw [List.getElem?_map, List.getD_eq_getElem?_getD, List.getElem?_eq_getElem hi]; rfl, ?_⟩
    show ((N.getD i nd0).lv == 0 && (N.getD i nd0).ix == (x : Int)) = true
    rw [h1, h3]
    simp
  obtain ⟨k1, k2⟩ := key i hi h1 h3
  obtain ⟨k3, k4⟩ := key j hj h2 h4
  rcases Nat.lt_trichotomy i j with h | h | h
  · have := two_filter h k1 k3 k2 k4
    omega
  · exact h
  · have := two_filter h k3 k1 k4 k2
    omega
end Go.Proofs.YtdbhlajajdlmfaaDoor
/- The plain law of PlanWay: where one member changes its tree, just its way is new. -/
namespace Go.Proofs.YtdbhlajajdlmfaaDoor
open Go Go.RowKit
/-- What the plan laws use of a tree's nodes. -/
structure TrF (N : List Nd) (ids : List Int) : Prop where
  kd : ∀ i, i < N.length → ∀ k ∈ (N.getD i nd0).ks, ∃ j : Nat, k = (j : Int) ∧ j < i ∧ (N.getD j nd0).up = (i : Int)
  lv : ∀ i, i < N.length → ((N.getD i nd0).lv = 0 ∧ (N.getD i nd0).ks = [] ∧ ∃ j : Nat, (N.getD i nd0).ix = (j : Int) ∧ j < ids.length) ∨ (0 < (N.getD i nd0).lv ∧ (N.getD i nd0).ks ≠ [])
  nd : ∀ i, (N.getD i nd0).ks.Nodup
  one : ∀ i j x : Nat, i < N.length → j < N.length → (N.getD i nd0).lv = 0 → (N.getD j nd0).lv = 0 → (N.getD i nd0).ix = (x : Int) → (N.getD j nd0).ix = (x : Int) → i = j
  idn : ids.Nodup
theorem pw_nodup {l : List Int} (h : l.Pairwise (· < ·)) : l.Nodup := h.imp fun h => by omega
theorem nodes_trf {kind : Int} {ids : List Int} {ls : List (List Int)} (hok : OkT ids ls) : TrF (nodesL kind ids ls) ids :=
  ⟨fun _ hi _ hk => nodes_par hok hi hk, fun _ hi => nodes_lv hok hi, fun i => nodes_nd hok i, fun _ _ _ hi hj h1 h2 h3 h4 => leaf_one hok hi hj h1 h2 h3 h4, pw_nodup hok.1.2.2⟩
theorem nodup_at {l : List Int} (h : l.Nodup) {i j : Nat} (hi : i < l.length) (hj : j < l.length) (e : l.getD i 0 = l.getD j 0) : i = j := by
  rw [List.getD_eq_getElem?_getD, List.getD_eq_getElem?_getD, List.getElem?_eq_getElem hi, List.getElem?_eq_getElem hj] at e
  have e : l[i] = l[j] := e
  rcases Nat.lt_trichotomy i j with q | q | q
  · exact absurd e (List.pairwise_iff_getElem.1 h i j hi hj q)
  · exact q
  · exact absurd e.symm (List.pairwise_iff_getElem.1 h j i hj hi q)
section
variable {N : List Nd} {ids : List Int} {W : List Int} {i0 : Nat}
theorem way_at (_ : WaySpec N i0 W) {k : Nat} (h : (k : Int) ∈ W) : ∃ m, m < W.length ∧ W.getD m 0 = (k : Int) := by
  obtain ⟨m, hm, e⟩ := List.getElem_of_mem h
  exact ⟨m, hm, by rw [List.getD_eq_getElem?_getD, List.getElem?_eq_getElem hm]; exact e⟩
theorem way_mem (_ : WaySpec N i0 W) {m : Nat} (h : m < W.length) : W.getD m 0 ∈ W := getD_memP h
/-- The one above. -/
theorem way_next (hw : WaySpec N i0 W) {m k p : Nat} (hm : m < W.length) (h1 : W.getD m 0 = (k : Int)) (hu : (N.getD k nd0).up = (p : Int)) (hp : k < p) (hpn : p < N.length) : m + 1 < W.length ∧ W.getD (m + 1) 0 = (p : Int) := by
  have hl : m + 1 < W.length := by
    rcases Nat.lt_or_ge (m + 1) W.length with h | h
    · exact h
    · have e : m = W.length - 1 := by omega
      have := hw.last
      rw [← e, h1] at this
      omega
  obtain ⟨k', p', e1, e2, e3⟩ := hw.step m hl
  have : k' = k := by omega
  subst this
  have e4 := e3.1
  rw [hu] at e4
  exact ⟨hl, by rw [e2, e4]⟩
theorem way_leaf (ht : TrF N ids) (hw : WaySpec N i0 W) {k : Nat} (hk : k < N.length) (hz : (N.getD k nd0).lv = 0) (h : (k : Int) ∈ W) : k = i0 := by
  obtain ⟨m, hm, e⟩ := way_at hw h
  cases m with
  | zero => rw [hw.head] at e; omega
  | succ m =>
    obtain ⟨k', p, h1, h2, h3⟩ := hw.step m hm
    obtain ⟨-, -, -, -, -, ks, hks, hin, -⟩ := h3
    have : p = k := by omega
    subst this
    rcases ht.lv p hk with ⟨-, q, -⟩ | ⟨q, -⟩
    · rw [q] at hks
      have := congrArg List.length hks
      simp [kz] at this
      rw [List.eq_nil_of_length_eq_zero this.symm] at hin
      simp at hin
    · omega
theorem way_kid (ht : TrF N ids) (hw : WaySpec N i0 W) (h0 : (N.getD i0 nd0).lv = 0) {k : Nat} (hk : k < N.length) (hz : (N.getD k nd0).lv ≠ 0) : (k : Int) ∈ W ↔ ∃ c ∈ (N.getD k nd0).ks, c ∈ W := by
  refine ⟨fun h => ?_, fun ⟨c, hc, hcw⟩ => ?_⟩
  · obtain ⟨m, hm, e⟩ := way_at hw h
    cases m with
    | zero =>
      rw [hw.head] at e
      have : i0 = k := by omega
      rw [this] at h0
      exact absurd h0 hz
    | succ m =>
      obtain ⟨k', p, h1, h2, h3⟩ := hw.step m hm
      obtain ⟨-, -, -, -, -, ks, hks, hin, -⟩ := h3
      have : p = k := by omega
      subst this
      refine ⟨(k' : Int), ?_, by rw [← h1]; exact way_mem hw (by omega)⟩
      rw [hks]
      exact List.mem_map_of_mem hin
  · obtain ⟨j, rfl, h1, h2⟩ := ht.kd k hk c hc
    obtain ⟨m, hm, e⟩ := way_at hw hcw
    obtain ⟨h3, h4⟩ := way_next hw hm e h2 h1 hk
    rw [← h4]
    exact way_mem hw h3
end
end Go.Proofs.YtdbhlajajdlmfaaDoor
