/- What each node's kids are, how far up nodes stand, and how deep: the plain law of RedHeight. -/
import Derived.Test.YtejdkmfbncedkaaNH
import Derived.Test.YtejdkmfbncedkaaRB
namespace Go.Proofs.Ytejdkmfbncedkaa
open Go Go.RowKit
set_option linter.unusedSimpArgs false
theorem seg_lastL (kind : Int) (ls : List (List Int)) (L at' b : Nat) : (lastN (seg kind ls L at' b)).lv = (L : Nat) ∧ (lastN (seg kind ls L at' b)).rd = false := by
  cases L with
  | zero => exact ⟨rfl, rfl⟩
  | succ L =>
    simp only [seg]
    split
    · rw [lastN_append (by simp only [List.length_append, List.length_cons]; omega), lastN_append (by simp only [List.length_append, List.length_cons]; omega)]
      exact ⟨rfl, rfl⟩
    · split
      · rw [lastN_append (by simp only [List.length_append, List.length_cons]; omega), lastN_append (by simp only [List.length_append, List.length_cons]; omega), lastN_append (by simp only [List.length_append, List.length_cons]; omega)]
        exact ⟨rfl, rfl⟩
      · rw [lastN_append (by simp only [List.length_append, List.length_cons]; omega), lastN_append (by simp only [List.length_append, List.length_cons]; omega), lastN_cons (by simp only [List.length_append, List.length_cons]; omega), lastN_append (by simp only [List.length_append, List.length_cons]; omega)]
        exact ⟨rfl, rfl⟩
/-- How far up a node stands. -/
def rk (kind : Int) (x : Nd) : Int := if kind = 1 then x.lv else 2 * x.lv - (if x.rd then 1 else 0)
/-- What one node below another is. -/
def KidOk (kind : Int) (N : List Nd) (x : Nd) (i k : Nat) : Prop := k < N.length ∧ ((N.getD k nd0).rd = true → x.rd = false ∧ i = 0) ∧ rk kind (N.getD k nd0) < rk kind x
structure HiNd (kind : Int) (M : Nat) (N : List Nd) (x : Nd) (ks : List Nat) : Prop where
  kse : x.ks = kz ks
  k1 : ks.length ≠ 1
  k4 : (ks.length : Int) ≤ 4 - kind
  k0 : ks.length = 0 ↔ x.lv = 0
  rd : x.rd = true → kind = 2 ∧ x.lv ≠ 0
  lo : 0 ≤ x.lv
  hi : x.lv ≤ (M : Nat)
  kid : ∀ i, i < ks.length → KidOk kind N x i (ks.getD i 0)
theorem HiNd.up {kind : Int} {M : Nat} {N : List Nd} {x : Nd} {ks : List Nat} (h : HiNd kind M N x ks) (u : Int) : HiNd kind M N { x with up := u } ks := ⟨h.kse, h.k1, h.k4, h.k0, h.rd, h.lo, h.hi, h.kid⟩
def HiEx (kind : Int) (M : Nat) (N : List Nd) (x : Nd) : Prop := ∃ ks, HiNd kind M N x ks
theorem HiEx.upL {kind : Int} {M : Nat} {N A : List Nd} {u : Int} (h : ∀ x ∈ A, HiEx kind M N x) : ∀ x ∈ upL A u, HiEx kind M N x :=
  upL_mem (fun _ q => ⟨_, q.choose_spec.up u⟩) h
theorem kidOk_of {kind : Int} {N : List Nd} {x : Nd} {i k L : Nat} (hk : kind = 1 ∨ kind = 2) (h1 : k < N.length) (h2 : (N.getD k nd0).lv = (L : Nat)) (h3 : (N.getD k nd0).rd = false) (h4 : x.lv = ((L + 1 : Nat) : Int)) : KidOk kind N x i k := by
  refine ⟨h1, fun e => (by rw [h3] at e; cases e), ?_⟩
  unfold rk
  rw [h2, h3, h4]
  rcases hk with rfl | rfl
  · simp; omega
  · simp only [show ¬ (2 : Int) = 1 by decide, if_false]
    split
    · simp; omega
    · simp; omega
theorem kidOk_red {N : List Nd} {x : Nd} {k L : Nat} (h1 : k < N.length) (h2 : (N.getD k nd0).lv = ((L + 1 : Nat) : Int)) (h3 : (N.getD k nd0).rd = true) (h4 : x.lv = ((L + 1 : Nat) : Int)) (h5 : x.rd = false) : KidOk 2 N x 0 k := by
  refine ⟨h1, fun _ => ⟨h5, rfl⟩, ?_⟩
  unfold rk
  rw [h2, h3, h4, h5]
  simp
  omega
theorem seg_hi {n : Nat} {ls : List (List Int)} (h : Fit n ls) {kind : Int} (hkd : kind = 1 ∨ kind = 2) (N : List Nd) : ∀ (L at' b : Nat), L ≤ ls.length → at' < cntN n ls L → Emb N b ((seg kind ls L at' b).map cor) → ∀ x ∈ seg kind ls L at' b, HiEx kind ls.length N x
  | 0, at', b, _, ha, _ => fun x hx => by
    simp only [seg, List.mem_singleton] at hx
    subst hx
    refine ⟨[], rfl, by decide, by rcases hkd with rfl | rfl <;> decide, ⟨fun _ => rfl, fun _ => rfl⟩, fun e => (by cases e), Int.le_refl _, ?_, fun i hi => (by cases hi)⟩
    show (0 : Int) ≤ _
    omega
  | L + 1, at', b, hL, ha, he => by
    obtain ⟨x, hx, hx23, hx1, hx2⟩ := fit_step h hL ha
    have hA := seg_pos kind ls L (fstN ls L at') b
    have hB := seg_pos kind ls L (fstN ls L at' + 1) (b + (seg kind ls L (fstN ls L at') b).length)
    have lA := seg_lastL kind ls L (fstN ls L at') b
    have lB := seg_lastL kind ls L (fstN ls L at' + 1) (b + (seg kind ls L (fstN ls L at') b).length)
    have gA := seg_hi h hkd N L (fstN ls L at') b (by omega) (by omega)
    have gB := seg_hi h hkd N L (fstN ls L at' + 1) (b + (seg kind ls L (fstN ls L at') b).length) (by omega) (by omega)
    have hLM : ((L + 1 : Nat) : Int) ≤ (ls.length : Nat) := by omega
    by_cases h2 : (ls.getD L []).getD at' 0 = 2
    · have hx' : x = 2 := by omega
      subst hx'
      simp only [seg] at he ⊢
      rw [if_pos h2] at he ⊢
      generalize seg kind ls L (fstN ls L at') b = A at *
      generalize seg kind ls L (fstN ls L at' + 1) (b + A.length) = B at *
      simp only [List.map_append, upL_cor] at he
      have eA := he.left
      have eB := he.right.left
      rw [List.length_map] at eB
      have kA := eA.last hA
      have kB := eB.last hB
      intro y hy
      simp only [List.mem_append, List.mem_singleton] at hy
      rcases hy with hy | hy | rfl
      · exact HiEx.upL (gA eA) y hy
      · exact HiEx.upL (gB eB) y hy
      · refine ⟨[b + A.length - 1, b + A.length + B.length - 1], rfl, by simp, by rcases hkd with rfl | rfl <;> simp, ⟨fun q => by simp at q, fun q => absurd q (show ¬ ((L + 1 : Nat) : Int) = 0 by omega)⟩, fun q => by simp [ndN] at q, show (0 : Int) ≤ ((L + 1 : Nat) : Int) by omega, hLM, ?_⟩
        intro i hi
        have hi2 : i < 2 := hi
        have hi3 : i = 0 ∨ i = 1 := by omega
        rcases hi3 with rfl | rfl
        · exact kidOk_of hkd kA.1 ((congrArg Cor.lv kA.2).trans lA.1) ((congrArg Cor.rd kA.2).trans lA.2) rfl
        · exact kidOk_of hkd kB.1 ((congrArg Cor.lv kB.2).trans lB.1) ((congrArg Cor.rd kB.2).trans lB.2) rfl
    · have hx' : x = 3 := by omega
      subst hx'
      by_cases hk : kind = 1
      · have hC := seg_pos kind ls L (fstN ls L at' + 2) (b + (seg kind ls L (fstN ls L at') b).length + (seg kind ls L (fstN ls L at' + 1) (b + (seg kind ls L (fstN ls L at') b).length)).length)
        have lC := seg_lastL kind ls L (fstN ls L at' + 2) (b + (seg kind ls L (fstN ls L at') b).length + (seg kind ls L (fstN ls L at' + 1) (b + (seg kind ls L (fstN ls L at') b).length)).length)
        have gC := seg_hi h hkd N L (fstN ls L at' + 2) (b + (seg kind ls L (fstN ls L at') b).length + (seg kind ls L (fstN ls L at' + 1) (b + (seg kind ls L (fstN ls L at') b).length)).length) (by omega) (by omega)
        simp only [seg] at he ⊢
        rw [if_neg h2, if_pos hk] at he ⊢
        generalize seg kind ls L (fstN ls L at') b = A at *
        generalize seg kind ls L (fstN ls L at' + 1) (b + A.length) = B at *
        generalize seg kind ls L (fstN ls L at' + 2) (b + A.length + B.length) = C at *
        simp only [List.map_append, upL_cor] at he
        have eA := he.left
        have eB := he.right.left
        have eC := he.right.right.left
        rw [List.length_map] at eB
        rw [List.length_map, List.length_map] at eC
        have kA := eA.last hA
        have kB := eB.last hB
        have kC := eC.last hC
        intro y hy
        simp only [List.mem_append, List.mem_singleton] at hy
        rcases hy with hy | hy | hy | rfl
        · exact HiEx.upL (gA eA) y hy
        · exact HiEx.upL (gB eB) y hy
        · exact HiEx.upL (gC eC) y hy
        · refine ⟨[b + A.length - 1, b + A.length + B.length - 1, b + A.length + B.length + C.length - 1], rfl, by simp, by rw [hk]; simp, ⟨fun q => by simp at q, fun q => absurd q (show ¬ ((L + 1 : Nat) : Int) = 0 by omega)⟩, fun q => by simp [ndN] at q, show (0 : Int) ≤ ((L + 1 : Nat) : Int) by omega, hLM, ?_⟩
          intro i hi
          have hi2 : i < 3 := hi
          have hi3 : i = 0 ∨ i = 1 ∨ i = 2 := by omega
          rcases hi3 with rfl | rfl | rfl
          · exact kidOk_of hkd kA.1 ((congrArg Cor.lv kA.2).trans lA.1) ((congrArg Cor.rd kA.2).trans lA.2) rfl
          · exact kidOk_of hkd kB.1 ((congrArg Cor.lv kB.2).trans lB.1) ((congrArg Cor.rd kB.2).trans lB.2) rfl
          · exact kidOk_of hkd kC.1 ((congrArg Cor.lv kC.2).trans lC.1) ((congrArg Cor.rd kC.2).trans lC.2) rfl
      · have hk2 : kind = 2 := hkd.resolve_left hk
        have hC := seg_pos kind ls L (fstN ls L at' + 2) (b + (seg kind ls L (fstN ls L at') b).length + (seg kind ls L (fstN ls L at' + 1) (b + (seg kind ls L (fstN ls L at') b).length)).length + 1)
        have lC := seg_lastL kind ls L (fstN ls L at' + 2) (b + (seg kind ls L (fstN ls L at') b).length + (seg kind ls L (fstN ls L at' + 1) (b + (seg kind ls L (fstN ls L at') b).length)).length + 1)
        have gC := seg_hi h hkd N L (fstN ls L at' + 2) (b + (seg kind ls L (fstN ls L at') b).length + (seg kind ls L (fstN ls L at' + 1) (b + (seg kind ls L (fstN ls L at') b).length)).length + 1) (by omega) (by omega)
        rw [seg_red h2 hk] at he ⊢
        simp only [] at he ⊢
        generalize seg kind ls L (fstN ls L at') b = A at *
        generalize seg kind ls L (fstN ls L at' + 1) (b + A.length) = B at *
        generalize seg kind ls L (fstN ls L at' + 2) (b + A.length + B.length + 1) = C at *
        simp only [List.map_append, List.map_cons, upL_cor] at he
        have eA := he.left
        have eB := he.right.left
        have eR := he.right.right
        rw [List.length_map] at eB
        rw [List.length_map, List.length_map] at eR
        have eR1 := Emb.left (S := [_]) eR
        have eC := (Emb.right (S := [_]) eR).left
        have kA := eA.last hA
        have kB := eB.last hB
        have kC := eC.last hC
        have kR := eR1.2 0 (Nat.succ_pos _)
        have kR1 := eR1.1
        intro y hy
        simp only [List.mem_append, List.mem_cons, List.not_mem_nil, or_false] at hy
        rcases hy with hy | hy | rfl | hy | rfl
        · exact HiEx.upL (gA eA) y hy
        · exact HiEx.upL (gB eB) y hy
        · refine ⟨[b + A.length - 1, b + A.length + B.length - 1], rfl, by simp, by rw [hk2]; simp, ⟨fun q => by simp at q, fun q => absurd q (show ¬ ((L + 1 : Nat) : Int) = 0 by omega)⟩, fun q => ⟨hk2, show ¬ ((L + 1 : Nat) : Int) = 0 by omega⟩, show (0 : Int) ≤ ((L + 1 : Nat) : Int) by omega, hLM, ?_⟩
          intro i hi
          have hi2 : i < 2 := hi
          have hi3 : i = 0 ∨ i = 1 := by omega
          rcases hi3 with rfl | rfl
          · exact kidOk_of hkd kA.1 ((congrArg Cor.lv kA.2).trans lA.1) ((congrArg Cor.rd kA.2).trans lA.2) rfl
          · exact kidOk_of hkd kB.1 ((congrArg Cor.lv kB.2).trans lB.1) ((congrArg Cor.rd kB.2).trans lB.2) rfl
        · exact HiEx.upL (gC eC) y hy
        · have kR2 := Option.some.inj kR
          rw [Nat.add_zero] at kR2
          refine ⟨[b + A.length + B.length, b + A.length + B.length + 1 + C.length - 1], rfl, by simp, by rw [hk2]; simp, ⟨fun q => by simp at q, fun q => absurd q (show ¬ ((L + 1 : Nat) : Int) = 0 by omega)⟩, fun q => by simp [ndN] at q, show (0 : Int) ≤ ((L + 1 : Nat) : Int) by omega, hLM, ?_⟩
          intro i hi
          have hi2 : i < 2 := hi
          have hi3 : i = 0 ∨ i = 1 := by omega
          rcases hi3 with rfl | rfl
          · rw [hk2]
            exact kidOk_red kR1 (congrArg Cor.lv kR2) (congrArg Cor.rd kR2) rfl rfl
          · exact kidOk_of hkd kC.1 ((congrArg Cor.lv kC.2).trans lC.1) ((congrArg Cor.rd kC.2).trans lC.2) rfl
theorem nodes_hi {kind : Int} (hkd : kind = 1 ∨ kind = 2) {ids : List Int} {ls : List (List Int)} (hok : OkT ids ls) {i : Nat} (hi : i < (nodesL kind ids ls).length) : HiEx kind ls.length (nodesL kind ids ls) ((nodesL kind ids ls).getD i nd0) := by
  by_cases hz : ids.length = 0
  · unfold nodesL at hi
    rw [if_pos hz] at hi
    simp at hi
  · have he := nodes_seg (kind := kind) hok hz
    rw [he] at hi ⊢
    refine seg_hi (okLv_fit ls ids.length hok.2) hkd _ ls.length 0 0 (Nat.le_refl _) (by rw [cnt_top hok hz]; exact Nat.one_pos) ⟨by rw [List.length_map]; omega, fun j hj => ?_⟩ _ ?_
    · rw [List.length_map] at hj
      rw [Nat.zero_add, List.getElem?_map, getD_some hj]
      rfl
    · rw [List.getD_eq_getElem?_getD, List.getElem?_eq_getElem hi]
      exact List.getElem_mem hi
theorem rk_le {kind : Int} (hkd : kind = 1 ∨ kind = 2) {M : Nat} {N : List Nd} {x : Nd} (h : HiEx kind M N x) : rk kind x ≤ kind * M := by
  obtain ⟨ks, h⟩ := h
  have h1 := h.hi
  unfold rk
  rcases hkd with rfl | rfl
  · simp; exact h1
  · simp only [show ¬ (2 : Int) = 1 by decide, if_false]
    split <;> omega
theorem rk_nn {kind : Int} (hkd : kind = 1 ∨ kind = 2) {M : Nat} {N : List Nd} {x : Nd} (h : HiEx kind M N x) : 0 ≤ rk kind x := by
  obtain ⟨ks, h⟩ := h
  have h1 := h.lo
  have h2 := h.rd
  unfold rk
  rcases hkd with rfl | rfl
  · simp; exact h1
  · simp only [show ¬ (2 : Int) = 1 by decide, if_false]
    split
    · rename_i q
      have := (h2 q).2
      omega
    · omega
/-- A way up is no longer than what lies above. -/
theorem way_short {kind : Int} {M : Nat} {N : List Nd} (hr : ∀ k, k < N.length → rk kind (N.getD k nd0) ≤ kind * M)
    (hu : ∀ k, k < N.length → (N.getD k nd0).up = -1 ∨ ∃ j : Nat, (N.getD k nd0).up = (j : Int) ∧ j < N.length ∧ rk kind (N.getD k nd0) < rk kind (N.getD j nd0)) :
    ∀ (f k : Nat), k < N.length → ((wayN N f (k : Int)).length : Int) ≤ kind * M - rk kind (N.getD k nd0) + 1
  | 0, k, hk => by
    have := hr k hk
    show (0 : Int) ≤ _
    omega
  | f + 1, k, hk => by
    have h1 := hr k hk
    rw [wayN_pos, List.length_cons]
    rcases hu k hk with e | ⟨j, e, hj, hlt⟩
    · rw [e, wayN_neg]
      show ((0 + 1 : Nat) : Int) ≤ _
      omega
    · have ih := way_short hr hu f j hj
      rw [e]
      omega
theorem nodes_short {kind : Int} (hkd : kind = 1 ∨ kind = 2) {ids : List Int} {ls : List (List Int)} (hok : OkT ids ls) (f : Nat) {k : Nat} (hk : k < (nodesL kind ids ls).length) : ((wayN (nodesL kind ids ls) f (k : Int)).length : Int) ≤ kind * (ls.length : Nat) + 1 := by
  by_cases hz : ids.length = 0
  · unfold nodesL at hk
    rw [if_pos hz] at hk
    simp at hk
  · have h1 := way_short (kind := kind) (M := ls.length) (N := nodesL kind ids ls) (fun k hk => rk_le hkd (nodes_hi hkd hok hk)) (fun i hi => by
      by_cases e : i + 1 < (nodesL kind ids ls).length
      · obtain ⟨p, h1, h2, h3⟩ := nodes_kid (kind := kind) hok hz e
        obtain ⟨ks, hks⟩ := nodes_hi hkd hok h2
        rw [hks.kse] at h3
        obtain ⟨q, hq, hqi⟩ := List.getElem_of_mem (kz_mem h3)
        have := hks.kid q hq
        have e3 : ks.getD q 0 = i := by
          rw [List.getD_eq_getElem?_getD, List.getElem?_eq_getElem hq]
          exact hqi
        rw [e3] at this
        exact .inr ⟨p, h1, h2, this.2.2⟩
      · have hi2 : i = (nodesL kind ids ls).length - 1 := by omega
        rw [hi2]
        exact .inl (nodes_root hok hz).2.2.2) f k hk
    have h2 := rk_nn hkd (nodes_hi hkd hok hk)
    omega
/-- How long a way up is does not hang on how long one may look. -/
theorem wayN_fuel1 {N : List Nd} (hu : ∀ k, k < N.length → (N.getD k nd0).up = -1 ∨ ∃ j : Nat, (N.getD k nd0).up = (j : Int) ∧ k < j ∧ j < N.length) : ∀ (f k : Nat), k < N.length → N.length ≤ k + f → wayN N (f + 1) (k : Int) = wayN N f (k : Int)
  | 0, k, h1, h2 => by omega
  | f + 1, k, h1, h2 => by
    rw [wayN_pos, wayN_pos]
    rcases hu k h1 with e | ⟨j, e, hj, hn⟩
    · rw [e, wayN_neg, wayN_neg]
    · rw [e, wayN_fuel1 hu f j hn (by omega)]
theorem wayN_up {N : List Nd} (hu : ∀ k, k < N.length → (N.getD k nd0).up = -1 ∨ ∃ j : Nat, (N.getD k nd0).up = (j : Int) ∧ k < j ∧ j < N.length) {k j : Nat} (hk : k < N.length) (e : (N.getD k nd0).up = (j : Int)) : wayN N N.length (k : Int) = (k : Int) :: wayN N N.length (j : Int) := by
  obtain ⟨n, hn⟩ : ∃ n, N.length = n + 1 := ⟨N.length - 1, by omega⟩
  have hj : k < j ∧ j < N.length := by
    rcases hu k hk with h | ⟨j', h, h1, h2⟩
    · rw [e] at h; omega
    · rw [e] at h
      have : j = j' := by omega
      rw [this]; exact ⟨h1, h2⟩
  rw [hn, wayN_pos, e, wayN_fuel1 hu n j hj.2 (by omega)]
theorem wayN_top {N : List Nd} {k : Nat} (hk : k < N.length) (e : (N.getD k nd0).up = -1) : wayN N N.length (k : Int) = [(k : Int)] := by
  obtain ⟨n, hn⟩ : ∃ n, N.length = n + 1 := ⟨N.length - 1, by omega⟩
  rw [hn, wayN_pos, e, wayN_neg]
/-- A round: one node's depth, and the greatest. -/
def hiStep (N : List Nd) (s : List Int × Int) (k : Nat) : List Int × Int :=
  let d := if 0 ≤ (N.getD k nd0).up then s.1.set k (IntKind.i64.wrap (s.1.getD (N.getD k nd0).up.toNat 0 + 1)) else s.1
  (d, max s.2 (d.getD k 0))
def hiF (N : List Nd) (ks : List Nat) : List Int × Int := ks.foldl (hiStep N) (List.replicate N.length 0, 0)
theorem hiF_snoc (N : List Nd) (ks : List Nat) (k : Nat) : hiF N (ks ++ [k]) = hiStep N (hiF N ks) k := by
  unfold hiF
  rw [List.foldl_append]
  rfl
theorem hiF_length (N : List Nd) : ∀ ks : List Nat, (hiF N ks).1.length = N.length := by
  have h : ∀ (ks : List Nat) (s : List Int × Int), (ks.foldl (hiStep N) s).1.length = s.1.length := by
    intro ks
    induction ks with
    | nil => exact fun _ => rfl
    | cons k ks ih =>
      intro s
      rw [List.foldl_cons, ih]
      unfold hiStep
      simp only []
      split
      · rw [List.length_set]
      · rfl
  intro ks
  rw [hiF, h]
  exact List.length_replicate
def dpN (N : List Nd) (k : Nat) : Nat := (wayN N N.length (k : Int)).length - 1
theorem hiF_says {N : List Nd} (hN : N.length ≤ 1000000) (hu : ∀ k, k < N.length → (N.getD k nd0).up = -1 ∨ ∃ j : Nat, (N.getD k nd0).up = (j : Int) ∧ k < j ∧ j < N.length) :
    ∀ j, j ≤ N.length → (∀ k, k < N.length → N.length ≤ k + j → (hiF N (dnL N.length j)).1.getD k 0 = (dpN N k : Nat)) ∧ (∀ k, k + j < N.length → (hiF N (dnL N.length j)).1.getD k 0 = 0) ∧
      (∀ k, k < N.length → N.length ≤ k + j → ((dpN N k : Nat) : Int) ≤ (hiF N (dnL N.length j)).2) ∧ ((hiF N (dnL N.length j)).2 = 0 ∨ ∃ k, k < N.length ∧ (hiF N (dnL N.length j)).2 = (dpN N k : Nat)) ∧ 0 ≤ (hiF N (dnL N.length j)).2
  | 0, _ => by
    have e : ∀ k, (List.replicate N.length (0 : Int)).getD k 0 = 0 := fun k => by
      rw [List.getD_eq_getElem?_getD, List.getElem?_replicate]
      split <;> rfl
    exact ⟨fun k h1 h2 => by omega, fun k _ => e k, fun k h1 h2 => by omega, .inl rfl, Int.le_refl _⟩
  | j + 1, hj => by
    obtain ⟨i1, i2, i3, i4, i5⟩ := hiF_says hN hu j (by omega)
    obtain ⟨c, hc⟩ : ∃ c, c = N.length - 1 - j := ⟨_, rfl⟩
    have hcl : c < N.length := by omega
    rw [dnL_succ, hiF_snoc, ← hc]
    have hl := hiF_length N (dnL N.length j)
    generalize hiF N (dnL N.length j) = s at *
    have hd : ∃ d, hiStep N s c = (d, max s.2 (dpN N c : Nat)) ∧ d.getD c 0 = (dpN N c : Nat) ∧ ∀ k, k ≠ c → d.getD k 0 = s.1.getD k 0 := by
      rcases hu c hcl with e | ⟨q, e, hq, hqn⟩
      · have h0 : dpN N c = 0 := by
          unfold dpN
          rw [wayN_top hcl e]
          rfl
        have h1 := i2 c (by omega)
        refine ⟨s.1, ?_, by rw [h0, h1]; rfl, fun _ _ => rfl⟩
        unfold hiStep
        simp only []
        rw [e, if_neg (by decide), h1, h0]
        rfl
      · have h0 : dpN N c = dpN N q + 1 := by
          unfold dpN
          rw [wayN_up hu hcl e, List.length_cons]
          have := wayN_up (N := N) hu hcl e
          have hp : 0 < (wayN N N.length (q : Int)).length := by
            obtain ⟨n, hn⟩ : ∃ n, N.length = n + 1 := ⟨N.length - 1, by omega⟩
            rw [hn, wayN_pos]
            exact Nat.succ_pos _
          omega
        have h1 := i1 q hqn (by omega)
        have h2 : dpN N q ≤ 1000000 := by
          have := wayN_length N N.length (q : Int)
          unfold dpN
          omega
        have h3 : IntKind.i64.wrap (((dpN N q : Nat) : Int) + 1) = ((dpN N c : Nat) : Int) := by
          rw [h0]
          unfold IntKind.wrap
          simp [IntKind.bits, IntKind.signed]
          omega
        refine ⟨s.1.set c (dpN N c : Nat), ?_, ?_, ?_⟩
        · unfold hiStep
          simp only []
          rw [e, if_pos (by omega), Int.toNat_natCast, h1, h3]
          have e2 : (s.1.set c ((dpN N c : Nat) : Int)).getD c 0 = (dpN N c : Nat) := by
            rw [List.getD_eq_getElem?_getD, List.getElem?_set_self (by omega)]
            rfl
          rw [e2]
        · rw [List.getD_eq_getElem?_getD, List.getElem?_set_self (by omega)]
          rfl
        · intro k hk
          rw [List.getD_eq_getElem?_getD, List.getElem?_set_ne (fun q => hk q.symm), ← List.getD_eq_getElem?_getD]
    obtain ⟨d, hs, hd1, hd2⟩ := hd
    have I4 := Lib.hid i4
    clear i4
    rw [hs]
    refine ⟨fun k h1 h2 => ?_, fun k h1 => ?_, fun k h1 h2 => ?_, ?_, ?_⟩
    · by_cases e : k = c
      · rw [e]; exact hd1
      · rw [hd2 k e]; exact i1 k h1 (by omega)
    · rw [hd2 k (by omega)]; exact i2 k (by omega)
    · show _ ≤ max s.2 _
      by_cases e : k = c
      · rw [e]; omega
      · have := i3 k h1 (by omega)
        omega
    · show max s.2 _ = 0 ∨ ∃ k, k < N.length ∧ max s.2 _ = _
      by_cases e : s.2 ≤ (dpN N c : Nat)
      · exact .inr ⟨c, hcl, by omega⟩
      · rcases I4.out with h | ⟨k, h1, h2⟩
        · omega
        · exact .inr ⟨k, h1, by omega⟩
    · show 0 ≤ max s.2 _
      omega
def hiN (N : List Nd) : Int := (hiF N (dnL N.length N.length)).2
theorem hiN_short {kind : Int} (hkd : kind = 1 ∨ kind = 2) {ids : List Int} {ls : List (List Int)} (hok : OkT ids ls) : 0 ≤ hiN (nodesL kind ids ls) ∧ hiN (nodesL kind ids ls) ≤ kind * (ls.length : Nat) := by
  have hN : (nodesL kind ids ls).length ≤ 90000 := by
    rcases hkd with rfl | rfl
    · rw [← nonK_all (kinds_cor hok), nonK]
      exact Nat.le_trans (List.length_filter_le _ _) (Nat.le_trans (by rw [List.length_take]; exact Nat.min_le_right _ _) (c3s_le hok))
    · exact c3s_le hok
  obtain ⟨-, -, -, h4, h5⟩ := hiF_says (N := nodesL kind ids ls) (by omega) (fun k hk => nodes_up hok hk) _ (Nat.le_refl _)
  refine ⟨h5, ?_⟩
  unfold hiN
  have h0 : 0 ≤ kind * (ls.length : Nat) := by rcases hkd with rfl | rfl <;> omega
  rcases h4 with h | ⟨k, h1, h2⟩
  · rw [h]; exact h0
  · rw [h2]
    have := nodes_short hkd hok (nodesL kind ids ls).length h1
    unfold dpN
    omega
/-- A tree of so many levels has no fewer members than two, so often multiplied. -/
theorem two_pow {n : Nat} {ls : List (List Int)} (h : Fit n ls) : ∀ (L at' : Nat), L ≤ ls.length → at' < cntN n ls L → 2 ^ L ≤ loN ls L (at' + 1) - loN ls L at'
  | 0, at', _, _ => by
    show 1 ≤ at' + 1 - at'
    omega
  | L + 1, at', hL, ha => by
    obtain ⟨y, hy, hy23, hy1, hy2⟩ := fit_step h hL ha
    have hlo : loN ls (L + 1) at' = loN ls L (fstN ls L at') := rfl
    have hhi : loN ls (L + 1) (at' + 1) = loN ls L (fstN ls L at' + y) := by rw [← hy1]; rfl
    have l1 := two_pow h L (fstN ls L at') (by omega) (by omega)
    have l2 := two_pow h L (fstN ls L at' + 1) (by omega) (by omega)
    have m1 := lo_lt h L (fstN ls L at') (by omega) (by omega)
    have m2 := lo_lt h L (fstN ls L at' + 1) (by omega) (by omega)
    rw [hlo, hhi, Nat.pow_succ]
    rcases hy23 with rfl | rfl
    · rw [show fstN ls L at' + 2 = fstN ls L at' + 1 + 1 from rfl]
      omega
    · have l3 := two_pow h L (fstN ls L at' + 2) (by omega) (by omega)
      have m3 := lo_lt h L (fstN ls L at' + 2) (by omega) (by omega)
      rw [show fstN ls L at' + 3 = fstN ls L at' + 2 + 1 from rfl]
      rw [show fstN ls L at' + 1 + 1 = fstN ls L at' + 2 from rfl] at l2 m2
      omega
theorem lv_pow {ids : List Int} {ls : List (List Int)} (hok : OkT ids ls) (hz : ¬ ids.length = 0) : 2 ^ ls.length ≤ ids.length := by
  have hf := okLv_fit ls ids.length hok.2
  have h := two_pow hf ls.length 0 (Nat.le_refl _) (by rw [cnt_top hok hz]; exact Nat.one_pos)
  have h1 := lo_end hf ls.length (Nat.le_refl _)
  rw [cnt_top hok hz] at h1
  rw [lo_zero, Nat.zero_add, h1, Nat.sub_zero] at h
  exact h
end Go.Proofs.Ytejdkmfbncedkaa
