/- How a member in, or out, turns the groups of a tree: at each level a stretch gives way to two groups at the most. -/
import Derived.Test.YtfgammcefaomeaaW3
namespace Go.Proofs.Ytfgammcefaomeaa
def Ed1 {α : Type} (l l' : List α) : Prop := ∃ P M M' Q : List α, l = P ++ (M ++ Q) ∧ l' = P ++ (M' ++ Q) ∧ M'.length ≤ 2
def EdA : (d : Nat) → List (NT d) → List (NT d) → Prop
  | 0, l, l' => Ed1 (α := NT 0) l l'
  | d + 1, l, l' => Ed1 (α := NT (d + 1)) l l' ∧ EdA d (flatT l) (flatT l')
theorem flatT_spl {d : Nat} (kids : List (NT d)) : flatT (splT kids) = kids := by
  by_cases h : kids.length = 4
  · rw [splT_four h, flatT_cons, flatT_one]
    exact List.take_append_drop 2 kids
  · rw [splT_not h, flatT_one]
    rfl
theorem with_ed (id : Int) : ∀ (d : Nat) (pre post : List (NT d)) (x : NT d), wfT d x → EdA d (pre ++ x :: post) (pre ++ (withT id d x ++ post))
  | 0, pre, post, x, hw => ⟨pre, [x], withT id 0 x, post, rfl, rfl, by have := (with_wf id 0 x hw).2; omega⟩
  | d + 1, pre, post, x, hw => by
    refine ⟨⟨pre, [x], withT id (d + 1) x, post, rfl, rfl, by have := (with_wf id (d + 1) x hw).2; omega⟩, ?_⟩
    rw [flatT_append, flatT_append pre, flatT_append, flatT_cons, withT_succ, flatT_spl]
    have h1 : chP (fun f => decide (f < id)) d (kidsT x) (kidsT x).length < (kidsT x).length := lastP_lt _ _ (by have := hw.1; omega)
    generalize chP (fun f => decide (f < id)) d (kidsT x) (kidsT x).length = i at *
    have hm : (kidsT x).getD i (dfT d) ∈ kidsT x := by
      rw [List.getD_eq_getElem?_getD, List.getElem?_eq_getElem h1]
      exact List.getElem_mem h1
    have ih := with_ed id d (flatT pre ++ (kidsT x).take i) ((kidsT x).drop (i + 1) ++ flatT post) ((kidsT x).getD i (dfT d)) (hw.2 _ hm)
    have e := split_at (kidsT x) (dfT d) h1
    have e1 : flatT pre ++ (kidsT x ++ flatT post) = (flatT pre ++ (kidsT x).take i) ++ (kidsT x).getD i (dfT d) :: ((kidsT x).drop (i + 1) ++ flatT post) := by
      conv => lhs; rw [e]
      simp only [List.append_assoc, List.cons_append]
    have e2 : flatT pre ++ ((kidsT x).take i ++ withT id d ((kidsT x).getD i (dfT d)) ++ (kidsT x).drop (i + 1) ++ flatT post) = (flatT pre ++ (kidsT x).take i) ++ (withT id d ((kidsT x).getD i (dfT d)) ++ ((kidsT x).drop (i + 1) ++ flatT post)) := by
      simp only [List.append_assoc]
    rw [e1, e2]
    exact ih
theorem Ed1.wrap {α : Type} {l l' F G : List α} (h : Ed1 l l') : Ed1 (F ++ (l ++ G)) (F ++ (l' ++ G)) := by
  obtain ⟨P, M, M', Q, rfl, rfl, h⟩ := h
  exact ⟨F ++ P, M, M', Q ++ G, by simp only [List.append_assoc], by simp only [List.append_assoc], h⟩
theorem mend_ed {d : Nat} (P S : List (NT (d + 1))) (k k' : NT (d + 1)) {l0 : NT d} (hk : kidsT k' = [l0]) (hP : ∀ q ∈ P, wfT (d + 1) q) (hS : ∀ q ∈ S, wfT (d + 1) q) (hn : 0 < P.length + S.length) : Ed1 (P ++ k :: S) (mendT (P ++ k' :: S) P.length) := by
  by_cases hp : P = []
  · subst hp
    match S, hS, hn with
    | o :: S, hS, _ =>
      rcases kids_two (hS o (List.mem_cons_self ..)) with ⟨o0, o1, ho, -, -⟩ | ⟨o0, o1, o2, ho, -, -, -⟩
      · rw [show (([] : List (NT (d + 1))) ++ k' :: o :: S) = k' :: o :: S from rfl, show ([] : List (NT (d + 1))).length = 0 from rfl, mend_two0 S o k' ho hk]
        exact ⟨[], [k, o], [grpT [l0, o0, o1]], S, rfl, rfl, Nat.le_succ 1⟩
      · rw [show (([] : List (NT (d + 1))) ++ k' :: o :: S) = k' :: o :: S from rfl, show ([] : List (NT (d + 1))).length = 0 from rfl, mend_three0 S o k' ho hk]
        exact ⟨[], [k, o], [grpT [l0, o0], grpT [o1, o2]], S, rfl, rfl, Nat.le_refl 2⟩
  · obtain ⟨xa, o, rfl⟩ : ∃ xa o, P = xa ++ [o] := ⟨P.dropLast, P.getLast hp, (List.dropLast_concat_getLast hp).symm⟩
    have hlen : (xa ++ [o]).length = xa.length + 1 := by rw [List.length_append]; rfl
    rw [hlen, show xa ++ [o] ++ k' :: S = xa ++ o :: k' :: S by rw [List.append_assoc]; rfl]
    rcases kids_two (hP o (List.mem_append_right _ (List.mem_singleton.2 rfl))) with ⟨o0, o1, ho, -, -⟩ | ⟨o0, o1, o2, ho, -, -, -⟩
    · rw [mend_two xa S o k' ho hk]
      exact ⟨xa, [o, k], [grpT [o0, o1, l0]], S, by rw [List.append_assoc]; rfl, rfl, Nat.le_succ 1⟩
    · rw [mend_three xa S o k' ho hk]
      exact ⟨xa, [o, k], [grpT [o0, o1], grpT [o2, l0]], S, by rw [List.append_assoc]; rfl, rfl, Nat.le_refl 2⟩
theorem gone_ed (id : Int) : ∀ (d : Nat) (pre post : List (NT (d + 1))) (x : NT (d + 1)), wfT (d + 1) x → Rise (idsF (d + 1) [x]) → id ∈ idsF (d + 1) [x] → EdA d (flatT (pre ++ x :: post)) (flatT (pre ++ goneT id d x :: post))
  | 0, pre, post, x, hw, hs, hm => by
    rw [idsF_one] at hs hm
    obtain ⟨P, k, S, e, hi, -⟩ := in_chosen id 0 (kidsT x) (by have := hw.1; omega) hw.2 hs hm
    rw [goneT_zero id x e hi, flatT_append, flatT_append, flatT_cons, flatT_cons, e]
    exact Ed1.wrap (F := flatT pre) (l := P ++ k :: S) (l' := P ++ S) ⟨P, [k], [], S, rfl, rfl, Nat.zero_le _⟩
  | d + 1, pre, post, x, hw, hs, hm => by
    rw [idsF_one] at hs hm
    obtain ⟨P, k, S, e, hi, hk, hwk, hP, hS, hsk, hkm, -⟩ := in_chosen id (d + 1) (kidsT x) (by have := hw.1; omega) hw.2 hs hm
    rw [goneT_succ id d x e hi hk]
    have hg := gone_ok id d k hwk hsk hkm
    have ih := gone_ed id d (flatT pre ++ P) (S ++ flatT post) k hwk hsk hkm
    generalize goneT id d k = k' at *
    have hxl : (kidsT x).length = P.length + S.length + 1 := by
      rw [e, List.length_append, List.length_cons]
      omega
    have hx23 := hw.1
    rw [flatT_append, flatT_append pre, flatT_cons, flatT_cons, e]
    by_cases h1 : (kidsT k').length = 1
    · rw [if_pos h1]
      obtain ⟨l0, hl0⟩ : ∃ l0, kidsT k' = [l0] := List.length_eq_one_iff.1 h1
      have hwl : wfT d l0 := hg.wf l0 (by rw [hl0]; exact List.mem_singleton.2 rfl)
      have hM := mend_ok P S k' hl0 hwl hP hS (by omega)
      have hE := mend_ed P S k k' hl0 hP hS (by omega)
      generalize mendT (P ++ k' :: S) P.length = M at *
      refine ⟨Ed1.wrap (l := P ++ k :: S) (l' := M) hE, ?_⟩
      show EdA d (flatT (flatT pre ++ ((P ++ k :: S) ++ flatT post))) (flatT (flatT pre ++ (M ++ flatT post)))
      rw [flatT_append (flatT pre) (M ++ _), flatT_append M, hM.flat, ← flatT_append, ← flatT_append]
      simp only [List.append_assoc, List.cons_append] at ih ⊢
      exact ih
    · rw [if_neg h1]
      refine ⟨Ed1.wrap (l := P ++ k :: S) (l' := P ++ k' :: S) ⟨P, [k], [k'], S, rfl, rfl, Nat.le_succ 1⟩, ?_⟩
      show EdA d (flatT (flatT pre ++ ((P ++ k :: S) ++ flatT post))) (flatT (flatT pre ++ ((P ++ k' :: S) ++ flatT post)))
      simp only [List.append_assoc, List.cons_append] at ih ⊢
      exact ih
/-- There are no more such than so many. -/
def CntLe {α : Type} (P : α → Prop) : List α → Nat → Prop
  | [], _ => True
  | t :: l, n => (¬ P t ∧ CntLe P l n) ∨ ∃ m, n = m + 1 ∧ CntLe P l m
theorem CntLe.mono {α : Type} {P : α → Prop} : ∀ {l : List α} {n m : Nat}, CntLe P l n → n ≤ m → CntLe P l m
  | [], _, _, _, _ => trivial
  | _ :: _, _, m, .inl ⟨h1, h2⟩, hm => .inl ⟨h1, CntLe.mono h2 hm⟩
  | _ :: _, n, m, .inr ⟨k, h1, h2⟩, hm => .inr ⟨m - 1, by omega, CntLe.mono h2 (by omega)⟩
theorem CntLe.app {α : Type} {P : α → Prop} : ∀ {a b : List α} {n m : Nat}, CntLe P a n → CntLe P b m → CntLe P (a ++ b) (n + m)
  | [], _, n, m, _, h => h.mono (Nat.le_add_left m n)
  | _ :: _, _, _, _, .inl ⟨h1, h2⟩, h => .inl ⟨h1, h2.app h⟩
  | _ :: _, _, n, m, .inr ⟨k, h1, h2⟩, h => .inr ⟨k + m, by omega, h2.app h⟩
theorem CntLe.split {α : Type} {P : α → Prop} : ∀ {a b : List α} {n : Nat}, CntLe P (a ++ b) n → ∃ m k, m + k = n ∧ CntLe P a m ∧ CntLe P b k
  | [], _, n, h => ⟨0, n, Nat.zero_add n, trivial, h⟩
  | t :: a, b, n, .inl ⟨h1, h2⟩ => by
    obtain ⟨m, k, e, q1, q2⟩ := CntLe.split (a := a) h2
    exact ⟨m, k, e, .inl ⟨h1, q1⟩, q2⟩
  | t :: a, b, n, .inr ⟨j, h1, h2⟩ => by
    obtain ⟨m, k, e, q1, q2⟩ := CntLe.split (a := a) h2
    exact ⟨m + 1, k, by omega, .inr ⟨m, rfl, q1⟩, q2⟩
theorem CntLe.len {α : Type} {P : α → Prop} : ∀ (l : List α), CntLe P l l.length
  | [] => trivial
  | _ :: l => .inr ⟨l.length, rfl, CntLe.len l⟩
theorem CntLe.imp {α : Type} {P P' : α → Prop} : ∀ {l : List α} {n : Nat}, (∀ t ∈ l, P' t → P t) → CntLe P l n → CntLe P' l n
  | [], _, _, _ => trivial
  | t :: _, _, h, .inl ⟨h1, h2⟩ => .inl ⟨fun q => h1 (h t (List.mem_cons_self ..) q), h2.imp fun x hx => h x (List.mem_cons_of_mem _ hx)⟩
  | _ :: _, _, h, .inr ⟨k, h1, h2⟩ => .inr ⟨k, h1, h2.imp fun x hx => h x (List.mem_cons_of_mem _ hx)⟩
theorem CntLe.or {α : Type} {P P' : α → Prop} : ∀ {l : List α} {n m : Nat}, CntLe P l n → CntLe P' l m → CntLe (fun t => P t ∨ P' t) l (n + m)
  | [], _, _, _, _ => trivial
  | _ :: _, _, _, .inl ⟨h1, h2⟩, .inl ⟨g1, g2⟩ => .inl ⟨fun q => q.elim h1 g1, h2.or g2⟩
  | _ :: _, n, m, .inl ⟨_, h2⟩, .inr ⟨k, g1, g2⟩ => .inr ⟨n + k, by omega, h2.or g2⟩
  | _ :: _, n, m, .inr ⟨k, h1, h2⟩, .inl ⟨_, g2⟩ => .inr ⟨k + m, by omega, h2.or g2⟩
  | _ :: _, n, m, .inr ⟨k, h1, h2⟩, .inr ⟨j, g1, g2⟩ => .inr ⟨k + m, by omega, h2.or (g2.mono (by omega))⟩
theorem CntLe.none {α : Type} {P : α → Prop} : ∀ {l : List α}, (∀ t ∈ l, ¬ P t) → CntLe P l 0
  | [], _ => trivial
  | t :: _, h => .inl ⟨h t (List.mem_cons_self ..), CntLe.none fun x hx => h x (List.mem_cons_of_mem _ hx)⟩
/-- .. at each level. -/
def BadA (B : (d : Nat) → NT d → Prop) (n : Nat) : (d : Nat) → List (NT d) → Prop
  | 0, l => CntLe (B 0) l n
  | d + 1, l => CntLe (B (d + 1)) l n ∧ BadA B n d (flatT l)
theorem ids_part {d : Nat} {l : List (NT d)} {t : NT d} (ht : t ∈ l) {x : Int} (hx : x ∈ idsF d [t]) : x ∈ idsF d l := by
  obtain ⟨a, b, rfl⟩ := List.append_of_mem ht
  rw [idsF_append, idsF_cons]
  exact List.mem_append_right _ (List.mem_append_left _ hx)
theorem ed1_step {B B' : (d : Nat) → NT d → Prop} {n d : Nat} {x : Int} {l l' : List (NT d)} (hc : ∀ L (t : NT L), x ∉ idsF L [t] → B' L t → B L t) (he : Ed1 l l') (hx : x ∉ idsF d l ∨ x ∉ idsF d l') (h : CntLe (B d) l n) : CntLe (B' d) l' (n + 2) := by
  obtain ⟨P, M, M', Q, rfl, rfl, hm⟩ := he
  have h1 : ∀ t, t ∈ P ∨ t ∈ Q → x ∉ idsF d [t] := fun t ht hxt => by
    rcases hx with hx | hx
    · exact hx (ids_part (by rcases ht with ht | ht <;> simp [ht]) hxt)
    · exact hx (ids_part (by rcases ht with ht | ht <;> simp [ht]) hxt)
  obtain ⟨m, k, e, q1, q2⟩ := h.split
  obtain ⟨m2, k2, e2, -, q4⟩ := q2.split
  exact ((q1.imp fun t ht => hc d t (h1 t (.inl ht))).app ((CntLe.len M').app (q4.imp fun t ht => hc d t (h1 t (.inr ht))))).mono (by omega)
theorem bad_step {B B' : (d : Nat) → NT d → Prop} {n : Nat} {x : Int} (hc : ∀ L (t : NT L), x ∉ idsF L [t] → B' L t → B L t) : ∀ (d : Nat) (l l' : List (NT d)), (x ∉ idsF d l ∨ x ∉ idsF d l') → EdA d l l' → BadA B n d l → BadA B' (n + 2) d l'
  | 0, _, _, hx, he, h => ed1_step hc he hx h
  | d + 1, l, l', hx, he, h => ⟨ed1_step hc he.1 hx h.1, bad_step hc d (flatT l) (flatT l') hx he.2 h.2⟩
theorem BadA.imp {B B' : (d : Nat) → NT d → Prop} {n : Nat} (hc : ∀ L (t : NT L), B' L t → B L t) : ∀ (d : Nat) (l : List (NT d)), BadA B n d l → BadA B' n d l
  | 0, _, h => CntLe.imp (fun t _ => hc 0 t) h
  | d + 1, l, h => ⟨h.1.imp fun t _ => hc (d + 1) t, BadA.imp hc d (flatT l) h.2⟩
theorem BadA.mono {B : (d : Nat) → NT d → Prop} {n m : Nat} (hn : n ≤ m) : ∀ (d : Nat) (l : List (NT d)), BadA B n d l → BadA B m d l
  | 0, _, h => CntLe.mono h hn
  | d + 1, l, h => ⟨h.1.mono hn, BadA.mono hn d (flatT l) h.2⟩
/-- One member is in one group of each level. -/
theorem cnt_one {d : Nat} {y : Int} : ∀ {l : List (NT d)}, (idsF d l).Nodup → CntLe (fun t => y ∈ idsF d [t]) l 1
  | [], _ => trivial
  | t :: l, h => by
    rw [idsF_cons] at h
    obtain ⟨-, h2, h3⟩ := List.nodup_append.1 h
    by_cases hy : y ∈ idsF d [t]
    · exact .inr ⟨0, rfl, CntLe.none fun s hs hys => h3 y hy y (ids_part hs hys) rfl⟩
    · exact .inl ⟨hy, cnt_one h2⟩
theorem BadA.one {B B' : (d : Nat) → NT d → Prop} {n : Nat} {y : Int} (hc : ∀ L (t : NT L), B' L t → B L t ∨ y ∈ idsF L [t]) : ∀ (d : Nat) (l : List (NT d)), (idsF d l).Nodup → BadA B n d l → BadA B' (n + 1) d l
  | 0, _, hn, h => (CntLe.or h (cnt_one (y := y) hn)).imp fun t _ => hc 0 t
  | d + 1, l, hn, h => ⟨(h.1.or (cnt_one (y := y) hn)).imp fun t _ => hc (d + 1) t, BadA.one hc d (flatT l) hn h.2⟩
/-- A node of a tree. -/
inductive SubN : (L : Nat) → NT L → (d : Nat) → NT d → Prop
  | self {d : Nat} {t : NT d} : SubN d t d t
  | kid {L : Nat} {t : NT L} {d : Nat} {x : NT (d + 1)} {k : NT d} : k ∈ kidsT x → SubN L t d k → SubN L t (d + 1) x
def SubT (L : Nat) (t : NT L) (d : Nat) (l : List (NT d)) : Prop := ∃ x ∈ l, SubN L t d x
theorem SubT.down {L : Nat} {t : NT L} {d : Nat} {l : List (NT (d + 1))} (h : SubT L t d (flatT l)) : SubT L t (d + 1) l := by
  obtain ⟨k, hk, hs⟩ := h
  obtain ⟨q, hq, hkq⟩ := List.mem_flatten.1 hk
  obtain ⟨x, hx, rfl⟩ := List.mem_map.1 hq
  exact ⟨x, hx, .kid hkq hs⟩
theorem BadA.zero {B : (d : Nat) → NT d → Prop} : ∀ (d : Nat) (l : List (NT d)), (∀ L t, SubT L t d l → ¬ B L t) → BadA B 0 d l
  | 0, _, h => CntLe.none fun t ht => h 0 t ⟨t, ht, .self⟩
  | d + 1, l, h => ⟨CntLe.none fun t ht => h (d + 1) t ⟨t, ht, .self⟩, BadA.zero d (flatT l) fun L t ht => h L t ht.down⟩
/-- Not as it was, or touched. -/
def BadT (d0 : Nat) (l0 : List (NT d0)) (T : List Int) (d : Nat) (t : NT d) : Prop := ¬ SubT d t d0 l0 ∨ ∃ y ∈ T, y ∈ idsF d [t]
/-- A tree, or none. -/
structure TreeIs (d : Nat) (l : List (NT d)) (ids : List Int) (ls : List (List Int)) : Prop where
  wf : ∀ t ∈ l, wfT d t
  one : l.length ≤ 1
  none : l = [] → d = 0
  ids : idsF d l = ids
  lv : lvF d l = ls
theorem lvF_len : ∀ (d : Nat) (l : List (NT d)), (lvF d l).length = d
  | 0, _ => rfl
  | d + 1, l => by
    show (lvF d (flatT l) ++ [lensT l]).length = _
    rw [List.length_append, lvF_len d]
    rfl
theorem tree_ins {d0 : Nat} {l0 : List (NT d0)} {T : List Int} {n d : Nat} {l : List (NT d)} {ids : List Int} {ls : List (List Int)} {x : Int} (h : TreeIs d l ids ls) (hb : BadA (BadT d0 l0 T) n d l) (hx : insE ids ls x = 0) : ∃ (d' : Nat) (l' : List (NT d')), TreeIs d' l' (insIds ids ls x) (insLv ids ls x) ∧ BadA (BadT d0 l0 (T ++ [x])) (n + 2) d' l' := by
  obtain ⟨hok, -, -, hnin, -⟩ := insE_zero hx
  have hc : ∀ L (t : NT L), x ∉ idsF L [t] → BadT d0 l0 (T ++ [x]) L t → BadT d0 l0 T L t := fun L t ht hb => by
    rcases hb with hb | ⟨y, hy, hyt⟩
    · exact .inl hb
    · rcases List.mem_append.1 hy with hy | hy
      · exact .inr ⟨y, hy, hyt⟩
      · rw [List.mem_singleton.1 hy] at hyt
        exact absurd hyt ht
  unfold insIds insLv
  rw [if_pos hx, if_pos hx]
  match l, h, hb with
  | [], h, hb =>
    have hd := h.none rfl
    subst hd
    have h1 : ids = [] := h.ids.symm
    have h2 : ls = [] := h.lv.symm
    subst h1 h2
    refine ⟨0, [(show NT 0 from x)], ⟨fun _ _ => trivial, Nat.le_refl 1, fun q => by simp at q, rfl, rfl⟩, ?_⟩
    exact (CntLe.len (P := BadT d0 l0 (T ++ [x]) 0) [(show NT 0 from x)]).mono (by show 1 ≤ n + 2; omega)
  | [t], h, hb =>
    have htw := h.wf t (List.mem_singleton.2 rfl)
    have hti := h.ids
    have htl := h.lv
    have hne : ids.length ≠ 0 := fun q => by
      obtain ⟨r, hr⟩ := ids_fst d t htw
      rw [← hti, hr] at q
      simp at q
    rw [if_neg hne]
    have hE := with_ed x d [] [] t htw
    rw [List.nil_append, List.nil_append, List.append_nil] at hE
    have hdoc := ins_doc x d t htw (by rw [hti]; exact hok.1.2.2) (by rw [hti]; exact hnin)
    have hww := with_wf x d t htw
    have hB := bad_step (n := n) hc d [t] (withT x d t) (.inl (by rw [hti]; exact hnin)) hE hb
    rw [hti, htl] at hdoc
    rcases hww.2 with h1 | h2
    · obtain ⟨e1, e2⟩ := hdoc.1 h1
      exact ⟨d, withT x d t, ⟨hww.1, by omega, fun q => by rw [q] at h1; simp at h1, e1, e2⟩, hB⟩
    · obtain ⟨e1, e2⟩ := hdoc.2 h2
      refine ⟨d + 1, [grpT (withT x d t)], ⟨fun s hs => ?_, Nat.le_refl 1, fun q => by simp at q, e1, e2⟩, (CntLe.len (P := BadT d0 l0 (T ++ [x]) (d + 1)) [grpT (withT x d t)]).mono (by show 1 ≤ n + 2; omega), ?_⟩
      · rw [List.mem_singleton.1 hs]
        exact ⟨.inl h2, hww.1⟩
      · rw [flatT_one]
        exact hB
  | _ :: _ :: _, h, _ => exact absurd h.one (by simp)
theorem tree_del {d0 : Nat} {l0 : List (NT d0)} {T : List Int} {n d : Nat} {l : List (NT d)} {ids : List Int} {ls : List (List Int)} {x : Int} (h : TreeIs d l ids ls) (hb : BadA (BadT d0 l0 T) n d l) (hx : delE ids ls x = 0) : ∃ (d' : Nat) (l' : List (NT d')), TreeIs d' l' (delIds ids ls x) (delLv ids ls x) ∧ BadA (BadT d0 l0 (T ++ [x])) (n + 2) d' l' := by
  obtain ⟨hok, hin⟩ := delE_zero hx
  have hc : ∀ L (t : NT L), x ∉ idsF L [t] → BadT d0 l0 (T ++ [x]) L t → BadT d0 l0 T L t := fun L t ht hb => by
    rcases hb with hb | ⟨y, hy, hyt⟩
    · exact .inl hb
    · rcases List.mem_append.1 hy with hy | hy
      · exact .inr ⟨y, hy, hyt⟩
      · rw [List.mem_singleton.1 hy] at hyt
        exact absurd hyt ht
  unfold delIds delLv
  rw [if_pos hx, if_pos hx]
  match d, l, h, hb with
  | _, [], h, hb =>
    rw [← h.ids, idsF_nil] at hin
    cases hin
  | 0, [t], h, hb =>
    have h1 : ids = [(show Int from t)] := h.ids.symm
    have h2 : ls = [] := h.lv.symm
    subst h1 h2
    have h3 : x = t := List.mem_singleton.1 hin
    have h4 : delI [(show Int from t)] x = [] := by
      unfold delI
      rw [cnt_none fun y hy => by rw [List.mem_singleton.1 hy, h3]; exact Int.lt_irrefl _]
      rfl
    rw [h4]
    exact ⟨0, [], ⟨(fun _ q => by cases q), Nat.zero_le _, (fun _ => rfl), rfl, rfl⟩, trivial⟩
  | d + 1, [t], h, hb =>
    have htw := h.wf t (List.mem_singleton.2 rfl)
    have hti := h.ids
    have htl := h.lv
    have hri : Rise (idsF (d + 1) [t]) := by rw [hti]; exact hok.1.2.2
    have hti2 : x ∈ idsF (d + 1) [t] := by rw [hti]; exact hin
    have hE := gone_ed x d [] [] t htw hri hti2
    rw [List.nil_append, List.nil_append] at hE
    have hdoc := del_doc x d t htw hri hti2
    have hg := gone_ok x d t htw hri hti2
    have hnx : x ∉ idsF (d + 1) [goneT x d t] := by
      rw [hg.ids, hti]
      exact fun q => ((delI_mem hok.1.2.2 hin).1 q).2 rfl
    have hB := bad_step (n := n) hc d (flatT [t]) (flatT [goneT x d t]) (.inr hnx) hE hb.2
    rw [hti, htl] at hdoc
    have hl := hg.len
    have hw1 := htw.1
    by_cases h1 : (kidsT (goneT x d t)).length = 1
    · obtain ⟨l1, hl1⟩ : ∃ l1, kidsT (goneT x d t) = [l1] := List.length_eq_one_iff.1 h1
      obtain ⟨e1, e2⟩ := hdoc.2 h1
      rw [flatT_one, hl1] at hB
      rw [hl1] at e1 e2
      exact ⟨d, [l1], ⟨fun s hs => by rw [List.mem_singleton.1 hs]; exact hg.wf l1 (by rw [hl1]; exact List.mem_singleton.2 rfl), Nat.le_refl 1, fun q => by simp at q, e1, e2⟩, hB⟩
    · obtain ⟨e1, e2⟩ := hdoc.1 h1
      exact ⟨d + 1, [goneT x d t], ⟨fun s hs => by rw [List.mem_singleton.1 hs]; exact ⟨by omega, hg.wf⟩, Nat.le_refl 1, fun q => by simp at q, e1, e2⟩, (CntLe.len (P := BadT d0 l0 (T ++ [x]) (d + 1)) [goneT x d t]).mono (by show 1 ≤ n + 2; omega), hB⟩
  | _, _ :: _ :: _, h, _ => exact absurd h.one (by simp)
end Go.Proofs.Ytfgammcefaomeaa
