import Derived.Test.YtdbhlajajdlmfaaDoorB1
import Derived.Deep.MidRow
import Derived.Deep.AppendLies
import Derived.Shelf.Spec.SlicesInsert
import Derived.Lib.AppendZerosOnto
import Derived.Lib.SlBytesConst
/- Small laws of walks, of no one's numbers: out of the ratchet's texts. -/
namespace Go.Proofs.YtdbhlajajdlmfaaDoor
open Go Go.RowKit
section
variable {P : Program} {ops : Array Oper} {C : World → Prop} {E : Nat → Bool} {Q : Exit → Act → World → Prop} {n k : Nat} {o : Oper} {l : List Oper} {a : Act} {w : World}
end
theorem lx_bin {P : Program} {ops : Array Oper} {C : World → Prop} {E : Nat → Bool} {Q : Exit → Act → World → Prop} {n k : Nat} {o : Oper} {l : List Oper} {a : Act} {w : World} (hE : E k = false) (hw : Region.wanted o (yielded ops a.tmps) = true) (op : BinOp) (t t2 : TypeId) (x y : Operand) (ho : o.op = .binOp op t x y t2)
    (vx vy v : Value) (hx : a.eval x = vx) (hy : a.eval y = vy) (hr : ∀ w1, (Go.binOp op t vx vy).run P w1 = .ok v w1) (hg : ∀ w1, (eqGuard op t x y vx vy).run P w1 = .ok () w1) (h : wpLx P ops C E Q n (k + 1) l (a.put o.dst v) w) : wpLx P ops C E Q (n + 1) k (o :: l) a w := by
  refine lx_val hE hw v (fun w' _ => ?_) h
  unfold execOp
  simp only [ho, hx, hy, Sem.run_bind, hg, hr, Result.andThen_ok, Sem.run_pure]
theorem wpList_load_val {P : Program} {ops : Array Oper} {rest : List Oper} {o : Oper} {a : Act} {w : World} {Q : Exit → Act → World → Prop} (hw : Region.wanted o (yielded ops a.tmps) = true) (ty : TypeId) (x : Operand) (ho : o.op = .load ty x)
    (ad : Addr) (hx : a.eval x = .pointer (some ad)) (v : Value) (hv : (loadVar ty ad).run P w = .ok v w) (h : wpList P ops Q rest (a.put o.dst v) w) : wpList P ops Q (o :: rest) a w := by
  unfold wpList
  rw [if_pos hw]
  refine .inl (wp_noOut ?_)
  unfold Oper.wp execOp
  simp only [ho, hx, Instr.loadAt, Instr.sureAddr, Sem.run_bind, Sem.run_pure, Result.andThen_ok, hv]
  exact h
theorem Led.skip {w0 w : World} {L : List (Nat × Obj)} (h : Led w0 w L) (n : Nat) : Led w0 w (L.eraseIdx n) :=
  have ht : ∀ (i : Nat) (p : Nat × Obj), (L.eraseIdx n)[i]? = some p → L[if i < n then i else i + 1]? = some p := fun i p hp => by
    rw [List.getElem?_eraseIdx] at hp
    split at hp
    · rename_i hq; rw [if_pos hq]; exact hp
    · rename_i hq; rw [if_neg hq]; exact hp
  ⟨h.aft, fun i g o hi => h.has _ g o (ht i _ hi), fun i j g k o p hij hi hj => h.inc _ _ g k o p (by split <;> split <;> omega) (ht i _ hi) (ht j _ hj)⟩
theorem Led.cut {w0 w : World} {L : List (Nat × Obj)} (h : Led w0 w L) (n : Nat) : Led w0 w (L.take n) :=
  have ht : ∀ (i : Nat) (p : Nat × Obj), (L.take n)[i]? = some p → L[i]? = some p := fun i p hp => by
    rw [List.getElem?_take] at hp
    split at hp
    · exact hp
    · cases hp
  ⟨h.aft, fun i g o hi => h.has i g o (ht i _ hi), fun i j g k o p hij hi hj => h.inc i j g k o p hij (ht i _ hi) (ht j _ hj)⟩
theorem getElem?_snoc {α : Type} {L : List α} {x y : α} {i : Nat} (h : (L ++ [x])[i]? = some y) (hl : ¬ i < L.length) : i = L.length ∧ x = y := by
  rw [List.getElem?_append_right (by omega)] at h
  have h0 : i - L.length = 0 := by have := (List.getElem?_eq_some_iff.1 h).1; simp at this; omega
  rw [h0] at h
  exact ⟨by omega, Option.some.inj h⟩
theorem Led.add {w0 w : World} {L : List (Nat × Obj)} {g : Nat} {o : Obj} (h : Led w0 w L) (hg : w.heap[g]? = some o) (hl : w0.heap.size ≤ g) (hi : ∀ (i k : Nat) (p : Obj), L[i]? = some (k, p) → k < g) : Led w0 w (L ++ [(g, o)]) := by
  refine ⟨h.aft, fun i k p hp => ?_, fun i j k m p q hij hp hq => ?_⟩
  · by_cases hlt : i < L.length
    · rw [List.getElem?_append_left hlt] at hp
      exact h.has i k p hp
    · obtain ⟨-, e⟩ := getElem?_snoc hp hlt
      cases e
      exact ⟨hg, hl⟩
  · by_cases hlt : j < L.length
    · rw [List.getElem?_append_left hlt] at hq
      rw [List.getElem?_append_left (by omega)] at hp
      exact h.inc i j k m p q hij hp hq
    · obtain ⟨hj, e⟩ := getElem?_snoc hq hlt
      cases e
      rw [List.getElem?_append_left (by omega)] at hp
      exact hi i k p hp
end Go.Proofs.YtdbhlajajdlmfaaDoor
/- Trees of two and three, as lists: no program in sight. -/
namespace Go.Proofs.YtdbhlajajdlmfaaDoor
/-- Two, or three. -/
def two3 (x : Int) : Bool := x == 2 || x == 3
/-- The levels above so many: each one's groups have two or three, and all of what is below. -/
def okLv : Int → List (List Int) → Bool
  | n, [] => decide (n ≤ 1)
  | n, l :: ls => decide (2 ≤ n) && l.all two3 && decide (l.sum = n) && okLv (l.length : Int) ls
/-- Members: rising, and few. -/
def okIds (ids : List Int) : Prop := ids.length ≤ 1000 ∧ (∀ x ∈ ids, 0 ≤ x ∧ x ≤ 1048576) ∧ ids.Pairwise (· < ·)
instance (ids : List Int) : Decidable (okIds ids) := by unfold okIds; infer_instance
/-- The tree may be. -/
def OkT (ids : List Int) (lv : List (List Int)) : Prop := okIds ids ∧ okLv (ids.length : Int) lv = true
instance (ids : List Int) (lv : List (List Int)) : Decidable (OkT ids lv) := by unfold OkT; infer_instance
def chkT (ids : List Int) (lv : List (List Int)) : Int := if OkT ids lv then 0 else 1
theorem chkT_or (ids : List Int) (lv : List (List Int)) : chkT ids lv = 0 ∨ chkT ids lv = 1 := by
  unfold chkT
  split
  · exact .inl rfl
  · exact .inr rfl
theorem chkT_zero {ids : List Int} {lv : List (List Int)} : chkT ids lv = 0 ↔ OkT ids lv := by
  unfold chkT
  split
  · simpa
  · simpa
theorem two3_iff {x : Int} : two3 x = true ↔ x = 2 ∨ x = 3 := by simp [two3]
/-- In which group something is. -/
def grpG : List Int → Int → Nat
  | [], _ => 0
  | x :: l, a => if a < x then 0 else grpG l (a - x) + 1
/-- Where a group begins. -/
def frm (l : List Int) (g : Nat) : Int := (l.take g).sum
theorem frm_zero (l : List Int) : frm l 0 = 0 := rfl
theorem frm_cons (x : Int) (l : List Int) (g : Nat) : frm (x :: l) (g + 1) = x + frm l g := by simp [frm]
theorem frm_succ {l : List Int} {g : Nat} (h : g < l.length) : frm l (g + 1) = frm l g + l.getD g 0 := by
  unfold frm
  rw [List.take_succ_eq_append_getElem h, List.sum_append]
  simp [List.getD_eq_getElem?_getD, List.getElem?_eq_getElem h]
theorem frm_all (l : List Int) : frm l l.length = l.sum := by simp [frm]
def pos (l : List Int) : Prop := ∀ x ∈ l, 0 < x
theorem grp_spec : ∀ (l : List Int) (a : Int), 0 ≤ a → a < l.sum → grpG l a < l.length ∧ frm l (grpG l a) ≤ a ∧ a < frm l (grpG l a + 1)
  | [], a, h0, h => by simp at h; omega
  | x :: l, a, h0, h => by
    unfold grpG
    split
    · rename_i hx
      refine ⟨by simp, by rw [frm_zero]; omega, ?_⟩
      rw [frm_cons, frm_zero]
      omega
    · rename_i hx
      rw [List.sum_cons] at h
      obtain ⟨h1, h2, h3⟩ := grp_spec l (a - x) (by omega) (by omega)
      refine ⟨by simpa using h1, ?_, ?_⟩
      · rw [frm_cons]; omega
      · rw [frm_cons]; omega
theorem frm_mono {l : List Int} (hp : pos l) : ∀ {g k : Nat}, g ≤ k → frm l g ≤ frm l k := by
  intro g k hk
  induction k with
  | zero => obtain rfl : g = 0 := by omega
            exact Int.le_refl _
  | succ k ih =>
    by_cases e : g = k + 1
    · subst e; exact Int.le_refl _
    · have h1 := ih (by omega)
      by_cases hl : k < l.length
      · rw [frm_succ hl]
        have : 0 < l.getD k 0 := by
          rw [List.getD_eq_getElem?_getD, List.getElem?_eq_getElem hl]
          exact hp _ (List.getElem_mem hl)
        omega
      · have : frm l (k + 1) = frm l k := by
          unfold frm
          rw [List.take_of_length_le (by omega), List.take_of_length_le (by omega)]
        omega
theorem grp_unique {l : List Int} (hp : pos l) {a : Int} {g : Nat} (h1 : frm l g ≤ a) (h2 : a < frm l (g + 1)) : grpG l a = g := by
  have h0 : 0 ≤ a := by have := frm_mono hp (Nat.zero_le g); rw [frm_zero] at this; omega
  have hs : a < l.sum := by
    have h3 : frm l (g + 1) ≤ l.sum := by
      rw [← frm_all]
      by_cases hl : g + 1 ≤ l.length
      · exact frm_mono hp hl
      · unfold frm
        rw [List.take_of_length_le (by omega), List.take_length]
        exact Int.le_refl _
    omega
  obtain ⟨s1, s2, s3⟩ := grp_spec l a h0 hs
  rcases Nat.lt_trichotomy (grpG l a) g with h | h | h
  · have := frm_mono hp (show grpG l a + 1 ≤ g by omega)
    omega
  · exact h
  · have := frm_mono hp (show g + 1 ≤ grpG l a by omega)
    omega
theorem okLv_cons {n : Int} {l : List Int} {ls : List (List Int)} (h : okLv n (l :: ls) = true) : 2 ≤ n ∧ (∀ x ∈ l, x = 2 ∨ x = 3) ∧ l.sum = n ∧ okLv (l.length : Int) ls = true := by
  unfold okLv at h
  simp only [Bool.and_eq_true, decide_eq_true_eq, List.all_eq_true] at h
  obtain ⟨⟨⟨h1, h2⟩, h3⟩, h4⟩ := h
  exact ⟨h1, fun x hx => two3_iff.1 (h2 x hx), h3, h4⟩
theorem okLv_mk {n : Int} {l : List Int} {ls : List (List Int)} (h1 : 2 ≤ n) (h2 : ∀ x ∈ l, x = 2 ∨ x = 3) (h3 : l.sum = n) (h4 : okLv (l.length : Int) ls = true) : okLv n (l :: ls) = true := by
  unfold okLv
  simp only [Bool.and_eq_true, decide_eq_true_eq, List.all_eq_true]
  exact ⟨⟨⟨h1, fun x hx => two3_iff.2 (h2 x hx)⟩, h3⟩, h4⟩
theorem pos_of {l : List Int} (h : ∀ x ∈ l, x = 2 ∨ x = 3) : pos l := fun x hx => by rcases h x hx with h | h <;> omega
theorem sum_set : ∀ (l : List Int) (g : Nat) (x : Int), g < l.length → (l.set g x).sum = l.sum - l.getD g 0 + x
  | [], _, _, h => by simp at h
  | y :: l, 0, x, _ => by simp; omega
  | y :: l, g + 1, x, h => by
    have := sum_set l g x (by simpa using h)
    simp only [List.set_cons_succ, List.sum_cons, this, List.getD_cons_succ]
    omega
theorem sum_erase : ∀ (l : List Int) (g : Nat), g < l.length → (l.eraseIdx g).sum = l.sum - l.getD g 0
  | [], _, h => by simp at h
  | y :: l, 0, _ => by simp; omega
  | y :: l, g + 1, h => by
    have := sum_erase l g (by simpa using h)
    simp only [List.eraseIdx_cons_succ, List.sum_cons, this, List.getD_cons_succ]
    omega
theorem two_le_sum {l : List Int} (h : ∀ x ∈ l, x = 2 ∨ x = 3) : 2 * (l.length : Int) ≤ l.sum := by
  induction l with
  | nil => simp
  | cons x l ih =>
    have h1 := h x (by simp)
    have h2 := ih (fun y hy => h y (by simp [hy]))
    rw [List.sum_cons, List.length_cons]
    omega
theorem getD_of {l : List Int} (h : ∀ x ∈ l, x = 2 ∨ x = 3) {g : Nat} (hg : g < l.length) : l.getD g 0 = 2 ∨ l.getD g 0 = 3 := by
  rw [List.getD_eq_getElem?_getD, List.getElem?_eq_getElem hg]
  exact h _ (List.getElem_mem hg)
theorem mem_set {l : List Int} {g : Nat} {x y : Int} (h : ∀ x ∈ l, x = 2 ∨ x = 3) (hx : x = 2 ∨ x = 3) (hy : y ∈ l.set g x) : y = 2 ∨ y = 3 := by
  rcases List.mem_or_eq_of_mem_set hy with h1 | h1
  · exact h y h1
  · subst h1; exact hx
/-- One more below, in the group in which something is: level by level. -/
def insL : List (List Int) → Int → List (List Int)
  | [], _ => [[2]]
  | l :: ls, a => if l.getD (grpG l a) 0 = 2 then l.set (grpG l a) 3 :: ls
      else ((l.set (grpG l a) 2).take (grpG l a + 1) ++ 2 :: (l.set (grpG l a) 2).drop (grpG l a + 1)) :: insL ls (grpG l a : Nat)
theorem insL_ok : ∀ (lv : List (List Int)) (n a : Int), okLv n lv = true → 0 ≤ a → a < n → okLv (n + 1) (insL lv a) = true
  | [], n, a, h, h0, h1 => by
    have h : n ≤ 1 := by simpa [okLv] using h
    obtain rfl : n = 1 := by omega
    rfl
  | l :: ls, n, a, h, h0, h1 => by
    obtain ⟨k1, k2, k3, k4⟩ := okLv_cons h
    obtain ⟨s1, s2, s3⟩ := grp_spec l a h0 (by omega)
    unfold insL
    generalize grpG l a = g at *
    split
    · rename_i h2
      refine okLv_mk (by omega) (fun x hx => mem_set k2 (.inr rfl) hx) ?_ (by rw [List.length_set]; exact k4)
      rw [sum_set l g 3 s1, h2]
      omega
    · rename_i h2
      have h3 : l.getD g 0 = 3 := (getD_of k2 s1).resolve_left h2
      refine okLv_mk (by omega) (fun x hx => ?_) ?_ ?_
      · simp only [List.mem_append, List.mem_cons] at hx
        rcases hx with hx | rfl | hx
        · exact mem_set k2 (.inl rfl) (List.mem_of_mem_take hx)
        · exact .inl rfl
        · exact mem_set k2 (.inl rfl) (List.mem_of_mem_drop hx)
      · have h4 := sum_set l g 2 s1
        have h5 : ((l.set g 2).take (g + 1)).sum + ((l.set g 2).drop (g + 1)).sum = (l.set g 2).sum := by rw [← List.sum_append, List.take_append_drop]
        rw [List.sum_append, List.sum_cons]
        omega
      · have hl : (((l.set g 2).take (g + 1) ++ 2 :: (l.set g 2).drop (g + 1)).length : Int) = (l.length : Int) + 1 := by
          have := List.length_take_le (g + 1) (l.set g 2)
          have h6 : ((l.set g 2).take (g + 1)).length + ((l.set g 2).drop (g + 1)).length = (l.set g 2).length := by rw [← List.length_append, List.take_append_drop]
          rw [List.length_set] at h6
          simp only [List.length_append, List.length_cons]
          omega
        rw [hl]
        exact insL_ok ls (l.length : Int) (g : Nat) k4 (by omega) (by omega)
/-- Which neighbour. -/
def othr (above : List Int) (g : Nat) : Nat := if (g : Int) = frm above (grpG above (g : Nat)) then g + 1 else g - 1
/-- Which one goes. -/
def gon (above : List Int) (g : Nat) : Nat := max g ((frm above (grpG above (g : Nat))).toNat + 1)
/-- One fewer below. -/
def delL : List (List Int) → Int → List (List Int)
  | [], _ => []
  | l :: ls, a =>
    if 2 ≤ l.getD (grpG l a) 0 - 1 then l.set (grpG l a) (l.getD (grpG l a) 0 - 1) :: ls
    else match ls with
      | [] => []
      | above :: _ =>
        if (l.set (grpG l a) (l.getD (grpG l a) 0 - 1)).getD (othr above (grpG l a)) 0 = 3 then ((l.set (grpG l a) (l.getD (grpG l a) 0 - 1)).set (othr above (grpG l a)) 2).set (grpG l a) 2 :: ls
        else (((l.set (grpG l a) (l.getD (grpG l a) 0 - 1)).set (min (grpG l a) (othr above (grpG l a))) 3).eraseIdx (gon above (grpG l a))) :: delL ls (grpG l a : Nat)
theorem getD_set_ne {l : List Int} {g k : Nat} {x : Int} (h : k ≠ g) : (l.set g x).getD k 0 = l.getD k 0 := by
  rw [List.getD_eq_getElem?_getD, List.getD_eq_getElem?_getD, List.getElem?_set_ne (Ne.symm h)]
theorem getD_set_eq {l : List Int} {g : Nat} {x : Int} (h : g < l.length) : (l.set g x).getD g 0 = x := by
  rw [List.getD_eq_getElem?_getD, List.getElem?_set_self h, Option.getD_some]
theorem othr_spec {above : List Int} {g n : Nat} (h2 : ∀ x ∈ above, x = 2 ∨ x = 3) (hs : above.sum = (n : Int)) (hg : g < n) :
    othr above g < n ∧ othr above g ≠ g ∧ min g (othr above g) + 1 = gon above g ∧ gon above g = max g (othr above g) := by
  obtain ⟨s1, s2, s3⟩ := grp_spec above (g : Nat) (by omega) (by omega)
  have hm := frm_mono (pos_of h2) (Nat.zero_le (grpG above (g : Nat)))
  have hle : frm above (grpG above (g : Nat) + 1) ≤ above.sum := by
    rw [← frm_all]
    exact frm_mono (pos_of h2) s1
  rw [frm_zero] at hm
  rw [frm_succ s1] at s3 hle
  have h3 := getD_of h2 s1
  unfold othr gon
  generalize frm above (grpG above (g : Nat)) = f at *
  split
  · omega
  · omega
theorem delL_ok : ∀ (lv : List (List Int)) (n a : Int), okLv n lv = true → 0 ≤ a → a < n → okLv (n - 1) (delL lv a) = true
  | [], n, a, h, h0, h1 => by
    have h : n ≤ 1 := by simpa [okLv] using h
    obtain rfl : n = 1 := by omega
    rfl
  | l :: ls, n, a, h, h0, h1 => by
    obtain ⟨k1, k2, k3, k4⟩ := okLv_cons h
    obtain ⟨s1, s2, s3⟩ := grp_spec l a h0 (by omega)
    have hv := getD_of k2 s1
    have hlen := two_le_sum k2
    unfold delL
    generalize grpG l a = g at *
    split
    · rename_i h2
      have h3 : l.getD g 0 = 3 := by omega
      have hn : 2 ≤ n - 1 := by
        have hall : l.getD g 0 ≤ l.sum := by
          have h5 := sum_erase l g s1
          have h6 : 0 ≤ (l.eraseIdx g).sum := by
            have := two_le_sum (l := l.eraseIdx g) (fun x hx => k2 x (List.mem_of_mem_eraseIdx hx))
            omega
          omega
        omega
      refine okLv_mk hn (fun x hx => mem_set k2 (by omega) hx) ?_ (by rw [List.length_set]; exact k4)
      rw [sum_set l g _ s1]
      omega
    · rename_i h2
      have h2 : l.getD g 0 = 2 := by omega
      cases ls with
      | nil =>
        have h5 : (l.length : Int) ≤ 1 := by simpa [okLv] using k4
        have h6 : l.length = 1 := by omega
        obtain ⟨x, rfl⟩ := List.length_eq_one_iff.1 h6
        obtain rfl : g = 0 := by simp at s1; omega
        simp at h2 k3
        subst h2 k3
        rfl
      | cons above ls =>
        obtain ⟨a1, a2, a3, a4⟩ := okLv_cons k4
        obtain ⟨o1, o2, o3, o4⟩ := othr_spec a2 a3 s1
        simp only
        generalize gon above g = q at *
        generalize othr above g = o at *
        rw [h2, getD_set_ne o2]
        have hvo := getD_of k2 o1
        have e1 : (l.set g (2 - 1)).sum = l.sum - 1 := by rw [sum_set l g _ s1]; omega
        split
        · rename_i h3
          refine okLv_mk (by omega) (fun x hx => ?_) ?_ (by simpa using k4)
          · rw [List.set_comm _ _ o2, List.set_set] at hx
            exact mem_set (fun y hy => mem_set k2 (.inl rfl) hy) (.inl rfl) hx
          · rw [List.set_comm _ _ o2, List.set_set, sum_set _ o _ (by simpa using o1), sum_set l g _ s1, getD_set_ne o2]
            omega
        · rename_i h3
          have h4 : l.getD o 0 = 2 := by omega
          have hmem : ∀ x ∈ ((l.set g (2 - 1)).set (min g o) 3).eraseIdx q, x = 2 ∨ x = 3 := by
            intro x hx
            rcases Nat.lt_or_gt_of_ne o2 with hlt | hgt
            · have hq : q = g := by omega
              subst hq
              have hm : min q o = o := by omega
              rw [hm, List.set_comm _ _ (Ne.symm o2)] at hx
              have hx2 : x ∈ (l.set o 3).eraseIdx q := by
                rw [List.eraseIdx_set_eq] at hx
                exact hx
              exact mem_set k2 (.inr rfl) (List.mem_of_mem_eraseIdx hx2)
            · have hm : min g o = g := by omega
              rw [hm, List.set_set] at hx
              exact mem_set k2 (.inr rfl) (List.mem_of_mem_eraseIdx hx)
          have hsum : (((l.set g (2 - 1)).set (min g o) 3).eraseIdx q).sum = n - 1 := by
            rcases Nat.lt_or_gt_of_ne o2 with hlt | hgt
            · have hq : q = g := by omega
              subst hq
              have hm : min q o = o := by omega
              rw [hm, sum_erase _ q (by simpa using s1), sum_set _ o _ (by simpa using o1), getD_set_ne o2, getD_set_ne (Ne.symm o2), getD_set_eq s1]
              omega
            · have hq : q = o := by omega
              subst hq
              have hm : min g q = g := by omega
              rw [hm, List.set_set, sum_erase _ q (by simpa using o1), sum_set _ g _ s1, getD_set_ne o2]
              omega
          have hlq : q < l.length := by omega
          have hlen2 : ((((l.set g (2 - 1)).set (min g o) 3).eraseIdx q).length : Int) = (l.length : Int) - 1 := by
            rw [List.length_eraseIdx_of_lt (by simpa using hlq)]
            simp only [List.length_set]
            omega
          refine okLv_mk (by omega) hmem hsum ?_
          rw [hlen2]
          exact delL_ok (above :: ls) (l.length : Int) (g : Nat) k4 (by omega) (by omega)
/-- Few levels. -/
theorem okLv_high : ∀ (lv : List (List Int)) (n : Int), okLv n lv = true → 0 < n → (2 : Int) ^ lv.length ≤ n
  | [], n, h, h0 => by simp; omega
  | l :: ls, n, h, h0 => by
    obtain ⟨k1, k2, k3, k4⟩ := okLv_cons h
    have h1 := two_le_sum k2
    have h2 : 0 < (l.length : Int) := by
      rcases l with _ | ⟨x, l⟩
      · simp at k3; omega
      · simp
    have h3 := okLv_high ls (l.length : Int) k4 h2
    rw [List.length_cons, Int.pow_succ]
    omega
theorem okLv_zero {lv : List (List Int)} (h : okLv 0 lv = true) : lv = [] := by
  rcases lv with _ | ⟨l, ls⟩
  · rfl
  · have := (okLv_cons h).1
    omega
/-- How many groups: one more at most. -/
theorem insL_near : ∀ (lv : List (List Int)) (n a : Int), okLv n lv = true → 0 ≤ a → a < n → lv.length ≤ (insL lv a).length ∧ (insL lv a).length ≤ lv.length + 1 ∧ ∀ i, i < lv.length → (lv.getD i []).length ≤ ((insL lv a).getD i []).length ∧ ((insL lv a).getD i []).length ≤ (lv.getD i []).length + 1
  | [], _, _, _, _, _ => by simp [insL]
  | l :: ls, n, a, h, h0, h1 => by
    obtain ⟨k1, k2, k3, k4⟩ := okLv_cons h
    obtain ⟨s1, s2, s3⟩ := grp_spec l a h0 (by omega)
    unfold insL
    generalize grpG l a = g at *
    split
    · refine ⟨by simp, by simp, fun i hi => ?_⟩
      cases i with
      | zero => simp
      | succ i => simp
    · obtain ⟨r1, r2, r3⟩ := insL_near ls (l.length : Int) (g : Nat) k4 (by omega) (by omega)
      refine ⟨by simpa using r1, by simpa using r2, fun i hi => ?_⟩
      cases i with
      | zero =>
        have h6 : ((l.set g 2).take (g + 1)).length + ((l.set g 2).drop (g + 1)).length = (l.set g 2).length := by rw [← List.length_append, List.take_append_drop]
        rw [List.length_set] at h6
        simp only [List.getD_cons_zero, List.length_append, List.length_cons]
        omega
      | succ i =>
        simpa using r3 i (by simpa using hi)
theorem delL_near : ∀ (lv : List (List Int)) (n a : Int), okLv n lv = true → 0 ≤ a → a < n → (delL lv a).length ≤ lv.length ∧ lv.length ≤ (delL lv a).length + 1 ∧ ∀ i, i < (delL lv a).length → ((delL lv a).getD i []).length ≤ (lv.getD i []).length ∧ (lv.getD i []).length ≤ ((delL lv a).getD i []).length + 1
  | [], _, _, _, _, _ => by simp [delL]
  | l :: ls, n, a, h, h0, h1 => by
    obtain ⟨k1, k2, k3, k4⟩ := okLv_cons h
    obtain ⟨s1, s2, s3⟩ := grp_spec l a h0 (by omega)
    unfold delL
    generalize grpG l a = g at *
    split
    · refine ⟨by simp, by simp, fun i hi => ?_⟩
      cases i with
      | zero => simp
      | succ i => simp
    · cases ls with
      | nil => simp
      | cons above ls =>
        obtain ⟨a1, a2, a3, a4⟩ := okLv_cons k4
        obtain ⟨o1, o2, o3, o4⟩ := othr_spec a2 a3 s1
        simp only
        split
        · refine ⟨by simp, by simp, fun i hi => ?_⟩
          cases i with
          | zero => simp
          | succ i => simp
        · obtain ⟨r1, r2, r3⟩ := delL_near (above :: ls) (l.length : Int) (g : Nat) k4 (by omega) (by omega)
          refine ⟨by simpa using r1, by simpa using r2, fun i hi => ?_⟩
          cases i with
          | zero =>
            simp only [List.getD_cons_zero]
            rw [List.length_eraseIdx_of_lt (by simp only [List.length_set]; omega)]
            simp only [List.length_set]
            omega
          | succ i =>
            simpa using r3 i (by simpa using hi)
/-- How many members are below a number. -/
def cnt (ids : List Int) (id : Int) : Nat := (ids.filter (fun x => decide (x < id))).length
theorem cnt_le (ids : List Int) (id : Int) : cnt ids id ≤ ids.length := List.length_filter_le _ _
theorem cnt_cons (x : Int) (ids : List Int) (id : Int) : cnt (x :: ids) id = (if x < id then 1 else 0) + cnt ids id := by
  unfold cnt
  rw [List.filter_cons]
  by_cases h : x < id
  · rw [if_pos (by simpa using h), if_pos h, List.length_cons]; omega
  · rw [if_neg (by simpa using h), if_neg h]; omega
abbrev Rise (ids : List Int) : Prop := ids.Pairwise (· < ·)
theorem cnt_zero {x : Int} {ids : List Int} {id : Int} (h : Rise (x :: ids)) (hx : ¬ x < id) : cnt ids id = 0 := by
  unfold cnt
  rw [List.length_eq_zero_iff, List.filter_eq_nil_iff]
  intro y hy
  have := (List.pairwise_cons.1 h).1 y hy
  simp only [decide_eq_true_eq]
  omega
/-- With a member more. -/
def insI (ids : List Int) (id : Int) : List Int := ids.take (cnt ids id) ++ id :: ids.drop (cnt ids id)
theorem insI_length (ids : List Int) (id : Int) : (insI ids id).length = ids.length + 1 := by
  have := congrArg List.length (List.take_append_drop (cnt ids id) ids)
  rw [List.length_append] at this
  unfold insI
  rw [List.length_append, List.length_cons]
  omega
theorem insI_mem {ids : List Int} {id x : Int} : x ∈ insI ids id ↔ x = id ∨ x ∈ ids := by
  have h : x ∈ ids ↔ x ∈ ids.take (cnt ids id) ∨ x ∈ ids.drop (cnt ids id) := by
    rw [← List.mem_append, List.take_append_drop]
  unfold insI
  rw [List.mem_append, List.mem_cons, h]
  constructor
  · rintro (h | h | h) <;> simp [h]
  · rintro (h | h | h) <;> simp [h]
theorem insI_rise : ∀ {ids : List Int} {id : Int}, Rise ids → id ∉ ids → Rise (insI ids id)
  | [], id, _, _ => by simp [insI, Rise]
  | x :: ids, id, h, hn => by
    have hp := List.pairwise_cons.1 h
    have hne : x ≠ id := fun e => hn (by simp [e])
    unfold insI
    rw [cnt_cons]
    by_cases hx : x < id
    · rw [if_pos hx, Nat.add_comm, List.take_succ_cons, List.drop_succ_cons]
      have ih := insI_rise (ids := ids) (id := id) hp.2 (fun q => hn (by simp [q]))
      refine List.pairwise_cons.2 ⟨fun y hy => ?_, ih⟩
      rcases (insI_mem (ids := ids) (id := id)).1 hy with rfl | hy
      · exact hx
      · exact hp.1 y hy
    · rw [if_neg hx, cnt_zero h hx]
      refine List.pairwise_cons.2 ⟨fun y hy => ?_, h⟩
      have hid : id < x := by omega
      rcases List.mem_cons.1 hy with rfl | hy
      · exact hid
      · have := hp.1 y hy
        omega
/-- Where a member stands. -/
theorem cnt_at : ∀ {ids : List Int} {id : Int}, Rise ids → id ∈ ids → ids[cnt ids id]? = some id
  | [], _, _, h => by simp at h
  | x :: ids, id, h, hm => by
    have hp := List.pairwise_cons.1 h
    rw [cnt_cons]
    rcases List.mem_cons.1 hm with rfl | hm
    · rw [if_neg (by omega), cnt_zero h (by omega)]
      rfl
    · have hx := hp.1 id hm
      rw [if_pos hx, Nat.add_comm, List.getElem?_cons_succ]
      exact cnt_at hp.2 hm
theorem cnt_lt {ids : List Int} {id : Int} (h : Rise ids) (hm : id ∈ ids) : cnt ids id < ids.length := (List.getElem?_eq_some_iff.1 (cnt_at h hm)).1
/-- With a member fewer. -/
def delI (ids : List Int) (id : Int) : List Int := ids.eraseIdx (cnt ids id)
theorem delI_length {ids : List Int} {id : Int} (h : Rise ids) (hm : id ∈ ids) : (delI ids id).length + 1 = ids.length := by
  have := cnt_lt h hm
  unfold delI
  rw [List.length_eraseIdx_of_lt this]
  omega
theorem delI_rise {ids : List Int} {id : Int} (h : Rise ids) : Rise (delI ids id) := h.sublist (List.eraseIdx_sublist _ _)
theorem delI_mem : ∀ {ids : List Int} {id x : Int}, Rise ids → id ∈ ids → (x ∈ delI ids id ↔ x ∈ ids ∧ x ≠ id)
  | [], _, _, _, h => by simp at h
  | y :: ids, id, x, h, hm => by
    have hp := List.pairwise_cons.1 h
    unfold delI
    rw [cnt_cons]
    by_cases hy : y < id
    · have hm2 : id ∈ ids := by
        rcases List.mem_cons.1 hm with rfl | hm
        · omega
        · exact hm
      rw [if_pos hy, Nat.add_comm, List.eraseIdx_cons_succ, List.mem_cons, List.mem_cons]
      have ih := delI_mem (ids := ids) (id := id) (x := x) hp.2 hm2
      unfold delI at ih
      rw [ih]
      constructor
      · rintro (rfl | ⟨h1, h2⟩)
        · exact ⟨.inl rfl, by omega⟩
        · exact ⟨.inr h1, h2⟩
      · rintro ⟨rfl | h1, h2⟩
        · exact .inl rfl
        · exact .inr ⟨h1, h2⟩
    · have he : id = y := by
        rcases List.mem_cons.1 hm with e | hm
        · exact e
        · have := hp.1 id hm
          omega
      subst he
      rw [if_neg hy, cnt_zero h hy, List.eraseIdx_cons_zero, List.mem_cons]
      constructor
      · intro hx
        have := hp.1 x hx
        exact ⟨.inr hx, by omega⟩
      · rintro ⟨h1 | h1, h2⟩
        · exact absurd h1 h2
        · exact h1
/-- Two rising lists that have the same are the same. -/
theorem rise_eq : ∀ {xs ys : List Int}, Rise xs → Rise ys → (∀ z, z ∈ xs ↔ z ∈ ys) → xs = ys
  | [], [], _, _, _ => rfl
  | [], y :: ys, _, _, h => by have := (h y).2 (by simp); simp at this
  | x :: xs, [], _, _, h => by have := (h x).1 (by simp); simp at this
  | x :: xs, y :: ys, hx, hy, h => by
    have px := List.pairwise_cons.1 hx
    have py := List.pairwise_cons.1 hy
    have e : x = y := by
      have h1 := (h x).1 (by simp)
      have h2 := (h y).2 (by simp)
      rcases List.mem_cons.1 h1 with h1 | h1
      · exact h1
      · rcases List.mem_cons.1 h2 with h2 | h2
        · exact h2.symm
        · have := py.1 x h1
          have := px.1 y h2
          omega
    subst e
    congr 1
    refine rise_eq px.2 py.2 fun z => ?_
    constructor
    · intro hz
      have h1 := (h z).1 (by simp [hz])
      rcases List.mem_cons.1 h1 with rfl | h1
      · exact absurd (px.1 z hz) (by omega)
      · exact h1
    · intro hz
      have h1 := (h z).2 (by simp [hz])
      rcases List.mem_cons.1 h1 with rfl | h1
      · exact absurd (py.1 z hz) (by omega)
      · exact h1
/-- The place of what is beside the new one. -/
def nxt (ids : List Int) (id : Int) : Nat := cnt ids id - 1
/-- A tree with a member more: why not, and what. -/
def insE (ids : List Int) (lv : List (List Int)) (id : Int) : Int :=
  if ¬ OkT ids lv ∨ id < 0 ∨ 1048576 < id then 1 else if id ∈ ids then 7 else if ids.length = 1000 then 8 else 0
def insIds (ids : List Int) (lv : List (List Int)) (id : Int) : List Int := if insE ids lv id = 0 then insI ids id else []
def insLv (ids : List Int) (lv : List (List Int)) (id : Int) : List (List Int) := if insE ids lv id = 0 then (if ids.length = 0 then lv else insL lv (nxt ids id : Nat)) else []
theorem insE_zero {ids : List Int} {lv : List (List Int)} {id : Int} (h : insE ids lv id = 0) : OkT ids lv ∧ 0 ≤ id ∧ id ≤ 1048576 ∧ id ∉ ids ∧ ids.length < 1000 := by
  unfold insE at h
  split at h
  · cases h
  · rename_i h1
    split at h
    · cases h
    · rename_i h2
      split at h
      · cases h
      · rename_i h3
        have h4 : OkT ids lv := Decidable.of_not_not fun q => h1 (.inl q)
        have h5 := h4.1.1
        exact ⟨h4, by omega, by omega, h2, by omega⟩
theorem ins_ok {ids : List Int} {lv : List (List Int)} {id : Int} (h : insE ids lv id = 0) : OkT (insIds ids lv id) (insLv ids lv id) ∧ insIds ids lv id = insI ids id := by
  obtain ⟨⟨⟨h1, h2, h3⟩, h4⟩, h5, h6, h7, h8⟩ := insE_zero h
  have e1 : insIds ids lv id = insI ids id := if_pos h
  refine ⟨⟨?_, ?_⟩, e1⟩
  · rw [e1]
    refine ⟨by rw [insI_length]; omega, fun x hx => ?_, insI_rise h3 h7⟩
    rcases insI_mem.1 hx with rfl | hx
    · exact ⟨h5, h6⟩
    · exact h2 x hx
  · rw [e1, insI_length]
    unfold insLv
    rw [if_pos h]
    split
    · rename_i h0
      rw [h0] at h4 ⊢
      rw [okLv_zero h4]
      rfl
    · rename_i h0
      have := cnt_le ids id
      have h9 := insL_ok lv ids.length (nxt ids id : Nat) h4 (by omega) (by unfold nxt; omega)
      rwa [Int.natCast_add]
/-- A tree with a member fewer. -/
def delE (ids : List Int) (lv : List (List Int)) (id : Int) : Int := if ¬ OkT ids lv then 1 else if id ∈ ids then 0 else 6
def delIds (ids : List Int) (lv : List (List Int)) (id : Int) : List Int := if delE ids lv id = 0 then delI ids id else []
def delLv (ids : List Int) (lv : List (List Int)) (id : Int) : List (List Int) := if delE ids lv id = 0 then delL lv (cnt ids id : Nat) else []
theorem delE_zero {ids : List Int} {lv : List (List Int)} {id : Int} (h : delE ids lv id = 0) : OkT ids lv ∧ id ∈ ids := by
  unfold delE at h
  split at h
  · cases h
  · rename_i h1
    split at h
    · rename_i h2
      exact ⟨Decidable.of_not_not h1, h2⟩
    · cases h
theorem del_ok {ids : List Int} {lv : List (List Int)} {id : Int} (h : delE ids lv id = 0) : OkT (delIds ids lv id) (delLv ids lv id) ∧ delIds ids lv id = delI ids id := by
  obtain ⟨⟨⟨h1, h2, h3⟩, h4⟩, h5⟩ := delE_zero h
  have e1 : delIds ids lv id = delI ids id := if_pos h
  have e2 : delLv ids lv id = delL lv (cnt ids id : Nat) := if_pos h
  have hl := delI_length h3 h5
  refine ⟨⟨?_, ?_⟩, e1⟩
  · rw [e1]
    exact ⟨by omega, fun x hx => h2 x ((delI_mem h3 h5).1 hx).1, delI_rise h3⟩
  · rw [e1, e2]
    have := cnt_lt h3 h5
    have h9 := delL_ok lv ids.length (cnt ids id : Nat) h4 (by omega) (by omega)
    rwa [show ((delI ids id).length : Int) = (ids.length : Int) - 1 by omega]
/-- In, and out again; out, and in again. -/
theorem back_in {ids : List Int} {lv lv' : List (List Int)} {id : Int} (h : insE ids lv id = 0) (hk : OkT (insI ids id) lv') : delE (insI ids id) lv' id = 0 ∧ delI (insI ids id) id = ids := by
  obtain ⟨⟨⟨h1, h2, h3⟩, h4⟩, h5, h6, h7, h8⟩ := insE_zero h
  have hm : id ∈ insI ids id := insI_mem.2 (.inl rfl)
  refine ⟨?_, ?_⟩
  · unfold delE
    rw [if_neg (fun q => q hk), if_pos hm]
  · refine rise_eq (delI_rise hk.1.2.2) h3 fun z => ?_
    rw [delI_mem hk.1.2.2 hm, insI_mem]
    constructor
    · rintro ⟨rfl | hz, hne⟩
      · exact absurd rfl hne
      · exact hz
    · intro hz
      exact ⟨.inr hz, fun e => h7 (e ▸ hz)⟩
theorem back_out {ids : List Int} {lv lv' : List (List Int)} {id : Int} (h : delE ids lv id = 0) (hk : OkT (delI ids id) lv') : insE (delI ids id) lv' id = 0 ∧ insI (delI ids id) id = ids := by
  obtain ⟨⟨⟨h1, h2, h3⟩, h4⟩, h5⟩ := delE_zero h
  have hl := delI_length h3 h5
  have hn : id ∉ delI ids id := fun q => ((delI_mem h3 h5).1 q).2 rfl
  refine ⟨?_, ?_⟩
  · unfold insE
    have := h2 id h5
    rw [if_neg (by simp only [not_or, Decidable.not_not]; exact ⟨hk, by omega, by omega⟩), if_neg hn, if_neg (by omega)]
  · refine rise_eq (insI_rise hk.1.2.2 hn) h3 fun z => ?_
    rw [insI_mem, delI_mem h3 h5]
    constructor
    · rintro (rfl | hz)
      · exact h5
      · exact hz.1
    · intro hz
      by_cases e : z = id
      · exact .inl e
      · exact .inr ⟨hz, e⟩
/-- No more than one group more, level by level. -/
def nearT (few more : List (List Int)) : Bool := decide (few.length ≤ more.length ∧ more.length ≤ few.length + 1 ∧ ∀ i, i < few.length → (few.getD i []).length ≤ (more.getD i []).length ∧ (more.getD i []).length ≤ (few.getD i []).length + 1)
theorem near_ins {ids : List Int} {lv : List (List Int)} {id : Int} (h : insE ids lv id = 0) : nearT lv (insLv ids lv id) = true := by
  obtain ⟨⟨⟨h1, h2, h3⟩, h4⟩, h5, h6, h7, h8⟩ := insE_zero h
  unfold insLv nearT
  rw [if_pos h]
  split
  · exact decide_eq_true ⟨by omega, by omega, fun i hi => ⟨by omega, by omega⟩⟩
  · have := cnt_le ids id
    exact decide_eq_true (insL_near lv ids.length (nxt ids id : Nat) h4 (by omega) (by unfold nxt; omega))
theorem near_del {ids : List Int} {lv : List (List Int)} {id : Int} (h : delE ids lv id = 0) : nearT (delLv ids lv id) lv = true := by
  obtain ⟨⟨⟨h1, h2, h3⟩, h4⟩, h5⟩ := delE_zero h
  unfold delLv nearT
  rw [if_pos h]
  have := cnt_lt h3 h5
  obtain ⟨n1, n2, n3⟩ := delL_near lv ids.length (cnt ids id : Nat) h4 (by omega) (by omega)
  exact decide_eq_true ⟨n1, n2, n3⟩
/-- The groups of something, level by level. -/
def pathL : List (List Int) → Int → List Int
  | [], _ => []
  | l :: ls, a => (grpG l a : Int) :: pathL ls (grpG l a : Nat)
theorem pathL_length : ∀ (lv : List (List Int)) (a : Int), (pathL lv a).length = lv.length
  | [], _ => rfl
  | l :: ls, a => by rw [pathL, List.length_cons, pathL_length ls, List.length_cons]
def pathE (ids : List Int) (lv : List (List Int)) (id : Int) : Int := delE ids lv id
def pathV (ids : List Int) (lv : List (List Int)) (id : Int) : List Int := if pathE ids lv id = 0 then pathL lv (cnt ids id : Nat) else []
/-- Where the groups above begin, out of where those below do. -/
def spF (l from' : List Int) : List Int := (List.range (l.length + 1)).map fun j => from'.getD (frm l j).toNat 0
theorem spF_length (l from' : List Int) : (spF l from').length = l.length + 1 := by simp [spF]
theorem spF_at {l from' : List Int} {j : Nat} (h : j ≤ l.length) : (spF l from').getD j 0 = from'.getD (frm l j).toNat 0 := by
  unfold spF
  rw [List.getD_eq_getElem?_getD, List.getElem?_map, List.getElem?_range (by omega)]
  rfl
def ones (n : Nat) : List Int := (List.range (n + 1)).map fun i : Nat => (i : Int)
theorem ones_length (n : Nat) : (ones n).length = n + 1 := by simp [ones]
theorem ones_at {n i : Nat} (h : i ≤ n) : (ones n).getD i 0 = (i : Int) := by
  unfold ones
  rw [List.getD_eq_getElem?_getD, List.getElem?_map, List.getElem?_range (by omega)]
  rfl
def spanL (n : Nat) (lv : List (List Int)) : List Int := lv.foldl (fun f l => spF l f) (ones n)
def spanE (ids : List Int) (lv : List (List Int)) (level : Int) : Int := if ¬ OkT ids lv ∨ level < 0 ∨ (lv.length : Int) ≤ level then 1 else 0
def spanV (ids : List Int) (lv : List (List Int)) (level : Int) : List Int := if spanE ids lv level = 0 then spanL ids.length (lv.take (level.toNat + 1)) else []
/-- What `from` is, level by level: of so many entries, rising, from 0 to n. -/
structure Fro (n : Nat) (m : Int) (f : List Int) : Prop where
  len : (f.length : Int) = m + 1
  zero : f.getD 0 0 = 0
  last : f.getD m.toNat 0 = n
  rise : ∀ i j : Nat, i ≤ j → (j : Int) ≤ m → f.getD i 0 ≤ f.getD j 0
theorem fro_ones (n : Nat) : Fro n n (ones n) where
  len := by rw [ones_length]; omega
  zero := ones_at (Nat.zero_le n)
  last := by rw [Int.toNat_natCast]; exact ones_at (Nat.le_refl n)
  rise i j h1 h2 := by rw [ones_at (by omega), ones_at (by omega)]; omega
theorem frm_nonneg {l : List Int} (h : pos l) (j : Nat) : 0 ≤ frm l j := by
  have := frm_mono h (Nat.zero_le j)
  rwa [frm_zero] at this
theorem frm_le {l : List Int} (h : pos l) {j : Nat} (hj : j ≤ l.length) : frm l j ≤ l.sum := by
  rw [← frm_all]
  exact frm_mono h hj
theorem fro_step {n : Nat} {m : Int} {f l : List Int} (h : Fro n m f) (hl : ∀ x ∈ l, x = 2 ∨ x = 3) (hs : l.sum = m) : Fro n l.length (spF l f) where
  len := by rw [spF_length]; omega
  zero := by rw [spF_at (Nat.zero_le _), frm_zero]; exact h.zero
  last := by rw [Int.toNat_natCast, spF_at (Nat.le_refl _), frm_all, hs]; exact h.last
  rise i j h1 h2 := by
    have hp := pos_of hl
    rw [spF_at (by omega), spF_at (by omega)]
    have k1 := frm_mono hp h1
    have k2 := frm_nonneg hp i
    have k3 := frm_le hp (show j ≤ l.length by omega)
    refine h.rise _ _ (by omega) (by omega)
/-- The spans hold their members. -/
theorem span_holds : ∀ (lv : List (List Int)) (n : Nat) (m a : Int) (f : List Int) (x : Int), Fro n m f → okLv m lv = true → 0 ≤ a → a < m → f.getD a.toNat 0 ≤ x → x < f.getD (a.toNat + 1) 0 → ∀ k, k < lv.length →
    Fro n ((lv.getD k []).length : Int) ((lv.take (k + 1)).foldl (fun f l => spF l f) f) ∧ 0 ≤ (pathL lv a).getD k 0 ∧ (pathL lv a).getD k 0 < ((lv.getD k []).length : Int) ∧
      ((lv.take (k + 1)).foldl (fun f l => spF l f) f).getD ((pathL lv a).getD k 0).toNat 0 ≤ x ∧ x < ((lv.take (k + 1)).foldl (fun f l => spF l f) f).getD (((pathL lv a).getD k 0).toNat + 1) 0 ∧ (k + 1 = lv.length → (pathL lv a).getD k 0 = 0)
  | [], _, _, _, _, _, _, _, _, _, _, _, k, hk => by simp at hk
  | l :: ls, n, m, a, f, x, hf, hok, h0, h1, h2, h3, k, hk => by
    obtain ⟨k1, k2, k3, k4⟩ := okLv_cons hok
    obtain ⟨s1, s2, s3⟩ := grp_spec l a h0 (by omega)
    have hp := pos_of k2
    have hF := fro_step hf k2 k3
    have e1 : (spF l f).getD (grpG l a) 0 ≤ x := by
      rw [spF_at (by omega)]
      have := hf.rise (frm l (grpG l a)).toNat a.toNat (by omega) (by omega)
      omega
    have e2 : x < (spF l f).getD (grpG l a + 1) 0 := by
      rw [spF_at (show grpG l a + 1 ≤ l.length from s1)]
      have hle := frm_le hp (show grpG l a + 1 ≤ l.length from s1)
      have := hf.rise (a.toNat + 1) (frm l (grpG l a + 1)).toNat (by omega) (by omega)
      omega
    cases k with
    | zero =>
      refine ⟨by simpa using hF, by simp [pathL], by simpa [pathL] using s1, by simpa [pathL] using e1, by simpa [pathL] using e2, fun hq => ?_⟩
      simp only [List.length_cons, Nat.add_right_cancel_iff] at hq
      have hn : ls = [] := List.eq_nil_of_length_eq_zero hq.symm
      subst hn
      have h5 : (l.length : Int) ≤ 1 := by simpa [okLv] using k4
      have : grpG l a = 0 := by omega
      simp [pathL, this]
    | succ k =>
      have ih := span_holds ls n l.length (grpG l a : Nat) (spF l f) x hF k4 (by omega) (by omega) (by simpa using e1) (by simpa using e2) k (by simpa using hk)
      simpa [pathL] using ih
/-- The document's way: so many below each, and then their sums. -/
def pre (wide : List Int) : List Int := (List.range (wide.length + 1)).map fun j => (wide.take j).sum
def spW : List Int → List Int → List Int
  | [], _ => []
  | n :: l, wide => (wide.take n.toNat).sum :: spW l (wide.drop n.toNat)
theorem spW_length : ∀ (l wide : List Int), (spW l wide).length = l.length
  | [], _ => rfl
  | n :: l, wide => by rw [spW, List.length_cons, spW_length, List.length_cons]
theorem pre_at {wide : List Int} {j : Nat} (h : j ≤ wide.length) : (pre wide).getD j 0 = (wide.take j).sum := by
  unfold pre
  rw [List.getD_eq_getElem?_getD, List.getElem?_map, List.getElem?_range (by omega)]
  rfl
theorem spW_take : ∀ (l wide : List Int) (j : Nat), pos l → ((spW l wide).take j).sum = (wide.take (frm l j).toNat).sum
  | l, wide, 0, _ => by simp [frm]
  | [], wide, j + 1, _ => by simp [spW, frm]
  | n :: l, wide, j + 1, hp => by
    have hn : 0 < n := hp n (by simp)
    have hp2 : pos l := fun x hx => hp x (by simp [hx])
    have h0 := frm_nonneg hp2 j
    rw [spW, List.take_succ_cons, List.sum_cons, spW_take l _ j hp2, frm_cons, show (n + frm l j).toNat = n.toNat + (frm l j).toNat by omega, List.take_add, List.sum_append]
theorem pre_spW {l wide : List Int} (hp : pos l) (hs : l.sum ≤ wide.length) : pre (spW l wide) = spF l (pre wide) := by
  refine List.ext_getElem? fun j => ?_
  unfold spF
  by_cases hj : j < l.length + 1
  · have hle := frm_le hp (show j ≤ l.length by omega)
    have h0 := frm_nonneg hp j
    rw [List.getElem?_map, List.getElem?_range hj, Option.map_some, pre_at (by omega)]
    unfold pre
    rw [List.getElem?_map, List.getElem?_range (by rw [spW_length]; exact hj), Option.map_some, spW_take l wide j hp]
  · rw [List.getElem?_eq_none (by simp [pre, spW_length]; omega), List.getElem?_eq_none (by simp; omega)]
theorem pre_ones (n : Nat) : pre (List.replicate n 1) = ones n := by
  refine List.ext_getElem? fun j => ?_
  unfold pre ones
  by_cases hj : j < n + 1
  · rw [List.getElem?_map, List.getElem?_map, List.getElem?_range (by simpa using hj), List.getElem?_range hj]
    have hm : min j n = j := by omega
    simp [hm]
  · rw [List.getElem?_eq_none (by simp; omega), List.getElem?_eq_none (by simp; omega)]
def wideL (n : Nat) (lv : List (List Int)) : List Int := lv.foldl (fun f l => spW l f) (List.replicate n 1)
theorem wide_spanG : ∀ (lv : List (List Int)) (m : Int) (wide : List Int), okLv m lv = true → (wide.length : Int) = m → ∀ k, pre ((lv.take k).foldl (fun f l => spW l f) wide) = (lv.take k).foldl (fun f l => spF l f) (pre wide)
  | [], _, _, _, _, k => by simp
  | l :: ls, m, wide, hok, hw, 0 => by simp
  | l :: ls, m, wide, hok, hw, k + 1 => by
    obtain ⟨k1, k2, k3, k4⟩ := okLv_cons hok
    rw [List.take_succ_cons, List.foldl_cons, List.foldl_cons, ← pre_spW (pos_of k2) (by omega)]
    exact wide_spanG ls l.length (spW l wide) k4 (by rw [spW_length]) k
theorem wide_span {n : Nat} {lv : List (List Int)} (h : okLv n lv = true) (k : Nat) : pre (wideL n (lv.take k)) = spanL n (lv.take k) := by
  unfold wideL spanL
  rw [← pre_ones]
  exact wide_spanG lv n _ h (by simp) k
end Go.Proofs.YtdbhlajajdlmfaaDoor
/- Lists of numbers, and lists of these, in memory; a tree of one's own. -/
namespace Go.Proofs.YtdbhlajajdlmfaaDoor
open Go Go.RowKit
def zv (xs : List Int) : List Value := xs.map (Value.int .i64)
theorem zv_length (xs : List Int) : (zv xs).length = xs.length := List.length_map ..
theorem zv_append (xs ys : List Int) : zv (xs ++ ys) = zv xs ++ zv ys := List.map_append
theorem zv_at {xs : List Int} {i : Nat} (h : i < xs.length) : (zv xs)[i]? = some (.int .i64 (xs.getD i 0)) := by
  simp [zv, List.getD_eq_getElem?_getD, List.getElem?_eq_getElem h]
theorem zv_one (xs : List Int) : ∀ u ∈ zv xs, u.oneCell' = true := by
  intro u hu
  obtain ⟨x, -, rfl⟩ := List.mem_map.1 hu
  rfl
theorem zv_take (xs : List Int) (n : Nat) : (zv xs).take n = zv (xs.take n) := by simp [zv, List.map_take]
theorem zv_drop (xs : List Int) (n : Nat) : (zv xs).drop n = zv (xs.drop n) := by simp [zv, List.map_drop]
theorem zv_set (xs : List Int) (n : Nat) (x : Int) : (zv xs).set n (.int .i64 x) = zv (xs.set n x) := by simp [zv, List.map_set]
theorem Rd.num_at {w : World} {g o n cap : Nat} {xs : List Int} (h : Rd w (.slice (some ⟨g, o, none⟩) n cap) (zv xs)) {i : Nat} (hi : i < xs.length) : w.cell? ⟨g, o + i, none⟩ = some (.int .i64 (xs.getD i 0)) := by
  obtain ⟨ao, cap', hv, h1, h2, h3, h4⟩ := h
  cases hv
  have := h4 _ rfl i _ (zv_at hi)
  rwa [Addr.add_lit] at this
/-- A slice of numbers reads as a list, with its length told. -/
theorem Rd.numS {w : World} {v : Value} {xs : List Int} (h : Rd w v (zv xs)) : ∃ ao cap, v = .slice ao xs.length cap ∧ xs.length ≤ cap ∧ cap ≤ 9223372036854775807 := by
  obtain ⟨ao, cap, rfl, h1, h2, -, -⟩ := h
  rw [zv_length] at h1 ⊢
  exact ⟨ao, cap, rfl, h1, h2⟩
/-- A slice of slices of numbers reads as a list of lists. -/
def RdLs (w : World) (v : Value) (ls : List (List Int)) : Prop := ∃ vs, Rd w v vs ∧ vs.length = ls.length ∧ ∀ (i : Nat) (u : Value), vs[i]? = some u → Rd w u (zv (ls.getD i []))
theorem RdLs.aft {w w' : World} {v : Value} {ls : List (List Int)} (h : RdLs w v ls) (hb : Aft w w') : RdLs w' v ls := by
  obtain ⟨vs, h1, h2, h3⟩ := h
  exact ⟨vs, h1.grow hb, h2, fun i v hv => (h3 i v hv).grow hb⟩
theorem RdLs.nil (w : World) : RdLs w (.slice none 0 0) [] := ⟨[], Rd.nil w, rfl, fun _ _ h => by simp at h⟩
theorem RdLs.shape {w : World} {v : Value} {ls : List (List Int)} (h : RdLs w v ls) : ∃ ao cap, v = .slice ao ls.length cap ∧ ls.length ≤ 9223372036854775807 := by
  obtain ⟨vs, ⟨ao, cap, rfl, r1, r2, r3, r4⟩, h2, h3⟩ := h
  exact ⟨ao, cap, by rw [h2], by omega⟩
theorem RdLs.cell {w : World} {v : Value} {ls : List (List Int)} (h : RdLs w v ls) {i : Nat} (hi : i < ls.length) : ∃ g o cap u, v = .slice (some ⟨g, o, none⟩) ls.length cap ∧ (∀ wx, Aft w wx → wx.cell? ⟨g, o + i, none⟩ = some u) ∧ Rd w u (zv (ls.getD i [])) := by
  obtain ⟨vs, h1, h2, h3⟩ := h
  obtain ⟨g, o, cap, rfl, r1, r2, r3, r4⟩ := h1.at (by omega)
  have hv : vs[i]? = some (vs[i]'(by omega)) := List.getElem?_eq_getElem (by omega)
  exact ⟨g, o, cap, _, by rw [h2], fun wx hx => (Below.cell hx (p := ⟨g, o + i, none⟩) r3).trans (r4 i _ hv), h3 i _ hv⟩
/-- A slice of numbers of one's own. -/
def OwnI (w : World) (base : Nat) (v : Value) (xs : List Int) : Prop := w.ownsRow base 3 1 v xs.length (zv xs)
theorem OwnI.rd {w : World} {base : Nat} {v : Value} {xs : List Int} (h : OwnI w base v xs) : Rd w v (zv xs) := Rd.of_own h
theorem OwnI.lt {w : World} {base : Nat} {v : Value} {xs : List Int} (h : OwnI w base v xs) {g : Nat} (hg : v.ownBlock = some g) : base ≤ g ∧ g < w.heap.size := own_lt h hg
theorem OwnI.nil (w : World) (base : Nat) : OwnI w base (.slice none 0 0) [] := World.ownsRow_nil w base _ 1
theorem OwnI.mono {w : World} {base base' : Nat} {v : Value} {xs : List Int} (h : OwnI w base v xs) (hb : base' ≤ base) : OwnI w base' v xs := ownsRow_mono h hb
theorem OwnI.keep {w w' : World} {base : Nat} {v : Value} {xs : List Int} (h : OwnI w base v xs) (hk : ∀ g, v.ownBlock = some g → w'.heap[g]? = w.heap[g]?) : OwnI w' base v xs := ownsRow_below h hk
theorem OwnI.aft {w w' : World} {base : Nat} {v : Value} {xs : List Int} (h : OwnI w base v xs) (ha : Aft w w') : OwnI w' base v xs := h.keep fun g hg => Below.block ha g (h.lt hg).2
theorem OwnI.fr {w w' : World} {base : Nat} {v : Value} {xs : List Int} (h : OwnI w base v xs) {S : Nat → Prop} (hf : Fr S w w') (hn : ∀ g, v.ownBlock = some g → ¬ S g) : OwnI w' base v xs := ownsRow_fr h hf hn
theorem OwnI.shape {w : World} {base : Nat} {v : Value} {xs : List Int} (h : OwnI w base v xs) : ∃ ao cap, v = .slice ao xs.length cap := own_shape h
/-- The levels of a tree of one's own: each a row of its own, and the row of them too. -/
structure OwnLv (w : World) (base : Nat) (v : Value) (vs : List Value) (ls : List (List Int)) : Prop where
  row : w.ownsRow base 22 1 v vs.length vs
  len : vs.length = ls.length
  own : ∀ (i : Nat) (u : Value), vs[i]? = some u → OwnI w base u (ls.getD i [])
  dis : ∀ (i j : Nat) (u u' : Value) (g : Nat), i < j → vs[i]? = some u → vs[j]? = some u' → u.ownBlock = some g → u'.ownBlock ≠ some g
/-- A tree of one's own. -/
structure OwnTr (w : World) (base : Nat) (vi vl : Value) (vs : List Value) (ids : List Int) (ls : List (List Int)) : Prop where
  ids : OwnI w base vi ids
  lv : OwnLv w base vl vs ls
  dis : ∀ (i : Nat) (u : Value) (g : Nat), vs[i]? = some u → u.ownBlock = some g → vi.ownBlock ≠ some g
theorem OwnLv.dis' {w : World} {base : Nat} {v : Value} {vs : List Value} {ls : List (List Int)} (h : OwnLv w base v vs ls) {i j : Nat} {u u' : Value} {g : Nat} (hij : i ≠ j) (hi : vs[i]? = some u) (hj : vs[j]? = some u') (hu : u.ownBlock = some g) : u'.ownBlock ≠ some g := by
  rcases Nat.lt_or_gt_of_ne hij with hlt | hgt
  · exact h.dis i j u u' g hlt hi hj hu
  · exact fun e => h.dis j i u' u g hgt hj hi e hu
theorem OwnLv.row_ne {w : World} {base : Nat} {v : Value} {vs : List Value} {ls : List (List Int)} (h : OwnLv w base v vs ls) {base' : Nat} {u : Value} {xs : List Int} (hu : OwnI w base' u xs) {g : Nat} (hg : u.ownBlock = some g) : v.ownBlock ≠ some g := by
  rcases own_ne h.row hu (by decide) with h1 | h1
  · rw [h1]
    exact fun q => by cases q
  · rw [hg] at h1
    exact h1
/-- Nothing of it was turned. -/
theorem OwnLv.keep {w w' : World} {base : Nat} {v : Value} {vs : List Value} {ls : List (List Int)} (h : OwnLv w base v vs ls) {S : Nat → Prop} (hf : Fr S w w') (h1 : ∀ g, v.ownBlock = some g → ¬ S g) (h2 : ∀ (i : Nat) (u : Value) (g : Nat), vs[i]? = some u → u.ownBlock = some g → ¬ S g) : OwnLv w' base v vs ls :=
  ⟨ownsRow_fr h.row hf h1, h.len, fun i u hu => (h.own i u hu).fr hf fun g hg => h2 i u g hu hg, h.dis⟩
theorem OwnTr.aft {w w' : World} {base : Nat} {vi vl : Value} {vs : List Value} {ids : List Int} {ls : List (List Int)} (h : OwnTr w base vi vl vs ids ls) (ha : Aft w w') : OwnTr w' base vi vl vs ids ls :=
  ⟨h.ids.aft ha, h.lv.keep (Fr.of_below (S := fun _ => False) ha) (fun _ _ q => q) (fun _ _ _ _ _ q => q), h.dis⟩
theorem OwnLv.rd {w : World} {base : Nat} {v : Value} {vs : List Value} {ls : List (List Int)} (h : OwnLv w base v vs ls) : RdLs w v ls := ⟨vs, Rd.of_own h.row, h.len, fun i u hu => (h.own i u hu).rd⟩
theorem OwnLv.at {w : World} {base : Nat} {v : Value} {vs : List Value} {ls : List (List Int)} (h : OwnLv w base v vs ls) {i : Nat} (hi : i < ls.length) : ∃ u, vs[i]? = some u ∧ OwnI w base u (ls.getD i []) := by
  have hv : vs[i]? = some (vs[i]'(by rw [h.len]; exact hi)) := List.getElem?_eq_getElem _
  exact ⟨_, hv, h.own i _ hv⟩
/-- One level was turned, where it lies; or has come to lie in a block that is new. -/
theorem OwnTr.turn {w w' : World} {base : Nat} {vi vl : Value} {vs : List Value} {ids : List Int} {ls : List (List Int)} (h : OwnTr w base vi vl vs ids ls) {k : Nat} {u u' : Value} {l' : List Int} (hu : vs[k]? = some u) (hf : Fr (fun b => u.ownBlock = some b) w w') (ho : OwnI w' base u' l')
    (hn : ∀ g, u'.ownBlock = some g → u.ownBlock = some g ∨ w.heap.size ≤ g) {w'' : World} (hf2 : Fr (fun b => vl.ownBlock = some b) w' w'') (hrow : w''.ownsRow base 22 1 vl (vs.set k u').length (vs.set k u')) : OwnTr w'' base vi vl (vs.set k u') ids (ls.set k l') := by
  have hk : k < vs.length := (List.getElem?_eq_some_iff.1 hu).1
  have hu0 := h.lv.own k u hu
  have hids : OwnI w'' base vi ids := (h.ids.fr hf fun g hg e => h.dis k u g hu e hg).fr hf2 fun g hg e => h.lv.row_ne h.ids hg e
  have hset : ∀ j x, (vs.set k u')[j]? = some x → (j = k ∧ x = u') ∨ (j ≠ k ∧ vs[j]? = some x) := fun j x hx => by
    by_cases e : j = k
    · subst e
      rw [List.getElem?_set_self hk] at hx
      exact .inl ⟨rfl, (Option.some.inj hx).symm⟩
    · rw [List.getElem?_set_ne (Ne.symm e)] at hx
      exact .inr ⟨e, hx⟩
  have hu2 : ∀ g, u'.ownBlock = some g → vl.ownBlock ≠ some g := fun g hg e => by
    rcases hn g hg with h1 | h1
    · exact h.lv.row_ne hu0 h1 e
    · have := (own_lt h.lv.row e).2
      omega
  refine ⟨hids, ⟨hrow, by rw [List.length_set, List.length_set]; exact h.lv.len, fun j x hx => ?_, fun i j x x' g hij hx hx' hg => ?_⟩, fun i x g hx hg => ?_⟩
  · rcases hset j x hx with ⟨rfl, rfl⟩ | ⟨e, hx⟩
    · rw [List.getD_eq_getElem?_getD, List.getElem?_set_self (by rw [← h.lv.len]; exact hk)]
      exact ho.fr hf2 fun g hg => hu2 g hg
    · rw [List.getD_eq_getElem?_getD, List.getElem?_set_ne (Ne.symm e), ← List.getD_eq_getElem?_getD]
      exact ((h.lv.own j x hx).fr hf fun g hg e2 => h.lv.dis' (Ne.symm e) hu hx e2 hg).fr hf2 fun g hg e2 => h.lv.row_ne (h.lv.own j x hx) hg e2
  · rcases hset i x hx with ⟨rfl, rfl⟩ | ⟨e, ha⟩ <;> rcases hset j x' hx' with ⟨rfl, rfl⟩ | ⟨e', hb⟩
    · omega
    · intro e2
      rcases hn g hg with h1 | h1
      · exact h.lv.dis' (Ne.symm e') hu hb h1 e2
      · have := ((h.lv.own j x' hb).lt e2).2
        omega
    · intro e2
      rcases hn g e2 with h1 | h1
      · exact h.lv.dis' (Ne.symm e) hu ha h1 hg
      · have := ((h.lv.own i x ha).lt hg).2
        omega
    · exact h.lv.dis' (by omega) ha hb hg
  · rcases hset i x hx with ⟨rfl, rfl⟩ | ⟨e, hx⟩
    · intro e2
      rcases hn g hg with h1 | h1
      · exact h.dis _ u g hu h1 e2
      · have := (h.ids.lt e2).2
        omega
    · exact h.dis i x g hx hg
end Go.Proofs.YtdbhlajajdlmfaaDoor
/- Slices of structs, whatever they are: rows of cells, each of so many. -/
namespace Go.Proofs.YtdbhlajajdlmfaaDoor
open Go Go.RowKit
/-- Each row has so many cells. -/
def Row (sz : Nat) (rs : List (List Value)) : Prop := ∀ r ∈ rs, r.length = sz ∧ ∀ u ∈ r, u.oneCell' = true
theorem Row.nil (sz : Nat) : Row sz [] := fun r h => by simp at h
theorem Row.append {sz : Nat} {rs qs : List (List Value)} (h : Row sz rs) (k : Row sz qs) : Row sz (rs ++ qs) := fun r hr => by
  rcases List.mem_append.1 hr with hr | hr
  · exact h r hr
  · exact k r hr
theorem Row.one {sz : Nat} {r : List Value} (h : r.length = sz) (h1 : ∀ u ∈ r, u.oneCell' = true) : Row sz [r] := fun q hq => by
  rw [List.mem_singleton.1 hq]
  exact ⟨h, h1⟩
theorem Row.at {sz : Nat} {rs : List (List Value)} (h : Row sz rs) {i : Nat} (hi : i < rs.length) : (rs.getD i []).length = sz ∧ ∀ u ∈ rs.getD i [], u.oneCell' = true := by
  rw [List.getD_eq_getElem?_getD, List.getElem?_eq_getElem hi]
  exact h _ (List.getElem_mem hi)
theorem rows_length : ∀ {sz : Nat} {rs : List (List Value)}, Row sz rs → rs.flatten.length = rs.length * sz
  | _, [], _ => by simp
  | sz, r :: rs, h => by
    rw [List.flatten_cons, List.length_append, (h r (by simp)).1, rows_length fun x hx => h x (by simp [hx]), List.length_cons, Nat.add_mul, Nat.one_mul]
    omega
theorem rows_at : ∀ {sz : Nat} {rs : List (List Value)}, Row sz rs → ∀ i j, i < rs.length → j < sz → rs.flatten[i * sz + j]? = (rs.getD i [])[j]?
  | _, [], _, i, j, hi, _ => by simp at hi
  | sz, r :: rs, h, 0, j, _, hj => by
    rw [List.flatten_cons, Nat.zero_mul, Nat.zero_add, List.getElem?_append_left (by rw [(h r (by simp)).1]; exact hj)]
    rfl
  | sz, r :: rs, h, i + 1, j, hi, hj => by
    have h1 := (h r (by simp)).1
    rw [List.flatten_cons, List.getElem?_append_right (by rw [h1, Nat.add_mul]; omega), h1, show (i + 1) * sz + j - sz = i * sz + j by rw [Nat.add_mul]; omega, rows_at (fun x hx => h x (by simp [hx])) i j (by simpa using hi) hj]
    rfl
theorem rows_one {sz : Nat} {rs : List (List Value)} (h : Row sz rs) : ∀ u ∈ rs.flatten, u.oneCell' = true := by
  intro u hu
  obtain ⟨l, hl, hm⟩ := List.mem_flatten.1 hu
  exact (h l hl).2 u hm
/-- A slice of structs reads as rows. -/
def RdR (sz : Nat) (w : World) (v : Value) (rs : List (List Value)) : Prop :=
  Row sz rs ∧ ((v = .slice none 0 0 ∧ rs = []) ∨ ∃ g o cap, v = .slice (some ⟨g, o, none⟩) rs.length cap ∧ rs.length ≤ cap ∧ cap ≤ 9223372036854775807 ∧ g < w.heap.size ∧ ∀ i, i < rs.length → w.rangeAt g (o + i * sz) (rs.getD i []))
theorem RdR.nil (sz : Nat) (w : World) : RdR sz w (.slice none 0 0) [] := ⟨Row.nil sz, .inl ⟨rfl, rfl⟩⟩
theorem RdR.grow {sz : Nat} {w w' : World} {v : Value} {rs : List (List Value)} (h : RdR sz w v rs) (hb : Aft w w') : RdR sz w' v rs := by
  refine ⟨h.1, ?_⟩
  rcases h.2 with h | ⟨g, o, cap, h1, h2, h3, h4, h5⟩
  · exact .inl h
  · exact .inr ⟨g, o, cap, h1, h2, h3, Nat.lt_of_lt_of_le h4 hb.size, fun i hi j u hu => (Below.cell hb (p := ⟨g, o + i * sz + j, none⟩) h4).trans (h5 i hi j u hu)⟩
theorem RdR.shape {sz : Nat} {w : World} {v : Value} {rs : List (List Value)} (h : RdR sz w v rs) : ∃ ao cap, v = .slice ao rs.length cap ∧ rs.length ≤ cap ∧ cap ≤ 9223372036854775807 := by
  rcases h.2 with ⟨rfl, rfl⟩ | ⟨g, o, cap, h1, h2, h3, -⟩
  · exact ⟨none, 0, rfl, Nat.le_refl _, by omega⟩
  · exact ⟨_, cap, h1, h2, h3⟩
theorem RdR.at {sz : Nat} {w : World} {v : Value} {rs : List (List Value)} (h : RdR sz w v rs) {i : Nat} (hi : i < rs.length) :
    ∃ g o cap, v = .slice (some ⟨g, o, none⟩) rs.length cap ∧ (rs.getD i []).length = sz ∧ (∀ wx, Aft w wx → wx.rangeAt g (o + i * sz) (rs.getD i [])) := by
  rcases h.2 with ⟨rfl, rfl⟩ | ⟨g, o, cap, h1, h2, h3, h4, h5⟩
  · simp at hi
  · exact ⟨g, o, cap, h1, (h.1.at hi).1, fun wx hx j u hu => (Below.cell hx (p := ⟨g, o + i * sz + j, none⟩) h4).trans (h5 i hi j u hu)⟩
/-- A slice of structs of one's own. -/
def OwnR (sz : Nat) (t : TypeId) (w : World) (base : Nat) (v : Value) (rs : List (List Value)) : Prop := Row sz rs ∧ w.ownsRow base t sz v rs.length rs.flatten
theorem OwnR.nil (sz : Nat) (t : TypeId) (w : World) (base : Nat) : OwnR sz t w base (.slice none 0 0) [] := ⟨Row.nil sz, World.ownsRow_nil w base t sz⟩
theorem OwnR.lt {sz : Nat} {t : TypeId} {w : World} {base : Nat} {v : Value} {rs : List (List Value)} (h : OwnR sz t w base v rs) : ∀ g, v.ownBlock = some g → base ≤ g ∧ g < w.heap.size := h.2.lt
theorem OwnR.keep {sz : Nat} {t : TypeId} {w w' : World} {base : Nat} {v : Value} {rs : List (List Value)} (h : OwnR sz t w base v rs) (hk : ∀ g, v.ownBlock = some g → w'.heap[g]? = w.heap[g]?) : OwnR sz t w' base v rs := by
  refine ⟨h.1, h.2.1, ?_⟩
  rcases h.2.2 with hn | ⟨g, cap, cur, rfl, hb, hg, hr⟩
  · exact .inl hn
  · exact .inr ⟨g, cap, cur, rfl, hb, (hk g rfl).trans hg, hr⟩
theorem OwnR.aft {sz : Nat} {t : TypeId} {w w' : World} {base : Nat} {v : Value} {rs : List (List Value)} (h : OwnR sz t w base v rs) (ha : Aft w w') : OwnR sz t w' base v rs := h.keep fun g hg => ha.block g (h.lt g hg).2
theorem OwnR.mono {sz : Nat} {t : TypeId} {w : World} {base base' : Nat} {v : Value} {rs : List (List Value)} (h : OwnR sz t w base v rs) (hb : base' ≤ base) : OwnR sz t w base' v rs := ⟨h.1, ownsRow_mono h.2 hb⟩
theorem OwnR.shape {sz : Nat} {t : TypeId} {w : World} {base : Nat} {v : Value} {rs : List (List Value)} (h : OwnR sz t w base v rs) : ∃ ao cap, v = .slice ao rs.length cap := own_shape h.2
theorem OwnR.rd {sz : Nat} {t : TypeId} {w : World} {base : Nat} {v : Value} {rs : List (List Value)} (h : OwnR sz t w base v rs) : RdR sz w v rs := by
  refine ⟨h.1, ?_⟩
  rcases h.2.2 with ⟨rfl, hn⟩ | ⟨g, cap, cur, rfl, hb, hg, hn, hm, hc, ht⟩
  · exact .inl ⟨rfl, List.eq_nil_of_length_eq_zero hn⟩
  · refine .inr ⟨g, 0, cap, rfl, hn, by simpa [maxLen] using hm, heap_lt hg, fun i hi j u hu => ?_⟩
    have hj : j < sz := by
      have := (List.getElem?_eq_some_iff.1 hu).1
      rwa [(h.1.at hi).1] at this
    have hr := rows_at h.1 i j hi hj
    have := h.2.cells (g := g) rfl (i * sz + j) u (hr.trans hu)
    rw [Addr.add_lit] at this
    rwa [Nat.add_assoc]
/-- A block of another type is none of its own. -/
theorem OwnR.off {sz : Nat} {t : TypeId} {w : World} {base g g' t' : Nat} {v : Value} {rs : List (List Value)} {cs : Array Value} {fr : Nat × Nat} (h : OwnR sz t w base v rs) (hg : w.heap[g]? = some (.cells cs t' fr)) (ht : t' ≠ t) (hv : v.ownBlock = some g') : g' ≠ g := by
  rcases h.2.2 with ⟨rfl, -⟩ | ⟨b, cap, cur, rfl, -, hb, -⟩
  · cases hv
  · cases hv
    rintro rfl
    have h1 : b = Addr.block ⟨b, 0, none⟩ := rfl
    rw [← h1] at hg
    rw [hb] at hg
    cases hg
    exact ht rfl
section
variable {P : Program} {ops : Array Oper} {rest : List Oper} {o : Oper} {a : Act} {w : World} {Q : Exit → Act → World → Prop}
/-- A whole struct out of the middle of a block. -/
theorem wpList_load_mid2 (hw : Region.wanted o (yielded ops a.tmps) = true) (ty : TypeId) (x : Operand) (ho : o.op = .load ty x) (b q : Nat) (hx : a.eval x = .pointer (some ⟨b, q, none⟩)) (r : List Value) (hr : w.rangeAt b q r) (d : TypeDesc) (hu : P.underlying ty = some d) (hd : d.isRow = true) (hi : (P.info? ty).map (·.size) = some r.length)
    (h : wpList P ops Q rest (a.put o.dst (.agg r.toArray)) w) : wpList P ops Q (o :: rest) a w := by
  unfold wpList
  rw [if_pos hw]
  refine .inl (wp_noOut ?_)
  unfold Oper.wp execOp
  simp only [ho, hx, run_loadAt_mid w b q ty r d hr hu hd hi, Sem.run_bind, Result.andThen_ok, Sem.run_pure]
  exact h
end
end Go.Proofs.YtdbhlajajdlmfaaDoor
/- The tree's small functions, and the library's looks at numbers. -/
namespace Go.Proofs.YtdbhlajajdlmfaaDoor
open Go Go.RowKit
theorem frm_bound {xs : List Int} (h : ∀ x ∈ xs, x = 2 ∨ x = 3) : ∀ i, 0 ≤ frm xs i ∧ frm xs i ≤ 3 * (i : Int) := by
  intro i
  induction i with
  | zero => simp [frm]
  | succ i ih =>
    by_cases hi : i < xs.length
    · rw [frm_succ hi]
      have := getD_of h hi
      omega
    · have : frm xs (i + 1) = frm xs i := by
        unfold frm
        rw [List.take_of_length_le (by omega), List.take_of_length_le (by omega)]
      omega
set_option maxRecDepth 100000 in
theorem tsum_any (v : Value) (xs : List Int) (w : World) (h : Rd w v (zv xs)) (h2 : ∀ x ∈ xs, x = 2 ∨ x = 3) (hl : xs.length ≤ 1048576) :
    Calls Tryd.prog 56 #[v] w fun e w' => e = .returned (.int .i64 xs.sum) ∧ w' = w := by
  obtain ⟨ao, cap, rfl, -, -⟩ := h.numS
  have HR := Lib.hid h
  have HB := Lib.hid (frm_bound h2)
  have HS := Lib.hid (fun i (hi : i < xs.length) => frm_succ (l := xs) hi)
  clear h h2
  go_enter Tryd.func56, Tryd.ntmps56
  go_wp2_with fail
  go_loopw [2, 7] (fun v2 v7 wr => ∃ i : Nat, i ≤ xs.length ∧ v7 = .int .i64 (i : Int) ∧ v2 = .int .i64 (frm xs i) ∧ wr = w) (fun _ v _ => xs.length - (intOf v).toNat)
  case atStart => exact ⟨0, by omega, rfl, rfl, rfl⟩
  case round =>
    obtain ⟨i, hi, rfl, rfl, rfl⟩ := hrel
    by_cases hlt : i < xs.length
    · have hlt' : (i : Int) < (xs.length : Nat) := by omega
      obtain ⟨g, o, rfl, -, -⟩ := HR.out.some_of (by rw [zv_length]; omega)
      have hc := HR.out.num_at hlt
      have hs := HS.out i hlt
      have hb := HB.out i
      have hb1 := HB.out (i + 1)
      obtain ⟨f1, hf1⟩ : ∃ f1, f1 = frm xs (i + 1) := ⟨_, rfl⟩
      rw [← hf1] at hs hb1
      have HF1 := Lib.hid hf1
      clear hf1
      generalize frm xs i = f at *
      generalize xs.getD i 0 = x at *
      have hw : wrap64 (f + x) = f1 := by unfold wrap64; omega
      have HF := Lib.hid hw
      clear hs hw
      go_wp2_with fail
      go_roundw
      case rel => exact ⟨i + 1, by omega, by go_num, by rw [HF.out, HF1.out], by trivial⟩
      case measure => simp [intOf]; omega
    · obtain rfl : i = xs.length := by omega
      have hlt' : ¬ ((xs.length : Nat) : Int) < (xs.length : Nat) := by omega
      rw [frm_all]
      go_wp2_with fail
      go_ret
      exact ⟨rfl, rfl⟩
/-- Whether a group may not have so many. -/
def oddB (x : Int) : Bool := !two3 x
set_option maxRecDepth 100000 in
theorem todd_any (x : Int) (w : World) : Calls Tryd.prog 55 #[.int .i64 x] w fun e w' => e = .returned (.bool (oddB x)) ∧ w' = w := by
  by_cases h1 : x < 2
  · have HR := Lib.hid (show oddB x = true by simp [oddB, two3]; omega)
    rw [HR.out]
    go_enter Tryd.func55, Tryd.ntmps55
    go_wp2_with fail
    go_ret
    exact ⟨rfl, rfl⟩
  · by_cases h2 : 3 < x
    · have HR := Lib.hid (show oddB x = true by simp [oddB, two3]; omega)
      rw [HR.out]
      go_enter Tryd.func55, Tryd.ntmps55
      go_wp2_with fail
      go_ret
      exact ⟨rfl, rfl⟩
    · have HR := Lib.hid (show oddB x = false by simp [oddB, two3]; omega)
      rw [HR.out]
      go_enter Tryd.func55, Tryd.ntmps55
      go_wp2_with fail
      go_ret
      exact ⟨rfl, rfl⟩
def farB (x : Int) : Bool := decide (x < 0 ∨ 1048576 < x)
set_option maxRecDepth 100000 in
theorem tfar_any (x : Int) (w : World) : Calls Tryd.prog 53 #[.int .i64 x] w fun e w' => e = .returned (.bool (farB x)) ∧ w' = w := by
  by_cases h1 : x < 0
  · have HR := Lib.hid (show farB x = true from decide_eq_true (.inl h1))
    rw [HR.out]
    go_enter Tryd.func53, Tryd.ntmps53
    go_wp2_with fail
    go_ret
    exact ⟨rfl, rfl⟩
  · by_cases h2 : 1048576 < x
    · have HR := Lib.hid (show farB x = true from decide_eq_true (.inr h2))
      rw [HR.out]
      go_enter Tryd.func53, Tryd.ntmps53
      go_wp2_with fail
      go_ret
      exact ⟨rfl, rfl⟩
    · have HR := Lib.hid (show farB x = false from decide_eq_false (by omega))
      rw [HR.out]
      go_enter Tryd.func53, Tryd.ntmps53
      go_wp2_with fail
      go_ret
      exact ⟨rfl, rfl⟩
/-- slices.IndexFunc over a predicate that reads nothing. -/
def fixI (p : Int → Bool) (xs : List Int) : Int := match xs.findIdx? p with | some i => (i : Int) | none => -1
theorem fixI_hit {p : Int → Bool} {k : Nat} {xs : List Int} (hk : k < xs.length) (h : p (xs.getD k 0) = true) (hne : ∀ j, j < k → p (xs.getD j 0) = false) : fixI p xs = (k : Int) := by
  have e : xs.findIdx? p = some k := by
    rw [List.findIdx?_eq_some_iff_getElem]
    refine ⟨hk, ?_, fun j hj => ?_⟩
    · rwa [List.getD_eq_getElem?_getD, List.getElem?_eq_getElem hk] at h
    · have := hne j hj
      rw [List.getD_eq_getElem?_getD, List.getElem?_eq_getElem (by omega)] at this
      rw [Option.getD_some] at this
      simp [this]
  unfold fixI
  rw [e]
theorem fixI_miss {p : Int → Bool} {xs : List Int} (hne : ∀ j, j < xs.length → p (xs.getD j 0) = false) : fixI p xs = -1 := by
  have e : xs.findIdx? p = none := by
    rw [List.findIdx?_eq_none_iff]
    intro x hx
    obtain ⟨j, hj, rfl⟩ := List.mem_iff_getElem.1 hx
    have := hne j hj
    rwa [List.getD_eq_getElem?_getD, List.getElem?_eq_getElem hj] at this
  unfold fixI
  rw [e]
theorem fixI_any (p : Int → Bool) (xs : List Int) : decide (0 ≤ fixI p xs) = xs.any p := by
  unfold fixI
  rcases h : xs.findIdx? p with _ | i
  · rw [List.findIdx?_eq_none_iff] at h
    have : xs.any p = false := by rw [List.any_eq_false]; intro x hx; simp [h x hx]
    rw [this]
    rfl
  · obtain ⟨h1, h2, -⟩ := List.findIdx?_eq_some_iff_getElem.1 h
    have : xs.any p = true := List.any_eq_true.2 ⟨_, List.getElem_mem h1, h2⟩
    rw [this]
    simp
set_option maxRecDepth 100000 in
set_option maxHeartbeats 1000000 in
theorem indexFar_any (v : Value) (xs : List Int) (w : World) (h : Rd w v (zv xs)) (hl : xs.length ≤ 1048576) :
    Calls Tryd.prog 86 #[v, .func (.func 53) #[] #[]] w fun e w' => e = .returned (.int .i64 (fixI farB xs)) ∧ w' = w := by
  obtain ⟨ao, cap, rfl, -, -⟩ := h.numS
  have HR := Lib.hid h
  clear h
  go_enter Tryd.func86, Tryd.ntmps86
  go_wp2_with fail
  go_loopw [8] (fun v8 wr => ∃ i : Nat, i ≤ xs.length ∧ v8 = .int .i64 (i : Int) ∧ (∀ j, j < i → farB (xs.getD j 0) = false) ∧ wr = w) (fun v _ => xs.length - (intOf v).toNat)
  case atStart => exact ⟨0, by omega, rfl, fun j hj => absurd hj (Nat.not_lt_zero _), rfl⟩
  case round =>
    obtain ⟨i, hi, rfl, hne, rfl⟩ := hrel
    have HN := Lib.hid hne
    clear hne
    by_cases hlt : i < xs.length
    · have hlt' : (i : Int) < (xs.length : Nat) := by omega
      obtain ⟨g, o, rfl, -, -⟩ := HR.out.some_of (by rw [zv_length]; omega)
      have hc := HR.out.num_at hlt
      have HX := Lib.hid (fun q => fixI_hit hlt q HN.out)
      have HX2 := Lib.hid (show farB (xs.getD i 0) = false → ∀ j, j < i + 1 → farB (xs.getD j 0) = false from fun q j hj => by
        by_cases e : j = i
        · subst e; exact q
        · exact HN.out j (by omega))
      generalize xs.getD i 0 = x at *
      go_wp2_with fail
      refine (tfar_any x wr).mono ?_
      rintro e w2 ⟨rfl, rfl⟩
      cases hq : farB x with
      | true =>
        have HI := Lib.hid (HX.out hq)
        clear hq
        go_wp2_with fail
        go_ret
        exact ⟨by rw [HI.out]; rfl, rfl⟩
      | false =>
        have HI := Lib.hid (HX2.out hq)
        clear hq
        go_wp2_with fail
        go_roundw
        case rel => exact ⟨i + 1, by omega, by go_num, HI.out, by trivial⟩
        case measure => simp [intOf]; omega
    · obtain rfl : i = xs.length := by omega
      have hlt' : ¬ ((xs.length : Nat) : Int) < (xs.length : Nat) := by omega
      have HI := Lib.hid (fixI_miss HN.out)
      go_wp2_with fail
      go_ret
      exact ⟨by rw [HI.out]; rfl, rfl⟩
set_option maxRecDepth 100000 in
theorem containsFar_any (v : Value) (xs : List Int) (w : World) (h : Rd w v (zv xs)) (hl : xs.length ≤ 1048576) :
    Calls Tryd.prog 54 #[v, .func (.func 53) #[] #[]] w fun e w' => e = .returned (.bool (xs.any farB)) ∧ w' = w := by
  have HI := Lib.hid (indexFar_any v xs w h hl)
  rw [← fixI_any]
  clear h hl
  go_enter Tryd.func54, Tryd.ntmps54
  go_wp2_with fail
  refine HI.out.mono ?_
  rintro e w2 ⟨rfl, rfl⟩
  go_wp2_with fail
  go_ret
  exact ⟨rfl, rfl⟩
set_option maxRecDepth 100000 in
set_option maxHeartbeats 1000000 in
theorem indexOdd_any (v : Value) (xs : List Int) (w : World) (h : Rd w v (zv xs)) (hl : xs.length ≤ 1048576) :
    Calls Tryd.prog 86 #[v, .func (.func 55) #[] #[]] w fun e w' => e = .returned (.int .i64 (fixI oddB xs)) ∧ w' = w := by
  obtain ⟨ao, cap, rfl, -, -⟩ := h.numS
  have HR := Lib.hid h
  clear h
  go_enter Tryd.func86, Tryd.ntmps86
  go_wp2_with fail
  go_loopw [8] (fun v8 wr => ∃ i : Nat, i ≤ xs.length ∧ v8 = .int .i64 (i : Int) ∧ (∀ j, j < i → oddB (xs.getD j 0) = false) ∧ wr = w) (fun v _ => xs.length - (intOf v).toNat)
  case atStart => exact ⟨0, by omega, rfl, fun j hj => absurd hj (Nat.not_lt_zero _), rfl⟩
  case round =>
    obtain ⟨i, hi, rfl, hne, rfl⟩ := hrel
    have HN := Lib.hid hne
    clear hne
    by_cases hlt : i < xs.length
    · have hlt' : (i : Int) < (xs.length : Nat) := by omega
      obtain ⟨g, o, rfl, -, -⟩ := HR.out.some_of (by rw [zv_length]; omega)
      have hc := HR.out.num_at hlt
      have HX := Lib.hid (fun q => fixI_hit hlt q HN.out)
      have HX2 := Lib.hid (show oddB (xs.getD i 0) = false → ∀ j, j < i + 1 → oddB (xs.getD j 0) = false from fun q j hj => by
        by_cases e : j = i
        · subst e; exact q
        · exact HN.out j (by omega))
      generalize xs.getD i 0 = x at *
      go_wp2_with fail
      refine (todd_any x wr).mono ?_
      rintro e w2 ⟨rfl, rfl⟩
      cases hq : oddB x with
      | true =>
        have HI := Lib.hid (HX.out hq)
        clear hq
        go_wp2_with fail
        go_ret
        exact ⟨by rw [HI.out]; rfl, rfl⟩
      | false =>
        have HI := Lib.hid (HX2.out hq)
        clear hq
        go_wp2_with fail
        go_roundw
        case rel => exact ⟨i + 1, by omega, by go_num, HI.out, by trivial⟩
        case measure => simp [intOf]; omega
    · obtain rfl : i = xs.length := by omega
      have hlt' : ¬ ((xs.length : Nat) : Int) < (xs.length : Nat) := by omega
      have HI := Lib.hid (fixI_miss HN.out)
      go_wp2_with fail
      go_ret
      exact ⟨by rw [HI.out]; rfl, rfl⟩
set_option maxRecDepth 100000 in
theorem containsOdd_any (v : Value) (xs : List Int) (w : World) (h : Rd w v (zv xs)) (hl : xs.length ≤ 1048576) :
    Calls Tryd.prog 54 #[v, .func (.func 55) #[] #[]] w fun e w' => e = .returned (.bool (xs.any oddB)) ∧ w' = w := by
  have HI := Lib.hid (indexOdd_any v xs w h hl)
  rw [← fixI_any]
  clear h hl
  go_enter Tryd.func54, Tryd.ntmps54
  go_wp2_with fail
  refine HI.out.mono ?_
  rintro e w2 ⟨rfl, rfl⟩
  go_wp2_with fail
  go_ret
  exact ⟨rfl, rfl⟩
end Go.Proofs.YtdbhlajajdlmfaaDoor
/- The library's Contains and Equal over numbers, the document's SameInts; tree.group, tree.Find. -/
namespace Go.Proofs.YtdbhlajajdlmfaaDoor
open Go Go.RowKit
set_option linter.unusedSimpArgs false
def shpL (a b : Value) : List Value := [a, b]
section
variable {w : World} {g t : Nat} {fr : Nat × Nat} {a b : Value}
theorem shp_i (h : w.heap[g]? = some (.cells (shpL a b).toArray t fr)) : w.cell? ⟨g, 0, none⟩ = some a := cell_part h rfl
theorem shp_l (h : w.heap[g]? = some (.cells (shpL a b).toArray t fr)) : w.cell? ⟨g, 1, none⟩ = some b := cell_part h rfl
end
theorem box_shp (L : List Value) (w : World) : (Instr.box 25 (.agg L.toArray)).run Tryd.prog w = .ok (.pointer (some ⟨w.heap.size, 0, none⟩)) (w.alloc (.cells L.toArray 25)) := rfl
theorem alloc_shp (w : World) : (Instr.alloc 25 true (.tuple #[])).run Tryd.prog w = .ok (.pointer (some ⟨w.heap.size, 0, none⟩)) (w.alloc (.cells (shpL (.slice none 0 0) (.slice none 0 0)).toArray 25)) := by kernel_rfl
theorem build_shp0 (w : World) : (Instr.build 25 #[]).run Tryd.prog w = .ok (.agg (shpL (.slice none 0 0) (.slice none 0 0)).toArray) w := by kernel_rfl
theorem shp_info (a b : Value) : (Tryd.prog.info? 25).map (·.size) = some (shpL a b).toArray.size := by kernel_rfl
theorem shp_size (a b : Value) : (shpL a b).toArray.size = 2 := rfl
set_option maxRecDepth 100000 in
set_option maxHeartbeats 1000000 in
theorem index_any (v : Value) (y : Int) (xs : List Int) (w : World) (h : Rd w v (zv xs)) (hl : xs.length ≤ 1048576) :
    Calls Tryd.prog 107 #[v, .int .i64 y] w fun e w' => e = .returned (.int .i64 (fixI (fun x => y == x) xs)) ∧ w' = w := by
  obtain ⟨ao, cap, rfl, -, -⟩ := h.numS
  have HR := Lib.hid h
  clear h
  go_enter Tryd.func107, Tryd.ntmps107
  go_wp2_with fail
  go_loopw [8] (fun v8 wr => ∃ i : Nat, i ≤ xs.length ∧ v8 = .int .i64 (i : Int) ∧ (∀ j, j < i → (y == xs.getD j 0) = false) ∧ wr = w) (fun v _ => xs.length - (intOf v).toNat)
  case atStart => exact ⟨0, by omega, rfl, fun j hj => absurd hj (Nat.not_lt_zero _), rfl⟩
  case round =>
    obtain ⟨i, hi, rfl, hne, rfl⟩ := hrel
    have HN := Lib.hid hne
    clear hne
    by_cases hlt : i < xs.length
    · have hlt' : (i : Int) < (xs.length : Nat) := by omega
      obtain ⟨g, o, rfl, -, -⟩ := HR.out.some_of (by rw [zv_length]; omega)
      have hc := HR.out.num_at hlt
      have HX := Lib.hid (fun q => fixI_hit (p := fun x => y == x) hlt q HN.out)
      have HX2 := Lib.hid (show (y == xs.getD i 0) = false → ∀ j, j < i + 1 → (y == xs.getD j 0) = false from fun q j hj => by
        by_cases e : j = i
        · subst e; exact q
        · exact HN.out j (by omega))
      generalize xs.getD i 0 = x at *
      by_cases hq : y = x
      · have HI := Lib.hid (HX.out (by simpa using hq))
        subst hq
        go_wp2_with fail
        go_ret
        exact ⟨by rw [HI.out]; rfl, rfl⟩
      · have HI := Lib.hid (HX2.out (by simpa using hq))
        go_wp2_with fail
        go_roundw
        case rel => exact ⟨i + 1, by omega, by go_num, HI.out, by trivial⟩
        case measure => simp [intOf]; omega
    · obtain rfl : i = xs.length := by omega
      have hlt' : ¬ ((xs.length : Nat) : Int) < (xs.length : Nat) := by omega
      have HI := Lib.hid (fixI_miss (p := fun x => y == x) HN.out)
      go_wp2_with fail
      go_ret
      exact ⟨by rw [HI.out]; rfl, rfl⟩
set_option maxRecDepth 100000 in
theorem contains_any (v : Value) (y : Int) (xs : List Int) (w : World) (h : Rd w v (zv xs)) (hl : xs.length ≤ 1048576) :
    Calls Tryd.prog 93 #[v, .int .i64 y] w fun e w' => e = .returned (.bool (decide (y ∈ xs))) ∧ w' = w := by
  have HI := Lib.hid (index_any v y xs w h hl)
  rw [show decide (y ∈ xs) = decide (0 ≤ fixI (fun x => y == x) xs) by rw [fixI_any, List.any_beq, List.contains_eq_mem]]
  clear h hl
  go_enter Tryd.func93, Tryd.ntmps93
  go_wp2_with fail
  refine HI.out.mono ?_
  rintro e w2 ⟨rfl, rfl⟩
  go_wp2_with fail
  go_ret
  exact ⟨rfl, rfl⟩
theorem grp_lt {l : List Int} {a : Int} {g : Nat} (hp : pos l) (h0 : 0 ≤ a) (hs : a < l.sum) (hg : g ≤ grpG l a) : frm l g ≤ a ∧ g < l.length ∧ (frm l (g + 1) ≤ a → g + 1 ≤ grpG l a) ∧ (a < frm l (g + 1) → g = grpG l a) := by
  obtain ⟨s1, s2, s3⟩ := grp_spec l a h0 hs
  have h1 := frm_mono hp hg
  refine ⟨by omega, by omega, fun h => ?_, fun h => (grp_unique hp (by omega) h).symm⟩
  rcases Nat.lt_or_ge g (grpG l a) with h2 | h2
  · exact h2
  · have e : g = grpG l a := by omega
    rw [e] at h
    omega
theorem cnt_take {ids : List Int} {id : Int} {i : Nat} (hi : i < ids.length) : cnt (ids.take (i + 1)) id = cnt (ids.take i) id + (if ids.getD i 0 < id then 1 else 0) := by
  rw [List.take_succ_eq_append_getElem hi]
  unfold cnt
  rw [List.filter_append, List.length_append, List.getD_eq_getElem?_getD, List.getElem?_eq_getElem hi, Option.getD_some]
  congr 1
  by_cases h : ids[i] < id
  · rw [if_pos h, List.filter_cons, if_pos (by simpa using h)]
    rfl
  · rw [if_neg h, List.filter_cons, if_neg (by simpa using h)]
    rfl
set_option maxRecDepth 100000 in
theorem find_any (vi vl : Value) (ids : List Int) (id : Int) (w : World) (h : Rd w vi (zv ids)) (hl : ids.length ≤ 1048576) :
    Calls Tryd.prog 69 #[.agg (shpL vi vl).toArray, .int .i64 id] w fun e w' => e = .returned (.tuple #[.int .i64 (cnt ids id : Nat), .bool (decide (id ∈ ids))]) ∧ Aft w w' := by
  obtain ⟨ao, cap, rfl, -, -⟩ := h.numS
  have HR := Lib.hid (fun (wx : World) (hx : Aft w wx) => h.grow hx)
  have HC := Lib.hid (fun (wx : World) (hx : Aft w wx) => contains_any _ id ids wx (h.grow hx) hl)
  have HS := Lib.hid (fun i (hi : i < ids.length) => cnt_take (id := id) hi)
  have HL := Lib.hid (Led.start w)
  clear h
  go_enter Tryd.func69, Tryd.ntmps69
  go_wp2_with (first | (refine wpList_boxO rfl 25 (.tmp 0) rfl (.agg (shpL (.slice ao ids.length cap) vl).toArray) rfl (.cells (shpL (.slice ao ids.length cap) vl).toArray 25) (box_shp _) ?_; intro w' aa gg zz; replace HL := Lib.hid (HL.out.alloc aa gg.out); clear aa gg zz; try simp only [List.nil_append, List.cons_append, List.set_cons_zero, List.set_cons_succ] at HL; have hi0 := shp_i (HL.out.get 0 rfl)))
  clear hi0
  go_loopw [4, 11] (fun v4 v11 wr => ∃ i : Nat, i ≤ ids.length ∧ v11 = .int .i64 (i : Int) ∧ v4 = .int .i64 (cnt (ids.take i) id : Nat) ∧ Led w wr [(w.heap.size, .cells (shpL (.slice ao ids.length cap) vl).toArray 25)]) (fun _ v _ => ids.length - (intOf v).toNat)
  case atStart => exact ⟨0, by omega, rfl, by simp [cnt], HL.out⟩
  case round =>
    clear HL
    obtain ⟨i, hi, rfl, rfl, hL⟩ := hrel
    have HL := Lib.hid hL
    clear hL
    by_cases hlt : i < ids.length
    · have hlt' : (i : Int) < (ids.length : Nat) := by omega
      obtain ⟨b, o, rfl, -, -⟩ := (HR.out _ HL.out.aft).some_of (by rw [zv_length]; omega)
      have hc := (HR.out _ HL.out.aft).num_at hlt
      have hcn := cnt_le (ids.take i) id
      rw [List.length_take] at hcn
      have hss := HS.out i hlt
      obtain ⟨f1, hf1⟩ : ∃ f1, f1 = cnt (ids.take (i + 1)) id := ⟨_, rfl⟩
      rw [← hf1] at hss
      have HF1 := Lib.hid hf1
      clear hf1
      generalize cnt (ids.take i) id = n at *
      generalize ids.getD i 0 = x at *
      by_cases hq : x < id
      · rw [if_pos hq] at hss
        have HE := Lib.hid hss
        clear hss
        go_wp2_with fail
        go_roundw
        case rel => exact ⟨i + 1, by omega, by go_num, by rw [← HF1.out, HE.out]; go_num, HL.out⟩
        case measure => simp [intOf]; omega
      · rw [if_neg hq, Nat.add_zero] at hss
        have HE := Lib.hid hss
        clear hss
        go_wp2_with fail
        go_roundw
        case rel => exact ⟨i + 1, by omega, by go_num, by rw [← HF1.out, HE.out], HL.out⟩
        case measure => simp [intOf]; omega
    · obtain rfl : i = ids.length := by omega
      have hlt' : ¬ ((ids.length : Nat) : Int) < (ids.length : Nat) := by omega
      have hi0 := shp_i (HL.out.get 0 rfl)
      rw [List.take_length]
      go_wp2_with fail
      refine (HC.out _ HL.out.aft).mono ?_
      rintro e w2 ⟨rfl, rfl⟩
      go_wp2_with fail
      go_ret2
      exact ⟨rfl, HL.out.aft⟩
set_option maxRecDepth 100000 in
set_option maxHeartbeats 1000000 in
theorem equalI_any (v u : Value) (xs ys : List Int) (w : World) (hx : Rd w v (zv xs)) (hy : Rd w u (zv ys)) (hl : xs.length ≤ 1048576) :
    Calls Tryd.prog 80 #[v, u] w fun e w' => e = .returned (.bool (decide (xs = ys))) ∧ Aft w w' := by
  obtain ⟨ao, cap, rfl, -, -⟩ := hx.numS
  obtain ⟨bo, dap, rfl, -, -⟩ := hy.numS
  have HX := Lib.hid (fun (wx : World) (ha : Aft w wx) => hx.grow ha)
  have HY := Lib.hid (fun (wx : World) (ha : Aft w wx) => hy.grow ha)
  obtain ⟨bq, hbq⟩ : ∃ bq, bq = decide (xs = ys) := ⟨_, rfl⟩
  have HB := Lib.hid hbq
  rw [← hbq]
  clear hx hy hbq
  go_enter Tryd.func80, Tryd.ntmps80
  by_cases hlen : xs.length = ys.length
  rotate_left
  · have HR := Lib.hid (show bq = false by rw [HB.out]; exact decide_eq_false (fun q => hlen (by rw [q])))
    rw [HR.out]
    have hlen' : ¬ ((xs.length : Nat) : Int) = (ys.length : Nat) := by omega
    go_wp2_with fail
    go_ret
    exact ⟨rfl, Aft.refl _⟩
  have HLn := Lib.hid hlen
  rw [← hlen]
  clear hlen
  go_wp2_with fail
  go_loopw [13] (fun v13 wr => ∃ i : Nat, i ≤ xs.length ∧ v13 = .int .i64 (i : Int) ∧ (∀ j, j < i → xs[j]? = ys[j]?) ∧ Aft w wr) (fun v _ => xs.length - (intOf v).toNat)
  case atStart => exact ⟨0, by omega, rfl, fun j hj => absurd hj (Nat.not_lt_zero _), Aft.refl _⟩
  case round =>
    obtain ⟨i, hi, rfl, hsm, hA⟩ := hrel
    have HA := Lib.hid hA
    have HSm := Lib.hid hsm
    clear hA hsm
    by_cases hlt : i < xs.length
    · have hlt' : (i : Int) < (xs.length : Nat) := by omega
      have hylt : i < ys.length := by rw [← HLn.out]; exact hlt
      obtain ⟨b1, o1, rfl, -, -⟩ := (HX.out _ HA.out).some_of (by rw [zv_length]; omega)
      obtain ⟨b2, o2, rfl, -, -⟩ := (HY.out _ HA.out).some_of (by rw [zv_length]; omega)
      have cx := fun u : Later wr.heap.size wr => (HX.out _ (Aft.trans HA.out u.h)).num_at hlt
      have hy0 := HY.out
      have cy := fun u : Later wr.heap.size wr => (hy0 _ (Aft.trans HA.out u.h)).num_at hylt
      have HXe := Lib.hid (show xs[i]? = some (xs.getD i 0) by rw [List.getD_eq_getElem?_getD, List.getElem?_eq_getElem hlt]; rfl)
      have HYe := Lib.hid (show ys[i]? = some (ys.getD i 0) by rw [List.getD_eq_getElem?_getD, List.getElem?_eq_getElem hylt]; rfl)
      generalize xs.getD i 0 = x at *
      generalize ys.getD i 0 = y at *
      clear hylt hy0
      have HDr := Lib.hid (Aft.trans HA.out (show Aft wr wr.drew from (Below.refl _ _).drew))
      by_cases hxy : x = y
      · subst hxy
        go_wp2_with (first | (refine wp_region_lex (fun wz => ∃ u : Later wr.heap.size wr, wz = u.w) (fun i => ([] : List Nat).contains i) 9 (by kernel_rfl) (by kernel_rfl) ⟨⟨wr.drew, (Below.refl _ _).drew⟩, rfl⟩ ?_))
        change wpLx _ _ _ _ _ _ _ _ _ wr.drew
        try simp only [Act.put]
        repeat (first | (refine lx_skipT (by go_big_quiet_skip; exact wpQuiet_nil trivial) (by kernel_rfl) ?_; simp only [Act.put, List.setIfInBounds_toArray, List.set_cons_succ, List.set_cons_zero]) | (refine lx_quietT rfl (by go_big_quiet_want; exact quiet_false (by assumption)) (by kernel_rfl) rfl ?_; intro Kx hKx; go_big_quiet_op; go_big_quiet_on))
        refine lx_done ?_
        go_wp2_with fail
        go_roundw
        case rel =>
          refine ⟨i + 1, by omega, by go_num, fun j hj => ?_, HDr.out⟩
          by_cases hji : j = i
          · subst hji
            rw [HXe.out, HYe.out]
          · exact HSm.out j (by omega)
        case measure => simp [intOf]; omega
      · have HR2 := Lib.hid (show bq = false by
          rw [HB.out]
          exact decide_eq_false (fun e => hxy (by have := HXe.out; rw [e, HYe.out] at this; exact (Option.some.inj this).symm)))
        have hxb : (x != y) = true := by simpa using hxy
        go_wp2_with (first | (refine wp_region_lex (fun wz => ∃ u : Later wr.heap.size wr, wz = u.w) (fun i => ([] : List Nat).contains i) 9 (by kernel_rfl) (by kernel_rfl) ⟨⟨wr.drew, (Below.refl _ _).drew⟩, rfl⟩ ?_))
        change wpLx _ _ _ _ _ _ _ _ _ wr.drew
        try simp only [Act.put]
        repeat (first | (refine lx_skipT (by go_big_quiet_skip; exact wpQuiet_nil trivial) (by kernel_rfl) ?_; simp only [Act.put, List.setIfInBounds_toArray, List.set_cons_succ, List.set_cons_zero]) | (refine lx_quietT rfl (by go_big_quiet_want; exact quiet_false (by assumption)) (by kernel_rfl) rfl ?_; intro Kx hKx; go_big_quiet_op; go_big_quiet_on))
        refine lx_done ?_
        go_wp2_with fail
        go_ret
        exact ⟨by rw [HR2.out]; rfl, HDr.out⟩
    · obtain rfl : i = xs.length := by omega
      have hlt' : ¬ ((xs.length : Nat) : Int) < (xs.length : Nat) := by omega
      have HR2 := Lib.hid (show bq = true by
        rw [HB.out, decide_eq_true_eq]
        exact List.ext_getElem? fun j => by
          by_cases hj : j < xs.length
          · exact HSm.out j hj
          · rw [List.getElem?_eq_none (by omega), List.getElem?_eq_none (by have := HLn.out; omega)])
      go_wp2_with fail
      go_ret
      exact ⟨by rw [HR2.out]; rfl, HA.out⟩
set_option maxRecDepth 100000 in
set_option maxHeartbeats 1000000 in
theorem sameInts_any (v u : Value) (xs ys : List Int) (w : World) (hx : Rd w v (zv xs)) (hy : Rd w u (zv ys)) (hl : xs.length ≤ 1048576) :
    Calls Tryd.prog 82 #[v, u] w fun e w' => e = .returned (.bool (decide (xs = ys))) ∧ Aft w w' := by
  obtain ⟨ao, cap, rfl, -, -⟩ := hx.numS
  obtain ⟨bo, dap, rfl, -, -⟩ := hy.numS
  have HX := Lib.hid (fun (wx : World) (ha : Aft w wx) => hx.grow ha)
  have HY := Lib.hid (fun (wx : World) (ha : Aft w wx) => hy.grow ha)
  obtain ⟨bq, hbq⟩ : ∃ bq, bq = decide (xs = ys) := ⟨_, rfl⟩
  have HB := Lib.hid hbq
  rw [← hbq]
  clear hx hy hbq
  go_enter Tryd.func82, Tryd.ntmps82
  by_cases hlen : xs.length = ys.length
  rotate_left
  · have HR := Lib.hid (show bq = false by rw [HB.out]; exact decide_eq_false (fun q => hlen (by rw [q])))
    rw [HR.out]
    have hlen' : ¬ ((xs.length : Nat) : Int) = (ys.length : Nat) := by omega
    go_wp2_with fail
    go_ret
    exact ⟨rfl, Aft.refl _⟩
  have HLn := Lib.hid hlen
  rw [← hlen]
  clear hlen
  go_wp2_with fail
  go_loopw [13] (fun v13 wr => ∃ i : Nat, i ≤ xs.length ∧ v13 = .int .i64 (i : Int) ∧ (∀ j, j < i → xs[j]? = ys[j]?) ∧ Aft w wr) (fun v _ => xs.length - (intOf v).toNat)
  case atStart => exact ⟨0, by omega, rfl, fun j hj => absurd hj (Nat.not_lt_zero _), Aft.refl _⟩
  case round =>
    obtain ⟨i, hi, rfl, hsm, hA⟩ := hrel
    have HA := Lib.hid hA
    have HSm := Lib.hid hsm
    clear hA hsm
    by_cases hlt : i < xs.length
    · have hlt' : (i : Int) < (xs.length : Nat) := by omega
      have hylt : i < ys.length := by rw [← HLn.out]; exact hlt
      obtain ⟨b1, o1, rfl, -, -⟩ := (HX.out _ HA.out).some_of (by rw [zv_length]; omega)
      obtain ⟨b2, o2, rfl, -, -⟩ := (HY.out _ HA.out).some_of (by rw [zv_length]; omega)
      have cx := fun u : Later wr.heap.size wr => (HX.out _ (Aft.trans HA.out u.h)).num_at hlt
      have hy0 := HY.out
      have cy := fun u : Later wr.heap.size wr => (hy0 _ (Aft.trans HA.out u.h)).num_at hylt
      have HXe := Lib.hid (show xs[i]? = some (xs.getD i 0) by rw [List.getD_eq_getElem?_getD, List.getElem?_eq_getElem hlt]; rfl)
      have HYe := Lib.hid (show ys[i]? = some (ys.getD i 0) by rw [List.getD_eq_getElem?_getD, List.getElem?_eq_getElem hylt]; rfl)
      generalize xs.getD i 0 = x at *
      generalize ys.getD i 0 = y at *
      clear hylt hy0
      have HDr := Lib.hid (Aft.trans HA.out (show Aft wr wr.drew from (Below.refl _ _).drew))
      by_cases hxy : x = y
      · subst hxy
        go_wp2_with (first | (refine wp_region_lex (fun wz => ∃ u : Later wr.heap.size wr, wz = u.w) (fun i => ([] : List Nat).contains i) 9 (by kernel_rfl) (by kernel_rfl) ⟨⟨wr.drew, (Below.refl _ _).drew⟩, rfl⟩ ?_))
        change wpLx _ _ _ _ _ _ _ _ _ wr.drew
        try simp only [Act.put]
        repeat (first | (refine lx_skipT (by go_big_quiet_skip; exact wpQuiet_nil trivial) (by kernel_rfl) ?_; simp only [Act.put, List.setIfInBounds_toArray, List.set_cons_succ, List.set_cons_zero]) | (refine lx_quietT rfl (by go_big_quiet_want; exact quiet_false (by assumption)) (by kernel_rfl) rfl ?_; intro Kx hKx; go_big_quiet_op; go_big_quiet_on))
        refine lx_done ?_
        go_wp2_with fail
        go_roundw
        case rel =>
          refine ⟨i + 1, by omega, by go_num, fun j hj => ?_, HDr.out⟩
          by_cases hji : j = i
          · subst hji
            rw [HXe.out, HYe.out]
          · exact HSm.out j (by omega)
        case measure => simp [intOf]; omega
      · have HR2 := Lib.hid (show bq = false by
          rw [HB.out]
          exact decide_eq_false (fun e => hxy (by have := HXe.out; rw [e, HYe.out] at this; exact (Option.some.inj this).symm)))
        have hxb : (x != y) = true := by simpa using hxy
        go_wp2_with (first | (refine wp_region_lex (fun wz => ∃ u : Later wr.heap.size wr, wz = u.w) (fun i => ([] : List Nat).contains i) 9 (by kernel_rfl) (by kernel_rfl) ⟨⟨wr.drew, (Below.refl _ _).drew⟩, rfl⟩ ?_))
        change wpLx _ _ _ _ _ _ _ _ _ wr.drew
        try simp only [Act.put]
        repeat (first | (refine lx_skipT (by go_big_quiet_skip; exact wpQuiet_nil trivial) (by kernel_rfl) ?_; simp only [Act.put, List.setIfInBounds_toArray, List.set_cons_succ, List.set_cons_zero]) | (refine lx_quietT rfl (by go_big_quiet_want; exact quiet_false (by assumption)) (by kernel_rfl) rfl ?_; intro Kx hKx; go_big_quiet_op; go_big_quiet_on))
        refine lx_done ?_
        go_wp2_with fail
        go_ret
        exact ⟨by rw [HR2.out]; rfl, HDr.out⟩
    · obtain rfl : i = xs.length := by omega
      have hlt' : ¬ ((xs.length : Nat) : Int) < (xs.length : Nat) := by omega
      have HR2 := Lib.hid (show bq = true by
        rw [HB.out, decide_eq_true_eq]
        exact List.ext_getElem? fun j => by
          by_cases hj : j < xs.length
          · exact HSm.out j hj
          · rw [List.getElem?_eq_none (by omega), List.getElem?_eq_none (by have := HLn.out; omega)])
      go_wp2_with fail
      go_ret
      exact ⟨by rw [HR2.out]; rfl, HA.out⟩
end Go.Proofs.YtdbhlajajdlmfaaDoor
/- tree.Check. -/
namespace Go.Proofs.YtdbhlajajdlmfaaDoor
open Go Go.RowKit
set_option linter.unusedSimpArgs false
theorem rise_adj : ∀ {ids : List Int}, Rise ids ↔ ∀ i, i + 1 < ids.length → ids.getD i 0 < ids.getD (i + 1) 0
  | [] => ⟨fun _ i hi => absurd hi (Nat.not_lt_zero _), fun _ => List.Pairwise.nil⟩
  | [x] => ⟨fun _ i hi => by simp at hi, fun _ => List.pairwise_singleton _ _⟩
  | x :: y :: ids => by
    have ih := rise_adj (ids := y :: ids)
    constructor
    · intro h i hi
      have hp := List.pairwise_cons.1 h
      cases i with
      | zero => exact hp.1 y (by simp)
      | succ i => exact ih.1 hp.2 i (by simpa using hi)
    · intro h
      have h2 : Rise (y :: ids) := ih.2 fun i hi => by simpa using h (i + 1) (by simpa using hi)
      refine List.pairwise_cons.2 ⟨fun z hz => ?_, h2⟩
      have h0 : x < y := by simpa using h 0 (by simp)
      rcases List.mem_cons.1 hz with rfl | hz
      · exact h0
      · have := (List.pairwise_cons.1 h2).1 z hz
        omega
theorem any_odd (l : List Int) : l.any oddB = !(l.all two3) := by
  rw [List.not_all_eq_any_not]
  rfl
theorem any_far {ids : List Int} : ids.any farB = true ↔ ¬ ∀ x ∈ ids, 0 ≤ x ∧ x ≤ 1048576 := by
  rw [List.any_eq_true]
  constructor
  · rintro ⟨x, hx, hf⟩ q
    have := q x hx
    have := of_decide_eq_true hf
    omega
  · intro h
    apply Classical.byContradiction
    intro q
    refine h fun x hx => ?_
    have hf : ¬ farB x = true := fun hf => q ⟨x, hx, hf⟩
    have : ¬ (x < 0 ∨ 1048576 < x) := fun hc => hf (decide_eq_true hc)
    omega
theorem chk_bad {ids : List Int} {ls : List (List Int)} (h : ¬ OkT ids ls) : chkT ids ls = 1 := if_neg h
/-- Few enough to be looked at. -/
structure Small (ids : List Int) (ls : List (List Int)) : Prop where
  fi : ids.length ≤ 1048576
  fl : ls.length ≤ 1048576
  fv : ∀ l : List Int, l ∈ ls → l.length ≤ 1048576
theorem drop_cons {α : Type} (ls : List (List α)) (k : Nat) (h : k < ls.length) : ls.drop k = ls.getD k [] :: ls.drop (k + 1) := by
  rw [List.drop_eq_getElem_cons h, List.getD_eq_getElem?_getD, List.getElem?_eq_getElem h]
  rfl
theorem getD_mem {α : Type} {ls : List (List α)} {k : Nat} (h : k < ls.length) : ls.getD k [] ∈ ls := by
  rw [List.getD_eq_getElem?_getD, List.getElem?_eq_getElem h]
  exact List.getElem_mem h
set_option maxRecDepth 100000 in
set_option maxHeartbeats 2000000 in
theorem tcheck_any (vi vl : Value) (ids : List Int) (ls : List (List Int)) (w : World) (hi : Rd w vi (zv ids)) (hl : RdLs w vl ls) (hs : Small ids ls) :
    Calls Tryd.prog 28 #[.agg (shpL vi vl).toArray] w fun e w' => e = .returned (.int .i64 (chkT ids ls)) ∧ Aft w w' := by
  obtain ⟨ao, cap, rfl, -, -⟩ := hi.numS
  obtain ⟨bo, dap, rfl, -⟩ := hl.shape
  have HI := Lib.hid (fun (wx : World) (hx : Aft w wx) => hi.grow hx)
  have HV := Lib.hid (fun (wx : World) (hx : Aft w wx) => hl.aft hx)
  have HS := Lib.hid hs
  have HF := Lib.hid (fun (wx : World) (hx : Aft w wx) => containsFar_any _ ids wx (hi.grow hx) hs.fi)
  have HL := Lib.hid (Led.start w)
  clear hi hl hs
  go_enter Tryd.func28, Tryd.ntmps28
  by_cases h1 : (1000 : Int) < (ids.length : Nat)
  · have HR := Lib.hid (show chkT ids ls = 1 from chk_bad fun q => by have := q.1.1; omega)
    rw [HR.out]
    go_wp2_with (first | (refine wpList_boxO rfl 25 (.tmp 0) rfl (.agg (shpL (.slice ao ids.length cap) (.slice bo ls.length dap)).toArray) rfl (.cells (shpL (.slice ao ids.length cap) (.slice bo ls.length dap)).toArray 25) (box_shp _) ?_; intro w' aa gg zz; replace HL := Lib.hid (HL.out.alloc aa gg.out); clear aa gg zz; try simp only [List.nil_append, List.cons_append, List.set_cons_zero, List.set_cons_succ] at HL; have hi0 := shp_i (HL.out.get 0 rfl)))
    go_ret
    exact ⟨rfl, HL.out.aft⟩
  go_wp2_with (first | (refine wpList_boxO rfl 25 (.tmp 0) rfl (.agg (shpL (.slice ao ids.length cap) (.slice bo ls.length dap)).toArray) rfl (.cells (shpL (.slice ao ids.length cap) (.slice bo ls.length dap)).toArray 25) (box_shp _) ?_; intro w' aa gg zz; replace HL := Lib.hid (HL.out.alloc aa gg.out); clear aa gg zz; try simp only [List.nil_append, List.cons_append, List.set_cons_zero, List.set_cons_succ] at HL; have hi0 := shp_i (HL.out.get 0 rfl)))
  refine (HF.out _ HL.out.aft).mono ?_
  rintro e w2 ⟨rfl, rfl⟩
  by_cases h2 : ids.any farB = true
  · have HR := Lib.hid (show chkT ids ls = 1 from chk_bad fun q => any_far.1 h2 q.1.2.1)
    rw [h2]
    go_wp2_with fail
    go_ret
    exact ⟨by rw [HR.out]; rfl, HL.out.aft⟩
  have hfar := Lib.hid (show ∀ x ∈ ids, 0 ≤ x ∧ x ≤ 1048576 from Classical.byContradiction fun q => h2 (any_far.2 q))
  rw [show ids.any farB = false by simpa using h2]
  have HLen := Lib.hid (show ids.length ≤ 1000 by omega)
  clear h2 HF
  go_wp2_with fail
  clear hi0
  go_loopw [21] (fun v21 wr => ∃ i : Nat, i ≤ ids.length ∧ v21 = .int .i64 (i : Int) ∧ (∀ j, j + 1 < i → ids.getD j 0 < ids.getD (j + 1) 0) ∧ Led w wr [(w.heap.size, .cells (shpL (.slice ao ids.length cap) (.slice bo ls.length dap)).toArray 25)]) (fun v _ => ids.length - (intOf v).toNat)
  case atStart => exact ⟨0, by omega, rfl, fun j hj => absurd hj (Nat.not_lt_zero _), HL.out⟩
  case round =>
    clear HL
    obtain ⟨i, hi, rfl, hrs, hL⟩ := hrel
    have HL := Lib.hid hL
    have HRs := Lib.hid hrs
    clear hL hrs
    by_cases hlt : i < ids.length
    · have hlt' : (i : Int) < (ids.length : Nat) := by omega
      have hi0 := fun u : Later wr.heap.size wr => shp_i (Aft.get u.h (HL.out.get 0 rfl))
      have HDr := Lib.hid (show Aft wr wr.drew from (Below.refl _ _).drew)
      by_cases h0 : i = 0
      · subst h0
        go_wp2_with (first | (refine wp_region_lex (fun wz => ∃ u : Later wr.heap.size wr, wz = u.w) (fun i => ([] : List Nat).contains i) 16 (by kernel_rfl) (by kernel_rfl) ⟨⟨wr.drew, (Below.refl _ _).drew⟩, rfl⟩ ?_))
        change wpLx _ _ _ _ _ _ _ _ _ wr.drew
        try simp only [Act.put]
        repeat (first | (refine lx_skipT (by go_big_quiet_skip; exact wpQuiet_nil trivial) (by kernel_rfl) ?_; simp only [Act.put, List.setIfInBounds_toArray, List.set_cons_succ, List.set_cons_zero]) | (refine lx_quietT rfl (by go_big_quiet_want; exact quiet_false (by assumption)) (by kernel_rfl) rfl ?_; intro Kx hKx; go_big_quiet_op; go_big_quiet_on))
        refine lx_done ?_
        clear hi0
        replace HL := Lib.hid (HL.out.call HDr.out)
        go_wp2_with fail
        go_roundw
        case rel => exact ⟨1, by omega, by go_num, fun j hj => by omega, HL.out⟩
        case measure => simp [intOf]; omega
      · obtain ⟨m, rfl⟩ : ∃ m, i = m + 1 := ⟨i - 1, by omega⟩
        obtain ⟨b, o, rfl, -, -⟩ := (HI.out _ HL.out.aft).some_of (by rw [zv_length]; omega)
        have hrd := HI.out
        have c0 := fun u : Later wr.heap.size wr => (hrd _ (Aft.trans HL.out.aft u.h)).num_at (i := m) (by omega)
        have c1 := fun u : Later wr.heap.size wr => (hrd _ (Aft.trans HL.out.aft u.h)).num_at hlt
        have hm0 : (0 : Int) < ((m + 1 : Nat) : Int) := by omega
        have hmd : decide (0 < m + 1) = true := decide_eq_true (by omega)
        have hmw : wrap64 (((m + 1 : Nat) : Int) - 1) = (m : Int) := by unfold wrap64; omega
        have hml : (m : Int) < (ids.length : Nat) := by omega
        have HQ := Lib.hid (show ids.getD m 0 < ids.getD (m + 1) 0 → ∀ j, j + 1 < m + 1 + 1 → ids.getD j 0 < ids.getD (j + 1) 0 from fun q j hj => by
          by_cases e : j = m
          · subst e; exact q
          · exact HRs.out j (by omega))
        have HN := Lib.hid (show ¬ ids.getD m 0 < ids.getD (m + 1) 0 → chkT ids ls = 1 from fun q => chk_bad fun z => q (rise_adj.1 z.1.2.2 m hlt))
        generalize ids.getD m 0 = x at *
        generalize ids.getD (m + 1) 0 = y at *
        clear hrd
        by_cases hxy : y ≤ x
        · have HR := Lib.hid (HN.out (by omega))
          have hyd : decide (y ≤ x) = true := decide_eq_true hxy
          go_wp2_with (first | (refine wp_region_lex (fun wz => ∃ u : Later wr.heap.size wr, wz = u.w) (fun i => ([] : List Nat).contains i) 16 (by kernel_rfl) (by kernel_rfl) ⟨⟨wr.drew, (Below.refl _ _).drew⟩, rfl⟩ ?_))
          change wpLx _ _ _ _ _ _ _ _ _ wr.drew
          try simp only [Act.put]
          repeat (first | (refine lx_skipT (by go_big_quiet_skip; exact wpQuiet_nil trivial) (by kernel_rfl) ?_; simp only [Act.put, List.setIfInBounds_toArray, List.set_cons_succ, List.set_cons_zero]) | (refine lx_quietT rfl (by go_big_quiet_want; exact quiet_false (by assumption)) (by kernel_rfl) rfl ?_; intro Kx hKx; go_big_quiet_op; go_big_quiet_on))
          refine lx_done ?_
          clear hi0 c0 c1
          replace HL := Lib.hid (HL.out.call HDr.out)
          go_wp2_with fail
          go_ret
          exact ⟨by rw [HR.out]; rfl, HL.out.aft⟩
        · have HR := Lib.hid (HQ.out (by omega))
          have hyd : decide (y ≤ x) = false := decide_eq_false hxy
          go_wp2_with (first | (refine wp_region_lex (fun wz => ∃ u : Later wr.heap.size wr, wz = u.w) (fun i => ([] : List Nat).contains i) 16 (by kernel_rfl) (by kernel_rfl) ⟨⟨wr.drew, (Below.refl _ _).drew⟩, rfl⟩ ?_))
          change wpLx _ _ _ _ _ _ _ _ _ wr.drew
          try simp only [Act.put]
          repeat (first | (refine lx_skipT (by go_big_quiet_skip; exact wpQuiet_nil trivial) (by kernel_rfl) ?_; simp only [Act.put, List.setIfInBounds_toArray, List.set_cons_succ, List.set_cons_zero]) | (refine lx_quietT rfl (by go_big_quiet_want; exact quiet_false (by assumption)) (by kernel_rfl) rfl ?_; intro Kx hKx; go_big_quiet_op; go_big_quiet_on))
          refine lx_done ?_
          clear hi0 c0 c1
          replace HL := Lib.hid (HL.out.call HDr.out)
          go_wp2_with fail
          go_roundw
          case rel => exact ⟨m + 1 + 1, by omega, by go_num, HR.out, HL.out⟩
          case measure => simp [intOf]; omega
    · obtain rfl : i = ids.length := by omega
      have hlt' : ¬ ((ids.length : Nat) : Int) < (ids.length : Nat) := by omega
      have HOk := Lib.hid (show okIds ids from ⟨HLen.out, hfar.out, rise_adj.2 fun j hj => HRs.out j hj⟩)
      have hi0 := shp_i (HL.out.get 0 rfl)
      have hl0 := shp_l (HL.out.get 0 rfl)
      have HRc := Lib.hid (show okLv (ids.length : Int) ls = false → chkT ids ls = 1 from fun q => chk_bad fun z => by have := z.2; rw [q] at this; cases this)
      have HRg := Lib.hid (show okLv (ids.length : Int) ls = true → chkT ids ls = 0 from fun q => chkT_zero.2 ⟨HOk.out, q⟩)
      have hn0 := HLen.out
      clear HRs hlt
      go_wp2_with fail
      clear hi0 hl0
      go_loopw [5, 47] (fun v5 v47 wr => ∃ k m : Nat, k ≤ ls.length ∧ v47 = .int .i64 (k : Int) ∧ v5 = .int .i64 (m : Int) ∧ okLv (ids.length : Int) ls = okLv (m : Int) (ls.drop k) ∧ m ≤ 1048576 ∧ Led w wr [(w.heap.size, .cells (shpL (.slice ao ids.length cap) (.slice bo ls.length dap)).toArray 25)]) (fun _ v _ => ls.length - (intOf v).toNat)
      case atStart => exact ⟨0, ids.length, by omega, rfl, rfl, by rw [List.drop_zero], by omega, HL.out⟩
      case round =>
        clear HL
        obtain ⟨k, m, hk, rfl, rfl, hok, hm, hL⟩ := hrel
        have HL := Lib.hid hL
        have HOkl := Lib.hid hok
        clear hL hok
        by_cases hlt : k < ls.length
        · have hlt' : (k : Int) < (ls.length : Nat) := by omega
          obtain ⟨g, o, cap', u, he, hc, hr⟩ := (HV.out _ HL.out.aft).cell hlt
          cases he
          have hcell := hc _ (Aft.refl _)
          have HStep := Lib.hid (show okLv (m : Int) (ls.drop k) = (decide (2 ≤ (m : Int)) && (ls.getD k []).all two3 && decide ((ls.getD k []).sum = (m : Int)) && okLv ((ls.getD k []).length : Int) (ls.drop (k + 1))) by rw [drop_cons ls k hlt]; rfl)
          have HLl := Lib.hid (HS.out.fv _ (getD_mem hlt))
          generalize ls.getD k [] = l at *
          obtain ⟨au, cu, rfl, -, -⟩ := hr.numS
          have HC := Lib.hid (containsOdd_any _ l wr hr HLl.out)
          have HSm := Lib.hid (fun q => tsum_any _ l wr hr q HLl.out)
          clear hc hr
          by_cases hm2 : m < 2
          · have HR := Lib.hid (show chkT ids ls = 1 from HRc.out (by rw [HOkl.out, HStep.out, decide_eq_false (by omega)]; rfl))
            have hm2' : (m : Int) < 2 := by omega
            go_wp2_with fail
            go_ret
            exact ⟨by rw [HR.out]; rfl, HL.out.aft⟩
          have hm2' : ¬ (m : Int) < 2 := by omega
          go_wp2_with fail
          refine HC.out.mono ?_
          rintro e w2 ⟨rfl, rfl⟩
          by_cases hodd : l.any oddB = true
          · have HR := Lib.hid (show chkT ids ls = 1 from HRc.out (by rw [any_odd] at hodd; rw [HOkl.out, HStep.out, show l.all two3 = false by simpa using hodd, Bool.and_false]; rfl))
            rw [hodd]
            go_wp2_with fail
            go_ret
            exact ⟨by rw [HR.out]; rfl, HL.out.aft⟩
          have hall := Lib.hid (show l.all two3 = true by rw [any_odd] at hodd; simpa using hodd)
          have HSm2 := Lib.hid (HSm.out (fun x hx => two3_iff.1 (List.all_eq_true.1 hall.out x hx)))
          rw [show l.any oddB = false by simpa using hodd]
          clear hodd HSm HC
          go_wp2_with fail
          refine HSm2.out.mono ?_
          rintro e w3 ⟨rfl, rfl⟩
          by_cases hsm : l.sum = (m : Int)
          · have HNx := Lib.hid (show okLv (ids.length : Int) ls = okLv (l.length : Int) (ls.drop (k + 1)) by rw [HOkl.out, HStep.out, hall.out, decide_eq_true hsm, decide_eq_true (by omega)]; rfl)
            have hll := HLl.out
            have hfl := HS.out.fl
            rw [hsm]
            clear hsm
            go_wp2_with fail
            go_roundw
            case rel => exact ⟨k + 1, l.length, by omega, by go_num, rfl, HNx.out, by omega, HL.out⟩
            case measure => simp [intOf]; omega
          · have HR := Lib.hid (show chkT ids ls = 1 from HRc.out (by rw [HOkl.out, HStep.out, decide_eq_false hsm, Bool.and_false]; rfl))
            go_wp2_with fail
            go_ret
            exact ⟨by rw [HR.out]; rfl, HL.out.aft⟩
        · obtain rfl : k = ls.length := by omega
          have hlt' : ¬ ((ls.length : Nat) : Int) < (ls.length : Nat) := by omega
          have HE := Lib.hid (show okLv (ids.length : Int) ls = decide ((m : Int) ≤ 1) by rw [HOkl.out, List.drop_length]; rfl)
          by_cases hm1 : (1 : Int) < (m : Int)
          · have HR := Lib.hid (show chkT ids ls = 1 from HRc.out (by rw [HE.out, decide_eq_false (by omega)]))
            go_wp2_with fail
            go_ret
            exact ⟨by rw [HR.out]; rfl, HL.out.aft⟩
          · have HR := Lib.hid (show chkT ids ls = 0 from HRg.out (by rw [HE.out, decide_eq_true (by omega)]))
            go_wp2_with fail
            go_ret
            exact ⟨by rw [HR.out]; rfl, HL.out.aft⟩
end Go.Proofs.YtdbhlajajdlmfaaDoor
/- slices.Insert of one number into a slice of one's own. -/
namespace Go.Proofs.YtdbhlajajdlmfaaDoor
open Go Go.RowKit Go.Shelf
theorem info_int : (Tryd.prog.info? 3).map (fun i => (i.zero, i.size, i.bytes)) = some (some (.int .i64 0), 1, 8) := by kernel_rfl
theorem size_int : (Tryd.prog.info? 3).map (·.size) = some 1 := by kernel_rfl
/-- With one more at a place. -/
def putI (xs : List Int) (i : Nat) (x : Int) : List Int := xs.take i ++ x :: xs.drop i
theorem putI_length {xs : List Int} {i : Nat} (x : Int) (_h : i ≤ xs.length) : (putI xs i x).length = xs.length + 1 := by
  have := congrArg List.length (List.take_append_drop i xs)
  rw [List.length_append] at this
  unfold putI
  rw [List.length_append, List.length_cons]
  omega
/-- What an insertion leaves. -/
def PutSays (v : Value) (xs : List Int) (i : Nat) (x : Int) (base : Nat) (w : World) (e : Ending) (w' : World) : Prop :=
  ∃ v', e = .returned v' ∧ OwnI w' base v' (putI xs i x) ∧ Fr (fun b => v.ownBlock = some b) w w' ∧ ∀ g, v'.ownBlock = some g → v.ownBlock = some g ∨ w.heap.size ≤ g
theorem shape_of {w : World} {g t : Nat} {cs : Array Value} {fr : Nat × Nat} (h : w.heap[g]? = some (.cells cs t fr)) : w.shape? g = some (t, cs.size) := by
  simp [World.shape?, h]
theorem frozen_of {w : World} {g t k : Nat} {cs : Array Value} (h : w.heap[g]? = some (.cells cs t (0, 0))) : w.frozen? ⟨g, k, none⟩ = false := by
  simp [World.frozen?, h]
/-- What stands in a row behind an insertion. -/
theorem row_put {w w' : World} {base g cap : Nat} {xs : List Int} {i : Nat} {x : Int} {rest : List Value} (hi : i ≤ xs.length) (hb : base ≤ g) (hm : cap ≤ maxLen) (hr : xs.length + 1 + rest.length = cap) (h : w'.heap[g]? = some (.cells (zv (putI xs i x) ++ rest).toArray 3 (0, 0))) :
    OwnI w' base (.slice (some ⟨g, 0, none⟩) (xs.length + 1) cap) (putI xs i x) := by
  have _ := w
  have hl := putI_length x hi
  unfold OwnI
  rw [hl]
  refine ⟨by rw [zv_length, hl]; omega, .inr ⟨g, cap, _, rfl, hb, h, by omega, hm, ?_, ?_⟩⟩
  · rw [List.size_toArray, List.length_append, zv_length, hl]
    omega
  · show List.take ((xs.length + 1) * 1) (zv (putI xs i x) ++ rest) = _
    exact List.take_left' (by rw [zv_length, hl]; omega)
theorem zeros_int (k : Nat) : (Builtin.zeroCells (Value.int .i64 0).cells k).toList = List.replicate k (.int .i64 0) := by
  have e : (Value.int .i64 0).cells = #[.int .i64 0] := rfl
  rw [e]
  unfold Builtin.zeroCells
  rw [Array.toList_map, Array.toList_range]
  refine List.ext_getElem? fun j => ?_
  rw [List.getElem?_map, List.getElem?_replicate]
  simp only [List.size_toArray, List.length_cons, List.length_nil, Nat.zero_add, Nat.mul_one]
  by_cases hj : j < k
  · rw [List.getElem?_range hj, if_pos hj, Option.map_some, Nat.mod_one]
    rfl
  · rw [List.getElem?_eq_none (by simpa using hj), if_neg hj]
    rfl
end Go.Proofs.YtdbhlajajdlmfaaDoor
/- slices.Clone over numbers and over lists of numbers; tree.own. -/
namespace Go.Proofs.YtdbhlajajdlmfaaDoor
open Go Go.RowKit
set_option linter.unusedSimpArgs false
theorem info_ints : (Tryd.prog.info? 22).map (fun i => (i.zero, i.size, i.bytes)) = some (some (.slice none 0 0), 1, 24) := by kernel_rfl
/-- One cell of a row of slices turned. -/
theorem wpList_store_row1 {ops : Array Oper} {rest : List Oper} {o : Oper} {a : Act} {w : World} {Q : Exit → Act → World → Prop} (hgd : o.guard = none) (ty : TypeId) (hty : (Tryd.prog.info? ty).map (·.size) = some 1) (x y : Operand) (ho : o.op = .store ty x y) (base g n cap : Nat) (vs : List Value) (i : Nat) (hi : i < vs.length) (u : Value) (hu : u.oneCell' = true) (hc : u.cells = #[u])
    (hown : w.ownsRow base ty 1 (.slice (some ⟨g, 0, none⟩) n cap) vs.length vs) (hx : a.eval x = .pointer (some ⟨g, i, none⟩)) (hy : a.eval y = u)
    (h : ∀ w', w'.ownsRow base ty 1 (.slice (some ⟨g, 0, none⟩) n cap) (vs.set i u).length (vs.set i u) → Hid (∀ k, k ≠ g → w'.heap[k]? = w.heap[k]?) → (∀ k w0, k ≤ g → Below k w0 w → Below k w0 w') → wpList Tryd.prog ops Q rest (a.put o.dst undef) w') : wpList Tryd.prog ops Q (o :: rest) a w := by
  rcases hown.2 with ⟨he, -⟩ | ⟨g', cap', cur, he, hb, hg, h1, h2, h3, h4⟩
  · cases he
  cases he
  rw [Nat.mul_one] at h4
  have hcl : cur.toList.length = cap := by rw [Array.length_toList, h3, Nat.mul_one]
  have hic : i < cur.toList.length := by omega
  have e0 : cur.toList = cur.toList.take i ++ ([cur.toList[i]] ++ cur.toList.drop (i + 1)) := by
    have := List.take_append_drop i cur.toList
    rw [List.drop_eq_getElem_cons hic] at this
    exact this.symm
  have hg' : w.heap[g]? = some (.cells (cur.toList.take i ++ ([cur.toList[i]] ++ cur.toList.drop (i + 1))).toArray ty (0, 0)) := by rw [← e0]; exact hg
  refine wpList_store_part hgd _ x y ho g i u hx hy _ (cur.toList.take i) [cur.toList[i]] [u] (cur.toList.drop (i + 1)) hc (by rw [List.length_take]; omega) hg' hty rfl (fun z hz => by simp at hz; subst hz; exact hu) ?_
  intro w' b1 b2 b3
  have e1 : cur.toList.take i ++ ([u] ++ cur.toList.drop (i + 1)) = cur.toList.set i u := by
    rw [List.set_eq_take_append_cons_drop, if_pos hic]
    rfl
  have hb1 := b1.out
  rw [e1] at hb1
  refine h w' ⟨by rw [List.length_set, Nat.mul_one], .inr ⟨g, cap, _, by rw [List.length_set], hb, hb1, by rw [List.length_set]; exact h1, h2, ?_, ?_⟩⟩ b2 b3
  · rw [List.size_toArray, List.length_set, hcl, Nat.mul_one]
  · rw [List.length_set, Nat.mul_one]
    show (cur.toList.set i u).take vs.length = vs.set i u
    rw [List.take_set, h4]
end Go.Proofs.YtdbhlajajdlmfaaDoor
/- tree.own. -/
namespace Go.Proofs.YtdbhlajajdlmfaaDoor
open Go Go.RowKit
set_option linter.unusedSimpArgs false
section
variable {ops : Array Oper} {rest : List Oper} {o : Oper} {a : Act} {w : World} {Q : Exit → Act → World → Prop} (hgd : o.guard = none) (x y : Operand) (g : Nat) (u v u' : Value) (hc : u'.cells = #[u']) (h1 : u'.oneCell' = true)
include hgd hc h1
theorem wpList_store_shpI (ho : o.op = .store 22 x y) (hx : a.eval x = .pointer (some ⟨g, 0, none⟩)) (hy : a.eval y = u') (hg : w.heap[g]? = some (.cells (shpL u v).toArray 25 (0, 0)))
    (h : ∀ w', Hid (w'.heap[g]? = some (.cells (shpL u' v).toArray 25 (0, 0))) → Hid (∀ k, k ≠ g → w'.heap[k]? = w.heap[k]?) → (∀ k w0, k ≤ g → Below k w0 w → Below k w0 w') → wpList Tryd.prog ops Q rest (a.put o.dst undef) w') : wpList Tryd.prog ops Q (o :: rest) a w :=
  wpList_store_part hgd _ x y ho g 0 u' hx hy _ [] [u] [u'] [v] hc rfl hg (by kernel_rfl) rfl (fun z hz => by simp at hz; subst hz; exact h1) h
theorem wpList_store_shpV (ho : o.op = .store 23 x y) (hx : a.eval x = .pointer (some ⟨g, 1, none⟩)) (hy : a.eval y = u') (hg : w.heap[g]? = some (.cells (shpL u v).toArray 25 (0, 0)))
    (h : ∀ w', Hid (w'.heap[g]? = some (.cells (shpL u u').toArray 25 (0, 0))) → Hid (∀ k, k ≠ g → w'.heap[k]? = w.heap[k]?) → (∀ k w0, k ≤ g → Below k w0 w → Below k w0 w') → wpList Tryd.prog ops Q rest (a.put o.dst undef) w') : wpList Tryd.prog ops Q (o :: rest) a w :=
  wpList_store_part hgd _ x y ho g 1 u' hx hy _ [u] [v] [u'] [] hc rfl hg (by kernel_rfl) rfl (fun z hz => by simp at hz; subst hz; exact h1) h
end
theorem shp_one {a b : Value} (ha : a.oneCell' = true) (hb : b.oneCell' = true) : ∀ u ∈ shpL a b, u.oneCell' = true := by
  intro u hu
  simp only [shpL, List.mem_cons, List.not_mem_nil, or_false] at hu
  rcases hu with rfl | rfl
  · exact ha
  · exact hb
theorem wpList_store_shp {ops : Array Oper} {rest : List Oper} {o : Oper} {a : Act} {w : World} {Q : Exit → Act → World → Prop} (hgd : o.guard = none) (x y : Operand) (g : Nat) (u v u' v' : Value) (h1 : u'.oneCell' = true) (h2 : v'.oneCell' = true) (ho : o.op = .store 25 x y) (hx : a.eval x = .pointer (some ⟨g, 0, none⟩)) (hy : a.eval y = .agg (shpL u' v').toArray) (hg : w.heap[g]? = some (.cells (shpL u v).toArray 25 (0, 0)))
    (h : ∀ w', Hid (w'.heap[g]? = some (.cells (shpL u' v').toArray 25 (0, 0))) → Hid (∀ k, k ≠ g → w'.heap[k]? = w.heap[k]?) → (∀ k w0, k ≤ g → Below k w0 w → Below k w0 w') → wpList Tryd.prog ops Q rest (a.put o.dst undef) w') : wpList Tryd.prog ops Q (o :: rest) a w :=
  wpList_store_rowZ hgd _ x y ho g (shpL u' v').toArray hx hy _ _ hg (shp_info _ _) rfl (all_one (shp_one h1 h2)) h
/-- A block of another type was turned. -/
theorem Led.elseT {w0 w w' : World} {L : List (Nat × Obj)} {g t : Nat} {cs : Array Value} {fr : Nat × Nat} (h : Led w0 w L) (hg : w.heap[g]? = some (.cells cs t fr)) (hl : w0.heap.size ≤ g) (hb : ∀ k, k ≠ g → w'.heap[k]? = w.heap[k]?) (h3 : ∀ k w0, k ≤ g → Below k w0 w → Below k w0 w')
    (ht : ∀ p ∈ L, ∀ cs' t' fr', p.2 = Obj.cells cs' t' fr' → t' ≠ t) : Led w0 w' L :=
  ⟨h3 _ _ hl h.aft, fun i k o hi => ⟨(hb k (fun e => by
    subst e
    have h1 := h.get i hi
    rw [hg] at h1
    exact ht _ (List.mem_of_getElem? hi) _ _ _ (Option.some.inj h1).symm rfl)).trans (h.get i hi), (h.has i k o hi).2⟩, h.inc⟩
theorem own_row_blk {w : World} {base e n : Nat} {v : Value} {xs : List Value} (h : w.ownsRow base e 1 v n xs) (hn : 0 < n) : ∃ g cap cur, v = .slice (some ⟨g, 0, none⟩) n cap ∧ base ≤ g ∧ w.heap[g]? = some (.cells cur e (0, 0)) := by
  rcases h.2 with ⟨-, h0⟩ | ⟨g, cap, cur, rfl, hb, hg, -⟩
  · omega
  · exact ⟨g, cap, cur, rfl, hb, hg⟩
/-- A block of another type is none of its own. -/
theorem own_off {w : World} {base e n g g' t : Nat} {v : Value} {xs : List Value} {cs : Array Value} {fr : Nat × Nat} (h : w.ownsRow base e 1 v n xs) (hg : w.heap[g]? = some (.cells cs t fr)) (ht : t ≠ e) (hv : v.ownBlock = some g') : g' ≠ g := by
  rcases h.2 with ⟨rfl, -⟩ | ⟨b, cap, cur, rfl, -, hb, -⟩
  · cases hv
  · cases hv
    rintro rfl
    have h1 : b = Addr.block ⟨b, 0, none⟩ := rfl
    rw [← h1] at hg
    rw [hb] at hg
    cases hg
    exact ht rfl
end Go.Proofs.YtdbhlajajdlmfaaDoor
/- A tree of one's own under stores and insertions: what stays. -/
namespace Go.Proofs.YtdbhlajajdlmfaaDoor
open Go Go.RowKit
set_option linter.unusedSimpArgs false
theorem OwnTr.nil (w : World) (base : Nat) : OwnTr w base (.slice none 0 0) (.slice none 0 0) [] [] [] :=
  ⟨OwnI.nil w base, ⟨World.ownsRow_nil w base _ 1, rfl, fun i u hu => by simp at hu, fun i j u u' g _ hu => by simp at hu⟩, fun i u g hu => by simp at hu⟩
theorem OwnTr.mono {w : World} {base base' : Nat} {vi vl : Value} {vs : List Value} {ids : List Int} {ls : List (List Int)} (h : OwnTr w base vi vl vs ids ls) (hb : base' ≤ base) : OwnTr w base' vi vl vs ids ls :=
  ⟨h.ids.mono hb, ⟨ownsRow_mono h.lv.row hb, h.lv.len, fun i u hu => (h.lv.own i u hu).mono hb, h.lv.dis⟩, h.dis⟩
/-- A block of another type was turned. -/
theorem OwnTr.stored {w w' : World} {base g t : Nat} {vi vl : Value} {vs : List Value} {ids : List Int} {ls : List (List Int)} {cs : Array Value} {fr : Nat × Nat} (h : OwnTr w base vi vl vs ids ls) (hg : w.heap[g]? = some (.cells cs t fr)) (h1 : t ≠ 3) (h2 : t ≠ 22) (hb : ∀ k, k ≠ g → w'.heap[k]? = w.heap[k]?) : OwnTr w' base vi vl vs ids ls :=
  ⟨h.ids.keep fun k hk => hb k (own_off h.ids hg h1 hk), ⟨ownsRow_below h.lv.row fun k hk => hb k (own_off h.lv.row hg h2 hk), h.lv.len, fun i u hu => (h.lv.own i u hu).keep fun k hk => hb k (own_off (h.lv.own i u hu) hg h1 hk), h.lv.dis⟩, h.dis⟩
theorem OwnTr.shape {w : World} {base : Nat} {vi vl : Value} {vs : List Value} {ids : List Int} {ls : List (List Int)} (h : OwnTr w base vi vl vs ids ls) : ∃ a c b d, vi = .slice a ids.length c ∧ vl = .slice b ls.length d := by
  obtain ⟨a, c, h1⟩ := h.ids.shape
  obtain ⟨b, d, h2⟩ := own_shape h.lv.row
  exact ⟨a, c, b, d, h1, by rw [h2, h.lv.len]⟩
/-- The members were turned. -/
theorem OwnTr.turnI {w w' : World} {base : Nat} {vi vi' vl : Value} {vs : List Value} {ids ids' : List Int} {ls : List (List Int)} (h : OwnTr w base vi vl vs ids ls) (hf : Fr (fun b => vi.ownBlock = some b) w w') (ho : OwnI w' base vi' ids') (hn : ∀ g, vi'.ownBlock = some g → vi.ownBlock = some g ∨ w.heap.size ≤ g) : OwnTr w' base vi' vl vs ids' ls := by
  refine ⟨ho, h.lv.keep hf (fun g hg e => h.lv.row_ne h.ids e hg) (fun i u g hu hg e => h.dis i u g hu hg e), fun i u g hu hg e => ?_⟩
  rcases hn g e with h1 | h1
  · exact h.dis i u g hu hg h1
  · have := ((h.lv.own i u hu).lt hg).2
    omega
/-- One cell of a level was turned. -/
theorem OwnTr.cell {w w' : World} {base : Nat} {vi vl : Value} {vs : List Value} {ids : List Int} {ls : List (List Int)} (h : OwnTr w base vi vl vs ids ls) {k : Nat} {u : Value} {l' : List Int} (hu : vs[k]? = some u) (hf : Fr (fun b => u.ownBlock = some b) w w') (ho : OwnI w' base u l') : OwnTr w' base vi vl vs ids (ls.set k l') := by
  have hset : vs.set k u = vs := by
    refine List.ext_getElem? fun j => ?_
    have hk : k < vs.length := (List.getElem?_eq_some_iff.1 hu).1
    by_cases e : k = j
    · subst e
      rw [List.getElem?_set_self hk, hu]
    · rw [List.getElem?_set_ne e]
  have hrow : w'.ownsRow base 22 1 vl (vs.set k u).length (vs.set k u) := by
    rw [hset]
    exact ownsRow_fr h.lv.row hf fun g hg e => h.lv.row_ne (h.lv.own k u hu) e hg
  have := h.turn hu hf ho (fun g hg => .inl hg) (Fr.refl _ w') hrow
  rwa [hset] at this
/-- No block of that type is on the ledger. -/
def ofT (t : TypeId) : Obj → Bool
  | .cells _ t' _ => t' == t
  | _ => false
def noT (t : TypeId) (L : List (Nat × Obj)) : Bool := L.all fun p => !ofT t p.2
theorem noT_at {t : TypeId} {L : List (Nat × Obj)} (h : noT t L = true) : ∀ p ∈ L, ∀ cs' t' fr', p.2 = Obj.cells cs' t' fr' → t' ≠ t := by
  intro p hp cs' t' fr' e q
  subst q
  have := List.all_eq_true.1 h p hp
  rw [e] at this
  simp [ofT] at this
/-- The ledger where a row of one's own was turned. -/
theorem Led.frO {w0 w w' : World} {L : List (Nat × Obj)} {base e n : Nat} {v : Value} {xs : List Value} (h : Led w0 w L) (ho : w.ownsRow base e 1 v n xs) (hb : w0.heap.size ≤ base) (hf : Fr (fun b => v.ownBlock = some b) w w') (ht : noT e L = true) : Led w0 w' L := by
  refine ⟨⟨hf.os.trans h.aft.os, hf.tape.trans h.aft.tape, hf.output.trans h.aft.output, Nat.le_trans h.aft.size hf.size, fun k hk => (hf.block k (Nat.lt_of_lt_of_le hk h.aft.size) fun q => ?_).trans (h.aft.block k hk)⟩, fun i k o hi => ⟨?_, (h.has i k o hi).2⟩, h.inc⟩
  · have := (own_lt ho q).1
    omega
  · have hk := h.get i hi
    refine (hf.block k (heap_lt hk) fun q => ?_).trans hk
    rcases ho.2 with ⟨rfl, -⟩ | ⟨g, cap, cur, rfl, -, hg, -⟩
    · cases q
    · cases q
      rw [show Addr.block ⟨g, 0, none⟩ = g from rfl] at hk
      rw [hg] at hk
      exact noT_at ht _ (List.mem_of_getElem? hi) _ _ _ (Option.some.inj hk).symm rfl
theorem fr_store {w w' : World} {g : Nat} {v : Value} (hv : v.ownBlock = some g) (hb : ∀ k, k ≠ g → w'.heap[k]? = w.heap[k]?) (h3 : ∀ k w0, k ≤ g → Below k w0 w → Below k w0 w') : Fr (fun b => v.ownBlock = some b) w w' :=
  have h := h3 g w (Nat.le_refl _) (Below.refl _ _)
  ⟨h.os, h.tape, h.output, h.size, fun k _ hn => hb k fun e => hn (by rw [e]; exact hv)⟩
/-- Later worlds in which only blocks of S may have turned. -/
structure LaterF (S : Nat → Prop) (w0 : World) where
  w : World
  h : Fr S w0 w
theorem run_intSlice (x : Int) (w : World) : (Instr.buildSlice 22 1 #[(0, .int .i64 x)]).run Tryd.prog w = .ok (.slice (some ⟨w.heap.size, 0, none⟩) 1 1) (w.alloc (.cells #[.int .i64 x] 3)) := by kernel_rfl
theorem wpList_intSlice {ops : Array Oper} {rest : List Oper} {o : Oper} {a : Act} {w : World} {Q : Exit → Act → World → Prop} (hw : Region.wanted o (yielded ops a.tmps) = true) (y : Operand) (x : Int) (ho : o.op = .buildSlice 22 1 #[(0, y)]) (hy : a.eval y = .int .i64 x)
    (h : ∀ w', Aft w w' → Hid (w'.heap[w.heap.size]? = some (.cells #[.int .i64 x] 3 (0, 0))) → wpList Tryd.prog ops Q rest (a.put o.dst (.slice (some ⟨w.heap.size, 0, none⟩) 1 1)) w') : wpList Tryd.prog ops Q (o :: rest) a w := by
  unfold wpList
  rw [if_pos hw]
  refine .inl (wp_noOut ?_)
  unfold Oper.wp execOp
  simp only [ho, hy, Sem.run_bind, List.map_toArray, List.map_cons, List.map_nil, run_intSlice x w, Result.andThen_ok, Sem.run_pure]
  exact h _ (Aft.alloc w _) (heap_alloc_new w _)
/-- A cell of a row of numbers turned. -/
theorem wpList_store_num {ops : Array Oper} {rest : List Oper} {o : Oper} {a : Act} {w : World} {Q : Exit → Act → World → Prop} (hgd : o.guard = none) (x y : Operand) (ho : o.op = .store 3 x y) (base g n cap : Nat) (l : List Int) (i : Nat) (hi : i < l.length) (z : Int)
    (hown : OwnI w base (.slice (some ⟨g, 0, none⟩) n cap) l) (hx : a.eval x = .pointer (some ⟨g, i, none⟩)) (hy : a.eval y = .int .i64 z)
    (h : ∀ w', OwnI w' base (.slice (some ⟨g, 0, none⟩) n cap) (l.set i z) → Fr (fun b => (Value.slice (some ⟨g, 0, none⟩) n cap).ownBlock = some b) w w' → wpList Tryd.prog ops Q rest (a.put o.dst undef) w') : wpList Tryd.prog ops Q (o :: rest) a w := by
  have hown2 : w.ownsRow base 3 1 (.slice (some ⟨g, 0, none⟩) n cap) (zv l).length (zv l) := by rw [zv_length]; exact hown
  refine wpList_store_row1 hgd 3 (by kernel_rfl) x y ho base g n cap (zv l) i (by rw [zv_length]; exact hi) (.int .i64 z) rfl rfl hown2 hx hy ?_
  intro w' q1 b2 b3
  rw [zv_set, zv_length] at q1
  exact h w' q1 (fr_store rfl b2.out b3)
end Go.Proofs.YtdbhlajajdlmfaaDoor
