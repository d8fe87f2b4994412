/- Turns that are taken in whatever order: no program in sight. -/
import Derived.Test.YtanodhagpegbfaaDoorRPure
namespace Go.Proofs.YtanodhagpegbfaaDoor
open Go Go.RowKit
theorem chn_add (C : List (BitVec 8)) (a : Nat) : ∀ b, chn (chn C a) b = chn C (a + b)
  | 0 => rfl
  | b + 1 => by
    show drvKey (chn (chn C a) b) chainS [] = drvKey (chn C (a + b)) chainS []
    rw [chn_add C a b]
theorem kyA_chn (C : List (BitVec 8)) (a b : Nat) : kyA (chn C a) b = kyA C (a + b) := by
  unfold kyA
  rw [chn_add]
def keyL (C : List (BitVec 8)) (n : Nat) : List (List (BitVec 8)) := (List.range n).map (kyA C)
theorem keyL_length (C : List (BitVec 8)) (n : Nat) : (keyL C n).length = n := by simp [keyL]
theorem keyL_succ (C : List (BitVec 8)) (n : Nat) : keyL C (n + 1) = keyL C n ++ [kyA C n] := by simp [keyL, List.range_succ]
theorem keyL_at (C : List (BitVec 8)) (n i : Nat) (h : i < n) : (keyL C n).getD i [] = kyA C i := by simp [keyL, List.getD_eq_getElem?_getD, h]
/-- The turns that were passed by, and not taken. -/
def lf (met : List Bool) (G : Nat) : List Nat := (List.range G).filter fun i => !(met.getD i false)
def lfZ (C : List (BitVec 8)) (met : List Bool) (G : Nat) : List Sk := (lf met G).map fun i => mkS i (kyA C i)
theorem lf_succ (met : List Bool) (G : Nat) : lf met (G + 1) = lf met G ++ (if met.getD G false then [] else [G]) := by
  unfold lf
  rw [List.range_succ, List.filter_append]
  congr 1
  rw [List.filter_cons]
  cases met.getD G false <;> rfl
theorem lf_lt {met : List Bool} {G i : Nat} (h : i ∈ lf met G) : i < G := by
  unfold lf at h
  exact List.mem_range.1 (List.mem_filter.1 h).1
theorem lf_mem {met : List Bool} {G i : Nat} : i ∈ lf met G ↔ i < G ∧ met.getD i false = false := by
  unfold lf
  rw [List.mem_filter, List.mem_range]
  simp
theorem lf_length (met : List Bool) (G : Nat) : (lf met G).length ≤ G := by
  unfold lf
  have := List.length_filter_le (fun i => !(met.getD i false)) (List.range G)
  simpa using this
theorem lf_nodup (met : List Bool) (G : Nat) : (lf met G).Nodup := List.nodup_range.filter _
theorem lfZ_length (C : List (BitVec 8)) (met : List Bool) (G : Nat) : (lfZ C met G).length = (lf met G).length := List.length_map ..
theorem okB_lf (C : List (BitVec 8)) (met : List Bool) : ∀ G, G < 18446744073709551616 → okB G (((lfZ C met G).map (·.1.1)).reverse) = true
  | 0, _ => rfl
  | G + 1, h => by
    have ih := okB_lf C met G (by omega)
    unfold lfZ at ih ⊢
    rw [lf_succ]
    cases met.getD G false with
    | true =>
      rw [if_pos rfl, List.append_nil]
      exact okB_mono _ _ _ (by omega) ih
    | false =>
      rw [if_neg (by decide), List.map_append, List.map_append, List.reverse_append]
      show okB (G + 1) ((mkS G (kyA C G)).1.1 :: (((lf met G).map fun i => mkS i (kyA C i)).map (·.1.1)).reverse) = true
      rw [mkS_val (by omega) (kyA_length C G), okB, ih, Bool.and_true]
      exact decide_eq_true (by omega)
theorem chk_lf (C : List (BitVec 8)) (met : List Bool) {G : Nat} (h : G ≤ 40) : chkE G (lfZ C met G) = 0 :=
  if_pos ⟨by omega, by rw [lfZ_length]; have := lf_length met G; omega, okB_lf C met G (by omega)⟩
theorem ah_lf (C : List (BitVec 8)) (met : List Bool) {G t : Nat} (h : G ≤ 40) (ht : t < 40) : ahE G (lfZ C met G) t = 0 := by
  have hl := lf_length met G
  unfold ahE
  rw [if_neg (fun q => q (chk_lf C met h))]
  by_cases hq : t < G
  · rw [if_pos hq]
  · rw [if_neg hq, if_neg (by omega), if_neg (by rw [lfZ_length]; omega)]
theorem find_none (C : List (BitVec 8)) (t : Nat) : ∀ l : List Nat, (∀ i ∈ l, i < 40) → t ∉ l → (l.map fun i => mkS i (kyA C i)).findIdx? (fun x => x.1.1 == t) = none
  | [], _, _ => rfl
  | a :: l, hl, ht => by
    rw [List.map_cons, List.findIdx?_cons, mkS_val (by have := hl a (by simp); omega) (kyA_length C a)]
    have hne : a ≠ t := fun e => ht (by simp [e])
    have hb : (a == t) = false := by simpa using hne
    rw [show (((a, kyA C a) : Nat × List (BitVec 8)).1 == t) = false from hb, find_none C t l (fun i hi => hl i (by simp [hi])) (fun h => ht (by simp [h]))]
    rfl
theorem find_some (C : List (BitVec 8)) (t : Nat) : ∀ l : List Nat, (∀ i ∈ l, i < 40) → l.Nodup → t ∈ l → ∃ k, (l.map fun i => mkS i (kyA C i)).findIdx? (fun x => x.1.1 == t) = some k ∧ (l.map fun i => mkS i (kyA C i))[k]? = some (mkS t (kyA C t)) ∧ (l.map fun i => mkS i (kyA C i)).eraseIdx k = (l.filter (fun i => !(i == t))).map fun i => mkS i (kyA C i)
  | [], _, _, ht => absurd ht (by simp)
  | a :: l, hl, hd, ht => by
    rw [List.map_cons, List.findIdx?_cons]
    have hv := mkS_val (g := a) (by have := hl a (by simp); omega) (kyA_length C a)
    by_cases e : a = t
    · subst e
      refine ⟨0, ?_, rfl, ?_⟩
      · rw [hv]
        simp
      · rw [List.eraseIdx_cons_zero, List.filter_cons]
        have hn : a ∉ l := (List.nodup_cons.1 hd).1
        rw [if_neg (by simp)]
        congr 1
        exact (List.filter_eq_self.2 fun i hi => by
          have : i ≠ a := fun e => hn (e ▸ hi)
          simpa using this).symm
    · obtain ⟨k, h1, h2, h3⟩ := find_some C t l (fun i hi => hl i (by simp [hi])) (List.nodup_cons.1 hd).2 (by rcases List.mem_cons.1 ht with h | h; exact absurd h.symm e; exact h)
      have hb : (a == t) = false := by simpa using e
      refine ⟨k + 1, ?_, ?_, ?_⟩
      · rw [hv, show (((a, kyA C a) : Nat × List (BitVec 8)).1 == t) = false from hb, h1]
        rfl
      · simpa using h2
      · rw [List.eraseIdx_cons_succ, h3, List.filter_cons, if_pos (by simp [hb])]
        rfl
theorem lf_set (met : List Bool) (G t : Nat) (h : t < met.length) : lf (met.set t true) G = (lf met G).filter (fun i => !(i == t)) := by
  unfold lf
  rw [List.filter_filter]
  refine List.filter_congr fun i _ => ?_
  by_cases e : i = t
  · subst e
    simp [List.getD_eq_getElem?_getD, List.getElem?_set_self h]
  · have : (i == t) = false := by simpa using e
    simp [List.getD_eq_getElem?_getD, List.getElem?_set_ne (Ne.symm e), this]
theorem once_met {C : List (BitVec 8)} {met : List Bool} {G t : Nat} (h : G ≤ 40) (hb : ∀ i, met.getD i false = true → i < G) (ht : t < 40) (hm : met.getD t false = true) : tkE G (lfZ C met G) t = 9 ∧ ∀ D, tkK D G (lfZ C met G) t = List.replicate 32 0 := by
  have hi : ixS t (lfZ C met G) = -1 := by
    have := find_none C t (lf met G) (fun i hi => by have := lf_lt hi; omega) (fun hx => by have := (lf_mem.1 hx).2; rw [hm] at this; cases this)
    unfold ixS lfZ
    rw [this]
  have he : tkE G (lfZ C met G) t = 9 := by
    unfold tkE
    rw [if_neg (fun q => q (ah_lf C met h ht)), if_pos ⟨hb t hm, by rw [hi]; decide⟩]
  refine ⟨he, fun D => ?_⟩
  unfold tkK
  rw [if_pos (by rw [he]; decide)]
  rfl
theorem once_new {C : List (BitVec 8)} {met : List Bool} {G t : Nat} (h : G ≤ 40) (hl : met.length = 40) (hb : ∀ i, met.getD i false = true → i < G) (ht : t < 40) (hm : met.getD t false = false) :
    tkE G (lfZ C met G) t = 0 ∧ tkK (chn C G) G (lfZ C met G) t = kyA C t ∧ tkC (chn C G) G (lfZ C met G) t = chn C (max G (t + 1)) ∧ tkG G (lfZ C met G) t = max G (t + 1) ∧ tkZ (chn C G) G (lfZ C met G) t = lfZ C (met.set t true) (max G (t + 1)) ∧ (∀ i, (met.set t true).getD i false = true → i < max G (t + 1)) := by
  have hb2 : ∀ i, (met.set t true).getD i false = true → i < max G (t + 1) := fun i hi => by
    by_cases e : i = t
    · omega
    · rw [List.getD_eq_getElem?_getD, List.getElem?_set_ne (Ne.symm e), ← List.getD_eq_getElem?_getD] at hi
      have := hb i hi
      omega
  have ha := ah_lf C met (t := t) h ht
  have hna : ¬ ahE G (lfZ C met G) t ≠ 0 := fun q => q ha
  by_cases hlt : t < G
  · obtain ⟨k, h1, h2, h3⟩ := find_some C t (lf met G) (fun i hi => by have := lf_lt hi; omega) (lf_nodup met G) (lf_mem.2 ⟨hlt, hm⟩)
    have hi : ixS t (lfZ C met G) = (k : Int) := by
      unfold ixS lfZ
      rw [h1]
    have hin : ixN t (lfZ C met G) = k := by unfold ixN; rw [hi, Int.toNat_natCast]
    have he : tkE G (lfZ C met G) t = 0 := by
      unfold tkE
      rw [if_neg hna, if_neg (by rw [hi]; omega)]
    have hne : ¬ tkE G (lfZ C met G) t ≠ 0 := fun q => q he
    have hmx : max G (t + 1) = G := by omega
    rw [hmx] at hb2 ⊢
    refine ⟨he, ?_, ?_, ?_, ?_, hb2⟩
    · unfold tkK
      rw [if_neg hne, if_pos hlt, hin]
      show (((lf met G).map fun i => mkS i (kyA C i))[k]?.getD default).1.2 = _
      rw [h2, Option.getD_some, mkS_val (by omega) (kyA_length C t)]
    · unfold tkC
      rw [if_neg hne, if_pos hlt]
    · unfold tkG
      rw [if_neg hne, if_pos hlt]
    · unfold tkZ
      rw [if_neg hne, if_pos hlt, hin]
      show ((lf met G).map fun i => mkS i (kyA C i)).eraseIdx k = _
      rw [h3]
      unfold lfZ
      rw [lf_set met G t (by omega)]
  · have he : tkE G (lfZ C met G) t = 0 := by
      unfold tkE
      rw [if_neg hna, if_neg (fun q => hlt q.1)]
    have hne : ¬ tkE G (lfZ C met G) t ≠ 0 := fun q => q he
    have hmx : max G (t + 1) = t + 1 := by omega
    obtain ⟨n, rfl⟩ := Nat.exists_eq_add_of_le (show G ≤ t by omega)
    rw [hmx] at hb2 ⊢
    refine ⟨he, ?_, ?_, ?_, ?_, hb2⟩
    · unfold tkK
      rw [if_neg hne, if_neg hlt, Nat.add_sub_cancel_left, kyA_chn]
    · unfold tkC
      rw [if_neg hne, if_neg hlt, Nat.add_sub_cancel_left, chn_add]
      rfl
    · unfold tkG
      rw [if_neg hne, if_neg hlt]
    · unfold tkZ
      rw [if_neg hne, if_neg hlt, Nat.add_sub_cancel_left]
      have hf : ∀ i, G ≤ i → met.getD i false = false := fun i hi => by
        cases hq : met.getD i false with
        | false => rfl
        | true => exact absurd (hb i hq) (by omega)
      have hp : ∀ m, lfZ C met G ++ pasZ (chn C G) G m = lfZ C met (G + m) := by
        intro m
        induction m with
        | zero => simp [pasZ]
        | succ m ih =>
          rw [pasZ_succ, ← List.append_assoc, ih, ← Nat.add_assoc]
          unfold lfZ
          rw [lf_succ, hf (G + m) (by omega), if_neg (by decide), List.map_append, kyA_chn]
          rfl
      rw [hp n]
      unfold lfZ
      rw [lf_set met _ _ (by omega), lf_succ, hf (G + n) (by omega), if_neg (by decide), List.filter_append]
      congr 1
      rw [List.filter_eq_self.2 fun i hi => ?_]
      · simp
      · have := lf_lt hi
        have : i ≠ G + n := by omega
        simpa using this
theorem lf_split {met : List Bool} {i : Nat} (h : met.getD i false = false) : ∀ G, i < G → ∃ r, lf met G = lf met i ++ i :: r
  | 0, hi => absurd hi (Nat.not_lt_zero _)
  | G + 1, hi => by
    by_cases e : i = G
    · subst e
      refine ⟨[], ?_⟩
      rw [lf_succ, h]
      rfl
    · obtain ⟨r, hr⟩ := lf_split h G (by omega)
      exact ⟨r ++ (if met.getD G false then [] else [G]), by rw [lf_succ, hr]; simp⟩
theorem lfZ_at {C : List (BitVec 8)} {met : List Bool} {i G : Nat} (h : met.getD i false = false) (hi : i < G) (hG : G ≤ 40) : (lf met i).length < (lfZ C met G).length ∧ ((lfZ C met G)[(lf met i).length]?.getD default).1 = (i, kyA C i) := by
  obtain ⟨r, hr⟩ := lf_split h G hi
  unfold lfZ
  rw [hr, List.map_append]
  refine ⟨by simp, ?_⟩
  rw [List.getElem?_append_right (by simp)]
  simp only [List.length_map, Nat.sub_self, List.map_cons, List.getElem?_cons_zero, Option.getD_some]
  exact mkS_val (by omega) (kyA_length C i)
end Go.Proofs.YtanodhagpegbfaaDoor
