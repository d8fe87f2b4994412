/- The plain law of PlanReaches. -/
import Derived.Test.YtfgammcefaomeaaP15
namespace Go.Proofs.Ytfgammcefaomeaa
open Go Go.RowKit
theorem cnt_not {w : Int} : ∀ {ks : List Int}, w ∉ ks → (ks.filter (fun z => z == w)).length = 0
  | [], _ => rfl
  | z :: ks, h => by
    have hz : ¬ z = w := fun e => h (by rw [e]; exact List.mem_cons_self ..)
    rw [List.filter_cons, if_neg (by simpa using hz)]
    exact cnt_not fun q => h (List.mem_cons_of_mem _ q)
theorem cnt1 {w : Int} : ∀ {ks : List Int}, ks.Nodup → w ∈ ks → (ks.filter (fun z => z == w)).length = 1
  | [], _, h => by cases h
  | z :: ks, hn, h => by
    obtain ⟨h1, h2⟩ := List.nodup_cons.1 hn
    by_cases hz : z = w
    · subst hz
      rw [List.filter_cons, if_pos (by simp), List.length_cons, cnt_not h1]
    · rw [List.filter_cons, if_neg (by simpa using hz)]
      rcases List.mem_cons.1 h with e | h
      · exact absurd e.symm hz
      · exact cnt1 h2 h
theorem step_cnt {B : List Nd} {ids K : List Int} {by' : Int} {ks : List Int} (hnd : ks.Nodup) {w : Int} (hw : w ∈ ks) (h0 : 0 ≤ w) : ((stepN B ids K by' ks).2.filter (fun z => z == w)).length = if (stepN B ids K by' ks).1 = w then 0 else 1 := by
  unfold stepN
  by_cases h : 0 ≤ fixI (fun k => ownB B ids K by' k.toNat) ks
  · rw [if_pos h]
    rcases fixI_lt (fun k => ownB B ids K by' k.toNat) ks with q | ⟨m, q, hm⟩
    · omega
    · rw [q, Int.toNat_natCast]
      show ((ks.eraseIdx m).filter (fun z => z == w)).length = if ks.getD m 0 = w then 0 else 1
      rw [erase_filter hnd hm rfl]
      by_cases e : ks.getD m 0 = w
      · rw [if_pos e, e]
        refine cnt_not fun q => ?_
        have := (List.mem_filter.1 q).2
        simp at this
      · rw [if_neg e]
        exact cnt1 (hnd.filter _) (List.mem_filter.2 ⟨hw, by simpa using fun q => e q.symm⟩)
  · rw [if_neg h]
    show (ks.filter (fun z => z == w)).length = if (-1 : Int) = w then 0 else 1
    rw [if_neg (by omega)]
    exact cnt1 hnd hw
/-- What is known of each node of a way but the first. -/
structure RchI (B : List Nd) (ids K : List Int) (f : List Int → Int × List Int) (W : List Int) (by' id : Int) (i k : Nat) : Prop where
  at' : W.getD i 0 = (k : Int)
  lt : k < B.length
  lv : 0 < (B.getD k nd0).lv
  neg : K.getD k 0 < 0 → (((f (B.getD k nd0).ks).2.filter (fun z => z == W.getD (i - 1) 0)).length = if (f (B.getD k nd0).ks).1 = W.getD (i - 1) 0 then 0 else 1)
  pos : ¬ K.getD k 0 < 0 → id ≠ by' ∧ (2 ≤ i → ¬ K.getD (W.getD (i - 1) 0).toNat 0 < 0)
theorem neg_up {A B : List Nd} {ids0 ids T K : List Int} {by' : Int} (hall : ∀ i, i < B.length → K.getD i 0 = -1 ∨ ∃ j : Nat, K.getD i 0 = (j : Int) ∧ KpA A B ids0 ids T K by' i j) {k p : Nat} (hp : p < B.length) (hk : (k : Int) ∈ (B.getD p nd0).ks) (h : K.getD k 0 < 0) : K.getD p 0 < 0 := by
  rcases hall p hp with h1 | ⟨j, h1, h2⟩
  · omega
  · have := h2.kd _ hk
    rw [Int.toNat_natCast] at this
    omega
theorem neg_way {A B : List Nd} {ids0 ids T K : List Int} {by' : Int} (hall : ∀ i, i < B.length → K.getD i 0 = -1 ∨ ∃ j : Nat, K.getD i 0 = (j : Int) ∧ KpA A B ids0 ids T K by' i j) {i0 : Nat} {W : List Int} (hw : WaySpec B i0 W) (h0 : K.getD i0 0 < 0) : ∀ j, j < W.length → ∃ k : Nat, W.getD j 0 = (k : Int) ∧ k < B.length ∧ K.getD k 0 < 0
  | 0, hj => by
    obtain ⟨k, q1, q2, -⟩ := hw.all 0 hj
    have := hw.head
    have : k = i0 := by omega
    subst this
    exact ⟨k, q1, q2, h0⟩
  | j + 1, hj => by
    obtain ⟨k, q1, q2, q3⟩ := neg_way hall hw h0 j (by omega)
    obtain ⟨k', p, h1, h2, h3⟩ := hw.step j hj
    have : k' = k := by omega
    subst this
    obtain ⟨p', r1, r2, -⟩ := hw.all (j + 1) hj
    have : p' = p := by omega
    subst this
    obtain ⟨-, -, -, -, -, ks, hks, hkin, -⟩ := h3
    exact ⟨p', h2, r2, neg_up hall r2 (by rw [hks]; exact List.mem_map_of_mem hkin) q3⟩
theorem leaf_at {kind : Int} {ids : List Int} {ls : List (List Int)} (hok : OkT ids ls) {a i : Nat} (hi : i < (nodesL kind ids ls).length) (h1 : ((nodesL kind ids ls).getD i nd0).lv = 0) (h2 : ((nodesL kind ids ls).getD i nd0).fr = (a : Int)) : ((nodesL kind ids ls).getD i nd0).ix = (a : Int) := by
  rcases nodes_good (kind := kind) hok hi with ⟨at', -, -, -, q1, q2, -⟩ | ⟨L, at', ks, q1, -⟩
  · rw [q1, ← q2, h2]
  · rw [h1] at q1
    omega
theorem reach_law {kind by' id : Int} {ids0 ids T : List Int} {ls0 ls : List (List Int)} (h0 : OkT ids0 ls0) (h1 : OkT ids ls) (hb : by' ∈ ids) (hid : id ∈ ids) {A B : List Nd} (eA : A = nodesL kind ids0 ls0) (eB : B = nodesL kind ids ls) {K : List Int} (eK : K = keepL A (lvT A ids0 T by') ids B B.length) {W : List Int} (eW : W = wayN B B.length (leafI (cnt ids id : Nat) B)) :
    0 < W.length ∧ W.length ≤ B.length ∧ W.getD (W.length - 1) 0 = ((B.length - 1 : Nat) : Int) ∧ (∀ j, j < W.length → ∃ k : Nat, W.getD j 0 = (k : Int) ∧ k < B.length) ∧ K.getD (B.length - 1) 0 < 0 ∧
      ∀ i, 1 ≤ i → i < W.length → ∃ k : Nat, k < B.length ∧ ∀ n, k < n → n ≤ B.length → RchI B ids K (stepN B ids (keepL A (lvT A ids0 T by') ids B n) by') W by' id i k := by
  have hall := fun i hi => kp_all (T := T) (by' := by') h0 h1 eA eB eK (i + 1) i (Nat.lt_succ_self i) hi
  have hneg : ∀ (q : Int) (a i : Nat), a = cnt ids q → q ∈ ids → q = by' → i < B.length → (B.getD i nd0).lv = 0 → (B.getD i nd0).ix = (a : Int) → K.getD i 0 < 0 := fun q a i ha hq he hi hz hx => by
    have hat := cnt_at h1.1.2.2 hq
    have hb' : ids.getD a 0 = by' := by rw [ha, List.getD_eq_getElem?_getD, hat, ← he]; rfl
    rw [eK, keepL_at A _ ids B hi]
    unfold keptN
    rw [if_pos hz, hx, Int.toNat_natCast, hb']
    unfold lvT
    rw [if_pos (.inl rfl)]
    decide
  have hway : ∀ q, q ∈ ids → ∃ i, WaySpec B i (wayN B B.length (leafI (cnt ids q : Nat) B)) ∧ i < B.length ∧ (B.getD i nd0).lv = 0 ∧ (B.getD i nd0).ix = ((cnt ids q : Nat) : Int) := fun q hq => by
    obtain ⟨i, hw, g1, g2, -⟩ := ways_law (kind := kind) h1 (cnt_lt h1.1.2.2 hq)
    rw [← eB] at hw g1 g2
    have hi : i < B.length := by
      obtain ⟨k, q1, q2, -⟩ := hw.all 0 hw.pos
      have := hw.head
      have : k = i := by omega
      rw [← this]
      exact q2
    refine ⟨i, hw, hi, g1, ?_⟩
    rw [eB] at hi g1 g2 ⊢
    exact leaf_at h1 hi g1 g2
  obtain ⟨ib, hwb, hib, gb1, gb2⟩ := hway by' hb
  obtain ⟨i0, hw, hi0, g1, g2⟩ := hway id hid
  have hroot : K.getD (B.length - 1) 0 < 0 := by
    obtain ⟨k, q1, q2, q3⟩ := neg_way hall hwb (hneg by' _ ib rfl hb rfl hib gb1 gb2) ((wayN B B.length (leafI (cnt ids by' : Nat) B)).length - 1) (by have := hwb.pos; omega)
    have := hwb.last
    have : k = B.length - 1 := by omega
    rw [← this]
    exact q3
  rw [← eW] at hw
  have ht : TrF B ids := by rw [eB]; exact nodes_trf h1
  refine ⟨hw.pos, by rw [eW]; exact wayN_length _ _ _, hw.last, fun j hj => ?_, hroot, fun i hi1 hi2 => ?_⟩
  · obtain ⟨k, q1, q2, -⟩ := hw.all j hj
    exact ⟨k, q1, q2⟩
  · obtain ⟨k', p, s1, s2, s3⟩ := hw.step (i - 1) (by omega)
    rw [show i - 1 + 1 = i by omega] at s2
    obtain ⟨p', r1, r2, -⟩ := hw.all i hi2
    have : p' = p := by omega
    subst this
    have hmem : (k' : Int) ∈ (B.getD p' nd0).ks := by
      obtain ⟨-, -, -, -, -, ks, hks, hkin, -⟩ := s3
      rw [hks]
      exact List.mem_map_of_mem hkin
    refine ⟨p', r2, fun n hn hnB => ⟨s2, r2, ?_, fun _ => ?_, fun hpos => ⟨fun e => ?_, fun h2 hkn => ?_⟩⟩⟩
    · rcases ht.lv p' r2 with ⟨-, q, -⟩ | ⟨q, -⟩
      · rw [q] at hmem
        cases hmem
      · exact q
    · rw [s1]
      exact step_cnt (ht.nd p') hmem (Int.natCast_nonneg _)
    · obtain ⟨k, q1, q2, q3⟩ := neg_way hall hw (hneg id _ i0 rfl hid e hi0 g1 g2) i hi2
      have : k = p' := by omega
      subst this
      exact hpos q3
    · rw [s1, Int.toNat_natCast] at hkn
      exact hpos (neg_up hall r2 hmem hkn)
/-- The steps, as a function of their nodes. -/
def sfF (ss : List (Stp × Value)) : Nat → Int → Option Nat
  | 0, _ => none
  | n + 1, q => if q = (ss.getD n stP).1.nd then some n else sfF ss n q
theorem sfF_some {ss : List (Stp × Value)} {q : Int} {p : Nat} : ∀ n, sfF ss n q = some p → p < n ∧ (ss.getD p stP).1.nd = q
  | 0, h => by cases h
  | n + 1, h => by
    rw [sfF] at h
    split at h
    · rename_i e
      have : n = p := Option.some.inj h
      subst this
      exact ⟨Nat.lt_succ_self n, e.symm⟩
    · obtain ⟨h1, h2⟩ := sfF_some n h
      exact ⟨by omega, h2⟩
theorem sfF_none {ss : List (Stp × Value)} {q : Int} : ∀ n, sfF ss n q = none → ∀ p, p < n → (ss.getD p stP).1.nd ≠ q
  | 0, _, p, hp => absurd hp (Nat.not_lt_zero _)
  | n + 1, h, p, hp => by
    rw [sfF] at h
    split at h
    · cases h
    · rename_i e
      by_cases hpn : p = n
      · subst hpn
        exact fun q => e q.symm
      · exact sfF_none n h p (by omega)
theorem stpL_mem {A B : List Nd} {f : Int → Option Int} {ids : List Int} {by' : Int} : ∀ m, ∀ z ∈ stpL A f ids B by' m, ∃ i : Nat, i < m ∧ z.nd = (i : Int) ∧ (keepL A f ids B (i + 1)).getD i 0 < 0 ∧ 0 < (B.getD i nd0).lv ∧ (z.fr, z.sd) = stepN B ids (keepL A f ids B (i + 1)) by' (B.getD i nd0).ks
  | 0, z, h => by cases h
  | m + 1, z, h => by
    rw [stpL] at h
    rcases List.mem_append.1 h with h | h
    · obtain ⟨i, h1, h2⟩ := stpL_mem m z h
      exact ⟨i, by omega, h2⟩
    · split at h
      · rename_i hc
        rw [List.mem_singleton.1 h]
        exact ⟨m, Nat.lt_succ_self m, rfl, hc.1, hc.2, rfl⟩
      · cases h
theorem stpL_has {A B : List Nd} {f : Int → Option Int} {ids : List Int} {by' : Int} {i : Nat} (h1 : (keepL A f ids B (i + 1)).getD i 0 < 0) (h2 : 0 < (B.getD i nd0).lv) : ∀ m, i < m → ∃ z ∈ stpL A f ids B by' m, z.nd = (i : Int)
  | 0, h => absurd h (Nat.not_lt_zero _)
  | m + 1, h => by
    rw [stpL]
    by_cases e : i = m
    · subst e
      rw [if_pos ⟨h1, h2⟩]
      exact ⟨_, List.mem_append_right _ (List.mem_singleton.2 rfl), rfl⟩
    · obtain ⟨z, hz, q⟩ := stpL_has h1 h2 m (by omega)
      exact ⟨z, List.mem_append_left _ hz, q⟩
end Go.Proofs.Ytfgammcefaomeaa
