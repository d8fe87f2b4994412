/- The plain law of PlanWay: where one member changes its tree, just its way is new. -/
import Derived.Test.YtfgammcefaomeaaP11
import Derived.Test.YtfgammcefaomeaaP8
namespace Go.Proofs.Ytfgammcefaomeaa
open Go Go.RowKit
/-- What the plan laws use of a tree's nodes. -/
structure TrF (N : List Nd) (ids : List Int) : Prop where
  kd : ∀ i, i < N.length → ∀ k ∈ (N.getD i nd0).ks, ∃ j : Nat, k = (j : Int) ∧ j < i ∧ (N.getD j nd0).up = (i : Int)
  lv : ∀ i, i < N.length → ((N.getD i nd0).lv = 0 ∧ (N.getD i nd0).ks = [] ∧ ∃ j : Nat, (N.getD i nd0).ix = (j : Int) ∧ j < ids.length) ∨ (0 < (N.getD i nd0).lv ∧ (N.getD i nd0).ks ≠ [])
  nd : ∀ i, (N.getD i nd0).ks.Nodup
  one : ∀ i j x : Nat, i < N.length → j < N.length → (N.getD i nd0).lv = 0 → (N.getD j nd0).lv = 0 → (N.getD i nd0).ix = (x : Int) → (N.getD j nd0).ix = (x : Int) → i = j
  idn : ids.Nodup
theorem pw_nodup {l : List Int} (h : l.Pairwise (· < ·)) : l.Nodup := h.imp fun h => by omega
theorem nodes_trf {kind : Int} {ids : List Int} {ls : List (List Int)} (hok : OkT ids ls) : TrF (nodesL kind ids ls) ids :=
  ⟨fun _ hi _ hk => nodes_par hok hi hk, fun _ hi => nodes_lv hok hi, fun i => nodes_nd hok i, fun _ _ _ hi hj h1 h2 h3 h4 => leaf_one hok hi hj h1 h2 h3 h4, pw_nodup hok.1.2.2⟩
theorem nodup_at {l : List Int} (h : l.Nodup) {i j : Nat} (hi : i < l.length) (hj : j < l.length) (e : l.getD i 0 = l.getD j 0) : i = j := by
  rw [List.getD_eq_getElem?_getD, List.getD_eq_getElem?_getD, List.getElem?_eq_getElem hi, List.getElem?_eq_getElem hj] at e
  have e : l[i] = l[j] := e
  rcases Nat.lt_trichotomy i j with q | q | q
  · exact absurd e (List.pairwise_iff_getElem.1 h i j hi hj q)
  · exact q
  · exact absurd e.symm (List.pairwise_iff_getElem.1 h j i hj hi q)
/-- An old leaf by its member. -/
theorem lfF_hit {A : List Nd} {ids : List Int} {q : Int} {k : Nat} (hz : (A.getD k nd0).lv = 0) (hq : q = ids.getD (A.getD k nd0).ix.toNat 0) (ho : ∀ j, j < A.length → (A.getD j nd0).lv = 0 → q = ids.getD (A.getD j nd0).ix.toNat 0 → j = k) : ∀ n, n ≤ A.length → k < n → lfF A ids n q = some (k : Int)
  | 0, _, h => absurd h (Nat.not_lt_zero _)
  | n + 1, hn, h => by
    rw [lfF]
    by_cases e : k = n
    · subst e
      rw [if_pos hz, if_pos hq]
    · have ih := lfF_hit hz hq ho n (by omega) (by omega)
      split
      · rename_i h1
        rw [if_neg (fun h2 => e (ho n (by omega) h1 h2).symm)]
        exact ih
      · exact ih
theorem lfF_none {A : List Nd} {ids : List Int} {q : Int} (ho : ∀ j, j < A.length → (A.getD j nd0).lv = 0 → q ≠ ids.getD (A.getD j nd0).ix.toNat 0) : ∀ n, n ≤ A.length → lfF A ids n q = none
  | 0, _ => rfl
  | n + 1, hn => by
    rw [lfF]
    have ih := lfF_none ho n (by omega)
    split
    · rename_i h1
      rw [if_neg (ho n (by omega) h1)]
      exact ih
    · exact ih
section
variable {N : List Nd} {ids : List Int} {W : List Int} {i0 : Nat}
theorem way_at (_ : WaySpec N i0 W) {k : Nat} (h : (k : Int) ∈ W) : ∃ m, m < W.length ∧ W.getD m 0 = (k : Int) := by
  obtain ⟨m, hm, e⟩ := List.getElem_of_mem h
  exact ⟨m, hm, by rw [List.getD_eq_getElem?_getD, List.getElem?_eq_getElem hm]; exact e⟩
theorem way_mem (_ : WaySpec N i0 W) {m : Nat} (h : m < W.length) : W.getD m 0 ∈ W := getD_memP h
theorem way_rise (hw : WaySpec N i0 W) {m : Nat} : ∀ d, m + (d + 1) < W.length → W.getD m 0 < W.getD (m + (d + 1)) 0
  | 0, h => by
    obtain ⟨k, p, h1, h2, h3⟩ := hw.step m (by omega)
    have := h3.2.1
    rw [show m + (0 + 1) = m + 1 from rfl, h1, h2]
    omega
  | d + 1, h => by
    have ih := way_rise hw d (m := m) (by omega)
    obtain ⟨k, p, h1, h2, h3⟩ := hw.step (m + (d + 1)) (by omega)
    have := h3.2.1
    rw [show m + (d + 1 + 1) = m + (d + 1) + 1 from rfl, h2]
    omega
theorem way_lt (hw : WaySpec N i0 W) {m n : Nat} (hmn : m < n) (hn : n < W.length) : W.getD m 0 < W.getD n 0 := by
  have := way_rise hw (m := m) (n - m - 1) (by omega)
  rwa [show m + (n - m - 1 + 1) = n by omega] at this
theorem way_inj (hw : WaySpec N i0 W) {m n : Nat} (hm : m < W.length) (hn : n < W.length) (e : W.getD m 0 = W.getD n 0) : m = n := by
  rcases Nat.lt_trichotomy m n with h | h | h
  · have := way_lt hw h hn; omega
  · exact h
  · have := way_lt hw h hm; omega
/-- The one above. -/
theorem way_next (hw : WaySpec N i0 W) {m k p : Nat} (hm : m < W.length) (h1 : W.getD m 0 = (k : Int)) (hu : (N.getD k nd0).up = (p : Int)) (hp : k < p) (hpn : p < N.length) : m + 1 < W.length ∧ W.getD (m + 1) 0 = (p : Int) := by
  have hl : m + 1 < W.length := by
    rcases Nat.lt_or_ge (m + 1) W.length with h | h
    · exact h
    · have e : m = W.length - 1 := by omega
      have := hw.last
      rw [← e, h1] at this
      omega
  obtain ⟨k', p', e1, e2, e3⟩ := hw.step m hl
  have : k' = k := by omega
  subst this
  have e4 := e3.1
  rw [hu] at e4
  exact ⟨hl, by rw [e2, e4]⟩
theorem way_leaf (ht : TrF N ids) (hw : WaySpec N i0 W) {k : Nat} (hk : k < N.length) (hz : (N.getD k nd0).lv = 0) (h : (k : Int) ∈ W) : k = i0 := by
  obtain ⟨m, hm, e⟩ := way_at hw h
  cases m with
  | zero => rw [hw.head] at e; omega
  | succ m =>
    obtain ⟨k', p, h1, h2, h3⟩ := hw.step m hm
    obtain ⟨-, -, -, -, -, ks, hks, hin, -⟩ := h3
    have : p = k := by omega
    subst this
    rcases ht.lv p hk with ⟨-, q, -⟩ | ⟨q, -⟩
    · rw [q] at hks
      have := congrArg List.length hks
      simp [kz] at this
      rw [List.eq_nil_of_length_eq_zero this.symm] at hin
      simp at hin
    · omega
theorem way_kid (ht : TrF N ids) (hw : WaySpec N i0 W) (h0 : (N.getD i0 nd0).lv = 0) {k : Nat} (hk : k < N.length) (hz : (N.getD k nd0).lv ≠ 0) : (k : Int) ∈ W ↔ ∃ c ∈ (N.getD k nd0).ks, c ∈ W := by
  refine ⟨fun h => ?_, fun ⟨c, hc, hcw⟩ => ?_⟩
  · obtain ⟨m, hm, e⟩ := way_at hw h
    cases m with
    | zero =>
      rw [hw.head] at e
      have : i0 = k := by omega
      rw [this] at h0
      exact absurd h0 hz
    | succ m =>
      obtain ⟨k', p, h1, h2, h3⟩ := hw.step m hm
      obtain ⟨-, -, -, -, -, ks, hks, hin, -⟩ := h3
      have : p = k := by omega
      subst this
      refine ⟨(k' : Int), ?_, by rw [← h1]; exact way_mem hw (by omega)⟩
      rw [hks]
      exact List.mem_map_of_mem hin
  · obtain ⟨j, rfl, h1, h2⟩ := ht.kd k hk c hc
    obtain ⟨m, hm, e⟩ := way_at hw hcw
    obtain ⟨h3, h4⟩ := way_next hw hm e h2 h1 hk
    rw [← h4]
    exact way_mem hw h3
theorem way_one (ht : TrF N ids) (hw : WaySpec N i0 W) {k : Nat} (hk : k < N.length) {c c' : Int} (hc : c ∈ (N.getD k nd0).ks) (hc' : c' ∈ (N.getD k nd0).ks) (h : c ∈ W) (h' : c' ∈ W) : c = c' := by
  obtain ⟨j, rfl, h1, h2⟩ := ht.kd k hk c hc
  obtain ⟨j', rfl, h1', h2'⟩ := ht.kd k hk c' hc'
  obtain ⟨m, hm, e⟩ := way_at hw h
  obtain ⟨m', hm', e'⟩ := way_at hw h'
  obtain ⟨h3, h4⟩ := way_next hw hm e h2 h1 hk
  obtain ⟨h3', h4'⟩ := way_next hw hm' e' h2' h1' hk
  have := way_inj hw h3 h3' (by rw [h4, h4'])
  have : m = m' := by omega
  subst this
  rw [← e, ← e']
/-- Which leaf is on the way: who changes it. -/
theorem way_by (ht : TrF N ids) (hw : WaySpec N i0 W) (hi : i0 < N.length) {a : Nat} {by' : Int} (h0 : (N.getD i0 nd0).lv = 0) (hx : (N.getD i0 nd0).ix = (a : Int)) (ha : a < ids.length) (hb : ids.getD a 0 = by') {k x : Nat} (hk : k < N.length) (hz : (N.getD k nd0).lv = 0) (hkx : (N.getD k nd0).ix = (x : Int)) (hxl : x < ids.length) :
    ids.getD x 0 = by' ↔ (k : Int) ∈ W := by
  refine ⟨fun h => ?_, fun h => ?_⟩
  · have : x = a := nodup_at ht.idn hxl ha (by rw [h, hb])
    subst this
    have : k = i0 := ht.one k i0 x hk hi hz h0 hkx hx
    subst this
    rw [← hw.head]
    exact way_mem hw hw.pos
  · have : k = i0 := way_leaf ht hw hk hz h
    subst this
    have : x = a := by omega
    subst this
    exact hb
theorem keepW (ht : TrF N ids) (hw : WaySpec N i0 W) (hi : i0 < N.length) {a : Nat} {by' : Int} (h0 : (N.getD i0 nd0).lv = 0) (hx : (N.getD i0 nd0).ix = (a : Int)) (ha : a < ids.length) (hb : ids.getD a 0 = by') : ∀ i, i ≤ N.length → ∀ k, k < i → (keepL N (lvT N ids [] by') ids N i).getD k 0 = if (k : Int) ∈ W then -1 else (k : Int)
  | 0, _, k, hk => absurd hk (Nat.not_lt_zero _)
  | i + 1, hn, k, hk => by
    have ih := keepW ht hw hi h0 hx ha hb i (by omega)
    rw [keepL]
    by_cases h : k < i
    · rw [List.getD_eq_getElem?_getD, List.getElem?_append_left (by rw [keepL_length]; exact h), ← List.getD_eq_getElem?_getD]
      exact ih k h
    · obtain rfl : k = i := by omega
      have hm := getD_midP (m := []) (z := keptN N (lvT N ids [] by') ids (keepL N (lvT N ids [] by') ids N k) (N.getD k nd0)) (keepL_length N (lvT N ids [] by') ids N k)
      rw [List.append_nil] at hm
      rw [hm]
      rcases ht.lv k (by omega) with ⟨h1, -, x, h2, h3⟩ | ⟨h1, h2⟩
      · unfold keptN
        rw [if_pos h1, h2, Int.toNat_natCast]
        have hby := way_by ht hw hi h0 hx ha hb (show k < N.length by omega) h1 h2 h3
        unfold lvT
        by_cases e : ids.getD x 0 = by'
        · rw [if_pos (.inl e), if_pos (hby.1 e)]
          rfl
        · rw [if_neg (by simpa using e), if_neg (fun q => e (hby.2 q)), lfF_hit (k := k) h1 (by rw [h2, Int.toNat_natCast]) (fun j hj hz hq => ?_) N.length (Nat.le_refl _) (by omega)]
          · rfl
          · rcases ht.lv j hj with ⟨-, -, y, h4, h5⟩ | ⟨q, -⟩
            · rw [h4, Int.toNat_natCast] at hq
              have : x = y := nodup_at ht.idn h3 h5 hq
              subst this
              exact ht.one j k x hj (by omega) hz h1 h4 h2
            · omega
      · have hne : (N.getD k nd0).lv ≠ 0 := by omega
        have hkid := way_kid ht hw h0 (show k < N.length by omega) hne
        have hkk : ∀ z ∈ (N.getD k nd0).ks, ∃ j : Nat, z = (j : Int) ∧ j < k ∧ (keepL N (lvT N ids [] by') ids N k).getD z.toNat 0 = if z ∈ W then -1 else z := fun z hz => by
          obtain ⟨j, rfl, h4, -⟩ := ht.kd k (by omega) z hz
          exact ⟨j, rfl, h4, by rw [Int.toNat_natCast]; exact ih j h4⟩
        unfold keptN
        rw [if_neg hne]
        by_cases hon : (k : Int) ∈ W
        · obtain ⟨c, hc, hcw⟩ := hkid.1 hon
          obtain ⟨j, -, -, h5⟩ := hkk c hc
          rw [if_pos hon, if_pos]
          refine List.any_eq_true.2 ⟨(keepL N (lvT N ids [] by') ids N k).getD c.toNat 0, List.mem_map_of_mem hc, ?_⟩
          rw [h5, if_pos hcw]
          rfl
        · have hno : ∀ z ∈ (N.getD k nd0).ks, ¬ z ∈ W := fun z hz hzw => hon (hkid.2 ⟨z, hz, hzw⟩)
          have hid : kidK (keepL N (lvT N ids [] by') ids N k) (N.getD k nd0).ks = (N.getD k nd0).ks := by
            unfold kidK
            refine (List.map_congr_left (g := id) fun z hz => ?_).trans (List.map_id _)
            obtain ⟨j, -, -, h5⟩ := hkk z hz
            rw [h5, if_neg (hno z hz)]
            rfl
          rw [if_neg hon, hid, if_neg]
          · have h0l : 0 < (N.getD k nd0).ks.length := List.length_pos_iff.2 h2
            obtain ⟨j, hj1, hj2, hj3⟩ := ht.kd k (by omega) _ (getD_memP h0l)
            simp only [hj1, Int.toNat_natCast, hj3]
            rw [if_neg]
            rintro (q | q | q)
            · omega
            · exact q rfl
            · exact q rfl
          · intro q
            obtain ⟨z, hz, hzl⟩ := List.any_eq_true.1 q
            obtain ⟨j, rfl, -⟩ := ht.kd k (by omega) z hz
            have := of_decide_eq_true hzl
            omega
theorem erase_filter {l : List Int} (h : l.Nodup) {m : Nat} (hm : m < l.length) {v : Int} (hv : l.getD m 0 = v) : l.eraseIdx m = l.filter (fun z => z != v) := by
  have hp := List.pairwise_iff_getElem.1 h
  have hv : l[m] = v := by rw [← hv, List.getD_eq_getElem?_getD, List.getElem?_eq_getElem hm]; rfl
  have e : l = l.take m ++ (v :: l.drop (m + 1)) := by
    have := List.take_append_drop m l
    rw [List.drop_eq_getElem_cons hm, hv] at this
    exact this.symm
  have h1 : (l.take m).filter (fun z => z != v) = l.take m := List.filter_eq_self.2 fun z hz => by
    obtain ⟨i, hi, e⟩ := List.getElem_of_mem hz
    rw [List.length_take] at hi
    rw [← hv, ← e, List.getElem_take]
    exact bne_iff_ne.2 (hp i m (by omega) hm (by omega))
  have h2 : (l.drop (m + 1)).filter (fun z => z != v) = l.drop (m + 1) := List.filter_eq_self.2 fun z hz => by
    obtain ⟨i, hi, e⟩ := List.getElem_of_mem hz
    rw [List.length_drop] at hi
    rw [← hv, ← e, List.getElem_drop]
    exact bne_iff_ne.2 (fun q => hp m (m + 1 + i) hm (by omega) (by omega) q.symm)
  rw [List.eraseIdx_eq_take_drop_succ]
  conv => rhs; rw [e]
  rw [List.filter_append, h1, List.filter_cons, if_neg (by simp), h2]
/-- A step of the way. -/
def wayS (N : List Nd) (W : List Int) (j : Nat) : Stp := ⟨W.getD (j + 1) 0, W.getD j 0, besF N W (j + 1)⟩
theorem stepW (ht : TrF N ids) (hw : WaySpec N i0 W) (hi : i0 < N.length) {a : Nat} {by' : Int} (h0 : (N.getD i0 nd0).lv = 0) (hx : (N.getD i0 nd0).ix = (a : Int)) (ha : a < ids.length) (hb : ids.getD a 0 = by') {c i : Nat} (hc : c + 1 < W.length) (hwi : W.getD (c + 1) 0 = (i : Int)) (hin : i < N.length) :
    stepN N ids (keepL N (lvT N ids [] by') ids N (i + 1)) by' (N.getD i nd0).ks = (W.getD c 0, besF N W (c + 1)) := by
  obtain ⟨k, p, h1, h2, h3⟩ := hw.step c hc
  obtain ⟨-, -, -, -, -, ks, hks, hkin, -⟩ := h3
  have : p = i := by omega
  subst this
  have hmem : W.getD c 0 ∈ (N.getD p nd0).ks := by
    rw [hks, h1]
    exact List.mem_map_of_mem hkin
  have hown : ∀ z ∈ (N.getD p nd0).ks, ownB N ids (keepL N (lvT N ids [] by') ids N (p + 1)) by' z.toNat = decide (z ∈ W) := fun z hz => by
    obtain ⟨j, rfl, h4, -⟩ := ht.kd p hin z hz
    rw [Int.toNat_natCast]
    unfold ownB
    rcases ht.lv j (by omega) with ⟨q1, -, x, q2, q3⟩ | ⟨q1, -⟩
    · rw [if_pos q1, q2, Int.toNat_natCast]
      exact decide_eq_decide.2 (way_by ht hw hi h0 hx ha hb (by omega) q1 q2 q3)
    · rw [if_neg (by omega), keepW ht hw hi h0 hx ha hb (p + 1) (by omega) j (by omega)]
      refine decide_eq_decide.2 ?_
      split
      · rename_i q; exact ⟨fun _ => q, fun _ => by decide⟩
      · rename_i q; exact ⟨fun h => by omega, fun h => absurd h q⟩
  obtain ⟨m, hm, e⟩ := List.getElem_of_mem hmem
  have e : (N.getD p nd0).ks.getD m 0 = W.getD c 0 := by rw [List.getD_eq_getElem?_getD, List.getElem?_eq_getElem hm]; exact e
  have hf : fixI (fun k => ownB N ids (keepL N (lvT N ids [] by') ids N (p + 1)) by' k.toNat) (N.getD p nd0).ks = (m : Int) := by
    refine fixI_hit hm ?_ fun j hj => ?_
    · show ownB _ _ _ _ _ = true
      rw [hown _ (getD_memP hm), e, decide_eq_true (way_mem hw (by omega))]
    · show ownB _ _ _ _ _ = false
      rw [hown _ (getD_memP (by omega))]
      refine decide_eq_false fun q => ?_
      have h5 := way_one ht hw hin (getD_memP (show j < (N.getD p nd0).ks.length by omega)) hmem q (way_mem hw (by omega))
      have := nodup_at (ht.nd p) (show j < _ by omega) hm (by rw [h5, e])
      omega
  unfold stepN
  rw [hf, if_pos (by omega), Int.toNat_natCast, e]
  refine Prod.ext rfl ?_
  show (N.getD p nd0).ks.eraseIdx m = besF N W (c + 1)
  rw [erase_filter (ht.nd p) hm e]
  unfold besF
  rw [hwi, Int.toNat_natCast, Nat.add_sub_cancel]
theorem stpW (ht : TrF N ids) (hw : WaySpec N i0 W) (hi : i0 < N.length) {a : Nat} {by' : Int} (h0 : (N.getD i0 nd0).lv = 0) (hx : (N.getD i0 nd0).ix = (a : Int)) (ha : a < ids.length) (hb : ids.getD a 0 = by') : ∀ i, i ≤ N.length → ∃ c, c + 1 ≤ W.length ∧ stpL N (lvT N ids [] by') ids N by' i = (List.range c).map (wayS N W) ∧ (∀ j, j < c → W.getD (j + 1) 0 < (i : Int)) ∧ (∀ j, c ≤ j → j + 1 < W.length → (i : Int) ≤ W.getD (j + 1) 0)
  | 0, _ => ⟨0, hw.pos, rfl, fun j hj => absurd hj (Nat.not_lt_zero _), fun j _ hj => by
    obtain ⟨k, q, -⟩ := hw.all (j + 1) hj
    rw [q]
    omega⟩
  | i + 1, hn => by
    obtain ⟨c, c1, c2, c3, c4⟩ := stpW ht hw hi h0 hx ha hb i (by omega)
    have hk := keepW ht hw hi h0 hx ha hb (i + 1) hn i (by omega)
    by_cases hon : (i : Int) ∈ W ∧ 0 < (N.getD i nd0).lv
    · obtain ⟨m, hm, e⟩ := way_at hw hon.1
      have hm0 : m ≠ 0 := fun q => by
        subst q
        rw [hw.head] at e
        have : i0 = i := by omega
        rw [this] at h0
        have := hon.2
        omega
      have hmc : m = c + 1 := by
        rcases Nat.lt_trichotomy m (c + 1) with h | h | h
        · have := c3 (m - 1) (by omega)
          rw [show m - 1 + 1 = m by omega, e] at this
          omega
        · exact h
        · have h5 := c4 c (Nat.le_refl _) (by omega)
          have h6 := way_lt hw h hm
          omega
      subst hmc
      refine ⟨c + 1, by omega, ?_, fun j hj => ?_, fun j hj hjl => ?_⟩
      · rw [stpL, if_pos ⟨by rw [hk, if_pos hon.1]; decide, hon.2⟩, c2, stepW ht hw hi h0 hx ha hb hm e (by omega), List.range_succ, List.map_append]
        show _ = _ ++ [wayS N W c]
        unfold wayS
        rw [e]
      · by_cases q : j < c
        · have := c3 j q
          omega
        · obtain rfl : j = c := by omega
          rw [e]
          omega
      · have h6 := way_lt hw (show c + 1 < j + 1 by omega) hjl
        omega
    · refine ⟨c, c1, ?_, fun j hj => by have := c3 j hj; omega, fun j hj hjl => ?_⟩
      · rw [stpL, if_neg, List.append_nil, c2]
        rintro ⟨q1, q2⟩
        rw [hk] at q1
        by_cases q : (i : Int) ∈ W
        · exact hon ⟨q, q2⟩
        · rw [if_neg q] at q1
          omega
      · have h5 := c4 j hj hjl
        have h6 : W.getD (j + 1) 0 ≠ (i : Int) := fun q => by
          have hmem : (i : Int) ∈ W := by rw [← q]; exact way_mem hw hjl
          rcases ht.lv i (by omega) with ⟨q1, -, -⟩ | ⟨q1, -⟩
          · have q3 := way_leaf ht hw (show i < N.length by omega) q1 hmem
            have q4 := way_inj hw hjl hw.pos (by rw [q, hw.head, q3])
            omega
          · exact hon ⟨hmem, q1⟩
        omega
/-- All of PlanWay. -/
theorem planWay_law {kind : Int} {ls : List (List Int)} {by' : Int} (hok : OkT ids ls) (hby : by' ∈ ids) :
    ∃ W, W = wayN (nodesL kind ids ls) (nodesL kind ids ls).length (leafI (cnt ids by' : Nat) (nodesL kind ids ls)) ∧ 0 < W.length ∧ W.length ≤ (nodesL kind ids ls).length ∧
      (∀ k, k < (nodesL kind ids ls).length → (keepL (nodesL kind ids ls) (lvT (nodesL kind ids ls) ids [] by') ids (nodesL kind ids ls) (nodesL kind ids ls).length).getD k 0 = if (k : Int) ∈ W then -1 else (k : Int)) ∧
      stpL (nodesL kind ids ls) (lvT (nodesL kind ids ls) ids [] by') ids (nodesL kind ids ls) by' (nodesL kind ids ls).length = (List.range (W.length - 1)).map (wayS (nodesL kind ids ls) W) ∧
      (∀ j, j < W.length → ∃ k : Nat, W.getD j 0 = (k : Int) ∧ k < (nodesL kind ids ls).length) := by
  have ha := cnt_lt hok.1.2.2 hby
  have hat := cnt_at hok.1.2.2 hby
  obtain ⟨i, hw, h1, h2, h3⟩ := ways_law (kind := kind) hok ha
  have hb : ids.getD (cnt ids by') 0 = by' := by rw [List.getD_eq_getElem?_getD, hat]; rfl
  have hi : i < (nodesL kind ids ls).length := by
    obtain ⟨k, q1, q2, -⟩ := hw.all 0 hw.pos
    rw [hw.head] at q1
    omega
  have hx : ((nodesL kind ids ls).getD i nd0).ix = ((cnt ids by' : Nat) : Int) := by
    rcases nodes_good (kind := kind) hok hi with ⟨at', -, -, -, q1, q2, -⟩ | ⟨L, at', ks, q1, -⟩
    · rw [q1, ← q2, h2]
    · rw [h1] at q1
      omega
  have ht := nodes_trf (kind := kind) hok
  refine ⟨_, rfl, hw.pos, wayN_length _ _ _, fun k hk => keepW ht hw hi h1 hx ha hb _ (Nat.le_refl _) k hk, ?_, fun j hj => ?_⟩
  · obtain ⟨c, c1, c2, c3, c4⟩ := stpW ht hw hi h1 hx ha hb _ (Nat.le_refl _)
    rw [c2]
    congr 2
    by_cases q : c + 1 < (wayN (nodesL kind ids ls) (nodesL kind ids ls).length (leafI (cnt ids by' : Nat) (nodesL kind ids ls))).length
    · have h4 := c4 c (Nat.le_refl _) q
      obtain ⟨k, q1, q2, -⟩ := hw.all (c + 1) q
      omega
    · omega
  · obtain ⟨k, q1, q2, -⟩ := hw.all j hj
    exact ⟨k, q1, q2⟩
theorem besTo_snd (N : List Nd) (W : List Int) : ∀ n, sndL ((List.range n).map (wayS N W)) = ((besTo N W n).length : Int)
  | 0 => rfl
  | n + 1 => by
    rw [List.range_succ, List.map_append]
    unfold sndL
    rw [List.map_append, List.sum_append]
    have := besTo_snd N W n
    unfold sndL at this
    rw [this]
    simp [besTo, wayS]
end
end Go.Proofs.Ytfgammcefaomeaa
