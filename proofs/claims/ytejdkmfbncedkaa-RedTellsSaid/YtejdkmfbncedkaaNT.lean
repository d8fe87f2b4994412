/- The document's ways up, what is beside them, and how high a tree is: the plain law of RedTells. -/
import Derived.Test.YtejdkmfbncedkaaNG
namespace Go.Proofs.Ytejdkmfbncedkaa
open Go Go.RowKit
/-- Whether a node has a leaf below. -/
def holdB (N : List Nd) (a : Int) (k : Nat) : Bool := decide ((N.getD k nd0).fr ≤ a) && decide (a < (N.getD k nd0).tt)
/-- The nodes up to one that have a leaf below. -/
def pthT (N : List Nd) (a : Int) (i : Nat) : List Int := ((List.range i).filter (holdB N a)).map (fun k => ((k : Nat) : Int))
theorem pthT_succ (N : List Nd) (a : Int) (i : Nat) : pthT N a (i + 1) = pthT N a i ++ (if holdB N a i then [(i : Int)] else []) := by
  unfold pthT
  rw [List.range_succ, List.filter_append, List.map_append]
  congr 1
  rw [List.filter_cons]
  cases holdB N a i <;> rfl
theorem pthT_length (N : List Nd) (a : Int) (i : Nat) : (pthT N a i).length ≤ i := by
  unfold pthT
  rw [List.length_map]
  exact Nat.le_trans (List.length_filter_le _ _) (Nat.le_of_eq List.length_range)
theorem pthT_rise (N : List Nd) (a : Int) (i : Nat) : Rise (pthT N a i) := by
  unfold pthT Rise
  rw [List.pairwise_map]
  exact (List.Pairwise.filter _ List.pairwise_lt_range).imp fun h => by omega
theorem wayN_rise {N : List Nd} (hu : ∀ k, k < N.length → (N.getD k nd0).up = -1 ∨ ∃ j : Nat, (N.getD k nd0).up = (j : Int) ∧ k < j ∧ j < N.length) : ∀ (f k : Nat), k < N.length → Rise (wayN N f (k : Int)) ∧ ∀ x ∈ wayN N f (k : Int), (k : Int) ≤ x
  | 0, k, _ => ⟨List.Pairwise.nil, fun x hx => by simp [wayN] at hx⟩
  | f + 1, k, hk => by
    rw [wayN_pos]
    rcases hu k hk with e | ⟨j, e, hj, hn⟩
    · rw [e, wayN_neg]
      exact ⟨List.pairwise_singleton _ _, fun x hx => by rw [List.mem_singleton.1 hx]; exact Int.le_refl _⟩
    · obtain ⟨h1, h2⟩ := wayN_rise hu f j hn
      rw [e]
      refine ⟨List.Pairwise.cons (fun x hx => by have := h2 x hx; omega) h1, fun x hx => ?_⟩
      rcases List.mem_cons.1 hx with rfl | hx
      · exact Int.le_refl _
      · have := h2 x hx
        omega
theorem kz_inj {ks qs : List Nat} (h : kz ks = kz qs) : ks = qs := by
  have e : ∀ l : List Nat, (kz l).map Int.toNat = l := fun l => by
    unfold kz
    rw [List.map_map]
    exact (List.map_congr_left fun x _ => Int.toNat_natCast x).trans (List.map_id l)
  rw [← e ks, h, e]
theorem mem_sum {g : Nat → Nat} {k : Nat} : ∀ {l : List Nat}, k ∈ l → g k ≤ (l.map g).sum
  | x :: l, h => by
    rw [List.map_cons, List.sum_cons]
    rcases List.mem_cons.1 h with rfl | h
    · omega
    · have := mem_sum (g := g) h
      omega
/-- Of what is below a node only one has a leaf below. -/
theorem kid_one {N : List Nd} (hl : ∀ k, k < N.length → (N.getD k nd0).fr < (N.getD k nd0).tt) {c k p : Nat} (h : UpSub N c p) (h2 : (k : Int) ∈ (N.getD p nd0).ks) {a : Int} (hc : holdB N a c = true) (hk : holdB N a k = true) : k = c := by
  obtain ⟨-, -, -, -, -, ks, hks, hcm, hkn, hch⟩ := h
  rw [hks] at h2
  have hkm := kz_mem h2
  apply Classical.byContradiction
  intro ne
  have g1 : ∀ q, holdB N a q = true → indN N a q = 1 := fun q hq => by
    unfold holdB at hq
    rw [Bool.and_eq_true, decide_eq_true_eq, decide_eq_true_eq] at hq
    exact if_pos hq
  have hs := chain_sum a hch (fun k hk => hl k (hkn k hk))
  have hs1 : (ks.map (indN N a)).sum ≤ 1 := by rw [hs]; split <;> omega
  have h3 := sum_but (indN N a) c ks hcm hs1 (fun q _ => by unfold indN; split <;> omega)
  have h4 := mem_sum (g := indN N a) (l := ks.filter (fun k => k != c)) (k := k) (List.mem_filter.2 ⟨hkm, by simpa using ne⟩)
  rw [g1 _ hc] at h3
  rw [g1 _ hk] at h4
  omega
theorem holdB_iff {N : List Nd} {a : Int} {k : Nat} : holdB N a k = true ↔ (N.getD k nd0).fr ≤ a ∧ a < (N.getD k nd0).tt := by
  unfold holdB
  rw [Bool.and_eq_true, decide_eq_true_eq, decide_eq_true_eq]
theorem getD_memI {l : List Int} {j : Nat} (h : j < l.length) : l.getD j 0 ∈ l := by
  rw [List.getD_eq_getElem?_getD, List.getElem?_eq_getElem h]
  exact List.getElem_mem h
theorem mem_getDI {l : List Int} {x : Int} (h : x ∈ l) : ∃ j, j < l.length ∧ l.getD j 0 = x := by
  obtain ⟨j, hj, e⟩ := List.getElem_of_mem h
  exact ⟨j, hj, by rw [List.getD_eq_getElem?_getD, List.getElem?_eq_getElem hj]; exact e⟩
/-- A way up, and the nodes that have its leaf below. -/
structure OnWay (N : List Nd) (i a : Nat) (W : List Int) : Prop where
  spec : WaySpec N i W
  lv : (N.getD i nd0).lv = 0
  ks : (N.getD i nd0).ks = []
  fr : (N.getD i nd0).fr = (a : Int)
  tt : (N.getD i nd0).tt = (a : Int) + 1
theorem OnWay.hold {N : List Nd} {i a : Nat} {W : List Int} (h : OnWay N i a W) {j : Nat} (hj : j < W.length) : ∃ k : Nat, W.getD j 0 = (k : Int) ∧ k < N.length ∧ holdB N (a : Int) k = true := by
  obtain ⟨k, h1, h2, h3, h4⟩ := h.spec.all j hj
  have h5 := h.fr
  have h6 := h.tt
  exact ⟨k, h1, h2, holdB_iff.2 ⟨by omega, by omega⟩⟩
theorem OnWay.holds {N : List Nd} {i a : Nat} {W : List Int} (h : OnWay N i a W) (hl : ∀ k, k < N.length → (N.getD k nd0).fr < (N.getD k nd0).tt) (hs : ∀ i, i + 1 < N.length → ∃ p, UpSub N i p) :
    ∀ (d k : Nat), N.length ≤ k + d → k < N.length → holdB N (a : Int) k = true → (k : Int) ∈ W
  | 0, k, h1, h2, _ => by omega
  | d + 1, k, h1, h2, h3 => by
    by_cases e : k + 1 < N.length
    · obtain ⟨p, hp⟩ := hs k e
      have hp3 := holdB_iff.1 h3
      have hpw := h.holds hl hs d p (by have := hp.2.1; omega) hp.2.2.1 (holdB_iff.2 ⟨by have := hp.2.2.2.1; omega, by have := hp.2.2.2.2.1; omega⟩)
      obtain ⟨j, hj, ej⟩ := mem_getDI hpw
      obtain ⟨-, -, -, -, -, ks, hks, hkm, -⟩ := hp
      cases j with
      | zero =>
        rw [h.spec.head] at ej
        have : i = p := by omega
        rw [← this, h.ks] at hks
        have := congrArg List.length hks
        rw [kz_length] at this
        have h0 : ks = [] := List.eq_nil_of_length_eq_zero this.symm
        rw [h0] at hkm
        cases hkm
      | succ j =>
        obtain ⟨c, q, c1, c2, c3⟩ := h.spec.step j hj
        rw [ej] at c2
        have : q = p := by omega
        subst this
        obtain ⟨c', d1, -, d3⟩ := h.hold (j := j) (by omega)
        have : c' = c := by omega
        subst this
        have := kid_one hl c3 (k := k) (by rw [hks]; exact List.mem_map.2 ⟨k, hkm, rfl⟩) d3 h3
        rw [this, ← c1]
        exact getD_memI (by omega)
    · have h4 : k = N.length - 1 := by omega
      rw [h4, ← h.spec.last]
      exact getD_memI (Nat.sub_lt h.spec.pos Nat.one_pos)
theorem ways_on {kind : Int} {ids : List Int} {ls : List (List Int)} (hok : OkT ids ls) {a : Nat} (ha : a < ids.length) :
    ∃ i : Nat, i < (nodesL kind ids ls).length ∧ leafI (a : Int) (nodesL kind ids ls) = (i : Int) ∧ OnWay (nodesL kind ids ls) i a (wayN (nodesL kind ids ls) (nodesL kind ids ls).length (leafI (a : Int) (nodesL kind ids ls))) := by
  have hz : ¬ ids.length = 0 := by omega
  obtain ⟨i, h1, h2, h3, h4, h5⟩ := leaf_is (kind := kind) hok ha
  rw [h1]
  refine ⟨i, h2, rfl, way_spec (fun j hj => nodes_sub hok hz hj) (nodes_root hok hz).2.2.2 _ i h2 (by omega), h3, ?_, h4, h5⟩
  rcases nodes_good (kind := kind) hok h2 with ⟨at', -, -, hks, -⟩ | ⟨L, at', ks, hlv, -⟩
  · exact hks
  · rw [h3] at hlv
    omega
/-- The way up is just the nodes that have the leaf below. -/
theorem path_eq {kind : Int} {ids : List Int} {ls : List (List Int)} (hok : OkT ids ls) {a : Nat} (ha : a < ids.length) :
    pthT (nodesL kind ids ls) (a : Int) (nodesL kind ids ls).length = wayN (nodesL kind ids ls) (nodesL kind ids ls).length (leafI (a : Int) (nodesL kind ids ls)) := by
  have hz : ¬ ids.length = 0 := by omega
  obtain ⟨i, h1, h2, h3⟩ := ways_on (kind := kind) hok ha
  refine rise_eq (pthT_rise _ _ _) ?_ fun z => ⟨fun hz' => ?_, fun hz' => ?_⟩
  · rw [h2]
    exact (wayN_rise (fun k hk => nodes_up hok hk) _ i h1).1
  · obtain ⟨k, hk, rfl⟩ := List.mem_map.1 hz'
    obtain ⟨k1, k2⟩ := List.mem_filter.1 hk
    exact h3.holds (fun k hk => nodes_lt hok hz hk) (fun i hi => nodes_sub hok hz hi) (nodesL kind ids ls).length k (Nat.le_add_left _ _) (List.mem_range.1 k1) k2
  · obtain ⟨j, hj, rfl⟩ := mem_getDI hz'
    obtain ⟨k, k1, k2, k3⟩ := h3.hold hj
    rw [k1]
    exact List.mem_map.2 ⟨k, List.mem_filter.2 ⟨List.mem_range.2 k2, k3⟩, rfl⟩
/-- What is beside a way, as the document has it. -/
def besD (N : List Nd) (W : List Int) (i : Nat) : List Int := (N.getD (W.getD i 0).toNat nd0).ks.filter (fun z => !(W.contains z))
def besDT (N : List Nd) (W : List Int) : Nat → List Int
  | 0 => []
  | i + 1 => besDT N W i ++ besD N W i
theorem besD_length {N : List Nd} (h3 : ∀ k, (N.getD k nd0).ks.length ≤ 3) (W : List Int) (i : Nat) : (besD N W i).length ≤ 3 := Nat.le_trans (List.length_filter_le _ _) (h3 _)
theorem besDT_length {N : List Nd} (h3 : ∀ k, (N.getD k nd0).ks.length ≤ 3) (W : List Int) : ∀ n, (besDT N W n).length ≤ 3 * n
  | 0 => Nat.zero_le _
  | n + 1 => by
    have h1 := besDT_length h3 W n
    have h2 := besD_length h3 W n
    simp only [besDT, List.length_append]
    omega
theorem besD_zero {N : List Nd} {i a : Nat} {W : List Int} (h : OnWay N i a W) : besD N W 0 = [] := by
  unfold besD
  rw [h.spec.head, Int.toNat_natCast, h.ks]
  rfl
theorem besD_succ {N : List Nd} {i a : Nat} {W : List Int} (h : OnWay N i a W) (hl : ∀ k, k < N.length → (N.getD k nd0).fr < (N.getD k nd0).tt) {j : Nat} (hj : j + 1 < W.length) : besD N W (j + 1) = besF N W (j + 1) := by
  obtain ⟨c, p, c1, c2, c3⟩ := h.spec.step j hj
  obtain ⟨c', d1, -, d3⟩ := h.hold (j := j) (by omega)
  have : c' = c := by omega
  subst this
  unfold besD besF
  rw [c2, Int.toNat_natCast, Nat.add_sub_cancel, c1]
  refine List.filter_congr fun z hz => ?_
  obtain ⟨-, -, -, -, -, ks, hks, hcm, -⟩ := id c3
  have hz2 := hz
  rw [hks] at hz2
  obtain ⟨k, hk, rfl⟩ := List.mem_map.1 hz2
  by_cases e : k = c'
  · subst e
    have hm : W.contains ((k : Nat) : Int) = true := by
      rw [List.contains_iff_mem, ← c1]
      exact getD_memI (by omega)
    rw [hm]
    simp
  · have hm : W.contains ((k : Nat) : Int) = false := by
      cases hb : W.contains ((k : Nat) : Int) with
      | false => rfl
      | true =>
        rw [List.contains_iff_mem] at hb
        obtain ⟨q, hq, eq⟩ := mem_getDI hb
        obtain ⟨k', e1, -, e3⟩ := h.hold hq
        have : k' = k := by omega
        subst this
        exact absurd (kid_one hl c3 hz d3 e3) e
    rw [hm]
    have : ((k : Nat) : Int) ≠ (c' : Int) := fun q => e (by omega)
    simp [this]
theorem beside_eq {N : List Nd} {i a : Nat} {W : List Int} (h : OnWay N i a W) (hl : ∀ k, k < N.length → (N.getD k nd0).fr < (N.getD k nd0).tt) : ∀ n, n < W.length → besDT N W (n + 1) = besTo N W n
  | 0, _ => by
    show [] ++ besD N W 0 = []
    rw [besD_zero h]
    rfl
  | n + 1, hn => by
    show besDT N W (n + 1) ++ besD N W (n + 1) = besTo N W n ++ besF N W (n + 1)
    rw [beside_eq h hl n (by omega), besD_succ h hl hn]
/-- How high a tree is, as the document has it. -/
def rhiT (kind : Int) (ids : List Int) (ls : List (List Int)) : Nat → Int
  | 0 => 0
  | j + 1 => max (rhiT kind ids ls j) ((rpathW kind ids ls (ids.getD j 0)).length - 1)
theorem rhiT_nn (kind : Int) (ids : List Int) (ls : List (List Int)) : ∀ j, 0 ≤ rhiT kind ids ls j
  | 0 => Int.le_refl _
  | j + 1 => by
    have := rhiT_nn kind ids ls j
    unfold rhiT
    omega
theorem rhiT_le {kind : Int} {ids : List Int} {ls : List (List Int)} : ∀ (n j : Nat), j < n → ((rpathW kind ids ls (ids.getD j 0)).length : Int) - 1 ≤ rhiT kind ids ls n
  | n + 1, j, h => by
    unfold rhiT
    by_cases e : j = n
    · rw [e]; omega
    · have := rhiT_le n j (by omega) (kind := kind) (ids := ids) (ls := ls)
      omega
theorem cnt_idx : ∀ {ids : List Int} {a : Nat}, Rise ids → a < ids.length → cnt ids (ids.getD a 0) = a := by
  intro ids a hr ha
  have hm : ids.getD a 0 ∈ ids := getD_memI ha
  have h1 := cnt_at hr hm
  have h2 : ids[a]? = some (ids.getD a 0) := by
    rw [List.getD_eq_getElem?_getD, List.getElem?_eq_getElem ha]
    rfl
  obtain ⟨hc, e1⟩ := List.getElem?_eq_some_iff.1 h1
  obtain ⟨hc2, e2⟩ := List.getElem?_eq_some_iff.1 h2
  have hp := List.pairwise_iff_getElem.1 hr
  apply Classical.byContradiction
  intro ne
  rcases Nat.lt_or_gt_of_ne ne with h | h
  · have := hp _ _ hc hc2 h
    omega
  · have := hp _ _ hc2 hc h
    omega
theorem way_sub {N : List Nd} (hu : ∀ k, k < N.length → (N.getD k nd0).up = -1 ∨ ∃ j : Nat, (N.getD k nd0).up = (j : Int) ∧ k < j ∧ j < N.length) :
    ∀ (d k q : Nat), N.length ≤ k + d → k < N.length → (q : Int) ∈ wayN N N.length (k : Int) → (wayN N N.length (q : Int)).length ≤ (wayN N N.length (k : Int)).length
  | 0, k, q, h1, h2, _ => by omega
  | d + 1, k, q, h1, h2, h3 => by
    rcases hu k h2 with e | ⟨j, e, hj, hn⟩
    · rw [wayN_top h2 e] at h3
      have : q = k := by
        have := List.mem_singleton.1 h3
        omega
      rw [this]
      exact Nat.le_refl _
    · have e2 := wayN_up hu h2 e
      rw [e2] at h3
      rcases List.mem_cons.1 h3 with h | h
      · have : q = k := by omega
        rw [this]
        exact Nat.le_refl _
      · have := way_sub hu d j q (by omega) hn h
        rw [e2, List.length_cons]
        omega
theorem rhi_eq {kind : Int} (hkd : kind = 1 ∨ kind = 2) {ids : List Int} {ls : List (List Int)} (hok : OkT ids ls) : rhiT kind ids ls ids.length = hiN (nodesL kind ids ls) := by
  have hN : (nodesL kind ids ls).length ≤ 90000 := by
    rcases hkd with rfl | rfl
    · rw [← nonK_all (kinds_cor hok), nonK]
      exact Nat.le_trans (List.length_filter_le _ _) (Nat.le_trans (by rw [List.length_take]; exact Nat.min_le_right _ _) (c3s_le hok))
    · exact c3s_le hok
  have hu : ∀ k, k < (nodesL kind ids ls).length → ((nodesL kind ids ls).getD k nd0).up = -1 ∨ ∃ j : Nat, ((nodesL kind ids ls).getD k nd0).up = (j : Int) ∧ k < j ∧ j < (nodesL kind ids ls).length := fun k hk => nodes_up hok hk
  obtain ⟨-, -, h3, h4, h5⟩ := hiF_says (N := nodesL kind ids ls) (by omega) hu _ (Nat.le_refl _)
  change (∀ k, _ → _ → ((dpN (nodesL kind ids ls) k : Nat) : Int) ≤ hiN (nodesL kind ids ls)) at h3
  change hiN (nodesL kind ids ls) = 0 ∨ ∃ k, _ ∧ hiN (nodesL kind ids ls) = _ at h4
  change 0 ≤ hiN (nodesL kind ids ls) at h5
  have hm0 : mayE kind ids ls = 0 := mayE_zero.2 ⟨hkd, hok⟩
  have hw : ∀ j, j < ids.length → ∃ i, i < (nodesL kind ids ls).length ∧ OnWay (nodesL kind ids ls) i j (wayN (nodesL kind ids ls) (nodesL kind ids ls).length (i : Int)) ∧ rpathW kind ids ls (ids.getD j 0) = wayN (nodesL kind ids ls) (nodesL kind ids ls).length (i : Int) := fun j hj => by
    obtain ⟨i, i1, i2, i3⟩ := ways_on (kind := kind) hok hj
    have hE : rpathE kind ids ls (ids.getD j 0) = 0 := by
      unfold rpathE
      rw [if_pos hm0, if_pos (getD_memI hj)]
    refine ⟨i, i1, by rw [← i2]; exact i3, ?_⟩
    unfold rpathW
    rw [if_pos hE, cnt_idx hok.1.2.2 hj, i2]
  have up : ∀ n, n ≤ ids.length → rhiT kind ids ls n ≤ hiN (nodesL kind ids ls) := by
    intro n
    induction n with
    | zero => exact fun _ => h5
    | succ n ih =>
      intro hn
      obtain ⟨i, i1, -, i3⟩ := hw n hn
      have h6 := h3 i i1 (by omega)
      have h7 := ih (by omega)
      unfold rhiT
      rw [i3]
      unfold dpN at h6
      omega
  refine Int.le_antisymm (up _ (Nat.le_refl _)) ?_
  rcases h4 with h | ⟨k, k1, k2⟩
  · rw [h]
    exact rhiT_nn _ _ _ _
  · have hz : ¬ ids.length = 0 := fun e => by
      unfold nodesL at k1
      rw [if_pos e] at k1
      simp at k1
    have hb := nodes_bd hok hz k1
    have hl := nodes_lt hok hz k1
    obtain ⟨a, ha⟩ : ∃ a : Nat, ((nodesL kind ids ls).getD k nd0).fr = (a : Int) := ⟨_, (Int.toNat_of_nonneg hb.1).symm⟩
    obtain ⟨i, i1, i2, i3⟩ := hw a (by omega)
    have hk := i2.holds (fun k hk => nodes_lt hok hz hk) (fun i hi => nodes_sub hok hz hi) (nodesL kind ids ls).length k (Nat.le_add_left _ _) k1 (holdB_iff.2 ⟨by omega, by omega⟩)
    have h8 := way_sub hu (nodesL kind ids ls).length i k (Nat.le_add_left _ _) i1 hk
    have h9 := rhiT_le (kind := kind) (ids := ids) (ls := ls) ids.length a (by omega)
    rw [i3] at h9
    rw [k2]
    unfold dpN
    have hp : 0 < (wayN (nodesL kind ids ls) (nodesL kind ids ls).length (i : Int)).length := i2.spec.pos
    omega
end Go.Proofs.Ytejdkmfbncedkaa
