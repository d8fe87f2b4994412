/- What plan.Make keeps: the plain law of PlanKeeps. -/
import Derived.Test.YtfgammcefaomeaaP12
namespace Go.Proofs.Ytfgammcefaomeaa
open Go Go.RowKit
theorem chain_in {N : List Nd} {n : Nat} : ∀ (ks : List Nat) (f t : Int), (∀ k ∈ ks, ∃ a b : Nat, (N.getD k nd0).fr = (a : Int) ∧ (N.getD k nd0).tt = (b : Int) ∧ a < b ∧ b ≤ n) → ks ≠ [] → ChainN N f ks t → ∃ a b : Nat, f = (a : Int) ∧ t = (b : Int) ∧ a < b ∧ b ≤ n
  | [], _, _, _, h, _ => absurd rfl h
  | [k], f, t, hb, _, hc => by
    obtain ⟨a, b, h1, h2, h3, h4⟩ := hb k (List.mem_singleton.2 rfl)
    have c1 := hc.1
    have c2 : (N.getD k nd0).tt = t := hc.2
    exact ⟨a, b, by omega, by omega, h3, h4⟩
  | k :: k2 :: ks, f, t, hb, _, hc => by
    obtain ⟨a, b, h1, h2, h3, h4⟩ := hb k (List.mem_cons_self ..)
    obtain ⟨a', b', g1, g2, g3, g4⟩ := chain_in (k2 :: ks) _ t (fun x hx => hb x (List.mem_cons_of_mem _ hx)) (by simp) hc.2
    have c1 := hc.1
    exact ⟨a, b', by omega, g2, by omega, g4⟩
theorem nodes_span {kind : Int} {ids : List Int} {ls : List (List Int)} (hok : OkT ids ls) : ∀ (b i : Nat), i < b → i < (nodesL kind ids ls).length → ∃ x y : Nat, ((nodesL kind ids ls).getD i nd0).fr = (x : Int) ∧ ((nodesL kind ids ls).getD i nd0).tt = (y : Int) ∧ x < y ∧ y ≤ ids.length
  | 0, _, h, _ => absurd h (Nat.not_lt_zero _)
  | b + 1, i, hb, hi => by
    rcases nodes_good (kind := kind) hok hi with ⟨at', h1, -, -, -, h2, h3⟩ | ⟨L, at', ks, -, -, h3, h4, -, h5, -⟩
    · exact ⟨at', at' + 1, h2, by omega, by omega, by omega⟩
    · refine chain_in ks _ _ (fun k hk => ?_) (fun q => by rw [q] at h4; simp at h4) h5
      obtain ⟨j, q1, q2⟩ := nodes_kd hok hi (k : Int) (by rw [h3]; exact List.mem_map_of_mem hk)
      have : j = k := by omega
      subst this
      exact nodes_span hok b j (by omega) (by omega)
/-- The same members, one behind another, none of them touched. -/
def SmP (ids0 ids T : List Int) (by' a b l : Int) : Prop := ∀ n : Nat, (n : Int) < l → ids.getD (b + n).toNat 0 = ids0.getD (a + n).toNat 0 ∧ ids.getD (b + n).toNat 0 ∉ T ∧ ids.getD (b + n).toNat 0 ≠ by'
theorem SmP.app {ids0 ids T : List Int} {by' a b l m : Int} (h1 : SmP ids0 ids T by' a b l) (h2 : SmP ids0 ids T by' (a + l) (b + l) m) (hl : 0 ≤ l) : SmP ids0 ids T by' a b (l + m) := by
  intro n hn
  by_cases h : (n : Int) < l
  · exact h1 n h
  · have := h2 (n - l.toNat) (by omega)
    rwa [show a + l + ((n - l.toNat : Nat) : Int) = a + n by omega, show b + l + ((n - l.toNat : Nat) : Int) = b + n by omega] at this
def KpS (A B : List Nd) (ids0 ids T : List Int) (by' : Int) (j i : Nat) : Prop :=
  (A.getD j nd0).tt - (A.getD j nd0).fr = (B.getD i nd0).tt - (B.getD i nd0).fr ∧ (B.getD i nd0).fr ≤ (B.getD i nd0).tt ∧ SmP ids0 ids T by' (A.getD j nd0).fr (B.getD i nd0).fr ((B.getD i nd0).tt - (B.getD i nd0).fr)
theorem chain_kp {A B : List Nd} {ids0 ids T : List Int} {by' : Int} {g : Nat → Nat} : ∀ (ks : List Nat) (b t a t' : Int), ChainN B b ks t → ChainN A a (ks.map g) t' → (∀ k ∈ ks, KpS A B ids0 ids T by' (g k) k) → t' - a = t - b ∧ b ≤ t ∧ SmP ids0 ids T by' a b (t - b)
  | [], b, t, a, t', h1, h2, _ => by
    have h1 : b = t := h1
    have h2 : a = t' := h2
    refine ⟨by omega, by omega, fun n hn => ?_⟩
    omega
  | k :: ks, b, t, a, t', h1, h2, hk => by
    obtain ⟨c1, c2⟩ := h1
    obtain ⟨d1, d2⟩ := h2
    obtain ⟨e1, e2, e3⟩ := hk k (List.mem_cons_self ..)
    obtain ⟨f1, f2, f3⟩ := chain_kp ks _ t _ t' c2 d2 fun x hx => hk x (List.mem_cons_of_mem _ hx)
    refine ⟨by omega, by omega, ?_⟩
    have := (show SmP ids0 ids T by' a b ((B.getD k nd0).tt - (B.getD k nd0).fr) by rw [← c1, ← d1]; exact e3).app (m := t - (B.getD k nd0).tt) (by rw [show a + ((B.getD k nd0).tt - (B.getD k nd0).fr) = (A.getD (g k) nd0).tt by omega, show b + ((B.getD k nd0).tt - (B.getD k nd0).fr) = (B.getD k nd0).tt by omega]; exact f3) (by omega)
    rwa [show (B.getD k nd0).tt - (B.getD k nd0).fr + (t - (B.getD k nd0).tt) = t - b by omega] at this
theorem keepL_pre (A : List Nd) (f : Int → Option Int) (ids : List Int) (B : List Nd) {k i : Nat} (hk : k < i) : ∀ n, i ≤ n → (keepL A f ids B n).getD k 0 = (keepL A f ids B i).getD k 0
  | 0, h => by omega
  | n + 1, h => by
    by_cases e : i = n + 1
    · rw [e]
    · rw [keepL, List.getD_eq_getElem?_getD, List.getElem?_append_left (by rw [keepL_length]; omega), ← List.getD_eq_getElem?_getD]
      exact keepL_pre A f ids B hk n (by omega)
theorem keepL_at (A : List Nd) (f : Int → Option Int) (ids : List Int) (B : List Nd) {i n : Nat} (h : i < n) : (keepL A f ids B n).getD i 0 = keptN A f ids (keepL A f ids B i) (B.getD i nd0) := by
  rw [keepL_pre A f ids B (Nat.lt_succ_self i) n h, keepL]
  have hm := getD_midP (m := []) (z := keptN A f ids (keepL A f ids B i) (B.getD i nd0)) (keepL_length A f ids B i)
  rwa [List.append_nil] at hm
theorem lfF_some {A : List Nd} {ids : List Int} {q v : Int} : ∀ n, lfF A ids n q = some v → ∃ k : Nat, k < n ∧ v = (k : Int) ∧ (A.getD k nd0).lv = 0 ∧ q = ids.getD (A.getD k nd0).ix.toNat 0
  | 0, h => by simp [lfF] at h
  | n + 1, h => by
    rw [lfF] at h
    split at h
    · rename_i h1
      split at h
      · rename_i h2
        exact ⟨n, Nat.lt_succ_self n, (Option.some.inj h).symm, h1, h2⟩
      · obtain ⟨k, h3, h4⟩ := lfF_some n h
        exact ⟨k, by omega, h4⟩
    · obtain ⟨k, h3, h4⟩ := lfF_some n h
      exact ⟨k, by omega, h4⟩
theorem lvT_some {A : List Nd} {ids T : List Int} {by' q v : Int} (h : lvT A ids T by' q = some v) : q ≠ by' ∧ q ∉ T ∧ ∃ k : Nat, k < A.length ∧ v = (k : Int) ∧ (A.getD k nd0).lv = 0 ∧ q = ids.getD (A.getD k nd0).ix.toNat 0 := by
  unfold lvT at h
  split at h
  · cases h
  · rename_i h1
    exact ⟨fun e => h1 (.inl e), fun e => h1 (.inr e), lfF_some _ h⟩
theorem kz_inj {a b : List Nat} (h : kz a = kz b) : a = b := by
  unfold kz at h
  exact List.map_inj_right (fun x y e => Int.ofNat.inj e) |>.1 h
/-- What is known of what a node is kept as. -/
structure KpA (A B : List Nd) (ids0 ids T K : List Int) (by' : Int) (i j : Nat) : Prop where
  lt : j < A.length
  sp : KpS A B ids0 ids T by' j i
  kd : ∀ x ∈ (B.getD i nd0).ks, 0 ≤ K.getD x.toNat 0
  lv : (A.getD j nd0).lv = 0 ↔ (B.getD i nd0).lv = 0
  lf : (B.getD i nd0).lv = 0 → ids.getD (B.getD i nd0).ix.toNat 0 = ids0.getD (A.getD j nd0).ix.toNat 0
  ks : (B.getD i nd0).lv ≠ 0 → (A.getD j nd0).ks = kidK K (B.getD i nd0).ks
theorem kp_all {kind by' : Int} {ids0 ids T : List Int} {ls0 ls : List (List Int)} (h0 : OkT ids0 ls0) (h1 : OkT ids ls) {A B : List Nd} (eA : A = nodesL kind ids0 ls0) (eB : B = nodesL kind ids ls) {K : List Int} (eK : K = keepL A (lvT A ids0 T by') ids B B.length) : ∀ (b i : Nat), i < b → i < B.length → K.getD i 0 = -1 ∨ ∃ j : Nat, K.getD i 0 = (j : Int) ∧ KpA A B ids0 ids T K by' i j
  | 0, _, h, _ => absurd h (Nat.not_lt_zero _)
  | b + 1, i, hb, hi => by
    have ih : ∀ k, k < i → K.getD k 0 = -1 ∨ ∃ j : Nat, K.getD k 0 = (j : Int) ∧ KpA A B ids0 ids T K by' k j := fun k hk => kp_all h0 h1 eA eB eK b k (by omega) (by omega)
    have hat : K.getD i 0 = keptN A (lvT A ids0 T by') ids (keepL A (lvT A ids0 T by') ids B i) (B.getD i nd0) := by
      rw [eK]
      exact keepL_at A _ ids B hi
    have hgB := nodes_good (kind := kind) h1 (i := i) (by rw [← eB]; exact hi)
    rw [← eB] at hgB
    rcases hgB with ⟨at', g1, g2, g3, g4, g5, g6⟩ | ⟨L, at', ks, g1, g2, g3, g4, g5, g6, -⟩
    · unfold keptN at hat
      rw [if_pos g2, g4, Int.toNat_natCast] at hat
      cases hl : lvT A ids0 T by' (ids.getD at' 0) with
      | none =>
        rw [hl] at hat
        exact .inl hat
      | some v =>
        rw [hl] at hat
        obtain ⟨q1, q2, k, q3, rfl, q4, q5⟩ := lvT_some hl
        have hgA := nodes_good (kind := kind) h0 (i := k) (by rw [← eA]; exact q3)
        rw [← eA] at hgA
        rcases hgA with ⟨a0, f1, f2, f3, f4, f5, f6⟩ | ⟨L', at2, ks', f1, -⟩
        · rw [f4, Int.toNat_natCast] at q5
          refine .inr ⟨k, hat, ⟨q3, ⟨by omega, by omega, fun n hn => ?_⟩, fun x hx => ?_, ⟨fun _ => g2, fun _ => q4⟩, fun _ => ?_, fun h => absurd g2 h⟩⟩
          · have : n = 0 := by omega
            subst this
            rw [g5, f5]
            have e1 : ((at' : Int) + ((0 : Nat) : Int)).toNat = at' := by omega
            have e2 : ((a0 : Int) + ((0 : Nat) : Int)).toNat = a0 := by omega
            rw [e1, e2]
            exact ⟨q5, q2, q1⟩
          · rw [g3] at hx
            simp at hx
          · rw [g4, f4, Int.toNat_natCast, Int.toNat_natCast]
            exact q5
        · omega
    · have hne : (B.getD i nd0).lv ≠ 0 := by omega
      have hkk : ∀ k ∈ ks, k < i := fun k hk => by
        have h := nodes_kd (kind := kind) h1 (i := i) (by rw [← eB]; exact hi) (k : Int)
        rw [← eB] at h
        obtain ⟨j, q1, q2⟩ := h (by rw [g3]; exact List.mem_map_of_mem hk)
        omega
      have hpre : kidK (keepL A (lvT A ids0 T by') ids B i) (B.getD i nd0).ks = kidK K (B.getD i nd0).ks := by
        rw [g3]
        unfold kidK
        refine List.map_congr_left fun z hz => ?_
        obtain ⟨k, rfl, hk⟩ := kz_in hz
        rw [Int.toNat_natCast, eK, keepL_pre A _ ids B (hkk k hk) B.length (by omega)]
      unfold keptN at hat
      rw [if_neg hne, hpre] at hat
      split at hat
      · exact .inl hat
      · rename_i hany
        have hpos : ∀ k ∈ ks, ∃ j : Nat, K.getD k 0 = (j : Int) ∧ KpA A B ids0 ids T K by' k j := fun k hk => by
          rcases ih k (hkk k hk) with h | h
          · refine absurd (List.any_eq_true.2 ⟨K.getD k 0, ?_, by rw [h]; decide⟩) hany
            rw [g3]
            refine List.mem_map.2 ⟨(k : Int), List.mem_map_of_mem hk, ?_⟩
            rw [Int.toNat_natCast]
          · exact h
        dsimp only at hat
        split at hat
        · exact .inl hat
        · rename_i hn
          simp only [not_or, Decidable.not_not, Int.not_lt] at hn
          obtain ⟨n1, n2, n3⟩ := hn
          generalize hup : (A.getD ((kidK K (B.getD i nd0).ks).getD 0 0).toNat nd0).up = up at *
          obtain ⟨j, rfl⟩ : ∃ j : Nat, up = (j : Int) := ⟨up.toNat, by omega⟩
          rw [Int.toNat_natCast] at n2 n3
          have hlt : j < A.length := by
            have h3 : (kidK K (B.getD i nd0).ks).getD 0 0 ∈ kidK K (B.getD i nd0).ks := getD_memP (by rw [g3]; simp [kidK, kz]; exact g4)
            rw [g3] at h3
            obtain ⟨z, hz, h4⟩ := List.mem_map.1 h3
            obtain ⟨k, rfl, hk⟩ := kz_in hz
            rw [Int.toNat_natCast] at h4
            obtain ⟨jk, h5, h6⟩ := hpos k hk
            rw [g3] at hup
            rw [← h4, h5, Int.toNat_natCast] at hup
            have h7 := nodes_up (kind := kind) h0 (i := jk) (by rw [← eA]; exact h6.lt)
            rw [← eA, hup] at h7
            rcases h7 with h7 | ⟨j', h7, -, h8⟩ <;> omega
          have hksA : (A.getD j nd0).ks = kz (ks.map fun k => (K.getD k 0).toNat) := by
            rw [n3, g3]
            unfold kidK kz
            rw [List.map_map, List.map_map]
            refine List.map_congr_left fun k hk => ?_
            obtain ⟨jk, h5, -⟩ := hpos k hk
            show K.getD ((k : Int).toNat) 0 = _
            rw [Int.toNat_natCast]
            show _ = (((K.getD k 0).toNat : Nat) : Int)
            omega
          have hgA := nodes_good (kind := kind) h0 (i := j) (by rw [← eA]; exact hlt)
          rw [← eA] at hgA
          rcases hgA with ⟨a0, f1, f2, f3, -⟩ | ⟨L', at2, ks', f1, f2, f3, f4, f5, f6, -⟩
          · rw [hksA] at f3
            have := congrArg List.length f3
            simp [kz] at this
            rw [this] at g4
            simp at g4
          · have : ks' = ks.map fun k => (K.getD k 0).toNat := kz_inj (f3.symm.trans hksA)
            subst this
            have hsp := chain_kp (ids0 := ids0) (ids := ids) (T := T) (by' := by') ks _ _ _ _ g6 f6 fun k hk => by
              obtain ⟨jk, h5, h6⟩ := hpos k hk
              rw [h5, Int.toNat_natCast]
              exact h6.sp
            refine .inr ⟨j, hat, ⟨hlt, hsp, fun x hx => ?_, ⟨fun h => by omega, fun h => absurd h hne⟩, fun h => absurd h hne, fun _ => n3⟩⟩
            rw [g3] at hx
            obtain ⟨k, rfl, hk⟩ := kz_in hx
            obtain ⟨jk, h5, -⟩ := hpos k hk
            rw [Int.toNat_natCast, h5]
            omega
/-- No two are kept as one. -/
theorem kp_one {kind by' : Int} {ids0 ids T : List Int} {ls : List (List Int)} (h1 : OkT ids ls) {A B : List Nd} (eB : B = nodesL kind ids ls) {K : List Int} (hA : ∀ i, i < B.length → K.getD i 0 = -1 ∨ ∃ j : Nat, K.getD i 0 = (j : Int) ∧ KpA A B ids0 ids T K by' i j) : ∀ (b i i' : Nat), i < b → i < B.length → i' < B.length → 0 ≤ K.getD i 0 → K.getD i 0 = K.getD i' 0 → i = i'
  | 0, _, _, h, _, _, _, _ => absurd h (Nat.not_lt_zero _)
  | b + 1, i, i', hb, hi, hi', hp, he => by
    have ht : TrF B ids := by rw [eB]; exact nodes_trf h1
    rcases hA i hi with h | ⟨j, q1, q2⟩
    · omega
    rcases hA i' hi' with h | ⟨j', q1', q2'⟩
    · omega
    have : j' = j := by omega
    subst this
    by_cases hz : (B.getD i nd0).lv = 0
    · have hz' := q2'.lv.1 (q2.lv.2 hz)
      rcases ht.lv i hi with ⟨-, -, x, g1, g2⟩ | ⟨g, -⟩
      · rcases ht.lv i' hi' with ⟨-, -, x', g1', g2'⟩ | ⟨g, -⟩
        · have e1 := q2.lf hz
          have e2 := q2'.lf hz'
          rw [g1, Int.toNat_natCast] at e1
          rw [g1', Int.toNat_natCast] at e2
          have : x = x' := nodup_at ht.idn g2 g2' (e1.trans e2.symm)
          subst this
          exact ht.one i i' x hi hi' hz hz' g1 g1'
        · omega
      · omega
    · have hz' : (B.getD i' nd0).lv ≠ 0 := fun h => hz (q2.lv.1 (q2'.lv.2 h))
      have e := (q2.ks hz).symm.trans (q2'.ks hz')
      rcases ht.lv i hi with ⟨g, -⟩ | ⟨-, g⟩
      · exact absurd g hz
      rcases ht.lv i' hi' with ⟨g', -⟩ | ⟨-, g'⟩
      · exact absurd g' hz'
      have l0 : 0 < (B.getD i nd0).ks.length := List.length_pos_iff.2 g
      have l0' : 0 < (B.getD i' nd0).ks.length := List.length_pos_iff.2 g'
      obtain ⟨k, a1, a2, a3⟩ := ht.kd i hi _ (getD_memP l0)
      obtain ⟨k', b1, b2, b3⟩ := ht.kd i' hi' _ (getD_memP l0')
      have e0 := congrArg (fun l => l.getD 0 0) e
      have eh : ∀ l : List Int, 0 < l.length → (kidK K l).getD 0 0 = K.getD (l.getD 0 0).toNat 0 := fun l hl => by
        cases l with
        | nil => simp at hl
        | cons z zs => rfl
      simp only [eh _ l0, eh _ l0', a1, b1, Int.toNat_natCast] at e0
      have hk0 := q2.kd _ (getD_memP l0)
      rw [a1, Int.toNat_natCast] at hk0
      have : k = k' := kp_one h1 eB hA b k k' (by omega) (by omega) (by omega) hk0 e0
      subst this
      rw [a3] at b3
      omega
end Go.Proofs.Ytfgammcefaomeaa
