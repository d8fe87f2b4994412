/- slices.Sorted over slices.Values and over maps.Keys; slices.Compact. -/
import Derived.Test.YtfgammcefaomeaaK8
import Derived.Test.YtfgammcefaomeaaK4
import Derived.Test.YtfgammcefaomeaaTMap
import Derived.Test.YtfgammcefaomeaaB3
namespace Go.Proofs.Ytfgammcefaomeaa
open Go Go.RowKit Go.Shelf Go.Sort
set_option linter.unusedSimpArgs false
theorem sorted_of (l : List Int) : (l.mergeSort fun x y => decide (x ≤ y)).Pairwise (· ≤ ·) := by
  refine (List.pairwise_mergeSort (le := fun x y : Int => decide (x ≤ y)) (fun a b c h1 h2 => ?_) (fun a b => ?_) l).imp fun {a b} h => by simpa using h
  · simp only [decide_eq_true_eq] at *
    omega
  · simp only [Bool.or_eq_true, decide_eq_true_eq]
    omega
theorem sorted_mem {l : List Int} {x : Int} : x ∈ l.mergeSort (fun x y => decide (x ≤ y)) ↔ x ∈ l := (List.mergeSort_perm l _).mem_iff
theorem sorted_length (l : List Int) : (l.mergeSort fun x y => decide (x ≤ y)).length = l.length := (List.mergeSort_perm l _).length_eq
theorem sorted_rsl {l : List Int} (h : l.Nodup) : (l.mergeSort fun x y => decide (x ≤ y)) = rsl l := by
  refine rsl_eq ?_ fun x => sorted_mem
  have h1 := sorted_of l
  have h2 : (l.mergeSort fun x y => decide (x ≤ y)).Nodup := (List.mergeSort_perm l _).nodup_iff.2 h
  exact (h1.and h2).imp fun {a b} q => Int.lt_iff_le_and_ne.2 ⟨q.1, q.2⟩
/-- Compact of a list that does not fall. -/
theorem compactTo_spec {d : Array Int} (hs : ∀ i j, i ≤ j → j < d.size → d[i]! ≤ d[j]!) : ∀ m, m ≤ d.size → Rise (Lib.compactUpTo d m) ∧ ∀ x, x ∈ Lib.compactUpTo d m ↔ ∃ j, j < m ∧ d[j]! = x
  | 0, _ => ⟨by simp [Lib.compactUpTo, Rise], fun x => by simp [Lib.compactUpTo]⟩
  | m + 1, h => by
    obtain ⟨h1, h2⟩ := compactTo_spec hs m (by omega)
    rw [Lib.compactUpTo_succ]
    cases hk : Lib.keeps d m with
    | true =>
      rw [if_pos rfl]
      refine ⟨List.pairwise_append.2 ⟨h1, List.pairwise_singleton _ _, fun a ha b hb => ?_⟩, fun x => ?_⟩
      · rw [List.mem_singleton.1 hb]
        obtain ⟨j, hj, rfl⟩ := (h2 a).1 ha
        have hne : d[m]! ≠ d[m - 1]! := by
          unfold Lib.keeps at hk
          rcases of_decide_eq_true hk with q | q
          · omega
          · exact q
        have h3 := hs j (m - 1) (by omega) (by omega)
        have h4 := hs (m - 1) m (by omega) (by omega)
        omega
      · rw [List.mem_append, h2, List.mem_singleton]
        constructor
        · rintro (⟨j, hj, rfl⟩ | rfl)
          · exact ⟨j, by omega, rfl⟩
          · exact ⟨m, by omega, rfl⟩
        · rintro ⟨j, hj, rfl⟩
          by_cases e : j = m
          · subst e
            exact .inr rfl
          · exact .inl ⟨j, by omega, rfl⟩
    | false =>
      rw [if_neg (by decide), List.append_nil]
      refine ⟨h1, fun x => (h2 x).trans ⟨fun ⟨j, hj, e⟩ => ⟨j, by omega, e⟩, fun ⟨j, hj, e⟩ => ?_⟩⟩
      by_cases e2 : j = m
      · subst e2
        unfold Lib.keeps at hk
        have q := of_decide_eq_false hk
        have q1 : j ≠ 0 := fun q2 => q (.inl q2)
        have q2 : d[j]! = d[j - 1]! := Decidable.byContradiction fun q3 => q (.inr q3)
        exact ⟨j - 1, by omega, q2.symm.trans e⟩
      · exact ⟨j, by omega, e⟩
theorem compact_rsl (l : List Int) : Lib.compact (l.mergeSort fun x y => decide (x ≤ y)) = rsl l := by
  obtain ⟨s, hs⟩ : ∃ s, s = l.mergeSort fun x y => decide (x ≤ y) := ⟨_, rfl⟩
  have hp : s.Pairwise (· ≤ ·) := by rw [hs]; exact sorted_of l
  have hm : ∀ x, x ∈ s ↔ x ∈ l := fun x => by rw [hs]; exact sorted_mem
  rw [← hs]
  have hd : ∀ i j, i ≤ j → j < s.toArray.size → s.toArray[i]! ≤ s.toArray[j]! := fun i j h1 h2 => by
    have hj : j < s.length := by simpa using h2
    have hi : i < s.length := by omega
    have e1 : s.toArray[i]! = s[i] := by simp [hi]
    have e2 : s.toArray[j]! = s[j] := by simp [hj]
    rw [e1, e2]
    by_cases e : i = j
    · subst e
      exact Int.le_refl _
    · exact List.pairwise_iff_getElem.1 hp i j hi hj (by omega)
  obtain ⟨h1, h2⟩ := compactTo_spec hd s.length (by simp)
  refine rsl_eq h1 fun x => (h2 x).trans ?_
  rw [← hm x]
  constructor
  · rintro ⟨j, hj, rfl⟩
    have e1 : s.toArray[j]! = s[j] := by simp [hj]
    rw [e1]
    exact List.getElem_mem hj
  · intro hx
    obtain ⟨j, hj, rfl⟩ := List.getElem_of_mem hx
    exact ⟨j, hj, by simp [hj]⟩
/-- slices.Sort on numbers of one's own. -/
theorem sortI_any (v : Value) (xs : List Int) (base : Nat) (w : World) (ho : OwnI w base v xs) (hl : xs.length < 4611686018427387904) :
    Calls Try.prog 87 #[v] w fun e w' => e = .returned (.tuple #[]) ∧ OwnI w' base v (xs.mergeSort fun x y => decide (x ≤ y)) ∧ Fr (fun b => v.ownBlock = some b) w w' := by
  rcases ho.2 with ⟨rfl, h0⟩ | ⟨g, cap, cur, rfl, hbg, hgc, hn, hm, hs, ht⟩
  · obtain rfl : xs = [] := List.eq_nil_of_length_eq_zero h0
    refine (calls_of_every_depth fun D => AnyS.slices_Sort_int_none_in srt D none 0 w).mono ?_
    rintro e w' ⟨rfl, rfl⟩
    exact ⟨rfl, by rw [List.mergeSort_nil]; exact OwnI.nil _ _, Fr.refl _ _⟩
  · rw [Nat.mul_one] at ht hs
    have hgc' : w.heap[g]? = some (.cells cur 3 (0, 0)) := hgc
    refine (Any.slices_Sort_int srt g 0 cap xs w (holds_of_blockI hgc' ht) (heap_lt hgc') hl).mono ?_
    rintro e w' ⟨rfl, n, os, rfl⟩
    refine ⟨rfl, ?_, Fr.of_grown (grownBy_sortedI (w := w) (g := g) (n := n) (os := os) _) (fun k hk => hk)⟩
    have := ownsRow_sortedI (w := w) (base := base) (n := n) (os := os) (ss := xs) (ts := xs.mergeSort fun x y => decide (x ≤ y)) (sorted_length xs) hbg hgc' hn hm (by rw [Nat.mul_one]; exact hs)
    unfold OwnI
    rw [sorted_length]
    exact this
/-- slices.Compact on numbers of one's own. -/
theorem compactI_any (v : Value) (xs : List Int) (base : Nat) (w : World) (ho : OwnI w base v xs) (hl : xs.length ≤ 9223372036854775807) :
    Calls Try.prog 53 #[v] w fun e w' => ∃ v', e = .returned v' ∧ OwnI w' base v' (Lib.compact xs) ∧ v'.ownBlock = v.ownBlock ∧ Fr (fun b => v.ownBlock = some b) w w' := by
  rcases ho.2 with ⟨rfl, h0⟩ | ⟨g, cap, cur, rfl, hbg, hgc, hn, hm, hs, ht⟩
  · obtain rfl : xs = [] := List.eq_nil_of_length_eq_zero h0
    refine (Any.slices_Compact_int_empty cpt none 0 w).mono ?_
    rintro e w' ⟨rfl, rfl⟩
    exact ⟨_, rfl, OwnI.nil _ _, rfl, Fr.refl _ _⟩
  · rw [Nat.mul_one] at ht hs
    have hgc' : w.heap[g]? = some (.cells cur 3 (0, 0)) := hgc
    refine (Any.slices_Compact_int cpt g 0 cap xs w (holds_of_blockI hgc' ht) hl hn).mono ?_
    rintro e w' ⟨rfl, q, rfl⟩
    have hcl : (Lib.compact xs).length ≤ xs.length := by
      unfold Lib.compact Lib.compactUpTo
      rw [List.length_map]
      refine Nat.le_trans (List.length_filter_le _ _) ?_
      rw [List.length_range]
      exact Nat.le_refl _
    obtain ⟨ts, hts⟩ : ∃ ts, ts = Lib.compact xs ++ List.replicate (xs.length - (Lib.compact xs).length) 0 := ⟨_, rfl⟩
    have htl : ts.length = xs.length := by rw [hts, List.length_append, List.length_replicate]; omega
    rw [← hts]
    have hgw : Sort.grow (Sort.putRow (Value.int .i64) (Sort.ahead w q) g 0 ts.toArray) #[] = Sort.putRow (Value.int .i64) (Sort.ahead w q) g 0 ts.toArray := by
      unfold Sort.grow
      rw [Array.append_empty]
    have hr : w.grownBy _ (some g) := grownBy_sortedI (w := w) (g := g) (n := q) (os := #[]) ts.toArray
    have hw := ownsRow_sortedI (w := w) (base := base) (n := q) (os := #[]) (ss := xs) (ts := ts) htl hbg hgc' hn hm (by rw [Nat.mul_one]; exact hs)
    rw [hgw] at hr hw
    refine ⟨_, rfl, ?_, rfl, Fr.of_grown hr (fun k hk => hk)⟩
    rcases hw.2 with ⟨h1, -⟩ | ⟨g', cap', cur', he, hb', hgc2, hn2, hm2, hs2, ht2⟩
    · cases h1
    · cases he
      unfold OwnI
      refine ⟨by rw [zv_length, Nat.mul_one], .inr ⟨g, cap, cur', rfl, hb', hgc2, by omega, hm2, hs2, ?_⟩⟩
      rw [Nat.mul_one] at ht2 ⊢
      have h4 := congrArg (List.take (Lib.compact xs).length) ht2
      rw [List.take_take, Nat.min_eq_left hcl] at h4
      rw [h4, hts, List.map_append]
      exact List.take_left' (by rw [List.length_map])
set_option maxRecDepth 100000 in
theorem collectV_any (Bs : Nat) (v : Value) (xs : List Int) (w : World) (h : Rd w v (zv xs)) (hl : xs.length ≤ 17592186044415) (hBs : w.heap[Bs]? = some (.cells #[v] 22 (0, 0))) :
    Calls Try.prog 86 #[.func (.func 88) #[] #[.pointer (some ⟨Bs, 0, none⟩)]] w fun e w' => ∃ u, e = .returned u ∧ OwnI w' w.heap.size u xs ∧ Aft w w' := by
  have HC := Lib.hid (appendV_in Bs v xs w h hl hBs)
  clear h hl hBs
  go_enter Try.func86, Try.ntmps86
  go_wp2_with fail
  refine HC.out.mono ?_
  rintro e w2 ⟨u, rfl, h1, h2⟩
  have H1 := Lib.hid h1
  have H2 := Lib.hid h2
  clear h1 h2 HC
  go_wp2_with fail
  go_ret
  exact ⟨u, rfl, H1.out, H2.out⟩
set_option maxRecDepth 100000 in
theorem sortedV_any (Bs : Nat) (v : Value) (xs : List Int) (w : World) (h : Rd w v (zv xs)) (hl : xs.length ≤ 17592186044415) (hBs : w.heap[Bs]? = some (.cells #[v] 22 (0, 0))) :
    Calls Try.prog 54 #[.func (.func 88) #[] #[.pointer (some ⟨Bs, 0, none⟩)]] w fun e w' => ∃ u, e = .returned u ∧ OwnI w' w.heap.size u (xs.mergeSort fun x y => decide (x ≤ y)) ∧ Aft w w' := by
  have HC := Lib.hid (collectV_any Bs v xs w h hl hBs)
  have HL := Lib.hid hl
  clear h hl hBs
  go_enter Try.func54, Try.ntmps54
  go_wp2_with fail
  refine HC.out.mono ?_
  rintro e w2 ⟨u, rfl, h1, h2⟩
  have H1 := Lib.hid h1
  have H2 := Lib.hid h2
  clear h1 h2 HC
  go_wp2_with fail
  refine (sortI_any u xs w.heap.size w2 H1.out (by have := HL.out; omega)).mono ?_
  rintro e w3 ⟨rfl, h3, h4⟩
  have H3 := Lib.hid h3
  have H4 := Lib.hid (aft_fr H2.out H1.out (Nat.le_refl _) h4)
  clear h3 h4
  go_wp2_with fail
  go_ret
  exact ⟨u, rfl, H3.out, H4.out⟩
/-- A set's keys. -/
theorem SetM.keys {w : World} {b n : Nat} {xs : List Int} (h : SetM w b n xs) (hnd : xs.Nodup) (hwf : ∀ x ∈ xs, (Lit.int .i64 x).wf = true) :
    ∃ D : DataW Unit, w.ownsMap Try.prog 3 (plainElem Try.prog 4) b n D ∧ Maps.size D = xs.length ∧ xs.Perm (intKeys D) := by
  obtain ⟨h1, D, hD, h2, h3⟩ := h
  refine ⟨D, hD, h2, CollectedI.perm (left := fun _ => false) ⟨hnd, fun x => ?_⟩ hD int_key Try.underlying3 (fun _ => rfl)⟩
  rw [and_iff_left rfl]
  by_cases hx : (Lit.int .i64 x).wf = true
  · rw [(h3 x hx).1]
    exact ⟨decide_eq_true, of_decide_eq_true⟩
  · refine ⟨fun q => absurd (hwf x q) hx, fun q => absurd ?_ hx⟩
    have hw := intKeys_wf hD Try.underlying3
    obtain ⟨es, rfl, -⟩ := hD.keysOf
    rw [Maps.has_eq, List.any_eq_true] at q
    obtain ⟨p, hp, hs⟩ := q
    refine hw x (List.mem_map.2 ⟨p, hp, ?_⟩)
    cases hp1 : p.1 with
    | int k y =>
      rw [hp1] at hs
      simp only [Lit.sameKey, Bool.and_eq_true, decide_eq_true_eq, beq_iff_eq] at hs
      simp only [Go.intOf]
      first | exact hs.2 | exact hs
    | _ =>
      rw [hp1] at hs
      simp [Lit.sameKey] at hs
theorem keysI_any (b : Nat) (w : World) :
    Calls Try.prog 57 #[.map (some b)] w fun e w' => e = .returned (.func (.func 89) #[] #[.pointer (some ⟨w.heap.size, 0, none⟩)]) ∧ Aft w w' ∧ w'.heap[w.heap.size]? = some (.cells #[.map (some b)] 88 (0, 0)) := by
  refine ((callsIn_wide (n := 5)).1 (AnyZI.keys_in kys Fence.wide 5 trivial rfl (some b) w)).mono ?_
  rintro e w' ⟨rfl, rfl⟩
  exact ⟨rfl, Aft.alloc _ _, heap_alloc_new w _⟩
theorem sortsIn (m : Nat) : AnyZI.SortsIn Try.prog stdRen Fence.wide m :=
  ⟨fun blk off cap ss W hH hblk hsz => callsIn_wide.2 (Any.slices_Sort_int srt blk off cap ss W hH hblk hsz), fun p cap W => callsIn_wide.2 (calls_of_every_depth fun D => AnyS.slices_Sort_int_none_in srt D p cap W)⟩
theorem sortedK_any (Bm b n : Nat) (xs : List Int) (w : World) (hS : SetM w b n xs) (hnd : xs.Nodup) (hwf : ∀ x ∈ xs, (Lit.int .i64 x).wf = true) (hl : xs.length ≤ 16777216) (hBm : w.heap[Bm]? = some (.cells #[.map (some b)] 88 (0, 0))) :
    Calls Try.prog 54 #[.func (.func 89) #[] #[.pointer (some ⟨Bm, 0, none⟩)]] w fun e w' => ∃ u, e = .returned u ∧ OwnI w' w.heap.size u (rsl xs) ∧ Aft w w' := by
  obtain ⟨D, hD, hsz, hp⟩ := hS.keys hnd hwf
  have hc : w.cell? ⟨Bm, 0, none⟩ = some (.map (some b)) := by simp [World.cell?, hBm]
  have hseq := AnyZI.keys_gives (ρ := kysRen) { kys with } Fence.wide 2 trivial rfl (by omega) Bm b n D w (heap_lt hBm) hc hD
  refine ((callsIn_wide (n := 5)).1 (AnyZI.sorted_in std Fence.wide 5 trivial trivial trivial trivial rfl (by omega) (sortsIn _) (enters_of Try.func87 (by kernel_rfl) rfl) 89 #[.pointer (some ⟨Bm, 0, none⟩)] trivial (enters_of Try.func89 (by kernel_rfl) rfl) _ _ (by rw [hsz]; unfold maxLen; omega) (by rw [hsz]; omega) _ hseq)).mono ?_
  rintro e w' ⟨v, ss, rfl, hss, hrow, -, hb⟩
  have hx : ss.Perm xs := hss.trans hp.symm
  have e1 : (ss.mergeSort fun x y => decide (x ≤ y)) = rsl xs := by
    rw [sorted_rsl (hx.nodup_iff.2 hnd)]
    exact rise_eq (rsl_rise _) (rsl_rise _) fun z => by rw [rsl_mem, rsl_mem]; exact hx.mem_iff
  refine ⟨v, rfl, ?_, hb⟩
  have e2 : ss.length = (rsl xs).length := by rw [← e1, sorted_length]
  unfold OwnI
  rw [← e2, ← e1]
  exact hrow
end Go.Proofs.Ytfgammcefaomeaa
