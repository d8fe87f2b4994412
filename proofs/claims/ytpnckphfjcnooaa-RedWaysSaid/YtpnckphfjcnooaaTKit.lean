/- Lists of numbers, and lists of these, in memory; a tree of one's own. -/
import Derived.Test.YtpnckphfjcnooaaTLex
import Derived.Test.YtpnckphfjcnooaaTreePure
namespace Go.Proofs.Ytpnckphfjcnooaa
open Go Go.RowKit
def zv (xs : List Int) : List Value := xs.map (Value.int .i64)
theorem zv_length (xs : List Int) : (zv xs).length = xs.length := List.length_map ..
theorem zv_append (xs ys : List Int) : zv (xs ++ ys) = zv xs ++ zv ys := List.map_append
theorem zv_at {xs : List Int} {i : Nat} (h : i < xs.length) : (zv xs)[i]? = some (.int .i64 (xs.getD i 0)) := by
  simp [zv, List.getD_eq_getElem?_getD, List.getElem?_eq_getElem h]
theorem zv_one (xs : List Int) : ∀ u ∈ zv xs, u.oneCell' = true := by
  intro u hu
  obtain ⟨x, -, rfl⟩ := List.mem_map.1 hu
  rfl
theorem zv_take (xs : List Int) (n : Nat) : (zv xs).take n = zv (xs.take n) := by simp [zv, List.map_take]
theorem zv_drop (xs : List Int) (n : Nat) : (zv xs).drop n = zv (xs.drop n) := by simp [zv, List.map_drop]
theorem zv_set (xs : List Int) (n : Nat) (x : Int) : (zv xs).set n (.int .i64 x) = zv (xs.set n x) := by simp [zv, List.map_set]
theorem Rd.num_at {w : World} {g o n cap : Nat} {xs : List Int} (h : Rd w (.slice (some ⟨g, o, none⟩) n cap) (zv xs)) {i : Nat} (hi : i < xs.length) : w.cell? ⟨g, o + i, none⟩ = some (.int .i64 (xs.getD i 0)) := by
  obtain ⟨ao, cap', hv, h1, h2, h3, h4⟩ := h
  cases hv
  have := h4 _ rfl i _ (zv_at hi)
  rwa [Addr.add_lit] at this
/-- A slice of numbers reads as a list, with its length told. -/
theorem Rd.numS {w : World} {v : Value} {xs : List Int} (h : Rd w v (zv xs)) : ∃ ao cap, v = .slice ao xs.length cap ∧ xs.length ≤ cap ∧ cap ≤ 9223372036854775807 := by
  obtain ⟨ao, cap, rfl, h1, h2, -, -⟩ := h
  rw [zv_length] at h1 ⊢
  exact ⟨ao, cap, rfl, h1, h2⟩
/-- A slice of slices of numbers reads as a list of lists. -/
def RdLs (w : World) (v : Value) (ls : List (List Int)) : Prop := ∃ vs, Rd w v vs ∧ vs.length = ls.length ∧ ∀ (i : Nat) (u : Value), vs[i]? = some u → Rd w u (zv (ls.getD i []))
theorem RdLs.aft {w w' : World} {v : Value} {ls : List (List Int)} (h : RdLs w v ls) (hb : Aft w w') : RdLs w' v ls := by
  obtain ⟨vs, h1, h2, h3⟩ := h
  exact ⟨vs, h1.grow hb, h2, fun i v hv => (h3 i v hv).grow hb⟩
theorem RdLs.nil (w : World) : RdLs w (.slice none 0 0) [] := ⟨[], Rd.nil w, rfl, fun _ _ h => by simp at h⟩
theorem RdLs.shape {w : World} {v : Value} {ls : List (List Int)} (h : RdLs w v ls) : ∃ ao cap, v = .slice ao ls.length cap ∧ ls.length ≤ 9223372036854775807 := by
  obtain ⟨vs, ⟨ao, cap, rfl, r1, r2, r3, r4⟩, h2, h3⟩ := h
  exact ⟨ao, cap, by rw [h2], by omega⟩
theorem RdLs.cell {w : World} {v : Value} {ls : List (List Int)} (h : RdLs w v ls) {i : Nat} (hi : i < ls.length) : ∃ g o cap u, v = .slice (some ⟨g, o, none⟩) ls.length cap ∧ (∀ wx, Aft w wx → wx.cell? ⟨g, o + i, none⟩ = some u) ∧ Rd w u (zv (ls.getD i [])) := by
  obtain ⟨vs, h1, h2, h3⟩ := h
  obtain ⟨g, o, cap, rfl, r1, r2, r3, r4⟩ := h1.at (by omega)
  have hv : vs[i]? = some (vs[i]'(by omega)) := List.getElem?_eq_getElem (by omega)
  exact ⟨g, o, cap, _, by rw [h2], fun wx hx => (Below.cell hx (p := ⟨g, o + i, none⟩) r3).trans (r4 i _ hv), h3 i _ hv⟩
/-- A slice of numbers of one's own. -/
def OwnI (w : World) (base : Nat) (v : Value) (xs : List Int) : Prop := w.ownsRow base 3 1 v xs.length (zv xs)
theorem OwnI.rd {w : World} {base : Nat} {v : Value} {xs : List Int} (h : OwnI w base v xs) : Rd w v (zv xs) := Rd.of_own h
theorem OwnI.lt {w : World} {base : Nat} {v : Value} {xs : List Int} (h : OwnI w base v xs) {g : Nat} (hg : v.ownBlock = some g) : base ≤ g ∧ g < w.heap.size := own_lt h hg
theorem OwnI.nil (w : World) (base : Nat) : OwnI w base (.slice none 0 0) [] := World.ownsRow_nil w base _ 1
theorem OwnI.mono {w : World} {base base' : Nat} {v : Value} {xs : List Int} (h : OwnI w base v xs) (hb : base' ≤ base) : OwnI w base' v xs := ownsRow_mono h hb
theorem OwnI.keep {w w' : World} {base : Nat} {v : Value} {xs : List Int} (h : OwnI w base v xs) (hk : ∀ g, v.ownBlock = some g → w'.heap[g]? = w.heap[g]?) : OwnI w' base v xs := ownsRow_below h hk
theorem OwnI.aft {w w' : World} {base : Nat} {v : Value} {xs : List Int} (h : OwnI w base v xs) (ha : Aft w w') : OwnI w' base v xs := h.keep fun g hg => Below.block ha g (h.lt hg).2
theorem OwnI.fr {w w' : World} {base : Nat} {v : Value} {xs : List Int} (h : OwnI w base v xs) {S : Nat → Prop} (hf : Fr S w w') (hn : ∀ g, v.ownBlock = some g → ¬ S g) : OwnI w' base v xs := ownsRow_fr h hf hn
theorem OwnI.shape {w : World} {base : Nat} {v : Value} {xs : List Int} (h : OwnI w base v xs) : ∃ ao cap, v = .slice ao xs.length cap := own_shape h
/-- The levels of a tree of one's own: each a row of its own, and the row of them too. -/
structure OwnLv (w : World) (base : Nat) (v : Value) (vs : List Value) (ls : List (List Int)) : Prop where
  row : w.ownsRow base 22 1 v vs.length vs
  len : vs.length = ls.length
  own : ∀ (i : Nat) (u : Value), vs[i]? = some u → OwnI w base u (ls.getD i [])
  dis : ∀ (i j : Nat) (u u' : Value) (g : Nat), i < j → vs[i]? = some u → vs[j]? = some u' → u.ownBlock = some g → u'.ownBlock ≠ some g
/-- A tree of one's own. -/
structure OwnTr (w : World) (base : Nat) (vi vl : Value) (vs : List Value) (ids : List Int) (ls : List (List Int)) : Prop where
  ids : OwnI w base vi ids
  lv : OwnLv w base vl vs ls
  dis : ∀ (i : Nat) (u : Value) (g : Nat), vs[i]? = some u → u.ownBlock = some g → vi.ownBlock ≠ some g
theorem OwnLv.dis' {w : World} {base : Nat} {v : Value} {vs : List Value} {ls : List (List Int)} (h : OwnLv w base v vs ls) {i j : Nat} {u u' : Value} {g : Nat} (hij : i ≠ j) (hi : vs[i]? = some u) (hj : vs[j]? = some u') (hu : u.ownBlock = some g) : u'.ownBlock ≠ some g := by
  rcases Nat.lt_or_gt_of_ne hij with hlt | hgt
  · exact h.dis i j u u' g hlt hi hj hu
  · exact fun e => h.dis j i u' u g hgt hj hi e hu
theorem OwnLv.row_ne {w : World} {base : Nat} {v : Value} {vs : List Value} {ls : List (List Int)} (h : OwnLv w base v vs ls) {base' : Nat} {u : Value} {xs : List Int} (hu : OwnI w base' u xs) {g : Nat} (hg : u.ownBlock = some g) : v.ownBlock ≠ some g := by
  rcases own_ne h.row hu (by decide) with h1 | h1
  · rw [h1]
    exact fun q => by cases q
  · rw [hg] at h1
    exact h1
/-- Nothing of it was turned. -/
theorem OwnLv.keep {w w' : World} {base : Nat} {v : Value} {vs : List Value} {ls : List (List Int)} (h : OwnLv w base v vs ls) {S : Nat → Prop} (hf : Fr S w w') (h1 : ∀ g, v.ownBlock = some g → ¬ S g) (h2 : ∀ (i : Nat) (u : Value) (g : Nat), vs[i]? = some u → u.ownBlock = some g → ¬ S g) : OwnLv w' base v vs ls :=
  ⟨ownsRow_fr h.row hf h1, h.len, fun i u hu => (h.own i u hu).fr hf fun g hg => h2 i u g hu hg, h.dis⟩
theorem OwnTr.aft {w w' : World} {base : Nat} {vi vl : Value} {vs : List Value} {ids : List Int} {ls : List (List Int)} (h : OwnTr w base vi vl vs ids ls) (ha : Aft w w') : OwnTr w' base vi vl vs ids ls :=
  ⟨h.ids.aft ha, h.lv.keep (Fr.of_below (S := fun _ => False) ha) (fun _ _ q => q) (fun _ _ _ _ _ q => q), h.dis⟩
theorem OwnLv.rd {w : World} {base : Nat} {v : Value} {vs : List Value} {ls : List (List Int)} (h : OwnLv w base v vs ls) : RdLs w v ls := ⟨vs, Rd.of_own h.row, h.len, fun i u hu => (h.own i u hu).rd⟩
theorem OwnLv.at {w : World} {base : Nat} {v : Value} {vs : List Value} {ls : List (List Int)} (h : OwnLv w base v vs ls) {i : Nat} (hi : i < ls.length) : ∃ u, vs[i]? = some u ∧ OwnI w base u (ls.getD i []) := by
  have hv : vs[i]? = some (vs[i]'(by rw [h.len]; exact hi)) := List.getElem?_eq_getElem _
  exact ⟨_, hv, h.own i _ hv⟩
/-- One level was turned, where it lies; or has come to lie in a block that is new. -/
theorem OwnTr.turn {w w' : World} {base : Nat} {vi vl : Value} {vs : List Value} {ids : List Int} {ls : List (List Int)} (h : OwnTr w base vi vl vs ids ls) {k : Nat} {u u' : Value} {l' : List Int} (hu : vs[k]? = some u) (hf : Fr (fun b => u.ownBlock = some b) w w') (ho : OwnI w' base u' l')
    (hn : ∀ g, u'.ownBlock = some g → u.ownBlock = some g ∨ w.heap.size ≤ g) {w'' : World} (hf2 : Fr (fun b => vl.ownBlock = some b) w' w'') (hrow : w''.ownsRow base 22 1 vl (vs.set k u').length (vs.set k u')) : OwnTr w'' base vi vl (vs.set k u') ids (ls.set k l') := by
  have hk : k < vs.length := (List.getElem?_eq_some_iff.1 hu).1
  have hu0 := h.lv.own k u hu
  have hids : OwnI w'' base vi ids := (h.ids.fr hf fun g hg e => h.dis k u g hu e hg).fr hf2 fun g hg e => h.lv.row_ne h.ids hg e
  have hset : ∀ j x, (vs.set k u')[j]? = some x → (j = k ∧ x = u') ∨ (j ≠ k ∧ vs[j]? = some x) := fun j x hx => by
    by_cases e : j = k
    · subst e
      rw [List.getElem?_set_self hk] at hx
      exact .inl ⟨rfl, (Option.some.inj hx).symm⟩
    · rw [List.getElem?_set_ne (Ne.symm e)] at hx
      exact .inr ⟨e, hx⟩
  have hu2 : ∀ g, u'.ownBlock = some g → vl.ownBlock ≠ some g := fun g hg e => by
    rcases hn g hg with h1 | h1
    · exact h.lv.row_ne hu0 h1 e
    · have := (own_lt h.lv.row e).2
      omega
  refine ⟨hids, ⟨hrow, by rw [List.length_set, List.length_set]; exact h.lv.len, fun j x hx => ?_, fun i j x x' g hij hx hx' hg => ?_⟩, fun i x g hx hg => ?_⟩
  · rcases hset j x hx with ⟨rfl, rfl⟩ | ⟨e, hx⟩
    · rw [List.getD_eq_getElem?_getD, List.getElem?_set_self (by rw [← h.lv.len]; exact hk)]
      exact ho.fr hf2 fun g hg => hu2 g hg
    · rw [List.getD_eq_getElem?_getD, List.getElem?_set_ne (Ne.symm e), ← List.getD_eq_getElem?_getD]
      exact ((h.lv.own j x hx).fr hf fun g hg e2 => h.lv.dis' (Ne.symm e) hu hx e2 hg).fr hf2 fun g hg e2 => h.lv.row_ne (h.lv.own j x hx) hg e2
  · rcases hset i x hx with ⟨rfl, rfl⟩ | ⟨e, ha⟩ <;> rcases hset j x' hx' with ⟨rfl, rfl⟩ | ⟨e', hb⟩
    · omega
    · intro e2
      rcases hn g hg with h1 | h1
      · exact h.lv.dis' (Ne.symm e') hu hb h1 e2
      · have := ((h.lv.own j x' hb).lt e2).2
        omega
    · intro e2
      rcases hn g e2 with h1 | h1
      · exact h.lv.dis' (Ne.symm e) hu ha h1 hg
      · have := ((h.lv.own i x ha).lt hg).2
        omega
    · exact h.lv.dis' (by omega) ha hb hg
  · rcases hset i x hx with ⟨rfl, rfl⟩ | ⟨e, hx⟩
    · intro e2
      rcases hn g hg with h1 | h1
      · exact h.dis _ u g hu h1 e2
      · have := (h.ids.lt e2).2
        omega
    · exact h.dis i x g hx hg
end Go.Proofs.Ytpnckphfjcnooaa
