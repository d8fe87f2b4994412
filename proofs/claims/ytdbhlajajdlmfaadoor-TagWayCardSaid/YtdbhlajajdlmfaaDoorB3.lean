import Derived.Test.YtdbhlajajdlmfaaDoorB2
import Derived.Shelf.Slices.Delete
import Derived.Sort.OwnSortedInts
/- slices.Delete of one number out of a slice of one's own, and tree.lend. -/
namespace Go.Proofs.YtdbhlajajdlmfaaDoor
open Go Go.RowKit Go.Shelf
set_option linter.unusedSimpArgs false
/-- What a deletion leaves. -/
def CutSays (v : Value) (xs : List Int) (i : Nat) (base : Nat) (w : World) (e : Ending) (w' : World) : Prop :=
  ∃ v', e = .returned v' ∧ v'.ownBlock = v.ownBlock ∧ OwnI w' base v' (xs.eraseIdx i) ∧ Fr (fun b => v.ownBlock = some b) w w'
theorem num_set {w : World} {base g n c : Nat} {l : List Int} {i : Nat} {x : Int} (h : OwnI w base (.slice (some ⟨g, 0, none⟩) n c) (l.set i x)) (hi : i < l.length) : w.cell? ⟨g, i, none⟩ = some (.int .i64 x) := by
  have := Rd.num_at (OwnI.rd h) (i := i) (by rw [List.length_set]; exact hi)
  rwa [Nat.zero_add, getD_set_eq hi] at this
/-- What lend leaves. -/
def lendL (l above : List Int) (g : Nat) : List Int := if l.getD (othr above g) 0 = 3 then (l.set (othr above g) 2).set g 2 else l.set (min g (othr above g)) 3
end Go.Proofs.YtdbhlajajdlmfaaDoor
/- tree.Insert. -/
namespace Go.Proofs.YtdbhlajajdlmfaaDoor
open Go Go.RowKit
set_option linter.unusedSimpArgs false
def InsSays (ids : List Int) (ls : List (List Int)) (id : Int) (w : World) (e : Ending) (w' : World) : Prop :=
  ∃ vi vl vs, e = .returned (.tuple #[.agg (shpL vi vl).toArray, .int .i64 (insE ids ls id)]) ∧ OwnTr w' w.heap.size vi vl vs (insIds ids ls id) (insLv ids ls id) ∧ Aft w w'
theorem InsSays.bad {ids : List Int} {ls : List (List Int)} {id : Int} {w w' : World} {c : Int} (h : insE ids ls id = c) (h0 : c ≠ 0) (ha : Aft w w') : InsSays ids ls id w (.returned (.tuple #[.agg (shpL (.slice none 0 0) (.slice none 0 0)).toArray, .int .i64 c])) w' := by
  subst h
  refine ⟨.slice none 0 0, .slice none 0 0, [], rfl, ?_, ha⟩
  unfold insIds insLv
  rw [if_neg h0, if_neg h0]
  exact OwnTr.nil _ _
theorem InsSays.good {ids ids' : List Int} {ls ls' : List (List Int)} {id : Int} {w w' : World} {vi vl : Value} {vs : List Value} (h : insE ids ls id = 0) (h1 : insIds ids ls id = ids') (h2 : insLv ids ls id = ls') (ho : OwnTr w' w.heap.size vi vl vs ids' ls') (ha : Aft w w') : InsSays ids ls id w (.returned (.tuple #[.agg (shpL vi vl).toArray, .int .i64 0])) w' :=
  ⟨vi, vl, vs, by rw [h], by rw [h1, h2]; exact ho, ha⟩
instance (S : Nat → Prop) (w0 : World) : Inhabited (LaterF S w0) := ⟨⟨w0, Fr.refl _ _⟩⟩
theorem OwnTr.snoc {w wA w' : World} {base : Nat} {vi vl vl' u : Value} {vs : List Value} {ids x : List Int} {ls : List (List Int)} (h : OwnTr w base vi vl vs ids ls) (ha : Aft w wA) (hu : OwnI wA base u x) (hq : ∀ g, u.ownBlock = some g → w.heap.size ≤ g)
    (hrow : w'.ownsRow base 22 1 vl' (vs ++ [u]).length (vs ++ [u])) (hf : Fr (fun b => vl.ownBlock = some b) wA w') : OwnTr w' base vi vl' (vs ++ [u]) ids (ls ++ [x]) := by
  refine ⟨(h.ids.aft ha).fr hf fun g hg e => h.lv.row_ne h.ids hg e, ⟨hrow, by rw [List.length_append, List.length_append, h.lv.len]; rfl, fun i u' hi => ?_, fun i j u1 u2 g hij hi hj hg => ?_⟩, fun i u' g hi hg => ?_⟩
  · by_cases hlt : i < vs.length
    · rw [List.getElem?_append_left hlt] at hi
      rw [List.getD_eq_getElem?_getD, List.getElem?_append_left (by rw [← h.lv.len]; exact hlt), ← List.getD_eq_getElem?_getD]
      exact ((h.lv.own i u' hi).aft ha).fr hf fun g hg e => h.lv.row_ne (h.lv.own i u' hi) hg e
    · obtain ⟨e1, e2⟩ := getElem?_snoc hi hlt
      subst e2
      rw [e1, h.lv.len, List.getD_eq_getElem?_getD, List.getElem?_append_right (Nat.le_refl _), Nat.sub_self]
      exact hu.fr hf fun g hg e => by
        have h1 := hq g hg
        have h2 := (own_lt h.lv.row e).2
        omega
  · by_cases hlt : j < vs.length
    · rw [List.getElem?_append_left hlt] at hj
      rw [List.getElem?_append_left (by omega)] at hi
      exact h.lv.dis i j u1 u2 g hij hi hj hg
    · obtain ⟨e1, e2⟩ := getElem?_snoc hj hlt
      subst e2
      rw [List.getElem?_append_left (by omega)] at hi
      intro e
      have h1 := hq g e
      have h2 := ((h.lv.own i u1 hi).lt hg).2
      omega
  · by_cases hlt : i < vs.length
    · rw [List.getElem?_append_left hlt] at hi
      exact h.dis i u' g hi hg
    · obtain ⟨e1, e2⟩ := getElem?_snoc hi hlt
      subst e2
      intro e
      have h1 := hq g hg
      have h2 := (h.ids.lt e).2
      omega
theorem nxt_max (ids : List Int) (id : Int) (h : ids.length ≤ 1048576) : max (wrap64 (((cnt ids id : Nat) : Int) - 1)) 0 = (nxt ids id : Nat) := by
  have h1 := cnt_le ids id
  unfold nxt
  by_cases hz : cnt ids id = 0
  · rw [hz]
    unfold wrap64
    omega
  · rw [wrap64_mid (by omega) (by omega)]
    omega
end Go.Proofs.YtdbhlajajdlmfaaDoor
/- tree.Build. -/
namespace Go.Proofs.YtdbhlajajdlmfaaDoor
open Go Go.RowKit
set_option linter.unusedSimpArgs false
theorem okLv_few : ∀ (ls : List (List Int)) (n : Int), 0 ≤ n → okLv n ls = true → (ls.length : Int) ≤ n ∧ ∀ l ∈ ls, (l.length : Int) ≤ n
  | [], n, h0, _ => ⟨by simpa using h0, fun l hl => by cases hl⟩
  | l :: ls, n, h0, h => by
    obtain ⟨k1, k2, k3, k4⟩ := okLv_cons h
    have h1 := two_le_sum k2
    obtain ⟨h2, h3⟩ := okLv_few ls (l.length : Int) (by omega) k4
    refine ⟨by rw [List.length_cons]; omega, fun x hx => ?_⟩
    rcases List.mem_cons.1 hx with rfl | hx
    · omega
    · have := h3 x hx
      omega
theorem small_of {ids : List Int} {ls : List (List Int)} (h : OkT ids ls) : Small ids ls := by
  obtain ⟨h1, h2⟩ := okLv_few ls (ids.length : Nat) (by omega) h.2
  have h3 := h.1.1
  exact ⟨by omega, by omega, fun l hl => by have := h2 l hl; omega⟩
/-- The members one after another. -/
def bld : List Int → List Int → List (List Int) → Int × List Int × List (List Int)
  | [], ids, ls => (0, ids, ls)
  | id :: xs, ids, ls => if insE ids ls id = 0 then bld xs (insIds ids ls id) (insLv ids ls id) else (insE ids ls id, [], [])
theorem bld_good {id : Int} {xs ids : List Int} {ls : List (List Int)} (h : insE ids ls id = 0) : bld (id :: xs) ids ls = bld xs (insIds ids ls id) (insLv ids ls id) := if_pos h
theorem bld_bad {id : Int} {xs ids : List Int} {ls : List (List Int)} (h : ¬ insE ids ls id = 0) : bld (id :: xs) ids ls = (insE ids ls id, [], []) := if_neg h
theorem ok_empty : OkT [] [] := ⟨⟨by decide, fun x hx => (by cases hx), .nil⟩, by decide⟩
theorem drop_at (xs : List Int) (k : Nat) (h : k < xs.length) : xs.drop k = xs.getD k 0 :: xs.drop (k + 1) := by
  rw [List.drop_eq_getElem_cons h, List.getD_eq_getElem?_getD, List.getElem?_eq_getElem h]
  rfl
def BldSays (xs : List Int) (w : World) (e : Ending) (w' : World) : Prop :=
  ∃ vi vl vs, e = .returned (.tuple #[.agg (shpL vi vl).toArray, .int .i64 (bld xs [] []).1]) ∧ OwnTr w' w.heap.size vi vl vs (bld xs [] []).2.1 (bld xs [] []).2.2 ∧ Aft w w'
theorem BldSays.of {xs : List Int} {w w' : World} {c : Int} {ids : List Int} {ls : List (List Int)} {vi vl : Value} {vs : List Value} (h : bld xs [] [] = (c, ids, ls)) (ho : OwnTr w' w.heap.size vi vl vs ids ls) (ha : Aft w w') : BldSays xs w (.returned (.tuple #[.agg (shpL vi vl).toArray, .int .i64 c])) w' :=
  ⟨vi, vl, vs, by rw [h], by rw [h]; exact ho, ha⟩
end Go.Proofs.YtdbhlajajdlmfaaDoor
/- slices.EqualFunc over levels; tree.Same. -/
namespace Go.Proofs.YtdbhlajajdlmfaaDoor
open Go Go.RowKit
set_option linter.unusedSimpArgs false
theorem RdLs.head {w : World} {v : Value} {ls : List (List Int)} (h : RdLs w v ls) {i : Nat} (hi : i < ls.length) : ∃ g o cap, v = .slice (some ⟨g, o, none⟩) ls.length cap := by
  obtain ⟨g, o, cap, u, he, -, -⟩ := h.cell hi
  exact ⟨g, o, cap, he⟩
set_option maxHeartbeats 4000000 in
theorem equalL_any (v u : Value) (ls ms : List (List Int)) (w : World) (hx : RdLs w v ls) (hy : RdLs w u ms) (hl : ls.length ≤ 1048576) (hv : ∀ l ∈ ls, l.length ≤ 1048576) :
    Calls Tryd.prog 81 #[v, u, .func (.func 80) #[] #[]] w fun e w' => e = .returned (.bool (decide (ls = ms))) ∧ Aft w w' := by
  have HX := Lib.hid hx
  have HY := Lib.hid hy
  have HV := Lib.hid hv
  obtain ⟨ao, cap, rfl, -⟩ := hx.shape
  obtain ⟨bo, dap, rfl, -⟩ := hy.shape
  obtain ⟨bq, hbq⟩ : ∃ bq, bq = decide (ls = ms) := ⟨_, rfl⟩
  have HB := Lib.hid hbq
  rw [← hbq]
  clear hx hy hbq hv
  go_enter Tryd.func81, Tryd.ntmps81
  by_cases hlen : ls.length = ms.length
  rotate_left
  · have HR := Lib.hid (show bq = false by rw [HB.out]; exact decide_eq_false (fun q => hlen (by rw [q])))
    rw [HR.out]
    have hlen' : ¬ ((ls.length : Nat) : Int) = (ms.length : Nat) := by omega
    go_wp2_with fail
    go_ret
    exact ⟨rfl, Aft.refl _⟩
  have HLn := Lib.hid hlen
  rw [← hlen]
  clear hlen
  go_wp2_with fail
  go_loopw [17] (fun v17 wr => ∃ i : Nat, i ≤ ls.length ∧ v17 = .int .i64 (i : Int) ∧ (∀ j, j < i → ls[j]? = ms[j]?) ∧ Aft w wr) (fun v _ => ls.length - (intOf v).toNat)
  case atStart => exact ⟨0, by omega, rfl, fun j hj => absurd hj (Nat.not_lt_zero _), Aft.refl _⟩
  case round =>
    obtain ⟨i, hi, rfl, hsm, hA⟩ := hrel
    have HA := Lib.hid hA
    have HSm := Lib.hid hsm
    clear hA hsm
    by_cases hlt : i < ls.length
    · have hlt' : (i : Int) < (ls.length : Nat) := by omega
      have hylt : i < ms.length := by rw [← HLn.out]; exact hlt
      obtain ⟨b1, o1, c1, x, he, hcx, hrx⟩ := HX.out.cell hlt
      injection he with he1 he2 he3
      subst he1 he3
      obtain ⟨b2, o2, c2, y, he, hcy, hry⟩ := HY.out.cell hylt
      injection he with he1 he4 he3
      subst he1 he3
      have hc1 := hcx _ HA.out
      have hc2 := hcy _ HA.out
      have HEq := Lib.hid (equalI_any x y (ls.getD i []) (ms.getD i []) wr (hrx.grow HA.out) (hry.grow HA.out) (HV.out _ (getD_mem hlt)))
      have HXe := Lib.hid (show ls[i]? = some (ls.getD i []) by rw [List.getD_eq_getElem?_getD, List.getElem?_eq_getElem hlt]; rfl)
      have HYe := Lib.hid (show ms[i]? = some (ms.getD i []) by rw [List.getD_eq_getElem?_getD, List.getElem?_eq_getElem hylt]; rfl)
      generalize ls.getD i [] = l at *
      generalize ms.getD i [] = m at *
      clear hylt he2 he4 hcx hcy hrx hry
      go_wp2_with fail
      refine HEq.out.mono ?_
      rintro e w2 ⟨rfl, h2⟩
      replace HA := Lib.hid (Aft.trans HA.out h2)
      clear h2 hc1 hc2
      by_cases hlm : l = m
      · rw [decide_eq_true hlm]
        have HLm := Lib.hid hlm
        clear hlm HEq
        go_wp2_with fail
        go_roundw
        case rel =>
          refine ⟨i + 1, by omega, by go_num, fun j hj => ?_, HA.out⟩
          by_cases hji : j = i
          · subst hji
            rw [HXe.out, HYe.out, HLm.out]
          · exact HSm.out j (by omega)
        case measure => simp [intOf]; omega
      · have HR2 := Lib.hid (show bq = false by
          rw [HB.out]
          exact decide_eq_false (fun e => hlm (by have := HXe.out; rw [e, HYe.out] at this; exact (Option.some.inj this).symm)))
        rw [decide_eq_false hlm]
        clear hlm HEq
        go_wp2_with fail
        go_ret
        exact ⟨by rw [HR2.out]; rfl, HA.out⟩
    · obtain rfl : i = ls.length := by omega
      have hlt' : ¬ ((ls.length : Nat) : Int) < (ls.length : Nat) := by omega
      have HR := Lib.hid (show bq = true by
        rw [HB.out]
        refine decide_eq_true (List.ext_getElem? fun j => ?_)
        by_cases hj : j < ls.length
        · exact HSm.out j hj
        · rw [List.getElem?_eq_none (by omega), List.getElem?_eq_none (by rw [← HLn.out]; omega)])
      go_wp2_with fail
      go_ret
      exact ⟨by rw [HR.out]; rfl, HA.out⟩
set_option maxRecDepth 100000 in
set_option maxHeartbeats 4000000 in
theorem tsame_any (vi vl ui ul : Value) (ids ids' : List Int) (ls ls' : List (List Int)) (w : World) (hi : Rd w vi (zv ids)) (hl : RdLs w vl ls) (hs : Small ids ls) (hi' : Rd w ui (zv ids')) (hl' : RdLs w ul ls') :
    Calls Tryd.prog 45 #[.agg (shpL vi vl).toArray, .agg (shpL ui ul).toArray] w fun e w' => e = .returned (.bool (decide (ids = ids' ∧ ls = ls'))) ∧ Aft w w' := by
  have HE1 := Lib.hid (fun (wx : World) (ha : Aft w wx) => equalI_any vi ui ids ids' wx (hi.grow ha) (hi'.grow ha) hs.fi)
  have HE2 := Lib.hid (fun (wx : World) (ha : Aft w wx) => equalL_any vl ul ls ls' wx (hl.aft ha) (hl'.aft ha) hs.fl hs.fv)
  obtain ⟨ao, cap, rfl, -, -⟩ := hi.numS
  obtain ⟨bo, dap, rfl, -⟩ := hl.shape
  obtain ⟨a1, cap1, rfl, -, -⟩ := hi'.numS
  obtain ⟨b1, dap1, rfl, -⟩ := hl'.shape
  obtain ⟨bq, hbq⟩ : ∃ bq, bq = decide (ids = ids' ∧ ls = ls') := ⟨_, rfl⟩
  have HB := Lib.hid hbq
  rw [← hbq]
  have HL := Lib.hid (Led.start w)
  clear hi hl hs hi' hl' hbq
  go_enter Tryd.func45, Tryd.ntmps45
  go_wp2_with (first | (refine wpList_boxO rfl 25 (.tmp 0) rfl (.agg (shpL (.slice ao ids.length cap) (.slice bo ls.length dap)).toArray) rfl (.cells (shpL (.slice ao ids.length cap) (.slice bo ls.length dap)).toArray 25) (box_shp _) ?_; intro wB aa gg zz; replace HL := Lib.hid (HL.out.alloc aa gg.out); clear aa gg zz; try simp only [List.nil_append, List.cons_append, List.set_cons_zero, List.set_cons_succ] at HL) | (refine wpList_boxO rfl 25 (.tmp 1) rfl (.agg (shpL (.slice a1 ids'.length cap1) (.slice b1 ls'.length dap1)).toArray) rfl (.cells (shpL (.slice a1 ids'.length cap1) (.slice b1 ls'.length dap1)).toArray 25) (box_shp _) ?_; intro w' aa gg zz; replace HL := Lib.hid (HL.out.alloc aa gg.out); clear aa gg zz; try simp only [List.nil_append, List.cons_append, List.set_cons_zero, List.set_cons_succ] at HL; have hA := shp_i (HL.out.get 0 rfl); have hB := shp_i (HL.out.get 1 rfl)))
  refine (HE1.out _ HL.out.aft).mono ?_
  rintro e w2 ⟨rfl, h2⟩
  replace HL := Lib.hid (HL.out.call h2)
  clear hA hB h2 HE1
  by_cases h1 : ids = ids'
  · rw [decide_eq_true h1]
    have hC := shp_l (HL.out.get 0 rfl)
    have hD := shp_l (HL.out.get 1 rfl)
    have HD := Lib.hid (show decide (ids = ids' ∧ ls = ls') = decide (ls = ls') from decide_eq_decide.2 ⟨fun q => q.2, fun q => ⟨h1, q⟩⟩)
    clear h1
    go_wp2_with fail
    refine (HE2.out _ HL.out.aft).mono ?_
    rintro e w3 ⟨rfl, h3⟩
    go_wp2_with fail
    go_ret
    exact ⟨by rw [HB.out, HD.out]; rfl, Aft.trans HL.out.aft h3⟩
  · rw [decide_eq_false h1]
    have HD := Lib.hid (show decide (ids = ids' ∧ ls = ls') = false from decide_eq_false fun q => h1 q.1)
    clear h1
    go_wp2_with fail
    go_ret
    exact ⟨by rw [HB.out, HD.out]; rfl, HL.out.aft⟩
end Go.Proofs.YtdbhlajajdlmfaaDoor
/- live of law 10: it answers true. -/
namespace Go.Proofs.YtdbhlajajdlmfaaDoor
open Go Go.RowKit
set_option linter.unusedSimpArgs false
theorem bld4 : bld [1, 2, 3, 4] [] [] = (0, [1, 2, 3, 4], [[2, 2], [2]]) := by decide
theorem ok4 : OkT [1, 2, 3, 4] [[2, 2], [2]] := by decide
theorem lit_own {w : World} {base : Nat} (xs : List Int) (hb : base ≤ w.heap.size) (hm : xs.length ≤ maxLen) : OwnI (w.alloc (.cells (zv xs).toArray 3 (0, 0))) base (.slice (some ⟨w.heap.size, 0, none⟩) xs.length xs.length) xs := by
  have := own_blk (base := base) (xs := zv xs) (heap_alloc_new w (.cells (zv xs).toArray 3 (0, 0))) hb (by rw [zv_length]; exact hm)
  rw [zv_length] at this
  exact this
theorem lits (w w1 w2 w3 w4 : World) (h1 : w1 = w.alloc (.cells #[.int .i64 1, .int .i64 2, .int .i64 3, .int .i64 4] 3 (0, 0))) (h2 : w2 = w1.alloc (.cells #[.int .i64 2, .int .i64 2] 3 (0, 0))) (h3 : w3 = w2.alloc (.cells #[.int .i64 2] 3 (0, 0)))
    (h4 : w4 = w3.alloc (.cells #[.slice (some ⟨w.heap.size + 1, 0, none⟩) 2 2, .slice (some ⟨w.heap.size + 1 + 1, 0, none⟩) 1 1] 22 (0, 0))) :
    Aft w w4 ∧ Rd w4 (.slice (some ⟨w.heap.size, 0, none⟩) 4 4) (zv [1, 2, 3, 4]) ∧ RdLs w4 (.slice (some ⟨w.heap.size + 1 + 1 + 1, 0, none⟩) 2 2) [[2, 2], [2]] := by
  have s1 : w1.heap.size = w.heap.size + 1 := by rw [h1, World.size_alloc]
  have s2 : w2.heap.size = w.heap.size + 1 + 1 := by rw [h2, World.size_alloc, s1]
  have s3 : w3.heap.size = w.heap.size + 1 + 1 + 1 := by rw [h3, World.size_alloc, s2]
  have a1 : Aft w w1 := h1 ▸ Aft.alloc w _
  have a2 : Aft w1 w2 := h2 ▸ Aft.alloc w1 _
  have a3 : Aft w2 w3 := h3 ▸ Aft.alloc w2 _
  have a4 : Aft w3 w4 := h4 ▸ Aft.alloc w3 _
  have o1 : OwnI w1 0 (.slice (some ⟨w.heap.size, 0, none⟩) 4 4) [1, 2, 3, 4] := h1 ▸ lit_own (w := w) [1, 2, 3, 4] (Nat.zero_le _) (by decide)
  have o2 : OwnI w2 0 (.slice (some ⟨w.heap.size + 1, 0, none⟩) 2 2) [2, 2] := s1 ▸ h2 ▸ lit_own (w := w1) [2, 2] (Nat.zero_le _) (by decide)
  have o3 : OwnI w3 0 (.slice (some ⟨w.heap.size + 1 + 1, 0, none⟩) 1 1) [2] := s2 ▸ h3 ▸ lit_own (w := w2) [2] (Nat.zero_le _) (by decide)
  have o4 : w4.ownsRow 0 22 1 (.slice (some ⟨w.heap.size + 1 + 1 + 1, 0, none⟩) 2 2) 2 [.slice (some ⟨w.heap.size + 1, 0, none⟩) 2 2, .slice (some ⟨w.heap.size + 1 + 1, 0, none⟩) 1 1] :=
    s3 ▸ own_blk (xs := [.slice (some ⟨w.heap.size + 1, 0, none⟩) 2 2, .slice (some ⟨w.heap.size + 1 + 1, 0, none⟩) 1 1]) (h4 ▸ heap_alloc_new w3 _) (Nat.zero_le _) (show 2 ≤ maxLen by decide)
  refine ⟨Aft.trans a1 (Aft.trans a2 (Aft.trans a3 a4)), o1.rd.grow (Aft.trans a2 (Aft.trans a3 a4)), ⟨_, Rd.of_own o4, rfl, fun i u hu => ?_⟩⟩
  match i, hu with
  | 0, hu =>
    cases hu
    exact o2.rd.grow (Aft.trans a3 a4)
  | 1, hu =>
    cases hu
    exact o3.rd.grow a4
end Go.Proofs.YtdbhlajajdlmfaaDoor
/- Whatever the order in which members came: the plain law. -/
namespace Go.Proofs.YtdbhlajajdlmfaaDoor
theorem insE_iff {ids : List Int} {ls : List (List Int)} {id : Int} (hok : OkT ids ls) (hl : ids.length < 1000) : insE ids ls id = 0 ↔ 0 ≤ id ∧ id ≤ 1048576 ∧ id ∉ ids := by
  constructor
  · intro h
    obtain ⟨-, h1, h2, h3, -⟩ := insE_zero h
    exact ⟨h1, h2, h3⟩
  · rintro ⟨h1, h2, h3⟩
    unfold insE
    rw [if_neg (by
      rintro (q | q | q)
      · exact q hok
      · omega
      · omega), if_neg h3, if_neg (by omega)]
/-- What Build makes. -/
theorem bld_spec : ∀ (xs ids : List Int) (ls : List (List Int)), OkT ids ls → ids.length + xs.length ≤ 1000 →
    ((bld xs ids ls).1 = 0 ↔ (∀ z ∈ xs, 0 ≤ z ∧ z ≤ 1048576 ∧ z ∉ ids) ∧ xs.Nodup) ∧
    ((bld xs ids ls).1 = 0 → OkT (bld xs ids ls).2.1 (bld xs ids ls).2.2 ∧ (∀ z, z ∈ (bld xs ids ls).2.1 ↔ z ∈ ids ∨ z ∈ xs) ∧ (bld xs ids ls).2.1.length = ids.length + xs.length)
  | [], ids, ls, hok, hl => ⟨by simp [bld], fun _ => ⟨hok, fun z => by simp [bld], by simp [bld]⟩⟩
  | id :: xs, ids, ls, hok, hl => by
    rw [List.length_cons] at hl
    have hiff := insE_iff (id := id) hok (by omega)
    by_cases h : insE ids ls id = 0
    · obtain ⟨k1, k2⟩ := ins_ok h
      have hlen : (insIds ids ls id).length = ids.length + 1 := by rw [k2, insI_length]
      obtain ⟨i1, i2⟩ := bld_spec xs _ _ k1 (by omega)
      have hm : ∀ z, z ∈ insIds ids ls id ↔ z = id ∨ z ∈ ids := fun z => by rw [k2]; exact insI_mem
      obtain ⟨h1, h2, h3⟩ := hiff.1 h
      rw [bld_good h]
      refine ⟨i1.trans ⟨fun ⟨p, q⟩ => ⟨fun z hz => ?_, ?_⟩, fun ⟨p, q⟩ => ⟨fun z hz => ?_, ?_⟩⟩, fun h0 => ?_⟩
      · rcases List.mem_cons.1 hz with rfl | hz
        · exact ⟨h1, h2, h3⟩
        · obtain ⟨p1, p2, p3⟩ := p z hz
          exact ⟨p1, p2, fun hh => p3 ((hm z).2 (.inr hh))⟩
      · refine List.nodup_cons.2 ⟨fun hz => ?_, q⟩
        exact (p id hz).2.2 ((hm id).2 (.inl rfl))
      · obtain ⟨p1, p2, p3⟩ := p z (List.mem_cons_of_mem _ hz)
        refine ⟨p1, p2, fun hh => ?_⟩
        rcases (hm z).1 hh with rfl | hh
        · exact (List.nodup_cons.1 q).1 hz
        · exact p3 hh
      · exact (List.nodup_cons.1 q).2
      · obtain ⟨j1, j2, j3⟩ := i2 h0
        refine ⟨j1, fun z => (j2 z).trans ?_, by rw [j3, hlen, List.length_cons]; omega⟩
        rw [hm, List.mem_cons]
        constructor
        · rintro ((q | q) | q)
          · exact .inr (.inl q)
          · exact .inl q
          · exact .inr (.inr q)
        · rintro (q | q | q)
          · exact .inl (.inr q)
          · exact .inl (.inl q)
          · exact .inr q
    · rw [bld_bad h]
      refine ⟨⟨fun q => absurd q h, fun ⟨p, _⟩ => absurd (hiff.2 (p id (List.mem_cons_self ..))) h⟩, fun q => absurd q h⟩
/-- Another order. -/
theorem bld_perm {xs ys : List Int} (hp : xs.Perm ys) (hl : xs.length ≤ 1000) : ((bld xs [] []).1 = 0 ↔ (bld ys [] []).1 = 0) ∧ ((bld xs [] []).1 = 0 → (bld xs [] []).2.1 = (bld ys [] []).2.1) := by
  obtain ⟨a1, a2⟩ := bld_spec xs [] [] ok_empty (by simpa using hl)
  obtain ⟨b1, b2⟩ := bld_spec ys [] [] ok_empty (by have := hp.length_eq; simp; omega)
  have hiff : ((bld xs [] []).1 = 0 ↔ (bld ys [] []).1 = 0) := by
    rw [a1, b1, hp.nodup_iff]
    exact and_congr_left fun _ => ⟨fun h z hz => h z (hp.mem_iff.2 hz), fun h z hz => h z (hp.mem_iff.1 hz)⟩
  refine ⟨hiff, fun h0 => ?_⟩
  obtain ⟨o1, m1, -⟩ := a2 h0
  obtain ⟨o2, m2, -⟩ := b2 (hiff.1 h0)
  exact rise_eq o1.1.2.2 o2.1.2.2 fun z => by rw [m1, m2, hp.mem_iff]
/-- Two places changed. -/
def swp (l : List Int) (a b : Nat) : List Int := (l.set a (l.getD b 0)).set b (l.getD a 0)
theorem swp_length (l : List Int) (a b : Nat) : (swp l a b).length = l.length := by simp [swp]
theorem swp_perm (l : List Int) (a b : Nat) (ha : a < l.length) (hb : b < l.length) : (swp l a b).Perm l := by
  have h := Array.swap_perm (xs := l.toArray) (i := a) (j := b) (by simpa using ha) (by simpa using hb)
  have h2 := Array.perm_iff_toList_perm.1 h
  have h3 : (l.toArray.swap a b (by simpa using ha) (by simpa using hb)).toList = swp l a b := by
    simp [Array.swap, swp, List.getD_eq_getElem?_getD, List.getElem?_eq_getElem ha, List.getElem?_eq_getElem hb]
  rw [h3] at h2
  exact h2
end Go.Proofs.YtdbhlajajdlmfaaDoor
/- Few of the document of law 10. -/
namespace Go.Proofs.YtdbhlajajdlmfaaDoor
open Go Go.RowKit
set_option linter.unusedSimpArgs false
def fewT (ids : List Int) (ls : List (List Int)) : Bool := decide ((∀ l ∈ ls, l.length ≤ 1100) ∧ ids.length ≤ 1100 ∧ ls.length ≤ 20)
theorem fewT_small {ids : List Int} {ls : List (List Int)} (h : fewT ids ls = true) : Small ids ls := by
  obtain ⟨h1, h2, h3⟩ := of_decide_eq_true h
  exact ⟨by omega, by omega, fun l hl => by have := h1 l hl; omega⟩
set_option maxRecDepth 100000 in
set_option maxHeartbeats 4000000 in
theorem tfew_any (vi vl : Value) (ids : List Int) (ls : List (List Int)) (w : World) (hi : Rd w vi (zv ids)) (hl : RdLs w vl ls) :
    Calls Tryd.prog 33 #[.agg (shpL vi vl).toArray] w fun e w' => e = .returned (.bool (fewT ids ls)) ∧ Aft w w' := by
  have HI := Lib.hid hi
  have HLs := Lib.hid hl
  obtain ⟨ao, cap, rfl, hc1, hc2⟩ := hi.numS
  obtain ⟨bo, dap, rfl, hd1⟩ := hl.shape
  obtain ⟨bq, hbq⟩ : ∃ bq, bq = fewT ids ls := ⟨_, rfl⟩
  have HB := Lib.hid hbq
  rw [← hbq]
  have HL := Lib.hid (Led.start w)
  clear hi hl hbq
  go_enter Tryd.func33, Tryd.ntmps33
  go_wp2_with (first | (refine wpList_boxO rfl 25 (.tmp 0) rfl (.agg (shpL (.slice ao ids.length cap) (.slice bo ls.length dap)).toArray) rfl (.cells (shpL (.slice ao ids.length cap) (.slice bo ls.length dap)).toArray 25) (box_shp _) ?_; intro w' aa gg zz; replace HL := Lib.hid (HL.out.alloc aa gg.out); clear aa gg zz; try simp only [List.nil_append, List.cons_append, List.set_cons_zero, List.set_cons_succ] at HL; have hA := shp_l (HL.out.get 0 rfl)))
  clear hA
  go_loopw [8] (fun v8 wr => ∃ i : Nat, i ≤ ls.length ∧ v8 = .int .i64 (i : Int) ∧ (∀ l ∈ ls.take i, l.length ≤ 1100) ∧ Led w wr [(w.heap.size, .cells (shpL (.slice ao ids.length cap) (.slice bo ls.length dap)).toArray 25)]) (fun v _ => ls.length - (intOf v).toNat)
  case atStart => exact ⟨0, by omega, rfl, fun l hl => by simp at hl, HL.out⟩
  case round =>
    clear HL
    obtain ⟨i, hi, rfl, hf, hL⟩ := hrel
    have HL := Lib.hid hL
    have HF := Lib.hid hf
    clear hL hf
    by_cases hlt : i < ls.length
    · have hlt' : (i : Int) < (ls.length : Nat) := by omega
      obtain ⟨b1, o1, c1, x, he, hcx, hrx⟩ := HLs.out.cell hlt
      injection he with he1 he2 he3
      subst he1 he3
      have hc := hcx _ HL.out.aft
      have HT := Lib.hid (show ls.take (i + 1) = ls.take i ++ [ls.getD i []] by
        rw [List.take_add_one, List.getD_eq_getElem?_getD, List.getElem?_eq_getElem hlt]
        rfl)
      have HM := Lib.hid (getD_mem hlt)
      obtain ⟨a1, c1, rfl, -, hq⟩ := hrx.numS
      generalize ls.getD i [] = l at *
      clear hcx hrx he2
      by_cases hb : (1100 : Int) < (l.length : Nat)
      · have HN := Lib.hid (show bq = false by
          rw [HB.out]
          exact decide_eq_false fun q => by have := q.1 l HM.out; omega)
        go_wp2_with fail
        go_ret
        exact ⟨by rw [HN.out]; rfl, HL.out.aft⟩
      · go_wp2_with fail
        go_roundw
        case rel =>
          refine ⟨i + 1, by omega, by go_num, fun y hy => ?_, HL.out⟩
          rw [HT.out] at hy
          rcases List.mem_append.1 hy with hy | hy
          · exact HF.out y hy
          · rw [List.mem_singleton.1 hy]
            omega
        case measure => simp [intOf]; omega
    · obtain rfl : i = ls.length := by omega
      have hlt' : ¬ ((ls.length : Nat) : Int) < (ls.length : Nat) := by omega
      rw [List.take_length] at HF
      have hA := shp_l (HL.out.get 0 rfl)
      have hB := shp_i (HL.out.get 0 rfl)
      have HN := Lib.hid (show bq = (decide ((ids.length : Int) ≤ 1100) && decide ((ls.length : Int) ≤ 20)) by
        rw [HB.out]
        unfold fewT
        rw [← Bool.decide_and]
        exact decide_eq_decide.2 ⟨fun q => ⟨by omega, by omega⟩, fun q => ⟨HF.out, by omega, by omega⟩⟩)
      obtain ⟨bz, hbz⟩ : ∃ bz, bz = (decide ((ids.length : Int) ≤ 1100) && decide ((ls.length : Int) ≤ 20)) := ⟨_, rfl⟩
      have HZ := Lib.hid (HN.out.trans hbz.symm)
      by_cases g1 : (ids.length : Int) ≤ 1100
      · by_cases g2 : (ls.length : Int) ≤ 20
        · have HZ2 := Lib.hid (show bq = true by rw [HN.out]; simp [g1, g2])
          clear hbz
          go_wp2_with fail
          go_ret
          exact ⟨by rw [HZ2.out]; rfl, HL.out.aft⟩
        · have HZ2 := Lib.hid (show bq = false by rw [HN.out]; simp [g2])
          clear hbz
          go_wp2_with fail
          go_ret
          exact ⟨by rw [HZ2.out]; rfl, HL.out.aft⟩
      · have HZ2 := Lib.hid (show bq = false by rw [HN.out]; simp [g1])
        clear hbz
        go_wp2_with fail
        go_ret
        exact ⟨by rw [HZ2.out]; rfl, HL.out.aft⟩
end Go.Proofs.YtdbhlajajdlmfaaDoor
/- near of law 10. -/
namespace Go.Proofs.YtdbhlajajdlmfaaDoor
open Go Go.RowKit
set_option linter.unusedSimpArgs false
theorem wpList_dstT {P : Program} {ops : Array Oper} {rest : List Oper} {o : Oper} {a : Act} {w : World} {Q : Exit → Act → World → Prop} (n : Nat) (_ : o.dst = some n) (k : wpList P ops Q (o :: rest) a w) : wpList P ops Q (o :: rest) a w := k
end Go.Proofs.YtdbhlajajdlmfaaDoor
/- Lists of numbers made and grown. -/
namespace Go.Proofs.YtdbhlajajdlmfaaDoor
open Go Go.RowKit
set_option linter.unusedSimpArgs false
theorem made_zeros (n : Nat) : madeCells (Value.int .i64 0).cells (n * 1) = (zv (List.replicate n 0)).toArray := by
  apply Array.ext'
  apply List.ext_getElem?
  intro k
  simp only [madeCells, Nat.mul_one, Value.cells, zv]
  by_cases hk : k < n
  · simp [hk, Nat.mod_one]
  · simp [hk]
theorem wpList_makeInts {ops : Array Oper} {rest : List Oper} {o : Oper} {a : Act} {w : World} {Q : Exit → Act → World → Prop} (hw : Region.wanted o (yielded ops a.tmps) = true) (x y : Operand) (ho : o.op = .makeSlice 22 x y) (n : Nat) (z : Int) (hz : z = (n : Int)) (hx : a.eval x = .int .i64 z) (hy : a.eval y = .int .i64 z) (hn : n ≤ 16777216)
    (h : ∀ w', Aft w w' → Hid (OwnI w' w.heap.size (.slice (some ⟨w.heap.size, 0, none⟩) n n) (List.replicate n 0)) → wpList Tryd.prog ops Q rest (a.put o.dst (.slice (some ⟨w.heap.size, 0, none⟩) n n)) w') : wpList Tryd.prog ops Q (o :: rest) a w := by
  subst hz
  obtain ⟨i0, hi0, hz1, hz2, hz3⟩ := info_parts info_int
  have hr := run_make (P := Tryd.prog) w 22 3 i0 (.int .i64 0) Tryd.underlying22 hi0 hz1 .i64 .i64 (n : Int) (n : Int) (by omega) (by omega) (by rw [hz3]; omega) (by omega)
  rw [hz2, Int.toNat_natCast, made_zeros] at hr
  unfold wpList
  rw [if_pos hw]
  refine .inl (wp_noOut ?_)
  unfold Oper.wp execOp
  simp only [ho, hx, hy, hr, Sem.run_bind, Result.andThen_ok, Sem.run_pure]
  refine h _ (Aft.alloc w _) (Lib.hid ?_)
  have := own_blk (base := w.heap.size) (heap_alloc_new w (.cells (zv (List.replicate n 0)).toArray 3 (0, 0))) (Nat.le_refl _) (by rw [zv_length, List.length_replicate]; unfold maxLen; omega)
  rw [zv_length, List.length_replicate] at this
  unfold OwnI
  rw [List.length_replicate]
  exact this
/-- One number more at the end. -/
theorem wpList_snocI {ops : Array Oper} {rest : List Oper} {o : Oper} {a : Act} {w : World} {Q : Exit → Act → World → Prop} (hgd : o.guard = none) (s x : Operand) (ho : o.op = .call { callee := .builtin .append, args := #[s, x], argTypes := #[22, 22] }) (base : Nat) (v : Value) (xs : List Int) (hs : a.eval s = v) (hown : OwnI w base v xs) (gx : Nat) (z : Int) (hx : a.eval x = .slice (some ⟨gx, 0, none⟩) 1 1)
    (hg : w.heap[gx]? = some (.cells #[.int .i64 z] 3 (0, 0))) (hl : xs.length ≤ 16777216) (hb : base ≤ w.heap.size)
    (h : ∀ g c w', Hid (OwnI w' base (.slice (some ⟨g, 0, none⟩) (xs.length + 1) c) (xs ++ [z])) → Hid (Fr (fun b => v.ownBlock = some b) w w') → Hid (v.ownBlock = some g ∨ w.heap.size ≤ g) → wpList Tryd.prog ops Q rest (a.put o.dst (.slice (some ⟨g, 0, none⟩) (xs.length + 1) c)) w') : wpList Tryd.prog ops Q (o :: rest) a w := by
  obtain ⟨i0, hi0, hz1, hz2, hz3⟩ := info_parts info_int
  refine wpList_append_lies w hgd s x 22 ho base 3 i0 (.int .i64 0) 1 8 Tryd.underlying22 hi0 hz1 hz2 hz3 rfl (by decide) v xs.length (zv xs) hs hown ⟨gx, 0, none⟩ 1 1 [.int .i64 z] hx rfl (fun j u hu => by
    rw [Addr.add_lit, Nat.zero_add]
    exact cell_part hg (by simpa using hu)) (fun u hu => by simp at hu; subst hu; rfl) (by decide) (by unfold maxLen; omega) (by omega) hb _ rfl ?_
  intro g c w' k1 k2 k3 k4
  refine h g c w' (Lib.hid ?_) (Lib.hid (Fr.of_grown k2 fun k hk => hk)) (Lib.hid ?_)
  · unfold OwnI
    rw [List.length_append, zv_append]
    exact k1
  · rcases k3 with h | h
    · exact .inl h
    · exact .inr (by omega)
theorem set_zero {done : List Int} {n k : Nat} (hd : done.length = k) (hk : k < n) (g : Int) : (done ++ List.replicate (n - k) 0).set k g = (done ++ [g]) ++ List.replicate (n - (k + 1)) 0 := by
  obtain ⟨m, hm⟩ : ∃ m, n - k = m + 1 := ⟨n - k - 1, by omega⟩
  rw [hm, show n - (k + 1) = m by omega, List.replicate_succ, List.set_append_right _ _ (by omega), hd, Nat.sub_self, List.set_cons_zero, List.append_assoc]
  rfl
theorem aft_fr {w0 w w' : World} {base : Nat} {v : Value} {xs : List Int} (ha : Aft w0 w) (ho : OwnI w base v xs) (hb : w0.heap.size ≤ base) (hf : Fr (fun b => v.ownBlock = some b) w w') : Aft w0 w' :=
  ⟨hf.os.trans ha.os, hf.tape.trans ha.tape, hf.output.trans ha.output, Nat.le_trans ha.size hf.size, fun k hk => (hf.block k (Nat.lt_of_lt_of_le hk ha.size) fun q => by
    have := (ho.lt q).1
    omega).trans (ha.block k hk)⟩
theorem one_own {w w' : World} {base : Nat} {z : Int} (hg : w'.heap[w.heap.size]? = some (.cells #[.int .i64 z] 3 (0, 0))) (hb : base ≤ w.heap.size) : OwnI w' base (.slice (some ⟨w.heap.size, 0, none⟩) 1 1) [z] :=
  own_blk (xs := zv [z]) hg hb (show 1 ≤ maxLen by decide)
end Go.Proofs.YtdbhlajajdlmfaaDoor
