import Derived.Test.YtdbhlajajdlmfaaDoorB2
import Derived.Test.YtdbhlajajdlmfaaDoorB3
import Derived.Deep.Cut
/- Nodes (api.Node) in memory: lists of them that are read, and of one's own. -/
namespace Go.Proofs.YtdbhlajajdlmfaaDoor
open Go Go.RowKit
/-- A node, as numbers. -/
structure Nd where
  lv : Int
  ix : Int
  rd : Bool
  fr : Int
  tt : Int
  ks : List Int
  up : Int
deriving DecidableEq
def nd0 : Nd := ⟨0, 0, false, 0, 0, [], 0⟩
def ndR (x : Nd) (kv : Value) : List Value := [.int .i64 x.lv, .int .i64 x.ix, .bool x.rd, .int .i64 x.fr, .int .i64 x.tt, kv, .int .i64 x.up]
def ndP : Nd × Value := (nd0, .slice none 0 0)
def ndRs (ps : List (Nd × Value)) : List (List Value) := ps.map fun p => ndR p.1 p.2
theorem ndR_length (x : Nd) (kv : Value) : (ndR x kv).length = 7 := rfl
theorem ndRs_length (ps : List (Nd × Value)) : (ndRs ps).length = ps.length := List.length_map ..
theorem ndRs_append (ps qs : List (Nd × Value)) : ndRs (ps ++ qs) = ndRs ps ++ ndRs qs := List.map_append
theorem ndRs_at {ps : List (Nd × Value)} {i : Nat} (hi : i < ps.length) : (ndRs ps).getD i [] = ndR (ps.getD i ndP).1 (ps.getD i ndP).2 := by
  simp [ndRs, List.getD_eq_getElem?_getD, List.getElem?_eq_getElem hi]
theorem ndR_one {x : Nd} {a : Option Addr} {n c : Nat} : ∀ u ∈ ndR x (.slice a n c), u.oneCell' = true := by
  intro u hu
  simp only [ndR, List.mem_cons, List.not_mem_nil, or_false] at hu
  rcases hu with rfl | rfl | rfl | rfl | rfl | rfl | rfl <;> rfl
/-- A slice of nodes reads as these nodes (each with its kids' slice). -/
structure RdN (w : World) (v : Value) (ps : List (Nd × Value)) : Prop where
  row : RdR 7 w v (ndRs ps)
  kid : ∀ p ∈ ps, Rd w p.2 (zv p.1.ks)
theorem RdN.aft {w w' : World} {v : Value} {ps : List (Nd × Value)} (h : RdN w v ps) (ha : Aft w w') : RdN w' v ps := ⟨h.row.grow ha, fun p hp => (h.kid p hp).grow ha⟩
theorem RdN.shape {w : World} {v : Value} {ps : List (Nd × Value)} (h : RdN w v ps) : ∃ ao cap, v = .slice ao ps.length cap ∧ ps.length ≤ cap ∧ cap ≤ 9223372036854775807 := by
  have := h.row.shape
  rwa [ndRs_length] at this
/-- A slice of nodes of one's own, the kids' slices too. -/
structure OwnN (w : World) (base : Nat) (v : Value) (ps : List (Nd × Value)) : Prop where
  row : OwnR 7 68 w base v (ndRs ps)
  own : ∀ p ∈ ps, OwnI w base p.2 p.1.ks
theorem OwnN.nil (w : World) (base : Nat) : OwnN w base (.slice none 0 0) [] := ⟨OwnR.nil 7 _ w base, fun p hp => by simp at hp⟩
theorem OwnN.mono {w : World} {base base' : Nat} {v : Value} {ps : List (Nd × Value)} (h : OwnN w base v ps) (hb : base' ≤ base) : OwnN w base' v ps := ⟨h.row.mono hb, fun p hp => (h.own p hp).mono hb⟩
theorem OwnN.aft {w w' : World} {base : Nat} {v : Value} {ps : List (Nd × Value)} (h : OwnN w base v ps) (ha : Aft w w') : OwnN w' base v ps := ⟨h.row.aft ha, fun p hp => (h.own p hp).aft ha⟩
theorem OwnN.rd {w : World} {base : Nat} {v : Value} {ps : List (Nd × Value)} (h : OwnN w base v ps) : RdN w v ps := ⟨h.row.rd, fun p hp => (h.own p hp).rd⟩
theorem OwnN.shape {w : World} {base : Nat} {v : Value} {ps : List (Nd × Value)} (h : OwnN w base v ps) : ∃ ao cap, v = .slice ao ps.length cap := by
  have := h.row.shape
  rwa [ndRs_length] at this
theorem OwnN.lt {w : World} {base : Nat} {v : Value} {ps : List (Nd × Value)} (h : OwnN w base v ps) : ∀ g, v.ownBlock = some g → base ≤ g ∧ g < w.heap.size := h.row.lt
theorem own_ne2 {w : World} {B1 B2 e1 e2 s1 s2 n1 n2 : Nat} {v1 v2 : Value} {x1 x2 : List Value} (h1 : w.ownsRow B1 e1 s1 v1 n1 x1) (h2 : w.ownsRow B2 e2 s2 v2 n2 x2) (he : e1 ≠ e2) {g : Nat} (hg : v2.ownBlock = some g) : v1.ownBlock ≠ some g := by
  rcases h1.2 with ⟨rfl, -⟩ | ⟨g1, c1, k1, rfl, -, q1, -⟩
  · exact fun q => by cases q
  · rcases h2.2 with ⟨rfl, -⟩ | ⟨g2, c2, k2, rfl, -, q2, -⟩
    · cases hg
    · cases hg
      intro e
      cases e
      rw [q1] at q2
      cases q2
      exact he rfl
/-- Where only the row was turned, the kids stay. -/
theorem OwnN.kids {w w' : World} {base : Nat} {v : Value} {ps : List (Nd × Value)} (h : OwnN w base v ps) (hf : Fr (fun b => v.ownBlock = some b) w w') : ∀ p ∈ ps, OwnI w' base p.2 p.1.ks := fun p hp =>
  (h.own p hp).fr hf fun g hg e => own_ne2 h.row.2 (h.own p hp) (by decide) hg e
/-- Nothing of it was turned. -/
theorem OwnN.keep {w w' : World} {base : Nat} {v : Value} {ps : List (Nd × Value)} (h : OwnN w base v ps) {S : Nat → Prop} (hf : Fr S w w') (h1 : ∀ g, v.ownBlock = some g → ¬ S g) (h2 : ∀ p ∈ ps, ∀ g, p.2.ownBlock = some g → ¬ S g) : OwnN w' base v ps :=
  ⟨h.row.keep fun g hg => hf.block g (h.lt g hg).2 (h1 g hg), fun p hp => (h.own p hp).fr hf (h2 p hp)⟩
theorem ndRs_row {w : World} {base : Nat} {v : Value} {ps : List (Nd × Value)} (h : OwnN w base v ps) : Row 7 (ndRs ps) := h.row.1
/-- The cells of a node. -/
theorem OwnN.at {w : World} {base : Nat} {v : Value} {ps : List (Nd × Value)} (h : OwnN w base v ps) {i : Nat} (hi : i < ps.length) :
    ∃ g cap, v = .slice (some ⟨g, 0, none⟩) ps.length cap ∧ ∀ (j : Nat) (u : Value), (ndR (ps.getD i ndP).1 (ps.getD i ndP).2)[j]? = some u → w.cell? ⟨g, i * 7 + j, none⟩ = some u := by
  obtain ⟨g, o, cap, h1, h2, h3⟩ := h.row.rd.at (i := i) (by rw [ndRs_length]; exact hi)
  have ho : o = 0 := by
    rcases h.row.2.2 with ⟨rfl, -⟩ | ⟨g', c', k', he, -⟩
    · cases h1
    · rw [he] at h1
      cases h1
      rfl
  subst ho
  rw [ndRs_length] at h1
  refine ⟨g, cap, h1, fun j u hu => ?_⟩
  have := h3 w (Aft.refl w) j u (by rw [ndRs_at hi]; exact hu)
  rwa [Nat.zero_add] at this
/-- The way up of one node told. -/
def upS (ps : List (Nd × Value)) (k : Nat) (n : Int) : List (Nd × Value) := ps.set k ({ (ps.getD k ndP).1 with up := n }, (ps.getD k ndP).2)
theorem upS_length (ps : List (Nd × Value)) (k : Nat) (n : Int) : (upS ps k n).length = ps.length := List.length_set ..
theorem rows_set : ∀ {sz : Nat} {rs : List (List Value)}, Row sz rs → ∀ i, i < rs.length → ∀ r : List Value, r.length = sz → (rs.set i r).flatten = rs.flatten.take (i * sz) ++ (r ++ rs.flatten.drop (i * sz + sz))
  | _, [], _, i, hi, _, _ => by simp at hi
  | sz, q :: rs, h, 0, _, r, hr => by
    have hq := (h q (by simp)).1
    simp only [List.set_cons_zero, List.flatten_cons, Nat.zero_mul, List.take_zero, List.nil_append, Nat.zero_add]
    rw [List.drop_append_of_le_length (by omega), List.drop_of_length_le (by omega), List.nil_append]
  | sz, q :: rs, h, i + 1, hi, r, hr => by
    have hq := (h q (by simp)).1
    simp only [List.set_cons_succ, List.flatten_cons]
    rw [rows_set (fun x hx => h x (by simp [hx])) i (by simpa using hi) r hr, List.take_append, List.drop_append, hq, show (i + 1) * sz - sz = i * sz by rw [Nat.add_mul]; omega, show (i + 1) * sz + sz - sz = i * sz + sz by rw [Nat.add_mul]; omega,
      List.take_of_length_le (l := q) (by rw [hq, Nat.add_mul]; omega), List.drop_of_length_le (l := q) (by rw [hq, Nat.add_mul]; omega), List.nil_append, List.append_assoc]
theorem info_node : (Tryd.prog.info? 68).map (·.size) = some 7 := by kernel_rfl
section
variable {ops : Array Oper} {rest : List Oper} {o : Oper} {a : Act} {w : World} {Q : Exit → Act → World → Prop}
/-- A node's way up is stored. -/
theorem wpList_store_up (hgd : o.guard = none) (x y : Operand) (ho : o.op = .store 3 x y) (base g n cap : Nat) (ps : List (Nd × Value)) (k : Nat) (hk : k < ps.length) (z : Int)
    (hown : OwnN w base (.slice (some ⟨g, 0, none⟩) n cap) ps) (hx : a.eval x = .pointer (some ⟨g, k * 7 + 6, none⟩)) (hy : a.eval y = .int .i64 z)
    (h : ∀ w', Hid (OwnN w' base (.slice (some ⟨g, 0, none⟩) n cap) (upS ps k z)) → Hid (Fr (fun b => (Value.slice (some ⟨g, 0, none⟩) n cap).ownBlock = some b) w w') → wpList Tryd.prog ops Q rest (a.put o.dst undef) w') : wpList Tryd.prog ops Q (o :: rest) a w := by
  rcases hown.row.2.2 with ⟨he, -⟩ | ⟨g', cap', cur, he, hb, hg, h1, h2, h3, h4⟩
  · cases he
  cases he
  have hR := hown.row.1
  have hrl := rows_length hR
  rw [ndRs_length] at h1 h4 hrl
  have hfl : (ndRs ps).flatten.length = ps.length * 7 := hrl
  have hcl : cur.toList.length = cap * 7 := by rw [Array.length_toList, h3]
  have hic : k * 7 + 6 < cur.toList.length := by omega
  have e0 : cur.toList = cur.toList.take (k * 7 + 6) ++ ([cur.toList[k * 7 + 6]] ++ cur.toList.drop (k * 7 + 6 + 1)) := by
    have := List.take_append_drop (k * 7 + 6) cur.toList
    rw [List.drop_eq_getElem_cons hic] at this
    exact this.symm
  have hg' : w.heap[g]? = some (.cells (cur.toList.take (k * 7 + 6) ++ ([cur.toList[k * 7 + 6]] ++ cur.toList.drop (k * 7 + 6 + 1))).toArray 68 (0, 0)) := by rw [← e0]; exact hg
  refine wpList_store_part hgd _ x y ho g (k * 7 + 6) (.int .i64 z) hx hy _ (cur.toList.take (k * 7 + 6)) [cur.toList[k * 7 + 6]] [.int .i64 z] (cur.toList.drop (k * 7 + 6 + 1)) rfl (by rw [List.length_take]; omega) hg' (by kernel_rfl) rfl (fun z hz => by simp at hz; subst hz; rfl) ?_
  intro w' b1 b2 b3
  have e1 : cur.toList.take (k * 7 + 6) ++ ([Value.int .i64 z] ++ cur.toList.drop (k * 7 + 6 + 1)) = cur.toList.set (k * 7 + 6) (.int .i64 z) := by
    rw [List.set_eq_take_append_cons_drop, if_pos hic]
    rfl
  have hb1 := b1.out
  rw [e1] at hb1
  have hf : Fr (fun b => (Value.slice (some ⟨g, 0, none⟩) (ndRs ps).length cap).ownBlock = some b) w w' := fr_store rfl b2.out b3
  have hset : (ndRs (upS ps k z)).flatten = (ndRs ps).flatten.set (k * 7 + 6) (.int .i64 z) := by
    have e2 : ndRs (upS ps k z) = (ndRs ps).set k (ndR { (ps.getD k ndP).1 with up := z } (ps.getD k ndP).2) := by
      unfold ndRs upS
      rw [List.map_set]
    rw [e2, rows_set hR k (by rw [ndRs_length]; exact hk) _ rfl]
    refine List.ext_getElem? fun j => ?_
    rw [List.getElem?_append, List.getElem?_append, List.length_take, hfl, ndR_length, List.getElem?_take, List.getElem?_drop, List.getElem?_set]
    have hmin : min (k * 7) (ps.length * 7) = k * 7 := by omega
    rw [hmin]
    by_cases c1 : j < k * 7
    · rw [if_pos c1, if_pos c1, if_neg (by omega)]
    · rw [if_neg c1]
      by_cases c2 : j - k * 7 < 7
      · rw [if_pos c2]
        have hr := rows_at hR k (j - k * 7) (by rw [ndRs_length]; exact hk) c2
        rw [show k * 7 + (j - k * 7) = j by omega, ndRs_at hk] at hr
        by_cases c3 : k * 7 + 6 = j
        · subst c3
          rw [if_pos rfl, if_pos (by rw [hfl]; omega), show k * 7 + 6 - k * 7 = 6 by omega]
          rfl
        · rw [if_neg c3, hr]
          have h5 : j - k * 7 < 6 := by omega
          generalize j - k * 7 = m at h5
          match m, h5 with
          | 0, _ => rfl
          | 1, _ => rfl
          | 2, _ => rfl
          | 3, _ => rfl
          | 4, _ => rfl
          | 5, _ => rfl
      · rw [if_neg c2, if_neg (by omega), show k * 7 + 7 + (j - k * 7 - 7) = j by omega]
  have hRow : Row 7 (ndRs (upS ps k z)) := by
    unfold ndRs upS
    rw [List.map_set]
    intro r hr
    rcases List.mem_or_eq_of_mem_set hr with hr | rfl
    · exact hR r hr
    · refine ⟨rfl, fun u hu => ?_⟩
      have hq := (hR.at (i := k) (by rw [ndRs_length]; exact hk)).2
      rw [ndRs_at hk] at hq
      simp only [ndR, List.mem_cons, List.not_mem_nil, or_false] at hu hq
      rcases hu with rfl | rfl | rfl | rfl | rfl | rfl | rfl
      · rfl
      · rfl
      · rfl
      · rfl
      · rfl
      · exact hq _ (.inr (.inr (.inr (.inr (.inr (.inl rfl))))))
      · rfl
  refine h w' (Lib.hid ⟨⟨hRow, ?_⟩, fun p hp => ?_⟩) (Lib.hid hf)
  · refine ⟨?_, .inr ⟨g, cap, _, ?_, hb, hb1, ?_, h2, ?_, ?_⟩⟩
    · rw [hset, List.length_set, ndRs_length, upS_length]
      exact hrl
    · rw [ndRs_length, ndRs_length, upS_length]
    · rw [ndRs_length, upS_length]
      exact h1
    · rw [List.size_toArray, List.length_set]
      exact hcl
    · rw [ndRs_length, upS_length, hset, ← h4]
      exact List.take_set
  · have hp' : p ∈ ps ∨ p = ({ (ps.getD k ndP).1 with up := z }, (ps.getD k ndP).2) := List.mem_or_eq_of_mem_set hp
    rcases hp' with hp' | rfl
    · exact hown.kids hf p hp'
    · refine hown.kids hf (ps.getD k ndP) ?_
      rw [List.getD_eq_getElem?_getD, List.getElem?_eq_getElem hk]
      exact List.getElem_mem hk
end
end Go.Proofs.YtdbhlajajdlmfaaDoor
/- Nodes: what the walks of red want. -/
namespace Go.Proofs.YtdbhlajajdlmfaaDoor
open Go Go.RowKit
set_option linter.unusedSimpArgs false
theorem box_nd (L : List Value) (w : World) : (Instr.box 68 (.agg L.toArray)).run Tryd.prog w = .ok (.pointer (some ⟨w.heap.size, 0, none⟩)) (w.alloc (.cells L.toArray 68)) := rfl
theorem alloc_nd (w : World) : (Instr.alloc 68 true (.tuple #[])).run Tryd.prog w = .ok (.pointer (some ⟨w.heap.size, 0, none⟩)) (w.alloc (.cells (ndR nd0 (.slice none 0 0)).toArray 68)) := by kernel_rfl
theorem nd_info (x : Nd) (kv : Value) : (Tryd.prog.info? 68).map (·.size) = some (ndR x kv).toArray.size := by kernel_rfl
theorem build_leaf (a b : Int) (w : World) : (Instr.build 68 #[(1, .int .i64 a), (3, .int .i64 a), (4, .int .i64 b), (6, .int .i64 (-1))]).run Tryd.prog w = .ok (.agg (ndR ⟨0, a, false, a, b, [], -1⟩ (.slice none 0 0)).toArray) w := by kernel_rfl
theorem build_nd (l a : Int) (w : World) : (Instr.build 68 #[(0, .int .i64 l), (1, .int .i64 a)]).run Tryd.prog w = .ok (.agg (ndR ⟨l, a, false, 0, 0, [], 0⟩ (.slice none 0 0)).toArray) w := by kernel_rfl
theorem build_red (l a : Int) (w : World) : (Instr.build 68 #[(0, .int .i64 l), (1, .int .i64 a), (2, .bool true)]).run Tryd.prog w = .ok (.agg (ndR ⟨l, a, true, 0, 0, [], 0⟩ (.slice none 0 0)).toArray) w := by kernel_rfl
theorem run_ndSlice (x : Nd) (kv : Value) (w : World) : (Instr.buildSlice 63 1 #[(0, .agg (ndR x kv).toArray)]).run Tryd.prog w = .ok (.slice (some ⟨w.heap.size, 0, none⟩) 1 1) (w.alloc (.cells (ndR x kv).toArray 68)) := by kernel_rfl
theorem run_ints2 (x y : Int) (w : World) : (Instr.buildSlice 22 2 #[(0, .int .i64 x), (1, .int .i64 y)]).run Tryd.prog w = .ok (.slice (some ⟨w.heap.size, 0, none⟩) 2 2) (w.alloc (.cells #[.int .i64 x, .int .i64 y] 3)) := by kernel_rfl
theorem run_ints3 (x y z : Int) (w : World) : (Instr.buildSlice 22 3 #[(0, .int .i64 x), (1, .int .i64 y), (2, .int .i64 z)]).run Tryd.prog w = .ok (.slice (some ⟨w.heap.size, 0, none⟩) 3 3) (w.alloc (.cells #[.int .i64 x, .int .i64 y, .int .i64 z] 3)) := by kernel_rfl
theorem info_nd2 : (Tryd.prog.info? 68).map (fun i => (i.zero, i.size, i.bytes)) = some (some (.agg (ndR nd0 (.slice none 0 0)).toArray), 7, 72) := by kernel_rfl
section
variable {P : Program} {ops : Array Oper} {rest : List Oper} {o : Oper} {a : Act} {w : World} {Q : Exit → Act → World → Prop}
/-- One cell of a block. -/
theorem wpList_store_cellJ (hgd : o.guard = none) (ty : TypeId) (x y : Operand) (ho : o.op = .store ty x y) (g j : Nat) (v : Value) (hx : a.eval x = .pointer (some ⟨g, j, none⟩)) (hy : a.eval y = v) (t : TypeId) (L : List Value) (hj : j < L.length) (hg : w.heap[g]? = some (.cells L.toArray t (0, 0)))
    (hi : (P.info? ty).map (·.size) = some 1) (hv : v.cells = #[v]) (h1 : v.oneCell' = true)
    (h : ∀ w', Hid (w'.heap[g]? = some (.cells (L.set j v).toArray t (0, 0))) → Hid (∀ k, k ≠ g → w'.heap[k]? = w.heap[k]?) → (∀ k w0, k ≤ g → Below k w0 w → Below k w0 w') → wpList P ops Q rest (a.put o.dst undef) w') : wpList P ops Q (o :: rest) a w := by
  have e0 : L = L.take j ++ ([L[j]] ++ L.drop (j + 1)) := by
    have := List.take_append_drop j L
    rw [List.drop_eq_getElem_cons hj] at this
    exact this.symm
  have e1 : L.take j ++ ([v] ++ L.drop (j + 1)) = L.set j v := by
    rw [List.set_eq_take_append_cons_drop, if_pos hj]
    rfl
  refine wpList_store_part hgd _ x y ho g j v hx hy t (L.take j) [L[j]] [v] (L.drop (j + 1)) hv (by rw [List.length_take]; omega) (by rw [← e0]; exact hg) hi rfl (fun z hz => by simp at hz; subst hz; exact h1) ?_
  intro w' b1 b2 b3
  have hb1 := b1.out
  rw [e1] at hb1
  exact h w' (Lib.hid hb1) b2 b3
end
section
variable {ops : Array Oper} {rest : List Oper} {o : Oper} {a : Act} {w : World} {Q : Exit → Act → World → Prop}
theorem wpList_ndSlice (hw : Region.wanted o (yielded ops a.tmps) = true) (y : Operand) (x : Nd) (kv : Value) (ho : o.op = .buildSlice 63 1 #[(0, y)]) (hy : a.eval y = .agg (ndR x kv).toArray)
    (h : ∀ w', Aft w w' → Hid (w'.heap[w.heap.size]? = some (.cells (ndR x kv).toArray 68 (0, 0))) → wpList Tryd.prog ops Q rest (a.put o.dst (.slice (some ⟨w.heap.size, 0, none⟩) 1 1)) w') : wpList Tryd.prog ops Q (o :: rest) a w := by
  unfold wpList
  rw [if_pos hw]
  refine .inl (wp_noOut ?_)
  unfold Oper.wp execOp
  simp only [ho, hy, Sem.run_bind, List.map_toArray, List.map_cons, List.map_nil, run_ndSlice x kv w, Result.andThen_ok, Sem.run_pure]
  exact h _ (Aft.alloc w _) (heap_alloc_new w _)
theorem wpList_ints2 (hw : Region.wanted o (yielded ops a.tmps) = true) (y1 y2 : Operand) (x1 x2 : Int) (ho : o.op = .buildSlice 22 2 #[(0, y1), (1, y2)]) (hy : a.eval y1 = .int .i64 x1) (hz : a.eval y2 = .int .i64 x2)
    (h : ∀ w', Aft w w' → Hid (OwnI w' w.heap.size (.slice (some ⟨w.heap.size, 0, none⟩) 2 2) [x1, x2]) → wpList Tryd.prog ops Q rest (a.put o.dst (.slice (some ⟨w.heap.size, 0, none⟩) 2 2)) w') : wpList Tryd.prog ops Q (o :: rest) a w := by
  unfold wpList
  rw [if_pos hw]
  refine .inl (wp_noOut ?_)
  unfold Oper.wp execOp
  simp only [ho, hy, hz, Sem.run_bind, List.map_toArray, List.map_cons, List.map_nil, run_ints2 x1 x2 w, Result.andThen_ok, Sem.run_pure]
  exact h _ (Aft.alloc w _) (Lib.hid (own_blk (xs := zv [x1, x2]) (heap_alloc_new w _) (Nat.le_refl _) (show 2 ≤ maxLen by decide)))
theorem wpList_ints3 (hw : Region.wanted o (yielded ops a.tmps) = true) (y1 y2 y3 : Operand) (x1 x2 x3 : Int) (ho : o.op = .buildSlice 22 3 #[(0, y1), (1, y2), (2, y3)]) (hy : a.eval y1 = .int .i64 x1) (hz : a.eval y2 = .int .i64 x2) (hz3 : a.eval y3 = .int .i64 x3)
    (h : ∀ w', Aft w w' → Hid (OwnI w' w.heap.size (.slice (some ⟨w.heap.size, 0, none⟩) 3 3) [x1, x2, x3]) → wpList Tryd.prog ops Q rest (a.put o.dst (.slice (some ⟨w.heap.size, 0, none⟩) 3 3)) w') : wpList Tryd.prog ops Q (o :: rest) a w := by
  unfold wpList
  rw [if_pos hw]
  refine .inl (wp_noOut ?_)
  unfold Oper.wp execOp
  simp only [ho, hy, hz, hz3, Sem.run_bind, List.map_toArray, List.map_cons, List.map_nil, run_ints3 x1 x2 x3 w, Result.andThen_ok, Sem.run_pure]
  exact h _ (Aft.alloc w _) (Lib.hid (own_blk (xs := zv [x1, x2, x3]) (heap_alloc_new w _) (Nat.le_refl _) (show 3 ≤ maxLen by decide)))
/-- One node more at the end. -/
theorem wpList_snocN (hgd : o.guard = none) (s x : Operand) (ho : o.op = .call { callee := .builtin .append, args := #[s, x], argTypes := #[63, 63] }) (base : Nat) (v : Value) (ps : List (Nd × Value)) (hs : a.eval s = v) (hown : OwnN w base v ps) (gx : Nat) (z : Nd) (kv : Value) (hx : a.eval x = .slice (some ⟨gx, 0, none⟩) 1 1)
    (hg : w.heap[gx]? = some (.cells (ndR z kv).toArray 68 (0, 0))) (hk : OwnI w base kv z.ks) (hl : ps.length ≤ 1000000) (hb : base ≤ w.heap.size)
    (h : ∀ g c w', Hid (OwnN w' base (.slice (some ⟨g, 0, none⟩) (ps.length + 1) c) (ps ++ [(z, kv)])) → Hid (Fr (fun b => v.ownBlock = some b) w w') → Hid (v.ownBlock = some g ∨ w.heap.size ≤ g) → wpList Tryd.prog ops Q rest (a.put o.dst (.slice (some ⟨g, 0, none⟩) (ps.length + 1) c)) w') : wpList Tryd.prog ops Q (o :: rest) a w := by
  obtain ⟨i0, hi0, hz1, hz2, hz3⟩ := info_parts info_nd2
  obtain ⟨ka, kc, rfl⟩ := hk.shape
  have hro := hown.row.2
  rw [ndRs_length] at hro
  refine wpList_append_lies w hgd s x 63 ho base 68 i0 _ 7 72 Tryd.underlying63 hi0 hz1 hz2 hz3 rfl (by decide) v ps.length (ndRs ps).flatten hs hro ⟨gx, 0, none⟩ 1 1 (ndR z (.slice ka z.ks.length kc)) hx rfl (fun j u hu => by
    rw [Addr.add_lit, Nat.zero_add]
    exact cell_part hg hu) ndR_one (by decide) (by unfold maxLen; omega) (by omega) hb _ rfl ?_
  intro g c w' k1 k2 k3 k4
  have hf : Fr (fun b => v.ownBlock = some b) w w' := Fr.of_grown k2 fun k hk => hk
  refine h g c w' (Lib.hid ⟨⟨?_, ?_⟩, fun p hp => ?_⟩) (Lib.hid hf) (Lib.hid ?_)
  · rw [ndRs_append]
    exact hown.row.1.append (Row.one rfl ndR_one)
  · rw [ndRs_length, List.length_append, ndRs_append, List.flatten_append]
    simpa [ndRs] using k1
  · rcases List.mem_append.1 hp with hp | hp
    · exact hown.kids hf p hp
    · rw [List.mem_singleton.1 hp]
      exact hk.fr hf fun g hg e => own_ne2 hown.row.2 hk (by decide) hg e
  · rcases k3 with h | h
    · exact .inl h
    · exact .inr (by omega)
end
end Go.Proofs.YtdbhlajajdlmfaaDoor
/- red.nodes: what puts a node above others. -/
namespace Go.Proofs.YtdbhlajajdlmfaaDoor
open Go Go.RowKit
set_option linter.unusedSimpArgs false
def kz (ks : List Nat) : List Int := ks.map fun (k : Nat) => (k : Int)
theorem kz_length (ks : List Nat) : (kz ks).length = ks.length := List.length_map ..
theorem kz_at (ks : List Nat) (i : Nat) : (kz ks).getD i 0 = ((ks.getD i 0 : Nat) : Int) := by
  simp only [kz, List.getD_eq_getElem?_getD, List.getElem?_map]
  cases ks[i]? <;> rfl
def upAll (ps : List (Nd × Value)) (ks : List Nat) (n : Int) : List (Nd × Value) := ks.foldl (fun q k => upS q k n) ps
theorem upAll_length (n : Int) : ∀ (ks : List Nat) (ps : List (Nd × Value)), (upAll ps ks n).length = ps.length
  | [], _ => rfl
  | k :: ks, ps => (upAll_length n ks (upS ps k n)).trans (upS_length ps k n)
theorem upAll_snoc (ps : List (Nd × Value)) (n : Int) (ks : List Nat) (j : Nat) (hj : j < ks.length) : upAll ps (ks.take (j + 1)) n = upS (upAll ps (ks.take j) n) (ks.getD j 0) n := by
  rw [List.take_add_one, List.getD_eq_getElem?_getD, List.getElem?_eq_getElem hj]
  unfold upAll
  rw [List.foldl_append]
  rfl
def nodeOf (x : Nd) (ps : List (Nd × Value)) (ks : List Nat) : Nd := ⟨x.lv, x.ix, x.rd, (ps.getD (ks.getD 0 0) ndP).1.fr, (ps.getD (ks.getD (ks.length - 1) 0) ndP).1.tt, kz ks, -1⟩
def abvP (x : Nd) (kv : Value) (ps : List (Nd × Value)) (ks : List Nat) : List (Nd × Value) := upAll ps ks ps.length ++ [(nodeOf x ps ks, kv)]
theorem abvP_length (x : Nd) (kv : Value) (ps : List (Nd × Value)) (ks : List Nat) : (abvP x kv ps ks).length = ps.length + 1 := by simp [abvP, upAll_length]
def AbvSays (x : Nd) (kv : Value) (ks : List Nat) (ba base : Nat) (va : Value) (ps : List (Nd × Value)) (w : World) (e : Ending) (w' : World) : Prop :=
  ∃ va' : Value, e = .returned (.int .i64 (ps.length : Nat)) ∧ w'.heap[ba]? = some (.cells [va'].toArray 63 (0, 0)) ∧ OwnN w' base va' (abvP x kv ps ks) ∧ Fr (fun b => b = ba ∨ va.ownBlock = some b) w w' ∧ ∀ g, va'.ownBlock = some g → va.ownBlock = some g ∨ w.heap.size ≤ g
theorem OwnN.atA {w : World} {base : Nat} {v : Value} {ps : List (Nd × Value)} (h : OwnN w base v ps) {i : Nat} (hi : i < ps.length) :
    ∃ g cap, v = .slice (some ⟨g, 0, none⟩) ps.length cap ∧ g < w.heap.size ∧ ∀ wx, Aft w wx → ∀ (j : Nat) (u : Value), (ndR (ps.getD i ndP).1 (ps.getD i ndP).2)[j]? = some u → wx.cell? ⟨g, i * 7 + j, none⟩ = some u := by
  obtain ⟨g, cap, rfl, hc⟩ := h.at hi
  have hlt := (h.lt g rfl).2
  exact ⟨g, cap, rfl, hlt, fun wx hx j u hu => (Below.cell hx (p := ⟨g, i * 7 + j, none⟩) hlt).trans (hc j u hu)⟩
/-- A block of another type was turned. -/
theorem OwnN.stored {w w' : World} {base g t : Nat} {v : Value} {ps : List (Nd × Value)} {cs : Array Value} {fr : Nat × Nat} (h : OwnN w base v ps) (hg : w.heap[g]? = some (.cells cs t fr)) (h1 : t ≠ 68) (h2 : t ≠ 3) (hb : ∀ k, k ≠ g → w'.heap[k]? = w.heap[k]?) : OwnN w' base v ps :=
  ⟨h.row.keep fun k hk => hb k (h.row.off hg h1 hk), fun p hp => (h.own p hp).keep fun k hk => hb k (own_off (h.own p hp) hg h2 hk)⟩
theorem fr_store2 {w w' : World} {g : Nat} (hb : ∀ k, k ≠ g → w'.heap[k]? = w.heap[k]?) (h3 : ∀ k w0, k ≤ g → Below k w0 w → Below k w0 w') : Fr (fun b => b = g) w w' :=
  have h := h3 g w (Nat.le_refl _) (Below.refl _ _)
  ⟨h.os, h.tape, h.output, h.size, fun k _ hn => hb k hn⟩
theorem wrapM (m : Nat) (h : m ≤ 1000000) : wrap64 (m : Int) = (m : Int) := wrap64_mid (by omega) (by omega)
theorem wrapS (m : Nat) (h : m ≤ 1000000) : wrap64 ((m : Int) + 1) = ((m + 1 : Nat) : Int) := by
  rw [wrap64_mid (by omega) (by omega)]
  rfl
theorem lt_left {j m : Nat} (h : j < m + 1) : m - j < m + 1 - j := by omega
theorem OwnI.atA {w : World} {base : Nat} {v : Value} {xs : List Int} (h : OwnI w base v xs) (hx : 0 < xs.length) :
    ∃ g cap, v = .slice (some ⟨g, 0, none⟩) xs.length cap ∧ g < w.heap.size ∧ ∀ wx, Aft w wx → ∀ i, i < xs.length → wx.cell? ⟨g, i, none⟩ = some (.int .i64 (xs.getD i 0)) := by
  have hr := h.rd
  rcases h.2 with ⟨rfl, hn⟩ | ⟨g, cap, cur, rfl, -⟩
  · omega
  · refine ⟨g, cap, rfl, (h.lt rfl).2, fun wx hw i hi => ?_⟩
    have := Rd.num_at (h.aft hw).rd hi
    rwa [Nat.zero_add] at this
set_option maxRecDepth 100000 in
set_option maxHeartbeats 1000000 in
theorem above_any (x : Nd) (kv : Value) (ks : List Nat) (m : Nat) (hm : ks.length = m + 1) (ba base : Nat) (va : Value) (ps : List (Nd × Value)) (w : World)
    (hba : w.heap[ba]? = some (.cells [va].toArray 63 (0, 0))) (hO : OwnN w base va ps) (hK : OwnI w base kv (kz ks)) (hks : ∀ k ∈ ks, k < ps.length) (hp : ps.length ≤ 100000) (hb : base ≤ w.heap.size) (hm3 : m ≤ 1000) :
    Calls Tryd.prog 94 #[.agg (ndR x (.slice none 0 0)).toArray, kv, .pointer (some ⟨ba, 0, none⟩)] w (AbvSays x kv ks ba base va ps w) := by
  have HB := Lib.hid hba
  have HO := Lib.hid hO
  have HK := Lib.hid hK
  have HKs := Lib.hid hks
  have HP := Lib.hid hp
  have HBs := Lib.hid hb
  have HM := Lib.hid hm
  have HM3 := Lib.hid hm3
  have hlast : ks.getD m 0 < ps.length := hks _ (by rw [List.getD_eq_getElem?_getD, List.getElem?_eq_getElem (by omega)]; exact List.getElem_mem _)
  have hfirst : ks.getD 0 0 < ps.length := hks _ (by rw [List.getD_eq_getElem?_getD, List.getElem?_eq_getElem (by omega)]; exact List.getElem_mem _)
  obtain ⟨gk, ck, hkv, -, hkc⟩ := hK.atA (by rw [kz_length]; omega)
  obtain ⟨g, cp, hva, hgl, hc0⟩ := hO.atA hfirst
  obtain ⟨g', cp', hva', -, hc1⟩ := hO.atA hlast
  rw [hva] at hva'
  cases hva'
  have hks0 := fun wx hw => hkc wx hw 0 (by rw [kz_length]; omega)
  have hksm := fun wx hw => hkc wx hw m (by rw [kz_length]; omega)
  rw [kz_length, hm] at hkv
  simp only [kz_at] at hks0 hksm
  subst hkv hva
  have HH0 := Lib.hid (fun wx hw => hc0 wx hw 3 _ rfl)
  have HHm := Lib.hid (fun wx hw => hc1 wx hw 4 _ rfl)
  have HKc := Lib.hid hks0
  have HKm := Lib.hid hksm
  have HF := Lib.hid hfirst
  have HGl := Lib.hid hgl
  have HLt := Lib.hid hlast
  have HL := Lib.hid (Led.start w)
  clear hba hO hK hks hp hb hm hlast hfirst hkc hc0 hc1 hks0 hksm hgl hm3
  go_enter Tryd.func94, Tryd.ntmps94
  go_wp2_with (first | (refine wpList_boxO rfl 68 (.tmp 0) rfl (.agg (ndR x (.slice none 0 0)).toArray) rfl (.cells (ndR x (.slice none 0 0)).toArray 68) (box_nd _) ?_; intro w' aa gg zz; replace HL := Lib.hid (HL.out.alloc aa gg.out); clear aa gg zz; try simp only [List.nil_append, List.cons_append, List.set_cons_zero, List.set_cons_succ] at HL))
  have hk0 : ((ks.getD 0 0 : Nat) : Int) < (ps.length : Nat) := by have := HF.out; omega
  have hkm : ((ks.getD m 0 : Nat) : Int) < (ps.length : Nat) := by have := HLt.out; omega
  have hw1 : wrap64 (m : Int) = (m : Int) := wrapM m (by have := HM3.out; omega)
  have f0 := fun u : Later w.heap.size w => cell_part (n := 0) (u := .slice (some ⟨g, 0, none⟩) ps.length cp) (Aft.get u.h HB.out) rfl
  have f1 := fun u : Later w.heap.size w => HKc.out u.w u.h
  have f2 := fun u : Later w.heap.size w => HKm.out u.w u.h
  have f3 := fun u : Later w.heap.size w => HH0.out u.w u.h
  have f4 := fun u : Later w.heap.size w => HHm.out u.w u.h
  generalize hef : (ps.getD (ks.getD 0 0) ndP).1.fr = ef at *
  generalize het : (ps.getD (ks.getD m 0) ndP).1.tt = et at *
  generalize hek0 : ks.getD 0 0 = k0 at *
  generalize hekm : ks.getD m 0 = km at *
  have HEf := Lib.hid hef
  have HEt := Lib.hid het
  have HE0 := Lib.hid hek0
  have HEm := Lib.hid hekm
  clear hek0 hekm hef het
  refine wp_region_lex (fun wz => ∃ u : Later w.heap.size w, wz = u.w) (fun i => ([19, 21, 23, 25] : List Nat).contains i) 26 (by kernel_rfl) (by kernel_rfl) ⟨⟨w'.drew, Below.drew HL.out.aft⟩, rfl⟩ ?_
  change wpLx _ _ _ _ _ _ _ _ _ w'.drew
  replace HL := Lib.hid (HL.out.call (show Aft w' w'.drew from (Below.refl _ _).drew))
  generalize w'.drew = wd at *
  try simp only [Act.put, List.setIfInBounds_toArray, List.set_cons_succ, List.set_cons_zero]
  repeat (first | (refine lx_skipT (by go_big_quiet_skip; exact wpQuiet_nil trivial) (by kernel_rfl) ?_; simp only [Act.put, List.setIfInBounds_toArray, List.set_cons_succ, List.set_cons_zero]) | (refine lx_quietT rfl (by go_big_quiet_want; exact quiet_false (by assumption)) (by kernel_rfl) rfl ?_; intro Kx hKx; go_big_quiet_op; go_big_quiet_on))
  refine lx_eff rfl (by kernel_rfl) ?_
  intro Kx hKx
  refine wp_of_list (ops := #[]) (wpList_store_cellJ rfl 22 (.tmp 26) (.tmp 8) rfl _ 5 _ rfl rfl _ _ (Nat.lt_of_lt_of_eq (show 5 < 7 by decide) rfl) (HL.out.get 0 rfl) (by kernel_rfl) rfl rfl ?_)
  intro w1 b1 b2 b3
  replace HL := Lib.hid (HL.out.store 0 rfl b1 b2 b3)
  clear b1 b2 b3
  try simp only [List.nil_append, List.cons_append, List.set_cons_zero, List.set_cons_succ] at HL
  refine ⟨rfl, hKx _ _ ⟨Later.on HL.out.aft, ?_⟩⟩
  clear hKx
  simp only [Act.put]
  repeat (first | (refine lx_skipT (by go_big_quiet_skip; exact wpQuiet_nil trivial) (by kernel_rfl) ?_; simp only [Act.put, List.setIfInBounds_toArray, List.set_cons_succ, List.set_cons_zero]) | (refine lx_quietT rfl (by go_big_quiet_want; exact quiet_false (by assumption)) (by kernel_rfl) rfl ?_; intro Kx hKx; go_big_quiet_op; go_big_quiet_on))
  refine lx_eff rfl (by kernel_rfl) ?_
  intro Kx hKx
  refine wp_of_list (ops := #[]) (wpList_store_cellJ rfl 3 (.tmp 27) (.tmp 15) rfl _ 3 _ rfl rfl _ _ (Nat.lt_of_lt_of_eq (show 3 < 7 by decide) rfl) (HL.out.get 0 rfl) (by kernel_rfl) rfl rfl ?_)
  intro w2 b1 b2 b3
  replace HL := Lib.hid (HL.out.store 0 rfl b1 b2 b3)
  clear b1 b2 b3
  try simp only [List.nil_append, List.cons_append, List.set_cons_zero, List.set_cons_succ] at HL
  refine ⟨rfl, hKx _ _ ⟨Later.on HL.out.aft, ?_⟩⟩
  clear hKx
  simp only [Act.put]
  repeat (first | (refine lx_skipT (by go_big_quiet_skip; exact wpQuiet_nil trivial) (by kernel_rfl) ?_; simp only [Act.put, List.setIfInBounds_toArray, List.set_cons_succ, List.set_cons_zero]) | (refine lx_quietT rfl (by go_big_quiet_want; exact quiet_false (by assumption)) (by kernel_rfl) rfl ?_; intro Kx hKx; go_big_quiet_op; go_big_quiet_on))
  refine lx_eff rfl (by kernel_rfl) ?_
  intro Kx hKx
  refine wp_of_list (ops := #[]) (wpList_store_cellJ rfl 3 (.tmp 28) (.tmp 25) rfl _ 4 _ rfl rfl _ _ (Nat.lt_of_lt_of_eq (show 4 < 7 by decide) rfl) (HL.out.get 0 rfl) (by kernel_rfl) rfl rfl ?_)
  intro w3 b1 b2 b3
  replace HL := Lib.hid (HL.out.store 0 rfl b1 b2 b3)
  clear b1 b2 b3
  try simp only [List.nil_append, List.cons_append, List.set_cons_zero, List.set_cons_succ] at HL
  refine ⟨rfl, hKx _ _ ⟨Later.on HL.out.aft, ?_⟩⟩
  clear hKx
  simp only [Act.put]
  repeat (first | (refine lx_skipT (by go_big_quiet_skip; exact wpQuiet_nil trivial) (by kernel_rfl) ?_; simp only [Act.put, List.setIfInBounds_toArray, List.set_cons_succ, List.set_cons_zero]) | (refine lx_quietT rfl (by go_big_quiet_want; exact quiet_false (by assumption)) (by kernel_rfl) rfl ?_; intro Kx hKx; go_big_quiet_op; go_big_quiet_on))
  refine lx_eff rfl (by kernel_rfl) ?_
  intro Kx hKx
  refine wp_of_list (ops := #[]) (wpList_store_cellJ rfl 3 (.tmp 29) (.const (.int .i64 (-1))) rfl _ 6 _ rfl rfl _ _ (Nat.lt_of_lt_of_eq (show 6 < 7 by decide) rfl) (HL.out.get 0 rfl) (by kernel_rfl) rfl rfl ?_)
  intro wA b1 b2 b3
  replace HL := Lib.hid (HL.out.store 0 rfl b1 b2 b3)
  clear b1 b2 b3
  try simp only [List.nil_append, List.cons_append, List.set_cons_zero, List.set_cons_succ] at HL
  refine ⟨rfl, hKx _ _ ⟨Later.on HL.out.aft, ?_⟩⟩
  clear hKx
  simp only [Act.put]
  repeat (first | (refine lx_skipT (by go_big_quiet_skip; exact wpQuiet_nil trivial) (by kernel_rfl) ?_; simp only [Act.put, List.setIfInBounds_toArray, List.set_cons_succ, List.set_cons_zero]) | (refine lx_quietT rfl (by go_big_quiet_want; exact quiet_false (by assumption)) (by kernel_rfl) rfl ?_; intro Kx hKx; go_big_quiet_op; go_big_quiet_on))
  refine lx_done ?_
  clear f0 f1 f2 f3 f4
  have HX := Lib.hid (show wA.heap[w.heap.size]? = some (.cells (ndR ⟨x.lv, x.ix, x.rd, ef, et, kz ks, -1⟩ (.slice (some ⟨gk, 0, none⟩) (m + 1) ck)).toArray 68 (0, 0)) from HL.out.get 0 rfl)
  have HA := Lib.hid HL.out.aft
  have HBA := Lib.hid (Aft.get HA.out HB.out)
  replace HO := Lib.hid (HO.out.aft HA.out)
  replace HK := Lib.hid (HK.out.aft HA.out)
  have HN1 := Lib.hid (show g ≠ ba from HO.out.row.off HBA.out (by decide) rfl)
  have HN2 := Lib.hid (show g ≠ w.heap.size by have := HGl.out; omega)
  clear HL HB HH0 HHm HKc HKm
  go_wp2_with fail
  rw [hw1]
  clear hw1
  go_loopw [32] (fun v32 wr => ∃ j : Nat, j ≤ m + 1 ∧ v32 = .int .i64 (j : Int) ∧ OwnN wr base (.slice (some ⟨g, 0, none⟩) ps.length cp) (upAll ps (ks.take j) ps.length) ∧ Fr (fun b => (Value.slice (some ⟨g, 0, none⟩) ps.length cp).ownBlock = some b) wA wr) (fun v _ => m + 1 - (intOf v).toNat)
  case atStart => exact ⟨0, by omega, rfl, HO.out, Fr.refl _ _⟩
  case round =>
    obtain ⟨j, hj, rfl, hOr, hFr⟩ := hrel
    have HOr := Lib.hid hOr
    have HFr := Lib.hid hFr
    have HBr := Lib.hid ((hFr.block ba (heap_lt HBA.out) fun e => HN1.out (Option.some.inj e)).trans HBA.out)
    have HXr := Lib.hid ((hFr.block w.heap.size (heap_lt HX.out) fun e => HN2.out (Option.some.inj e)).trans HX.out)
    have HKr := Lib.hid (HK.out.fr hFr fun q hq e => own_ne2 HO.out.row.2 HK.out (by decide) hq e)
    have hcb := cell_part (n := 0) (u := .slice (some ⟨g, 0, none⟩) ps.length cp) HBr.out rfl
    clear hOr hFr
    by_cases hlt : j < m + 1
    · have hlt' : (j : Int) < ((m + 1 : Nat) : Int) := by omega
      have hlt2 : (j : Int) < (m : Int) + 1 := by omega
      have hm3 := HM3.out
      have hck := Rd.num_at HKr.out.rd (i := j) (by rw [kz_length, HM.out]; exact hlt)
      rw [Nat.zero_add, kz_at] at hck
      have hkj : ks.getD j 0 < ps.length := HKs.out _ (by rw [List.getD_eq_getElem?_getD, List.getElem?_eq_getElem (by rw [HM.out]; exact hlt)]; exact List.getElem_mem _)
      have HSn := Lib.hid (upAll_snoc ps ps.length ks j (by rw [HM.out]; exact hlt))
      have HLn := Lib.hid (upAll_length ps.length (ks.take j) ps)
      generalize ks.getD j 0 = kj at *
      have hkj' : (kj : Int) < (ps.length : Nat) := by omega
      generalize upAll ps (ks.take j) ps.length = qs at *
      go_wp2_with (first | (refine wpList_store_up rfl (.tmp 41) (.tmp 39) rfl base g ps.length cp qs kj (by rw [HLn.out]; exact hkj) (ps.length : Nat) HOr.out rfl rfl ?_; intro w9 q1 q2; have HQ := Lib.hid q1.out; have HQf := Lib.hid q2.out; clear q1 q2 hcb hck))
      go_roundw
      case rel => exact ⟨j + 1, by omega, by go_num, by rw [HSn.out]; exact HQ.out, HFr.out.trans HQf.out⟩
      case measure => simp [intOf]; omega
    · obtain rfl : j = m + 1 := by omega
      have hlt' : ¬ ((m + 1 : Nat) : Int) < ((m + 1 : Nat) : Int) := by omega
      have hlt2 : ¬ (m : Int) + 1 < (m : Int) + 1 := by omega
      rw [List.take_of_length_le (by rw [HM.out]; exact Nat.le_refl _)] at HOr
      have HLn := Lib.hid (upAll_length ps.length ks ps)
      have HQs := Lib.hid (show abvP x (.slice (some ⟨gk, 0, none⟩) (m + 1) ck) ps ks = upAll ps ks ps.length ++ [(⟨x.lv, x.ix, x.rd, ef, et, kz ks, -1⟩, .slice (some ⟨gk, 0, none⟩) (m + 1) ck)] by
        unfold abvP nodeOf
        rw [HM.out, Nat.add_sub_cancel, HE0.out, HEm.out, HEf.out, HEt.out])
      generalize upAll ps ks ps.length = qs at *
      have hw2 : wrap64 (qs.length : Nat) = (qs.length : Nat) := wrapM _ (by rw [HLn.out]; exact Nat.le_trans HP.out (by decide))
      go_wp2_with (first | (refine wpList_load_rowG (by kernel_rfl) 68 (.tmp 3) rfl _ rfl _ _ _ _ HXr.out Tryd.underlying68 rfl (nd_info _ _) ?_) | (refine wpList_ndSlice (by kernel_rfl) (.tmp 44) ⟨x.lv, x.ix, x.rd, ef, et, kz ks, -1⟩ (.slice (some ⟨gk, 0, none⟩) (m + 1) ck) rfl rfl ?_; intro wS aS gS; have HOs := Lib.hid (HOr.out.aft aS); have HBs2 := Lib.hid (Aft.get aS HBr.out); have HKs2 := Lib.hid (HKr.out.aft aS); have HSz := Lib.hid (show wr.heap.size ≤ wS.heap.size from Below.size aS); have HFs := Lib.hid (HFr.out.trans (Fr.of_below aS)); have hgx := heap_lt HXr.out; clear aS) | (refine wpList_snocN rfl (.tmp 43) (.tmp 45) rfl base _ qs rfl HOs.out wr.heap.size ⟨x.lv, x.ix, x.rd, ef, et, kz ks, -1⟩ (.slice (some ⟨gk, 0, none⟩) (m + 1) ck) rfl gS.out HKs2.out (by have := HLn.out; have := HP.out; omega) (by have := HBs.out; have := HSz.out; omega) ?_; intro g2 c2 wT t1 t2 t3; have HBt := Lib.hid ((t2.out.block ba (heap_lt HBs2.out) fun e => HN1.out (Option.some.inj e)).trans HBs2.out); clear hcb) | (refine wpList_store_cellJ rfl 63 (.tmp 2) (.tmp 46) rfl ba 0 (.slice (some ⟨g2, 0, none⟩) (qs.length + 1) c2) rfl rfl _ [.slice (some ⟨g, 0, none⟩) ps.length cp] (by simp) HBt.out (by kernel_rfl) rfl rfl ?_; intro wU b1 b2 b3; have hb3 := cell_part (n := 0) b1.out rfl; have HB1 := b1; have HB2 := b2; have HB3 := Lib.hid b3; clear b1 b2 b3))
      go_ret
      have HFb := Lib.hid (fr_store2 HB2.out HB3.out)
      refine ⟨_, ?_, HB1.out, ?_, ?_, ?_⟩
      · rw [HLn.out]
        rfl
      · rw [HQs.out]
        exact t1.out.stored HBt.out (by decide) (by decide) HB2.out
      · exact (((Fr.of_below HA.out).trans (HFs.out.mono fun k _ e => .inr e)).trans (t2.out.mono fun k _ e => .inr e)).trans (HFb.out.mono fun k _ e => .inl e)
      · intro q hq
        cases hq
        rcases t3.out with e | e
        · exact .inl e
        · refine .inr ?_
          have h1 := Below.size HA.out
          have h2 := HFs.out.size
          exact Nat.le_trans h1 (Nat.le_trans h2 e)
end Go.Proofs.YtdbhlajajdlmfaaDoor
/- red.nodes: the plain function, and how a tree's levels stand to one another. -/
namespace Go.Proofs.YtdbhlajajdlmfaaDoor
open Go Go.RowKit
def cntN (n : Nat) (ls : List (List Int)) : Nat → Nat
  | 0 => n
  | l + 1 => (ls.getD l []).length
theorem cntN_cons (n : Nat) (l : List Int) (ls : List (List Int)) (k : Nat) : cntN n (l :: ls) (k + 1) = cntN l.length ls k := by
  cases k <;> rfl
/-- How the levels stand to one another. -/
structure Fit (n : Nat) (ls : List (List Int)) : Prop where
  sum : ∀ l, l < ls.length → (ls.getD l []).sum = (cntN n ls l : Int)
  tt : ∀ l, ∀ x ∈ ls.getD l [], x = 2 ∨ x = 3
  few : ∀ l, l ≤ ls.length → cntN n ls l ≤ n
  top : cntN n ls ls.length ≤ 1
theorem sum_two : ∀ (l : List Int), (∀ x ∈ l, x = 2 ∨ x = 3) → 2 * (l.length : Int) ≤ l.sum
  | [], _ => by simp
  | x :: l, h => by
    have h1 := sum_two l fun y hy => h y (by simp [hy])
    have h2 := h x (by simp)
    simp only [List.length_cons, List.sum_cons]
    omega
theorem okLv_fit : ∀ (ls : List (List Int)) (n : Nat), okLv (n : Int) ls = true → Fit n ls
  | [], n, h => by
    have hn : n ≤ 1 := by
      unfold okLv at h
      have := of_decide_eq_true h
      omega
    exact ⟨fun l hl => by simp at hl, fun l x hx => by simp at hx, fun l hl => by
      cases l with
      | zero => exact Nat.le_refl _
      | succ l => exact absurd hl (by simp), hn⟩
  | l :: ls, n, h => by
    obtain ⟨h1, h2, h3, h4⟩ := okLv_cons h
    have ih := okLv_fit ls l.length h4
    have hs := sum_two l h2
    refine ⟨fun k hk => ?_, fun k x hx => ?_, fun k hk => ?_, ?_⟩
    · cases k with
      | zero => exact h3
      | succ k => rw [cntN_cons]; exact ih.sum k (by simpa using hk)
    · cases k with
      | zero => exact h2 x hx
      | succ k => exact ih.tt k x hx
    · cases k with
      | zero => exact Nat.le_refl _
      | succ k =>
        rw [cntN_cons]
        have := ih.few k (by simpa using hk)
        omega
    · rw [List.length_cons, cntN_cons]
      exact ih.top
theorem frm_nonnegN : ∀ (l : List Int), (∀ x ∈ l, x = 2 ∨ x = 3) → ∀ k, 0 ≤ frm l k
  | [], _, k => by simp [frm]
  | x :: l, h, 0 => by simp [frm]
  | x :: l, h, k + 1 => by
    rw [frm_cons]
    have h1 := frm_nonnegN l (fun y hy => h y (by simp [hy])) k
    have h2 := h x (by simp)
    omega
theorem frm_leN : ∀ (l : List Int), (∀ x ∈ l, x = 2 ∨ x = 3) → ∀ k, frm l k ≤ l.sum
  | [], _, k => by simp [frm]
  | x :: l, h, 0 => by
    have h2 := sum_two (x :: l) h
    rw [frm_zero]
    omega
  | x :: l, h, k + 1 => by
    rw [frm_cons, List.sum_cons]
    have h1 := frm_leN l (fun y hy => h y (by simp [hy])) k
    omega
/-- Where a group's first part stands. -/
def fstN (ls : List (List Int)) (L at' : Nat) : Nat := (frm (ls.getD L []) at').toNat
theorem getD_memN {l : List Int} {i : Nat} (h : i < l.length) : l.getD i 0 ∈ l := by
  rw [List.getD_eq_getElem?_getD, List.getElem?_eq_getElem h]
  exact List.getElem_mem _
theorem fit_step {n : Nat} {ls : List (List Int)} (h : Fit n ls) {L at' : Nat} (hL : L < ls.length) (ha : at' < cntN n ls (L + 1)) :
    ∃ x : Nat, (ls.getD L []).getD at' 0 = (x : Int) ∧ (x = 2 ∨ x = 3) ∧ fstN ls L (at' + 1) = fstN ls L at' + x ∧ fstN ls L at' + x ≤ cntN n ls L := by
  have ha' : at' < (ls.getD L []).length := ha
  have h1 := frm_nonnegN _ (h.tt L) at'
  have h2 := frm_succ ha'
  have h3 := frm_leN _ (h.tt L) (at' + 1)
  rw [h.sum L hL] at h3
  have h4 := h.tt L ((ls.getD L []).getD at' 0) (getD_memN ha')
  unfold fstN
  generalize (ls.getD L []).getD at' 0 = y at *
  rcases h4 with rfl | rfl
  · exact ⟨2, rfl, .inl rfl, by omega, by omega⟩
  · exact ⟨3, rfl, .inr rfl, by omega, by omega⟩
/-- Which groups come next: from a level down. -/
def Al (ls : List (List Int)) : Nat → Nat → List Int → Prop
  | 0, at', nx => nx.getD 0 0 = (at' : Int)
  | L + 1, at', nx => nx.getD (L + 1) 0 = (at' : Int) ∧ Al ls L (fstN ls L at') nx
theorem Al.congr {ls : List (List Int)} : ∀ {L at' : Nat} {nx nx' : List Int}, Al ls L at' nx → (∀ j, j ≤ L → nx'.getD j 0 = nx.getD j 0) → Al ls L at' nx'
  | 0, _, _, _, h, e => (e 0 (Nat.le_refl _)).trans h
  | L + 1, _, _, _, h, e => ⟨(e (L + 1) (Nat.le_refl _)).trans h.1, Al.congr h.2 fun j hj => e j (by omega)⟩
theorem Al.head {ls : List (List Int)} {L at' : Nat} {nx : List Int} (h : Al ls L at' nx) : nx.getD L 0 = (at' : Int) := by
  cases L with
  | zero => exact h
  | succ L => exact h.1
theorem getD_set_neN {l : List Int} {i j : Nat} {v : Int} (h : i ≠ j) : (l.set i v).getD j 0 = l.getD j 0 := by
  rw [List.getD_eq_getElem?_getD, List.getElem?_set_ne h, List.getD_eq_getElem?_getD]
theorem getD_set_selfN {l : List Int} {i : Nat} {v : Int} (h : i < l.length) : (l.set i v).getD i 0 = v := by
  rw [List.getD_eq_getElem?_getD, List.getElem?_set_self h]
  rfl
/-- A node above others, in the list of all. -/
def abvN (x : Nd) (l : List Nd) (ks : List Nat) : List Nd :=
  ks.foldl (fun q k => q.set k { q.getD k nd0 with up := (l.length : Nat) }) l ++ [⟨x.lv, x.ix, x.rd, (l.getD (ks.getD 0 0) nd0).fr, (l.getD (ks.getD (ks.length - 1) 0) nd0).tt, kz ks, -1⟩]
theorem fold_up_length (n : Int) : ∀ (ks : List Nat) (l : List Nd), (ks.foldl (fun q k => q.set k { q.getD k nd0 with up := n }) l).length = l.length
  | [], _ => rfl
  | _ :: ks, _ => (fold_up_length n ks _).trans (List.length_set ..)
theorem abvN_length (x : Nd) (l : List Nd) (ks : List Nat) : (abvN x l ks).length = l.length + 1 := by
  unfold abvN
  rw [List.length_append, fold_up_length]
  rfl
theorem fst_getD (ps : List (Nd × Value)) (k : Nat) : (ps.map Prod.fst).getD k nd0 = (ps.getD k ndP).1 := by
  simp only [List.getD_eq_getElem?_getD, List.getElem?_map]
  cases ps[k]? <;> rfl
theorem upAll_fst (n : Int) : ∀ (ks : List Nat) (ps : List (Nd × Value)), (upAll ps ks n).map Prod.fst = ks.foldl (fun q k => q.set k { q.getD k nd0 with up := n }) (ps.map Prod.fst)
  | [], _ => rfl
  | k :: ks, ps => by
    refine (upAll_fst n ks (upS ps k n)).trans ?_
    have e : (upS ps k n).map Prod.fst = (ps.map Prod.fst).set k { (ps.map Prod.fst).getD k nd0 with up := n } := by
      unfold upS
      rw [List.map_set, fst_getD]
    rw [e]
    rfl
theorem abvP_fst (x : Nd) (kv : Value) (ps : List (Nd × Value)) (ks : List Nat) : (abvP x kv ps ks).map Prod.fst = abvN x (ps.map Prod.fst) ks := by
  unfold abvP abvN nodeOf
  rw [List.map_append, upAll_fst, List.length_map]
  simp only [List.map_cons, List.map_nil, fst_getD]
def hdN (L at' : Nat) (rd : Bool) : Nd := ⟨(L : Nat), (at' : Nat), rd, 0, 0, [], 0⟩
/-- The nodes of a group, and of all below it, put behind others. -/
def below (kind : Int) (ls : List (List Int)) : Nat → Nat → List Nd → List Nd
  | 0, at', l => l ++ [⟨0, (at' : Nat), false, (at' : Nat), (at' : Int) + 1, [], -1⟩]
  | L + 1, at', l =>
    let l1 := below kind ls L (fstN ls L at') l
    let l2 := below kind ls L (fstN ls L at' + 1) l1
    if (ls.getD L []).getD at' 0 = 2 then abvN (hdN (L + 1) at' false) l2 [l1.length - 1, l2.length - 1]
    else if kind = 1 then
      let l3 := below kind ls L (fstN ls L at' + 2) l2
      abvN (hdN (L + 1) at' false) l3 [l1.length - 1, l2.length - 1, l3.length - 1]
    else
      let r := abvN (hdN (L + 1) at' true) l2 [l1.length - 1, l2.length - 1]
      let l3 := below kind ls L (fstN ls L at' + 2) r
      abvN (hdN (L + 1) at' false) l3 [r.length - 1, l3.length - 1]
theorem below_length (kind : Int) (ls : List (List Int)) : ∀ (L at' : Nat) (l : List Nd), l.length + 1 ≤ (below kind ls L at' l).length ∧ (below kind ls L at' l).length + 1 ≤ l.length + 2 * 3 ^ L
  | 0, at', l => by simp [below]
  | L + 1, at', l => by
    have h1 := below_length kind ls L (fstN ls L at') l
    have h2 := below_length kind ls L (fstN ls L at' + 1) (below kind ls L (fstN ls L at') l)
    have h3 := below_length kind ls L (fstN ls L at' + 2) (below kind ls L (fstN ls L at' + 1) (below kind ls L (fstN ls L at') l))
    have h4 := below_length kind ls L (fstN ls L at' + 2) (abvN (hdN (L + 1) at' true) (below kind ls L (fstN ls L at' + 1) (below kind ls L (fstN ls L at') l)) [(below kind ls L (fstN ls L at') l).length - 1, (below kind ls L (fstN ls L at' + 1) (below kind ls L (fstN ls L at') l)).length - 1])
    rw [abvN_length] at h4
    have hp : 1 ≤ 3 ^ L := Nat.pow_pos (by decide)
    rw [Nat.pow_succ]
    simp only [below]
    split
    · rw [abvN_length]
      omega
    · split
      · rw [abvN_length]
        omega
      · rw [abvN_length]
        omega
end Go.Proofs.YtdbhlajajdlmfaaDoor
/- red.nodes: a group with all below it (the recursion), a leaf first. -/
namespace Go.Proofs.YtdbhlajajdlmfaaDoor
open Go Go.RowKit
set_option linter.unusedSimpArgs false
theorem OwnN.low {w w' : World} {base g : Nat} {v : Value} {ps : List (Nd × Value)} (h : OwnN w base v ps) (hg : g < base) (hb : ∀ k, k ≠ g → w'.heap[k]? = w.heap[k]?) : OwnN w' base v ps :=
  ⟨h.row.keep fun k hk => hb k (by have := (h.lt k hk).1; omega), fun p hp => (h.own p hp).keep fun k hk => hb k (by have := ((h.own p hp).lt hk).1; omega)⟩
theorem Led.frS {w0 w w' : World} {L : List (Nat × Obj)} {S : Nat → Prop} (h : Led w0 w L) (hf : Fr S w w') (hlow : ∀ b, S b → w0.heap.size ≤ b) (hS : ∀ (i g : Nat) (o : Obj), L[i]? = some (g, o) → ¬ S g) : Led w0 w' L :=
  ⟨⟨hf.os.trans h.aft.os, hf.tape.trans h.aft.tape, hf.output.trans h.aft.output, Nat.le_trans h.aft.size hf.size, fun k hk => (hf.block k (Nat.lt_of_lt_of_le hk h.aft.size) fun q => by
    have := hlow k q
    omega).trans (h.aft.block k hk)⟩, fun i g o hi => ⟨(hf.block g (heap_lt (h.get i hi)) (hS i g o hi)).trans (h.get i hi), (h.has i g o hi).2⟩, h.inc⟩
/-- One of the ledger's blocks was turned, and others that are not on it. -/
theorem Led.turn {w0 w w' : World} {L : List (Nat × Obj)} {S : Nat → Prop} (h : Led w0 w L) (i : Nat) {b : Nat} {old new : Obj} (hi : L[i]? = some (b, old)) (hg : w'.heap[b]? = some new) (hf : Fr S w w') (hlow : ∀ k, S k → w0.heap.size ≤ k) (hS : ∀ (j g : Nat) (o : Obj), j ≠ i → L[j]? = some (g, o) → ¬ S g) : Led w0 w' (L.set i (b, new)) := by
  have hl : i < L.length := (List.getElem?_eq_some_iff.1 hi).1
  have hset : ∀ (j k : Nat) (o : Obj), (L.set i (b, new))[j]? = some (k, o) → (j = i ∧ k = b ∧ o = new) ∨ (j ≠ i ∧ L[j]? = some (k, o)) := by
    intro j k o hj
    by_cases e : j = i
    · subst e
      rw [List.getElem?_set_self hl] at hj
      cases hj
      exact .inl ⟨rfl, rfl, rfl⟩
    · rw [List.getElem?_set_ne (Ne.symm e)] at hj
      exact .inr ⟨e, hj⟩
  refine ⟨⟨hf.os.trans h.aft.os, hf.tape.trans h.aft.tape, hf.output.trans h.aft.output, Nat.le_trans h.aft.size hf.size, fun k hk => (hf.block k (Nat.lt_of_lt_of_le hk h.aft.size) fun q => by
    have := hlow k q
    omega).trans (h.aft.block k hk)⟩, fun j g o hj => ?_, fun j k g g' o p hjk hj hk => ?_⟩
  · rcases hset j g o hj with ⟨rfl, rfl, rfl⟩ | ⟨e, hj⟩
    · exact ⟨hg, (h.has _ _ _ hi).2⟩
    · exact ⟨(hf.block g (heap_lt (h.get j hj)) (hS j g o e hj)).trans (h.get j hj), (h.has j g o hj).2⟩
  · rcases hset j g o hj with ⟨rfl, rfl, rfl⟩ | ⟨e, hj2⟩ <;> rcases hset k g' p hk with ⟨rfl, rfl, rfl⟩ | ⟨e', hk2⟩
    · omega
    · exact h.inc _ _ _ _ _ _ hjk hi hk2
    · exact h.inc _ _ _ _ _ _ hjk hj2 hi
    · exact h.inc _ _ _ _ _ _ hjk hj2 hk2
theorem Led.top {w0 w : World} {L : List (Nat × Obj)} (h : Led w0 w L) {m b i g : Nat} {ob o : Obj} (hm : L.length = m + 1) (hb : L[m]? = some (b, ob)) (hi : L[i]? = some (g, o)) : g ≤ b := by
  have hl : i < L.length := (List.getElem?_eq_some_iff.1 hi).1
  by_cases e : i = m
  · subst e
    rw [hi] at hb
    cases hb
    exact Nat.le_refl _
  · exact Nat.le_of_lt (h.inc i m g b o ob (by omega) hi hb)
def fnA (ba : Nat) : Value := .func (.func 94) #[] #[.pointer (some ⟨ba, 0, none⟩)]
def fnD (bk bs ba bv bn bd : Nat) : Value := .func (.func 95) #[] #[.pointer (some ⟨bn, 0, none⟩), .pointer (some ⟨ba, 0, none⟩), .pointer (some ⟨bd, 0, none⟩), .pointer (some ⟨bs, 0, none⟩), .pointer (some ⟨bv, 0, none⟩), .pointer (some ⟨bk, 0, none⟩)]
/-- The variables that the closures share. -/
def ledN (bk bs ba bv gn bn bd : Nat) (kind : Int) (vi vl va : Value) (nx : List Int) : List (Nat × Obj) :=
  [(bk, .cells [.int .i64 kind].toArray 3), (bs, .cells (shpL vi vl).toArray 25), (ba, .cells [va].toArray 63), (bv, .cells [fnA ba].toArray 144), (gn, .cells (zv nx).toArray 3),
    (bn, .cells [.slice (some ⟨gn, 0, none⟩) nx.length nx.length].toArray 22), (bd, .cells [fnD bk bs ba bv bn bd].toArray 84)]
structure DnIn (w0 : World) (bk bs ba bv gn bn bd base : Nat) (kind : Int) (vi vl : Value) (n : Nat) (ls : List (List Int)) (L at' : Nat) (va : Value) (ps : List (Nd × Value)) (nx : List Int) (w : World) : Prop where
  led : Led w0 w (ledN bk bs ba bv gn bn bd kind vi vl va nx)
  own : OwnN w base va ps
  lo : bd < base
  sz : base ≤ w.heap.size
  al : Al ls L at' nx
  nl : nx.length = ls.length + 1
  hL : L ≤ ls.length
  ha : at' < cntN n ls L
  few : ps.length + 2 * 3 ^ L ≤ 90000
def DnSays (w0 : World) (bk bs ba bv gn bn bd base : Nat) (kind : Int) (vi vl : Value) (ls : List (List Int)) (L at' : Nat) (va : Value) (ps : List (Nd × Value)) (nx : List Int) (w : World) (e : Ending) (w' : World) : Prop :=
  ∃ va' ps' nx', e = .returned (.int .i64 ((ps'.length - 1 : Nat) : Int)) ∧ Led w0 w' (ledN bk bs ba bv gn bn bd kind vi vl va' nx') ∧ OwnN w' base va' ps' ∧ ps'.map Prod.fst = below kind ls L at' (ps.map Prod.fst) ∧ Al ls L (at' + 1) nx' ∧ nx'.length = nx.length ∧
    (∀ j, L < j → nx'.getD j 0 = nx.getD j 0) ∧ Fr (fun b => b = ba ∨ b = gn ∨ va.ownBlock = some b) w w' ∧ ∀ g, va'.ownBlock = some g → va.ownBlock = some g ∨ w.heap.size ≤ g
def dnArgs (bk bs ba bv bn bd L : Nat) : Array Value := #[.int .i64 (L : Nat), .pointer (some ⟨bn, 0, none⟩), .pointer (some ⟨ba, 0, none⟩), .pointer (some ⟨bd, 0, none⟩), .pointer (some ⟨bs, 0, none⟩), .pointer (some ⟨bv, 0, none⟩), .pointer (some ⟨bk, 0, none⟩)]
set_option maxRecDepth 100000 in
set_option maxHeartbeats 1000000 in
theorem down_zero (w0 : World) (bk bs ba bv gn bn bd base : Nat) (kind : Int) (vi vl : Value) (n : Nat) (ls : List (List Int)) (hn : n ≤ 1000) (at' : Nat) (va : Value) (ps : List (Nd × Value)) (nx : List Int) (w : World)
    (h : DnIn w0 bk bs ba bv gn bn bd base kind vi vl n ls 0 at' va ps nx w) :
    Calls Tryd.prog 95 (dnArgs bk bs ba bv bn bd 0) w (DnSays w0 bk bs ba bv gn bn bd base kind vi vl ls 0 at' va ps nx w) := by
  obtain ⟨hled, hown, hlo, hsz, hal, hnl, -, ha, hfew⟩ := h
  have ha2 : at' < n := ha
  have hat : (at' : Int) ≤ 1000 := by omega
  have hL0 : 0 < nx.length := by omega
  unfold dnArgs
  unfold ledN at hled
  have HL := Lib.hid hled
  have HO := Lib.hid hown
  have HLo := Lib.hid hlo
  have HSz := Lib.hid hsz
  have HAl := Lib.hid hal
  have HNl := Lib.hid hnl
  have HFew := Lib.hid hfew
  have hcn := cell_part (n := 0) (HL.out.get 5 rfl) rfl
  have hcx := cell_part (n := 0) (HL.out.get 4 rfl) (zv_at hL0)
  rw [show nx.getD 0 0 = (at' : Int) from hal] at hcx
  have HLen := Lib.hid hL0
  obtain ⟨ca, cc, rfl⟩ := hown.shape
  have hx0 : (0 : Int) < (nx.length : Nat) := by omega
  clear hled hown hlo hsz hal hnl hfew ha ha2 hn hL0
  go_enter Tryd.func95, Tryd.ntmps95
  go_wp2_with (first | (refine wpList_store_cellJ rfl 3 (.tmp 23) (.tmp 22) rfl gn 0 (.int .i64 ((at' : Int) + 1)) rfl rfl _ (zv nx) (by rw [zv_length]; exact HLen.out) (HL.out.get 4 rfl) (by kernel_rfl) rfl rfl ?_; intro w1 b1 b2 b3; rw [zv_set] at b1; clear hcn hcx; replace HO := Lib.hid (HO.out.low (Nat.lt_trans (HL.out.inc 4 6 _ _ _ _ (by decide) rfl rfl) HLo.out) b2.out); have HF1 := Lib.hid (fr_store2 b2.out b3); replace HL := Lib.hid (HL.out.store 4 rfl b1 b2 b3); clear b1 b2 b3; simp only [List.set_cons_succ, List.set_cons_zero] at HL; have hca := cell_part (n := 0) (HL.out.get 2 rfl) rfl) | (refine wpList_buildO (by kernel_rfl) 68 #[(1, .tmp 27), (3, .tmp 28), (4, .tmp 30), (6, .const (.int .i64 (-1)))] rfl #[(1, .int .i64 (at' : Int)), (3, .int .i64 (at' : Int)), (4, .int .i64 ((at' : Int) + 1)), (6, .int .i64 (-1))] (by kernel_rfl) _ (build_leaf _ _) ?_) | (refine wpList_ndSlice (by kernel_rfl) (.tmp 31) ⟨0, (at' : Int), false, (at' : Int), (at' : Int) + 1, [], -1⟩ (.slice none 0 0) rfl rfl ?_; intro wS aS gS; have HOs := Lib.hid (HO.out.aft aS); have HLs := Lib.hid (HL.out.call aS); have HSs := Lib.hid (show w1.heap.size ≤ wS.heap.size from Below.size aS); have HFs := Lib.hid (HF1.out.mono (S' := fun b => b = ba ∨ b = gn ∨ (Value.slice ca ps.length cc).ownBlock = some b) (fun k _ e => .inr (.inl e)) |>.trans (Fr.of_below aS)); clear aS) | (refine wpList_snocN rfl (.tmp 26) (.tmp 32) rfl base _ ps rfl HOs.out w1.heap.size ⟨0, (at' : Int), false, (at' : Int), (at' : Int) + 1, [], -1⟩ (.slice none 0 0) rfl gS.out (OwnI.nil _ _) (by have := HFew.out; omega) (by have h1 := HSz.out; have h2 := HF1.out.size; have h3 := HSs.out; omega) ?_; intro g2 c2 wT t1 t2 t3; have HLt := Lib.hid (HLs.out.frS t2.out (fun b hb => by have h1 := (HOs.out.lt b hb).1; have h2 := HL.out.le 6 rfl; have h3 := HLo.out; omega) (fun i g o hi e => by have h1 := (HOs.out.lt g e).1; have h2 := HLo.out; have h3 := HLs.out.top (m := 6) rfl rfl hi; omega)); clear hca) | (refine wpList_store_cellJ rfl 63 (.tmp 2) (.tmp 33) rfl ba 0 (.slice (some ⟨g2, 0, none⟩) (ps.length + 1) c2) rfl rfl _ [.slice ca ps.length cc] (by simp) (HLt.out.get 2 rfl) (by kernel_rfl) rfl rfl ?_; intro wU b1 b2 b3; have hb3 := cell_part (n := 0) b1.out rfl; have HB2 := b2; have HF9 := Lib.hid (fr_store2 b2.out b3); have HLu := Lib.hid (HLt.out.store 2 rfl b1 b2 b3); clear b1 b2 b3))
  go_ret
  refine ⟨_, _, nx.set 0 ((at' : Int) + 1), congrArg (fun z => Ending.returned (.int .i64 z)) ((wrapM _ (by have := HFew.out; omega)).trans (by rw [List.length_append]; rfl)), ?_, (t1.out.low (Nat.lt_trans (HL.out.inc 2 6 _ _ _ _ (by decide) rfl rfl) HLo.out) HB2.out), ?_, ?_, List.length_set .., fun j hj => getD_set_neN (by omega), ?_, ?_⟩
  · unfold ledN
    rw [List.length_set]
    exact HLu.out
  · simp only [below, List.map_append, List.map_cons, List.map_nil]
  · exact getD_set_selfN HLen.out
  · exact ((HFs.out).trans (t2.out.mono fun k _ e => .inr (.inr e))).trans (HF9.out.mono fun k _ e => .inl e)
  · intro q hq
    cases hq
    rcases t3.out with e | e
    · exact .inl e
    · have h1 := HF1.out.size
      have h2 := HSs.out
      exact .inr (Nat.le_trans h1 (Nat.le_trans h2 e))
end Go.Proofs.YtdbhlajajdlmfaaDoor
/- red.nodes: where a group's turn stands between its calls. -/
namespace Go.Proofs.YtdbhlajajdlmfaaDoor
open Go Go.RowKit
theorem Fr.next {S S2 : Nat → Prop} {w wa wb : World} (h1 : Fr S w wa) (h2 : Fr S2 wa wb) (hs : ∀ k, k < w.heap.size → S2 k → S k) : Fr S w wb :=
  ⟨h2.os.trans h1.os, h2.tape.trans h1.tape, h2.output.trans h1.output, Nat.le_trans h1.size h2.size, fun k hk hn => (h2.block k (Nat.lt_of_lt_of_le hk h1.size) fun e => hn (hs k hk e)).trans (h1.block k hk hn)⟩
/-- One block more on the ledger, behind all others. -/
theorem Led.snocB {w0 w : World} {L : List (Nat × Obj)} {b : Nat} {o : Obj} (h : Led w0 w L) (hb : w.heap[b]? = some o) (hl : w0.heap.size ≤ b) (hlt : ∀ (i g : Nat) (p : Obj), L[i]? = some (g, p) → g < b) : Led w0 w (L ++ [(b, o)]) := by
  refine ⟨h.aft, fun i g p hi => ?_, fun i j g k p q hij hi hj => ?_⟩
  · by_cases hlen : i < L.length
    · rw [List.getElem?_append_left hlen] at hi
      exact h.has i g p hi
    · obtain ⟨e1, e2⟩ := getElem?_snoc hi hlen
      cases e2
      exact ⟨hb, hl⟩
  · by_cases hj' : j < L.length
    · rw [List.getElem?_append_left hj'] at hj
      rw [List.getElem?_append_left (by omega)] at hi
      exact h.inc i j g k p q hij hi hj
    · obtain ⟨e1, e2⟩ := getElem?_snoc hj hj'
      cases e2
      rw [List.getElem?_append_left (by omega)] at hi
      exact hlt i g p hi
section
variable {w0 : World} {bk bs ba bv gn bn bd base : Nat} {kind : Int} {vi vl : Value} {n : Nat} {ls : List (List Int)} {bx : Nat} {X : Obj} {va0 : Value} {wS : World}
structure DnSt (w0 : World) (bk bs ba bv gn bn bd base : Nat) (kind : Int) (vi vl : Value) (ls : List (List Int)) (bx : Nat) (X : Obj) (va0 : Value) (wS : World) (va : Value) (ps : List (Nd × Value)) (nx : List Int) (w : World) : Prop where
  led : Led w0 w (ledN bk bs ba bv gn bn bd kind vi vl va nx ++ [(bx, X)])
  own : OwnN w base va ps
  lo : bd < base
  nb : ∀ g, va.ownBlock = some g → g ≠ bx
  fr : Fr (fun b => b = ba ∨ b = gn ∨ va0.ownBlock = some b) wS w
  gr : ∀ g, va.ownBlock = some g → va0.ownBlock = some g ∨ wS.heap.size ≤ g
  nl : nx.length = ls.length + 1
  sz : base ≤ w.heap.size
theorem DnSt.aft {va : Value} {ps : List (Nd × Value)} {nx : List Int} {w w' : World} (h : DnSt w0 bk bs ba bv gn bn bd base kind vi vl ls bx X va0 wS va ps nx w) (ha : Aft w w') : DnSt w0 bk bs ba bv gn bn bd base kind vi vl ls bx X va0 wS va ps nx w' :=
  ⟨h.led.call ha, h.own.aft ha, h.lo, h.nb, h.fr.trans (Fr.of_below ha), h.gr, h.nl, Nat.le_trans h.sz (Below.size ha)⟩
theorem DnSt.le0 {va : Value} {ps : List (Nd × Value)} {nx : List Int} {w : World} (h : DnSt w0 bk bs ba bv gn bn bd base kind vi vl ls bx X va0 wS va ps nx w) : w0.heap.size ≤ ba ∧ w0.heap.size ≤ gn ∧ w0.heap.size ≤ bd ∧ ba < bd ∧ gn < bd ∧ bd < bx ∧ w0.heap.size ≤ bx :=
  ⟨h.led.le 2 rfl, h.led.le 4 rfl, h.led.le 6 rfl, h.led.inc 2 6 _ _ _ _ (by decide) rfl rfl, h.led.inc 4 6 _ _ _ _ (by decide) rfl rfl, h.led.inc 6 7 _ _ _ _ (by decide) rfl rfl, h.led.le 7 rfl⟩
theorem DnSt.inn {va : Value} {ps : List (Nd × Value)} {nx : List Int} {w : World} {L at' : Nat} (h : DnSt w0 bk bs ba bv gn bn bd base kind vi vl ls bx X va0 wS va ps nx w) (hal : Al ls L at' nx) (hL : L ≤ ls.length) (ha : at' < cntN n ls L) (hf : ps.length + 2 * 3 ^ L ≤ 90000) :
    DnIn w0 bk bs ba bv gn bn bd base kind vi vl n ls L at' va ps nx w := ⟨h.led.cut 7, h.own, h.lo, h.sz, hal, h.nl, hL, ha, hf⟩
theorem DnSt.down {va : Value} {ps : List (Nd × Value)} {nx : List Int} {w w' : World} {e : Ending} {L at' : Nat} (h : DnSt w0 bk bs ba bv gn bn bd base kind vi vl ls bx X va0 wS va ps nx w) (hs : DnSays w0 bk bs ba bv gn bn bd base kind vi vl ls L at' va ps nx w e w') :
    ∃ va' ps' nx', e = .returned (.int .i64 ((ps'.length - 1 : Nat) : Int)) ∧ DnSt w0 bk bs ba bv gn bn bd base kind vi vl ls bx X va0 wS va' ps' nx' w' ∧ ps'.map Prod.fst = below kind ls L at' (ps.map Prod.fst) ∧ Al ls L (at' + 1) nx' ∧ (∀ j, L < j → nx'.getD j 0 = nx.getD j 0) := by
  obtain ⟨va', ps', nx', he, h1, h2, h3, h4, h5, h6, h7, h8⟩ := hs
  obtain ⟨k1, k2, k3, k4, k5, k6, k7⟩ := h.le0
  have hbx := h.led.get 7 rfl
  have hsz := h.fr.size
  have hlt := heap_lt hbx
  refine ⟨va', ps', nx', he, ⟨?_, h2, h.lo, fun g hg => ?_, h.fr.next h7 fun k hk q => ?_, fun g hg => ?_, h5.trans h.nl, Nat.le_trans h.sz h7.size⟩, h3, h4, h6⟩
  · refine h1.snocB ((h7.block bx hlt ?_).trans hbx) k7 fun i g p hi => ?_
    · rintro (q | q | q)
      · omega
      · omega
      · exact h.nb _ q rfl
    · have := h1.top (m := 6) rfl rfl hi
      omega
  · rcases h8 g hg with q | q
    · exact h.nb g q
    · omega
  · rcases q with q | q | q
    · exact .inl q
    · exact .inr (.inl q)
    · rcases h.gr k q with q | q
      · exact .inr (.inr q)
      · omega
  · rcases h8 g hg with q | q
    · exact h.gr g q
    · exact .inr (by omega)
theorem DnSt.above {va kv : Value} {ps : List (Nd × Value)} {nx : List Int} {w w' : World} {e : Ending} {x : Nd} {ks : List Nat} (h : DnSt w0 bk bs ba bv gn bn bd base kind vi vl ls bx X va0 wS va ps nx w) (hs : AbvSays x kv ks ba base va ps w e w') :
    ∃ va', e = .returned (.int .i64 (ps.length : Nat)) ∧ DnSt w0 bk bs ba bv gn bn bd base kind vi vl ls bx X va0 wS va' (abvP x kv ps ks) nx w' := by
  obtain ⟨va', he, h1, h2, h3, h4⟩ := hs
  obtain ⟨k1, k2, k3, k4, k5, k6, k7⟩ := h.le0
  have hbx := h.led.get 7 rfl
  have hsz := h.fr.size
  have hlt := heap_lt hbx
  refine ⟨va', he, ⟨?_, h2, h.lo, fun g hg => ?_, h.fr.next h3 fun k hk q => ?_, fun g hg => ?_, h.nl, Nat.le_trans h.sz h3.size⟩⟩
  · refine h.led.turn 2 rfl h1 h3 (fun k q => ?_) fun j g o hj hi q => ?_
    · rcases q with q | q
      · omega
      · have := (h.own.lt k q).1
        have := h.lo
        omega
    · rcases q with q | q
      · subst q
        rcases Nat.lt_or_gt_of_ne hj with q | q
        · have := h.led.inc j 2 _ _ _ _ q hi rfl
          omega
        · have := h.led.inc 2 j _ _ _ _ q rfl hi
          omega
      · by_cases e7 : j = 7
        · subst e7
          have e8 := hi
          cases e8
          exact h.nb _ q rfl
        · have hl : j < 8 := (List.getElem?_eq_some_iff.1 hi).1
          have hg : g ≤ bd := by
            by_cases e6 : j = 6
            · subst e6
              have e8 := hi
              cases e8
              exact Nat.le_refl _
            · exact Nat.le_of_lt (h.led.inc j 6 _ _ _ _ (by omega) hi rfl)
          have := (h.own.lt g q).1
          have := h.lo
          omega
  · rcases h4 g hg with q | q
    · exact h.nb g q
    · omega
  · rcases q with q | q
    · exact .inl q
    · rcases h.gr k q with q | q
      · exact .inr (.inr q)
      · omega
  · rcases h4 g hg with q | q
    · exact h.gr g q
    · exact .inr (by omega)
end
end Go.Proofs.YtdbhlajajdlmfaaDoor
/- red.nodes: a group above others. -/
namespace Go.Proofs.YtdbhlajajdlmfaaDoor
open Go Go.RowKit
set_option linter.unusedSimpArgs false
/-- Worlds in which a block holds this. -/
structure HasB (b : Nat) (o : Obj) where
  w : World
  h : w.heap[b]? = some o
structure HasX (b1 b2 b3 : Nat) (o1 o2 o3 : Obj) where
  w : World
  h1 : w.heap[b1]? = some o1
  h2 : w.heap[b2]? = some o2
  h3 : w.heap[b3]? = some o3
theorem wrapP {M L : Nat} (h : M = L + 1) (hl : L ≤ 1000000) : wrap64 ((M : Int) - 1) = (L : Int) := by
  rw [wrap64_mid (by omega) (by omega)]
  omega
theorem below_two {kind : Int} {ls : List (List Int)} {L at' : Nat} {l l1 l2 : List Nd} (h1 : l1 = below kind ls L (fstN ls L at') l) (h2 : l2 = below kind ls L (fstN ls L at' + 1) l1) (hx : (ls.getD L []).getD at' 0 = 2) :
    below kind ls (L + 1) at' l = abvN (hdN (L + 1) at' false) l2 [l1.length - 1, l2.length - 1] := by
  subst h1 h2
  simp only [below]
  rw [if_pos hx]
theorem below_three {kind : Int} {ls : List (List Int)} {L at' : Nat} {l l1 l2 l3 : List Nd} (h1 : l1 = below kind ls L (fstN ls L at') l) (h2 : l2 = below kind ls L (fstN ls L at' + 1) l1) (h3 : l3 = below kind ls L (fstN ls L at' + 2) l2) (hx : ¬ (ls.getD L []).getD at' 0 = 2) (hk : kind = 1) :
    below kind ls (L + 1) at' l = abvN (hdN (L + 1) at' false) l3 [l1.length - 1, l2.length - 1, l3.length - 1] := by
  subst h1 h2 h3
  simp only [below]
  rw [if_neg hx, if_pos hk]
theorem below_red {kind : Int} {ls : List (List Int)} {L at' : Nat} {l l1 l2 r l3 : List Nd} (h1 : l1 = below kind ls L (fstN ls L at') l) (h2 : l2 = below kind ls L (fstN ls L at' + 1) l1) (hr : r = abvN (hdN (L + 1) at' true) l2 [l1.length - 1, l2.length - 1]) (h3 : l3 = below kind ls L (fstN ls L at' + 2) r) (hx : ¬ (ls.getD L []).getD at' 0 = 2) (hk : ¬ kind = 1) :
    below kind ls (L + 1) at' l = abvN (hdN (L + 1) at' false) l3 [r.length - 1, l3.length - 1] := by
  subst h1 h2 hr h3
  simp only [below]
  rw [if_neg hx, if_neg hk]
set_option maxRecDepth 100000 in
set_option maxHeartbeats 2000000 in
theorem down_succ (w0 : World) (bk bs ba bv gn bn bd base : Nat) (kind : Int) (vi vl : Value) (n : Nat) (ls : List (List Int)) (hn : n ≤ 1000) (hfit : Fit n ls) (hrd : RdLs w0 vl ls) (hkd : kind = 1 ∨ kind = 2) (hls : ls.length ≤ 1000) (L : Nat)
    (ih : ∀ (at' : Nat) (va : Value) (ps : List (Nd × Value)) (nx : List Int) (w : World), DnIn w0 bk bs ba bv gn bn bd base kind vi vl n ls L at' va ps nx w → Calls Tryd.prog 95 (dnArgs bk bs ba bv bn bd L) w (DnSays w0 bk bs ba bv gn bn bd base kind vi vl ls L at' va ps nx w))
    (at' : Nat) (va : Value) (ps : List (Nd × Value)) (nx : List Int) (w : World) (h : DnIn w0 bk bs ba bv gn bn bd base kind vi vl n ls (L + 1) at' va ps nx w) :
    Calls Tryd.prog 95 (dnArgs bk bs ba bv bn bd (L + 1)) w (DnSays w0 bk bs ba bv gn bn bd base kind vi vl ls (L + 1) at' va ps nx w) := by
  obtain ⟨hled, hown, hlo, hsz, hal, hnl, hL, ha, hfew⟩ := h
  have hL' : L < ls.length := hL
  obtain ⟨x, hx, hx23, hx1, hx2⟩ := fit_step hfit hL' ha
  have hat0 := hfit.few (L + 1) hL
  have hat : (at' : Int) ≤ 1000 := by omega
  obtain ⟨M, HM⟩ : ∃ M : Nat, Hid (M = L + 1) := ⟨_, Lib.hid rfl⟩
  have hpw : 1 ≤ 3 ^ L := Nat.pow_pos (by decide)
  rw [Nat.pow_succ] at hfew
  rw [show dnArgs bk bs ba bv bn bd (L + 1) = dnArgs bk bs ba bv bn bd M by rw [HM.out]]
  have hML : M < nx.length := by have := HM.out; omega
  unfold dnArgs
  have HL := Lib.hid hled
  unfold ledN at HL
  have HO := Lib.hid hown
  have HLo := Lib.hid hlo
  have HSz := Lib.hid hsz
  have HAl := Lib.hid hal
  have HNl := Lib.hid hnl
  have HFew := Lib.hid hfew
  have HPw := Lib.hid hpw
  have HFit := Lib.hid hfit
  have HLL := Lib.hid hL'
  have HX := Lib.hid hx
  have HX23 := Lib.hid hx23
  have HX1 := Lib.hid hx1
  have HX2 := Lib.hid hx2
  have HIh := Lib.hid ih
  have HKd := Lib.hid hkd
  obtain ⟨gL, oL, cL, u, rfl, hcl, hru⟩ := hrd.cell hL'
  obtain ⟨gU, oU, cU, hu, hu1, hu2, hu3, hu4⟩ := Rd.at hru (by rw [zv_length]; exact Nat.lt_of_le_of_lt (Nat.zero_le _) ha)
  have hcu := fun (wx : World) (hw : Aft w0 wx) => Rd.num_at (i := at') ((hu ▸ hru).grow hw) ha
  rw [hx] at hcu
  rw [zv_length] at hu
  subst hu
  have HCl := Lib.hid hcl
  have HCu := Lib.hid hcu
  have hlu : (at' : Int) < ((ls.getD L []).length : Nat) := by
    have : at' < (ls.getD L []).length := ha
    omega
  have HLu := Lib.hid hlu
  have hcn := cell_part (n := 0) (HL.out.get 5 rfl) rfl
  have hcx := cell_part (n := M) (HL.out.get 4 rfl) (zv_at hML)
  rw [HM.out, hal.head, ← HM.out] at hcx
  have hM0 : ((M : Int) == 0) = false := by
    have := HM.out
    simp
    omega
  have hMi : ¬ (M : Int) = 0 := by have := HM.out; omega
  have hMw : wrap64 ((M : Int) - 1) = (L : Int) := wrapP HM.out (by omega)
  have hMl : (M : Int) < (nx.length : Nat) := by omega
  have HML := Lib.hid hML
  obtain ⟨ca, cc, rfl⟩ := hown.shape
  clear hled hown hlo hsz hal hnl hfew ha hn hL hL' hpw hfit hx hx23 hx1 hx2 ih hkd hrd hcl hru hu1 hu2 hu3 hu4 hcu hlu hat0 hML
  generalize (ls.getD L []).length = lw at *
  go_enter Tryd.func95, Tryd.ntmps95
  go_wp2_with (first | (refine wpList_store_cellJ rfl 3 (.tmp 23) (.tmp 22) rfl gn M (.int .i64 ((at' : Int) + 1)) rfl rfl _ (zv nx) (by rw [zv_length]; exact HML.out) (HL.out.get 4 rfl) (by kernel_rfl) rfl rfl ?_; intro w1 b1 b2 b3; rw [zv_set] at b1; clear hcn hcx; replace HO := Lib.hid (HO.out.low (Nat.lt_trans (HL.out.inc 4 6 _ _ _ _ (by decide) rfl rfl) HLo.out) b2.out); have HF1 := Lib.hid (fr_store2 b2.out b3); replace HL := Lib.hid (HL.out.store 4 rfl b1 b2 b3); clear b1 b2 b3; simp only [List.set_cons_succ, List.set_cons_zero] at HL) | (refine wpList_buildO (by kernel_rfl) 68 #[(0, .tmp 37), (1, .tmp 38)] rfl #[(0, .int .i64 (M : Int)), (1, .int .i64 (at' : Int))] (by kernel_rfl) _ (build_nd _ _) ?_) | (refine wpList_allocO rfl 68 rfl (.cells (ndR nd0 (.slice none 0 0)).toArray 68) alloc_nd ?_; intro w2 aa gg zz; have HA2 := Lib.hid aa; replace HL := Lib.hid (HL.out.alloc aa gg.out); clear aa gg zz; simp only [List.nil_append, List.cons_append] at HL) | (refine wpList_store_rowZ rfl 68 (.tmp 10) (.tmp 39) rfl _ (ndR ⟨(M : Int), (at' : Int), false, 0, 0, [], 0⟩ (.slice none 0 0)).toArray rfl rfl _ _ (HL.out.get 7 rfl) (nd_info _ _) rfl (all_one ndR_one) ?_; intro w3 b1 b2 b3; have HA3 := Lib.hid (show Aft w1 w3 from b3 _ w1 (Nat.le_refl _) HA2.out); replace HL := Lib.hid (HL.out.store 7 rfl b1 b2 b3); clear b1 b2 b3; simp only [List.set_cons_succ, List.set_cons_zero] at HL))
  have HD := Lib.hid (show DnSt w0 bk bs ba bv gn bn bd base kind vi (.slice (some ⟨gL, oL, none⟩) ls.length cL) ls w1.heap.size (.cells (ndR ⟨(M : Int), (at' : Int), false, 0, 0, [], 0⟩ (.slice none 0 0)).toArray 68) (.slice ca ps.length cc) w (.slice ca ps.length cc) ps (nx.set M ((at' : Int) + 1)) w3 from
    ⟨by unfold ledN; rw [List.length_set]; exact HL.out, HO.out.aft HA3.out, HLo.out, fun g hg => by have := (HO.out.lt g hg).2; omega, (HF1.out.mono fun k _ e => .inr (.inl e)).trans (Fr.of_below HA3.out), fun g hg => .inl hg, by rw [List.length_set]; exact HNl.out, by have h1 := HSz.out; have h2 := HF1.out.size; have h3 := Below.size HA3.out; omega⟩)
  have HAl1 := Lib.hid (show Al ls L (fstN ls L at') (nx.set M ((at' : Int) + 1)) from HAl.out.2.congr fun j hj => getD_set_neN (by have := HM.out; omega))
  have HUp := Lib.hid (show (nx.set M ((at' : Int) + 1)).getD M 0 = (at' : Int) + 1 from getD_set_selfN HML.out)
  have HUp2 := Lib.hid (fun (j : Nat) (hj : M < j) => show (nx.set M ((at' : Int) + 1)).getD j 0 = nx.getD j 0 from getD_set_neN (by omega))
  generalize nx.set M ((at' : Int) + 1) = nx1 at *
  clear HL HO HF1 HA2 HA3
  have HMw := Lib.hid hMw
  haveI : Inhabited (HasB bd (.cells [fnD bk bs ba bv bn bd].toArray 84)) := ⟨⟨w3, HD.out.led.get 6 rfl⟩⟩
  have f0 := fun u : HasB bd (.cells [fnD bk bs ba bv bn bd].toArray 84) => show u.w.cell? ⟨bd, 0, none⟩ = some (Value.func (.func 95) #[] #[.pointer (some ⟨bn, 0, none⟩), .pointer (some ⟨ba, 0, none⟩), .pointer (some ⟨bd, 0, none⟩), .pointer (some ⟨bs, 0, none⟩), .pointer (some ⟨bv, 0, none⟩), .pointer (some ⟨bk, 0, none⟩)]) from cell_part (n := 0) (u := fnD bk bs ba bv bn bd) u.h rfl
  refine wp_region_lex (fun wz => ∃ u : HasB bd (.cells [fnD bk bs ba bv bn bd].toArray 84), wz = u.w) (fun i => ([3, 7] : List Nat).contains i) 10 (by kernel_rfl) (by kernel_rfl) ⟨⟨w3.drew, Aft.get (show Aft w3 w3.drew from (Below.refl _ _).drew) (HD.out.led.get 6 rfl)⟩, rfl⟩ ?_
  change wpLx _ _ _ _ _ _ _ _ _ w3.drew
  replace HD := Lib.hid (HD.out.aft (show Aft w3 w3.drew from (Below.refl _ _).drew))
  generalize w3.drew = wd at *
  try simp only [Act.put, List.setIfInBounds_toArray, List.set_cons_succ, List.set_cons_zero]
  repeat (first | (refine lx_skipT (by go_big_quiet_skip; exact wpQuiet_nil trivial) (by kernel_rfl) ?_; simp only [Act.put, List.setIfInBounds_toArray, List.set_cons_succ, List.set_cons_zero]) | (refine lx_quietT rfl (by go_big_quiet_want; exact quiet_false (by assumption)) (by kernel_rfl) rfl ?_; intro Kx hKx; go_big_quiet_op; go_big_quiet_on))
  refine lx_effT rfl (by go_big_quiet_want; exact quiet_false (by assumption)) (by kernel_rfl) ?_; intro Kx hKx; go_wp2_with fail
  refine (HIh.out (fstN ls L at') _ ps nx1 wd (HD.out.inn (n := n) HAl1.out (Nat.le_of_lt HLL.out) (by have := HX2.out; have := HX23.out; omega) (by have := HFew.out; have := HPw.out; omega))).mono ?_
  rintro e w4 hs
  obtain ⟨va1, ps1, nx2, rfl, hD, hf1, hal1, hup1⟩ := HD.out.down hs
  replace HD := Lib.hid hD
  have HF1 := Lib.hid hf1
  have HAl2 := Lib.hid hal1
  replace HUp := Lib.hid ((hup1 M (by have := HM.out; omega)).trans HUp.out)
  replace HUp2 := Lib.hid (fun (j : Nat) (hj : M < j) => (hup1 j (by have := HM.out; omega)).trans (HUp2.out j hj))
  have HLe1 := Lib.hid (show ps.length + 1 ≤ ps1.length ∧ ps1.length + 1 ≤ ps.length + 2 * 3 ^ L by
    have h1 := below_length kind ls L (fstN ls L at') (ps.map Prod.fst)
    rw [← hf1, List.length_map, List.length_map] at h1
    exact h1)
  clear hD hf1 hal1 hup1 hs HAl1
  go_wp2_with fail
  refine ⟨⟨⟨_, HD.out.led.get 6 rfl⟩, rfl⟩, ?_⟩
  repeat (first | (refine lx_skipT (by go_big_quiet_skip; exact wpQuiet_nil trivial) (by kernel_rfl) ?_; simp only [Act.put, List.setIfInBounds_toArray, List.set_cons_succ, List.set_cons_zero]) | (refine lx_quietT rfl (by go_big_quiet_want; exact quiet_false (by assumption)) (by kernel_rfl) rfl ?_; intro Kx hKx; go_big_quiet_op; go_big_quiet_on))
  refine lx_effT rfl (by go_big_quiet_want; exact quiet_false (by assumption)) (by kernel_rfl) ?_; intro Kx hKx; go_wp2_with fail
  refine (HIh.out (fstN ls L at' + 1) _ ps1 nx2 w4 (HD.out.inn (n := n) HAl2.out (Nat.le_of_lt HLL.out) (by have := HX2.out; have := HX23.out; omega) (by have := HFew.out; have := HPw.out; have := HLe1.out; omega))).mono ?_
  rintro e w5 hs
  obtain ⟨va2, ps2, nx3, rfl, hD, hf1, hal1, hup1⟩ := HD.out.down hs
  replace HD := Lib.hid hD
  have HF2 := Lib.hid hf1
  have HAl3 := Lib.hid hal1
  replace HUp := Lib.hid ((hup1 M (by have := HM.out; omega)).trans HUp.out)
  replace HUp2 := Lib.hid (fun (j : Nat) (hj : M < j) => (hup1 j (by have := HM.out; omega)).trans (HUp2.out j hj))
  have HLe2 := Lib.hid (show ps1.length + 1 ≤ ps2.length ∧ ps2.length + 1 ≤ ps1.length + 2 * 3 ^ L by
    have h1 := below_length kind ls L (fstN ls L at' + 1) (ps1.map Prod.fst)
    rw [← hf1, List.length_map, List.length_map] at h1
    exact h1)
  clear hD hf1 hal1 hup1 hs HAl2
  go_wp2_with fail
  refine ⟨⟨⟨_, HD.out.led.get 6 rfl⟩, rfl⟩, ?_⟩
  repeat (first | (refine lx_skipT (by go_big_quiet_skip; exact wpQuiet_nil trivial) (by kernel_rfl) ?_; simp only [Act.put, List.setIfInBounds_toArray, List.set_cons_succ, List.set_cons_zero]) | (refine lx_quietT rfl (by go_big_quiet_want; exact quiet_false (by assumption)) (by kernel_rfl) rfl ?_; intro Kx hKx; go_big_quiet_op; go_big_quiet_on))
  refine lx_done ?_
  clear f0
  have g0 := cell_part (n := 1) (HD.out.led.get 1 rfl) rfl
  have g1 := HCl.out w5 HD.out.led.aft
  have g2 := HCu.out w5 HD.out.led.aft
  have hlu := HLu.out
  have hlL : (L : Int) < (ls.length : Nat) := by have := HLL.out; omega
  obtain ⟨k1, HK1⟩ : ∃ k, Hid (k = ps1.length - 1) := ⟨_, Lib.hid rfl⟩
  obtain ⟨k2, HK2⟩ : ∃ k, Hid (k = ps2.length - 1) := ⟨_, Lib.hid rfl⟩
  rw [← HK1.out, ← HK2.out]
  have hk1 : k1 < ps1.length ∧ k2 < ps2.length := by
    have h1 := HK1.out
    have h2 := HK2.out
    have h3 := HLe1.out
    have h4 := HLe2.out
    omega
  have HKl := Lib.hid (show k1 < ps2.length ∧ k2 < ps2.length by have h4 := HLe2.out; omega)
  clear hk1
  by_cases hx2 : (ls.getD L []).getD at' 0 = 2
  · have e2 : x = 2 := by have := HX.out; omega
    subst e2
    have g2 : w5.cell? ⟨gU, oU + at', none⟩ = some (.int .i64 2) := g2
    have HAl := Lib.hid (show Al ls L (fstN ls L at' + 2) nx3 from HAl3.out)
    have g3 : w5.cell? ⟨bv, 0, none⟩ = some (Value.func (.func 94) #[] #[.pointer (some ⟨ba, 0, none⟩)]) := cell_part (n := 0) (u := fnA ba) (HD.out.led.get 3 rfl) rfl
    go_wp2_with (first | (refine wpList_load_rowG (by kernel_rfl) 68 (.tmp 10) rfl _ rfl _ _ _ _ (HD.out.led.get 7 rfl) Tryd.underlying68 rfl (nd_info _ _) ?_) | (refine wpList_ints2 (by kernel_rfl) (.tmp 61) (.tmp 62) (k1 : Int) (k2 : Int) rfl rfl rfl ?_; intro w6 aS hI; have HI := Lib.hid (hI.out.mono HD.out.sz); replace HD := Lib.hid (HD.out.aft aS); clear aS hI))
    clear g0 g1 g2 g3
    refine (above_any ⟨(M : Int), (at' : Int), false, 0, 0, [], 0⟩ _ [k1, k2] 1 rfl ba base _ ps2 w6 (HD.out.led.get 2 rfl) HD.out.own HI.out (by
      intro k hk
      simp only [List.mem_cons, List.not_mem_nil, or_false] at hk
      rcases hk with rfl | rfl
      · have := HKl.out; omega
      · exact HKl.out.2) (by have := HFew.out; have := HPw.out; have := HLe1.out; have := HLe2.out; omega) HD.out.sz (by decide)).mono ?_
    rintro e w7 hs
    obtain ⟨va3, rfl, hD⟩ := HD.out.above hs
    replace HD := Lib.hid hD
    clear hD hs
    go_wp2_with fail
    go_ret
    obtain rfl := HM.out
    refine ⟨_, _, _, congrArg (fun z => Ending.returned (.int .i64 z)) (by rw [abvP_length]; rfl), HD.out.led.cut 7, HD.out.own, ?_, ⟨HUp.out, by rw [HX1.out]; exact HAl.out⟩, HD.out.nl.trans HNl.out.symm, fun j hj => HUp2.out j hj, HD.out.fr, HD.out.gr⟩
    rw [abvP_fst, below_two HF1.out HF2.out hx2, List.length_map, List.length_map, HK1.out, HK2.out]
    rfl
  · have e2 : x = 3 := by have := HX.out; have := HX23.out; omega
    subst e2
    have g2 : w5.cell? ⟨gU, oU + at', none⟩ = some (.int .i64 3) := g2
    by_cases hk : kind = 1
    · have hkk : kind = 1 := hk
      have HKk := Lib.hid hkk
      have g3 : w5.cell? ⟨bk, 0, none⟩ = some (.int .i64 1) := by rw [← hkk]; exact cell_part (n := 0) (HD.out.led.get 0 rfl) rfl
      clear hkk hk
      go_upto_region 11 with fail
      clear g0 g1 g2 g3
      have HLr := Lib.hid (show ps2.length ≤ ps2.length from Nat.le_refl _)
      haveI : Inhabited (HasX bv w1.heap.size bd (.cells [fnA ba].toArray 144) (.cells (ndR ⟨(M : Int), (at' : Int), false, 0, 0, [], 0⟩ (.slice none 0 0)).toArray 68) (.cells [fnD bk bs ba bv bn bd].toArray 84)) := ⟨⟨w5, HD.out.led.get 3 rfl, HD.out.led.get 7 rfl, HD.out.led.get 6 rfl⟩⟩
      have f0 := fun u : HasX bv w1.heap.size bd (.cells [fnA ba].toArray 144) (.cells (ndR ⟨(M : Int), (at' : Int), false, 0, 0, [], 0⟩ (.slice none 0 0)).toArray 68) (.cells [fnD bk bs ba bv bn bd].toArray 84) => show u.w.cell? ⟨bd, 0, none⟩ = some (Value.func (.func 95) #[] #[.pointer (some ⟨bn, 0, none⟩), .pointer (some ⟨ba, 0, none⟩), .pointer (some ⟨bd, 0, none⟩), .pointer (some ⟨bs, 0, none⟩), .pointer (some ⟨bv, 0, none⟩), .pointer (some ⟨bk, 0, none⟩)]) from cell_part (n := 0) (u := fnD bk bs ba bv bn bd) u.h3 rfl
      have f1 := fun u : HasX bv w1.heap.size bd (.cells [fnA ba].toArray 144) (.cells (ndR ⟨(M : Int), (at' : Int), false, 0, 0, [], 0⟩ (.slice none 0 0)).toArray 68) (.cells [fnD bk bs ba bv bn bd].toArray 84) => show u.w.cell? ⟨bv, 0, none⟩ = some (Value.func (.func 94) #[] #[.pointer (some ⟨ba, 0, none⟩)]) from cell_part (n := 0) (u := fnA ba) u.h1 rfl
      refine wp_region_lex (fun wz => ∃ u : HasX bv w1.heap.size bd (.cells [fnA ba].toArray 144) (.cells (ndR ⟨(M : Int), (at' : Int), false, 0, 0, [], 0⟩ (.slice none 0 0)).toArray 68) (.cells [fnD bk bs ba bv bn bd].toArray 84), wz = u.w) (fun i => ([7, 8, 9] : List Nat).contains i) 11 (by kernel_rfl) (by kernel_rfl) ⟨⟨w5.drew, Aft.get (show Aft w5 w5.drew from (Below.refl _ _).drew) (HD.out.led.get 3 rfl), Aft.get (show Aft w5 w5.drew from (Below.refl _ _).drew) (HD.out.led.get 7 rfl), Aft.get (show Aft w5 w5.drew from (Below.refl _ _).drew) (HD.out.led.get 6 rfl)⟩, rfl⟩ ?_
      change wpLx _ _ _ _ _ _ _ _ _ w5.drew
      replace HD := Lib.hid (HD.out.aft (show Aft w5 w5.drew from (Below.refl _ _).drew))
      generalize w5.drew = wd2 at *
      try simp only [Act.put, List.setIfInBounds_toArray, List.set_cons_succ, List.set_cons_zero]
      repeat (first | (refine lx_skipT (by go_big_quiet_skip; exact wpQuiet_nil trivial) (by kernel_rfl) ?_; simp only [Act.put, List.setIfInBounds_toArray, List.set_cons_succ, List.set_cons_zero]) | (refine lx_quietT rfl (by go_big_quiet_want; exact quiet_false (by assumption)) (by kernel_rfl) rfl ?_; intro Kx hKx; go_big_quiet_op; go_big_quiet_on))
      refine lx_load_agg rfl (by kernel_rfl) 68 (.tmp 10) rfl ⟨w1.heap.size, 0, none⟩ rfl (ndR ⟨(M : Int), (at' : Int), false, 0, 0, [], 0⟩ (.slice none 0 0)).toArray (fun wz hz => by obtain ⟨u, rfl⟩ := hz; exact run_loadVar_row u.w _ _ _ _ _ _ u.h2 Tryd.underlying68 rfl (nd_info _ _)) ?_
      simp only [Act.put, List.setIfInBounds_toArray, List.set_cons_succ, List.set_cons_zero]
      repeat (first | (refine lx_skipT (by go_big_quiet_skip; exact wpQuiet_nil trivial) (by kernel_rfl) ?_; simp only [Act.put, List.setIfInBounds_toArray, List.set_cons_succ, List.set_cons_zero]) | (refine lx_quietT rfl (by go_big_quiet_want; exact quiet_false (by assumption)) (by kernel_rfl) rfl ?_; intro Kx hKx; go_big_quiet_op; go_big_quiet_on))
      refine lx_effT rfl (by go_big_quiet_want; exact quiet_false (by assumption)) (by kernel_rfl) ?_; intro Kx hKx; go_wp2_with fail
      refine (HIh.out (fstN ls L at' + 2) _ ps2 nx3 _ (HD.out.inn (n := n) HAl3.out (Nat.le_of_lt HLL.out) (by have := HX2.out; omega) (by have := HFew.out; have := HPw.out; have := HLe1.out; have := HLe2.out; have := HLr.out; omega))).mono ?_
      rintro e w7 hs
      obtain ⟨va4, ps3, nx4, rfl, hD, hf1, hal1, hup1⟩ := HD.out.down hs
      replace HD := Lib.hid hD
      have HF3 := Lib.hid hf1
      have HAl4 := Lib.hid hal1
      replace HUp := Lib.hid ((hup1 M (by have := HM.out; omega)).trans HUp.out)
      replace HUp2 := Lib.hid (fun (j : Nat) (hj : M < j) => (hup1 j (by have := HM.out; omega)).trans (HUp2.out j hj))
      have HLe3 := Lib.hid (show ps2.length + 1 ≤ ps3.length ∧ ps3.length + 1 ≤ ps2.length + 2 * 3 ^ L by
        have h1 := below_length kind ls L (fstN ls L at' + 2) (ps2.map Prod.fst)
        rw [← hf1, List.length_map, List.length_map] at h1
        exact h1)
      clear hD hf1 hal1 hup1 hs HAl3
      go_wp2_with fail
      refine ⟨⟨⟨_, HD.out.led.get 3 rfl, HD.out.led.get 7 rfl, HD.out.led.get 6 rfl⟩, rfl⟩, ?_⟩
      obtain ⟨k3, HK3⟩ : ∃ k, Hid (k = ps3.length - 1) := ⟨_, Lib.hid rfl⟩
      rw [← HK3.out]
      have HKm := Lib.hid (show k3 < ps3.length by have h1 := HK3.out; have h2 := HLe3.out; omega)
      repeat (first | (refine lx_skipT (by go_big_quiet_skip; exact wpQuiet_nil trivial) (by kernel_rfl) ?_; simp only [Act.put, List.setIfInBounds_toArray, List.set_cons_succ, List.set_cons_zero]) | (refine lx_quietT rfl (by go_big_quiet_want; exact quiet_false (by assumption)) (by kernel_rfl) rfl ?_; intro Kx hKx; go_big_quiet_op; go_big_quiet_on))
      refine lx_eff rfl (by kernel_rfl) ?_
      intro Kx hKx
      refine wp_of_list (ops := #[]) (wpList_ints3 rfl (.tmp 70) (.tmp 71) (.tmp 75) (k1 : Int) (k2 : Int) (k3 : Int) rfl rfl rfl rfl ?_)
      intro w8 aS hI
      have HI := Lib.hid (hI.out.mono HD.out.sz)
      replace HD := Lib.hid (HD.out.aft aS)
      clear aS hI
      refine ⟨rfl, hKx _ _ ⟨⟨⟨_, HD.out.led.get 3 rfl, HD.out.led.get 7 rfl, HD.out.led.get 6 rfl⟩, rfl⟩, ?_⟩⟩
      clear hKx
      simp only [Act.put, List.setIfInBounds_toArray, List.set_cons_succ, List.set_cons_zero]
      refine lx_effT rfl (by go_big_quiet_want; exact quiet_false (by assumption)) (by kernel_rfl) ?_; intro Kx hKx; go_wp2_with fail
      refine (above_any ⟨(M : Int), (at' : Int), false, 0, 0, [], 0⟩ _ [k1, k2, k3] 2 rfl ba base _ ps3 w8 (HD.out.led.get 2 rfl) HD.out.own HI.out (by
        intro k hk
        simp only [List.mem_cons, List.not_mem_nil, or_false] at hk
        rcases hk with rfl | rfl | rfl
        · have := HKl.out; have := HLe3.out; omega
        · have := HKl.out; have := HLe3.out; omega
        · exact HKm.out) (by have := HFew.out; have := HPw.out; have := HLe1.out; have := HLe2.out; have := HLe3.out; have := HLr.out; omega) HD.out.sz (by decide)).mono ?_
      rintro e w9 hs
      obtain ⟨va5, rfl, hD⟩ := HD.out.above hs
      replace HD := Lib.hid hD
      clear hD hs
      go_wp2_with fail
      refine ⟨⟨⟨_, HD.out.led.get 3 rfl, HD.out.led.get 7 rfl, HD.out.led.get 6 rfl⟩, rfl⟩, ?_⟩
      repeat (first | (refine lx_skipT (by go_big_quiet_skip; exact wpQuiet_nil trivial) (by kernel_rfl) ?_; simp only [Act.put, List.setIfInBounds_toArray, List.set_cons_succ, List.set_cons_zero]) | (refine lx_quietT rfl (by go_big_quiet_want; exact quiet_false (by assumption)) (by kernel_rfl) rfl ?_; intro Kx hKx; go_big_quiet_op; go_big_quiet_on))
      refine lx_done ?_
      clear f0 f1
      go_wp2_with fail
      go_ret
      obtain rfl := HM.out
      refine ⟨_, _, _, congrArg (fun z => Ending.returned (.int .i64 z)) (by rw [abvP_length]; rfl), HD.out.led.cut 7, HD.out.own, ?_, ⟨HUp.out, by rw [HX1.out]; exact HAl4.out⟩, HD.out.nl.trans HNl.out.symm, fun j hj => HUp2.out j hj, HD.out.fr, HD.out.gr⟩
      rw [abvP_fst, below_three HF1.out HF2.out HF3.out hx2 HKk.out, List.length_map, List.length_map, List.length_map, HK1.out, HK2.out, HK3.out]
      rfl
    · have hkk : kind = 2 := by
        rcases HKd.out with h1 | h1
        · exact absurd h1 hk
        · exact h1
      have HKk := Lib.hid hk
      have g3 : w5.cell? ⟨bk, 0, none⟩ = some (.int .i64 2) := by rw [← hkk]; exact cell_part (n := 0) (HD.out.led.get 0 rfl) rfl
      have g4 : w5.cell? ⟨bv, 0, none⟩ = some (Value.func (.func 94) #[] #[.pointer (some ⟨ba, 0, none⟩)]) := cell_part (n := 0) (u := fnA ba) (HD.out.led.get 3 rfl) rfl
      clear hkk hk
      go_wp2_with (first | (refine wpList_buildO (by kernel_rfl) 68 #[(0, .tmp 79), (1, .tmp 80), (2, .const (.bool true))] rfl #[(0, .int .i64 (M : Int)), (1, .int .i64 (at' : Int)), (2, .bool true)] (by kernel_rfl) _ (build_red _ _) ?_) | (refine wpList_ints2 (by kernel_rfl) (.tmp 82) (.tmp 83) (k1 : Int) (k2 : Int) rfl rfl rfl ?_; intro w6 aS hI; have HI := Lib.hid (hI.out.mono HD.out.sz); replace HD := Lib.hid (HD.out.aft aS); clear aS hI))
      clear g0 g1 g2 g3 g4
      refine (above_any ⟨(M : Int), (at' : Int), true, 0, 0, [], 0⟩ _ [k1, k2] 1 rfl ba base _ ps2 w6 (HD.out.led.get 2 rfl) HD.out.own HI.out (by
        intro k hk
        simp only [List.mem_cons, List.not_mem_nil, or_false] at hk
        rcases hk with rfl | rfl
        · have := HKl.out; omega
        · exact HKl.out.2) (by have := HFew.out; have := HPw.out; have := HLe1.out; have := HLe2.out; omega) HD.out.sz (by decide)).mono ?_
      rintro e wr hs
      obtain ⟨va3, rfl, hD⟩ := HD.out.above hs
      have HFr := Lib.hid (abvP_fst ⟨(M : Int), (at' : Int), true, 0, 0, [], 0⟩ (.slice (some ⟨w5.heap.size, 0, none⟩) 2 2) ps2 [k1, k2])
      have HLr := Lib.hid (abvP_length ⟨(M : Int), (at' : Int), true, 0, 0, [], 0⟩ (.slice (some ⟨w5.heap.size, 0, none⟩) 2 2) ps2 [k1, k2])
      generalize abvP ⟨(M : Int), (at' : Int), true, 0, 0, [], 0⟩ (.slice (some ⟨w5.heap.size, 0, none⟩) 2 2) ps2 [k1, k2] = pr at *
      replace HD := Lib.hid hD
      clear hD hs HI
      go_upto_region 13 with fail
      haveI : Inhabited (HasX bv w1.heap.size bd (.cells [fnA ba].toArray 144) (.cells (ndR ⟨(M : Int), (at' : Int), false, 0, 0, [], 0⟩ (.slice none 0 0)).toArray 68) (.cells [fnD bk bs ba bv bn bd].toArray 84)) := ⟨⟨wr, HD.out.led.get 3 rfl, HD.out.led.get 7 rfl, HD.out.led.get 6 rfl⟩⟩
      have f0 := fun u : HasX bv w1.heap.size bd (.cells [fnA ba].toArray 144) (.cells (ndR ⟨(M : Int), (at' : Int), false, 0, 0, [], 0⟩ (.slice none 0 0)).toArray 68) (.cells [fnD bk bs ba bv bn bd].toArray 84) => show u.w.cell? ⟨bd, 0, none⟩ = some (Value.func (.func 95) #[] #[.pointer (some ⟨bn, 0, none⟩), .pointer (some ⟨ba, 0, none⟩), .pointer (some ⟨bd, 0, none⟩), .pointer (some ⟨bs, 0, none⟩), .pointer (some ⟨bv, 0, none⟩), .pointer (some ⟨bk, 0, none⟩)]) from cell_part (n := 0) (u := fnD bk bs ba bv bn bd) u.h3 rfl
      have f1 := fun u : HasX bv w1.heap.size bd (.cells [fnA ba].toArray 144) (.cells (ndR ⟨(M : Int), (at' : Int), false, 0, 0, [], 0⟩ (.slice none 0 0)).toArray 68) (.cells [fnD bk bs ba bv bn bd].toArray 84) => show u.w.cell? ⟨bv, 0, none⟩ = some (Value.func (.func 94) #[] #[.pointer (some ⟨ba, 0, none⟩)]) from cell_part (n := 0) (u := fnA ba) u.h1 rfl
      refine wp_region_lex (fun wz => ∃ u : HasX bv w1.heap.size bd (.cells [fnA ba].toArray 144) (.cells (ndR ⟨(M : Int), (at' : Int), false, 0, 0, [], 0⟩ (.slice none 0 0)).toArray 68) (.cells [fnD bk bs ba bv bn bd].toArray 84), wz = u.w) (fun i => ([6, 7, 8] : List Nat).contains i) 10 (by kernel_rfl) (by kernel_rfl) ⟨⟨wr.drew, Aft.get (show Aft wr wr.drew from (Below.refl _ _).drew) (HD.out.led.get 3 rfl), Aft.get (show Aft wr wr.drew from (Below.refl _ _).drew) (HD.out.led.get 7 rfl), Aft.get (show Aft wr wr.drew from (Below.refl _ _).drew) (HD.out.led.get 6 rfl)⟩, rfl⟩ ?_
      change wpLx _ _ _ _ _ _ _ _ _ wr.drew
      replace HD := Lib.hid (HD.out.aft (show Aft wr wr.drew from (Below.refl _ _).drew))
      generalize wr.drew = wd2 at *
      try simp only [Act.put, List.setIfInBounds_toArray, List.set_cons_succ, List.set_cons_zero]
      repeat (first | (refine lx_skipT (by go_big_quiet_skip; exact wpQuiet_nil trivial) (by kernel_rfl) ?_; simp only [Act.put, List.setIfInBounds_toArray, List.set_cons_succ, List.set_cons_zero]) | (refine lx_quietT rfl (by go_big_quiet_want; exact quiet_false (by assumption)) (by kernel_rfl) rfl ?_; intro Kx hKx; go_big_quiet_op; go_big_quiet_on))
      refine lx_load_agg rfl (by kernel_rfl) 68 (.tmp 10) rfl ⟨w1.heap.size, 0, none⟩ rfl (ndR ⟨(M : Int), (at' : Int), false, 0, 0, [], 0⟩ (.slice none 0 0)).toArray (fun wz hz => by obtain ⟨u, rfl⟩ := hz; exact run_loadVar_row u.w _ _ _ _ _ _ u.h2 Tryd.underlying68 rfl (nd_info _ _)) ?_
      simp only [Act.put, List.setIfInBounds_toArray, List.set_cons_succ, List.set_cons_zero]
      repeat (first | (refine lx_skipT (by go_big_quiet_skip; exact wpQuiet_nil trivial) (by kernel_rfl) ?_; simp only [Act.put, List.setIfInBounds_toArray, List.set_cons_succ, List.set_cons_zero]) | (refine lx_quietT rfl (by go_big_quiet_want; exact quiet_false (by assumption)) (by kernel_rfl) rfl ?_; intro Kx hKx; go_big_quiet_op; go_big_quiet_on))
      refine lx_effT rfl (by go_big_quiet_want; exact quiet_false (by assumption)) (by kernel_rfl) ?_; intro Kx hKx; go_wp2_with fail
      refine (HIh.out (fstN ls L at' + 2) _ pr nx3 _ (HD.out.inn (n := n) HAl3.out (Nat.le_of_lt HLL.out) (by have := HX2.out; omega) (by have := HFew.out; have := HPw.out; have := HLe1.out; have := HLe2.out; have := HLr.out; omega))).mono ?_
      rintro e w7 hs
      obtain ⟨va4, ps3, nx4, rfl, hD, hf1, hal1, hup1⟩ := HD.out.down hs
      replace HD := Lib.hid hD
      have HF3 := Lib.hid hf1
      have HAl4 := Lib.hid hal1
      replace HUp := Lib.hid ((hup1 M (by have := HM.out; omega)).trans HUp.out)
      replace HUp2 := Lib.hid (fun (j : Nat) (hj : M < j) => (hup1 j (by have := HM.out; omega)).trans (HUp2.out j hj))
      have HLe3 := Lib.hid (show pr.length + 1 ≤ ps3.length ∧ ps3.length + 1 ≤ pr.length + 2 * 3 ^ L by
        have h1 := below_length kind ls L (fstN ls L at' + 2) (pr.map Prod.fst)
        rw [← hf1, List.length_map, List.length_map] at h1
        exact h1)
      clear hD hf1 hal1 hup1 hs HAl3
      go_wp2_with fail
      refine ⟨⟨⟨_, HD.out.led.get 3 rfl, HD.out.led.get 7 rfl, HD.out.led.get 6 rfl⟩, rfl⟩, ?_⟩
      obtain ⟨k3, HK3⟩ : ∃ k, Hid (k = ps3.length - 1) := ⟨_, Lib.hid rfl⟩
      rw [← HK3.out]
      have HKm := Lib.hid (show k3 < ps3.length by have h1 := HK3.out; have h2 := HLe3.out; omega)
      repeat (first | (refine lx_skipT (by go_big_quiet_skip; exact wpQuiet_nil trivial) (by kernel_rfl) ?_; simp only [Act.put, List.setIfInBounds_toArray, List.set_cons_succ, List.set_cons_zero]) | (refine lx_quietT rfl (by go_big_quiet_want; exact quiet_false (by assumption)) (by kernel_rfl) rfl ?_; intro Kx hKx; go_big_quiet_op; go_big_quiet_on))
      refine lx_eff rfl (by kernel_rfl) ?_
      intro Kx hKx
      refine wp_of_list (ops := #[]) (wpList_ints2 rfl (.tmp 88) (.tmp 92) (ps2.length : Int) (k3 : Int) rfl rfl rfl ?_)
      intro w8 aS hI
      have HI := Lib.hid (hI.out.mono HD.out.sz)
      replace HD := Lib.hid (HD.out.aft aS)
      clear aS hI
      refine ⟨rfl, hKx _ _ ⟨⟨⟨_, HD.out.led.get 3 rfl, HD.out.led.get 7 rfl, HD.out.led.get 6 rfl⟩, rfl⟩, ?_⟩⟩
      clear hKx
      simp only [Act.put, List.setIfInBounds_toArray, List.set_cons_succ, List.set_cons_zero]
      refine lx_effT rfl (by go_big_quiet_want; exact quiet_false (by assumption)) (by kernel_rfl) ?_; intro Kx hKx; go_wp2_with fail
      refine (above_any ⟨(M : Int), (at' : Int), false, 0, 0, [], 0⟩ _ [ps2.length, k3] 1 rfl ba base _ ps3 w8 (HD.out.led.get 2 rfl) HD.out.own HI.out (by
        intro k hk
        simp only [List.mem_cons, List.not_mem_nil, or_false] at hk
        rcases hk with rfl | rfl
        · have := HLr.out; have := HLe3.out; omega
        · exact HKm.out) (by have := HFew.out; have := HPw.out; have := HLe1.out; have := HLe2.out; have := HLe3.out; have := HLr.out; omega) HD.out.sz (by decide)).mono ?_
      rintro e w9 hs
      obtain ⟨va5, rfl, hD⟩ := HD.out.above hs
      replace HD := Lib.hid hD
      clear hD hs
      go_wp2_with fail
      refine ⟨⟨⟨_, HD.out.led.get 3 rfl, HD.out.led.get 7 rfl, HD.out.led.get 6 rfl⟩, rfl⟩, ?_⟩
      repeat (first | (refine lx_skipT (by go_big_quiet_skip; exact wpQuiet_nil trivial) (by kernel_rfl) ?_; simp only [Act.put, List.setIfInBounds_toArray, List.set_cons_succ, List.set_cons_zero]) | (refine lx_quietT rfl (by go_big_quiet_want; exact quiet_false (by assumption)) (by kernel_rfl) rfl ?_; intro Kx hKx; go_big_quiet_op; go_big_quiet_on))
      refine lx_done ?_
      clear f0 f1
      go_wp2_with fail
      go_ret
      obtain rfl := HM.out
      refine ⟨_, _, _, congrArg (fun z => Ending.returned (.int .i64 z)) (by rw [abvP_length]; rfl), HD.out.led.cut 7, HD.out.own, ?_, ⟨HUp.out, by rw [HX1.out]; exact HAl4.out⟩, HD.out.nl.trans HNl.out.symm, fun j hj => HUp2.out j hj, HD.out.fr, HD.out.gr⟩
      rw [abvP_fst, below_red HF1.out HF2.out (r := pr.map Prod.fst) (HFr.out.trans (by rw [List.length_map, List.length_map, HK1.out, HK2.out]; rfl)) HF3.out hx2 HKk.out, List.length_map, List.length_map, HLr.out, HK3.out]
      rfl
end Go.Proofs.YtdbhlajajdlmfaaDoor
/- red.nodes whole. -/
namespace Go.Proofs.YtdbhlajajdlmfaaDoor
open Go Go.RowKit
set_option linter.unusedSimpArgs false
theorem results_cell_one {P : Program} {fn : Func} {p : Tmp} {ty e : TypeId} (h : fn.results = #[.cell p ty]) (hu : P.underlying ty = some (.slice e)) (tmps : Array Value) (w : World) (g : Nat) (v : Value) (hp : tmps.getD p undef = .pointer (some ⟨g, 0, none⟩)) (hc : w.cell? ⟨g, 0, none⟩ = some v) :
    (results fn tmps).run P w = .ok v w := by
  have hp' : tmps[p]?.getD undef = .pointer (some ⟨g, 0, none⟩) := by simpa using hp
  simp [results, h, hp', asAddr, loadVar, isAgg, go_sem, underlying, hu, hc]
theorem box_int1 (x : Int) (w : World) : (Instr.box 3 (.int .i64 x)).run Tryd.prog w = .ok (.pointer (some ⟨w.heap.size, 0, none⟩)) (w.alloc (.cells [.int .i64 x].toArray 3)) := by kernel_rfl
theorem alloc_nodes (w : World) : (Instr.alloc 63 true (.tuple #[])).run Tryd.prog w = .ok (.pointer (some ⟨w.heap.size, 0, none⟩)) (w.alloc (.cells [.slice none 0 0].toArray 63)) := by kernel_rfl
theorem alloc_fnA (w : World) : (Instr.alloc 144 true (.tuple #[])).run Tryd.prog w = .ok (.pointer (some ⟨w.heap.size, 0, none⟩)) (w.alloc (.cells [.nilFunc].toArray 144)) := by kernel_rfl
theorem alloc_fnD (w : World) : (Instr.alloc 84 true (.tuple #[])).run Tryd.prog w = .ok (.pointer (some ⟨w.heap.size, 0, none⟩)) (w.alloc (.cells [.nilFunc].toArray 84)) := by kernel_rfl
theorem alloc_intsV (w : World) : (Instr.alloc 22 true (.tuple #[])).run Tryd.prog w = .ok (.pointer (some ⟨w.heap.size, 0, none⟩)) (w.alloc (.cells [.slice none 0 0].toArray 22)) := by kernel_rfl
theorem wpList_makeIntsB {ops : Array Oper} {rest : List Oper} {o : Oper} {a : Act} {w : World} {Q : Exit → Act → World → Prop} (hw : Region.wanted o (yielded ops a.tmps) = true) (x y : Operand) (ho : o.op = .makeSlice 22 x y) (n : Nat) (z : Int) (hz : z = (n : Int)) (hx : a.eval x = .int .i64 z) (hy : a.eval y = .int .i64 z) (hn : n ≤ 16777216)
    (h : ∀ w', Aft w w' → Hid (w'.heap[w.heap.size]? = some (.cells (zv (List.replicate n 0)).toArray 3 (0, 0))) → wpList Tryd.prog ops Q rest (a.put o.dst (.slice (some ⟨w.heap.size, 0, none⟩) n n)) w') : wpList Tryd.prog ops Q (o :: rest) a w := by
  subst hz
  obtain ⟨i0, hi0, hz1, hz2, hz3⟩ := info_parts info_int
  have hr := run_make (P := Tryd.prog) w 22 3 i0 (.int .i64 0) Tryd.underlying22 hi0 hz1 .i64 .i64 (n : Int) (n : Int) (by omega) (by omega) (by rw [hz3]; omega) (by omega)
  rw [hz2, Int.toNat_natCast, made_zeros] at hr
  unfold wpList
  rw [if_pos hw]
  refine .inl (wp_noOut ?_)
  unfold Oper.wp execOp
  simp only [ho, hx, hy, hr, Sem.run_bind, Result.andThen_ok, Sem.run_pure]
  exact h _ (Aft.alloc w _) (Lib.hid (heap_alloc_new w _))
theorem cnt_pos {n : Nat} {ls : List (List Int)} (h : Fit n ls) (hn : 0 < n) : ∀ l, l ≤ ls.length → 0 < cntN n ls l
  | 0, _ => hn
  | l + 1, hl => by
    have h1 := cnt_pos h hn l (by omega)
    have h2 := h.sum l (by omega)
    show 0 < (ls.getD l []).length
    refine Nat.pos_of_ne_zero fun e => ?_
    rw [List.eq_nil_of_length_eq_zero e] at h2
    simp at h2
    omega
theorem al_zero (ls : List (List Int)) (m : Nat) : ∀ L, Al ls L 0 (List.replicate m 0)
  | 0 => by
    show (List.replicate m (0 : Int)).getD 0 0 = 0
    rw [List.getD_eq_getElem?_getD, List.getElem?_replicate]
    split <;> rfl
  | L + 1 => by
    refine ⟨?_, ?_⟩
    · rw [List.getD_eq_getElem?_getD, List.getElem?_replicate]
      split <;> rfl
    · have : fstN ls L 0 = 0 := by simp [fstN, frm]
      rw [this]
      exact al_zero ls m L
theorem down_any (w0 : World) (bk bs ba bv gn bn bd base : Nat) (kind : Int) (vi vl : Value) (n : Nat) (ls : List (List Int)) (hn : n ≤ 1000) (hfit : Fit n ls) (hrd : RdLs w0 vl ls) (hkd : kind = 1 ∨ kind = 2) (hls : ls.length ≤ 1000) :
    ∀ (L at' : Nat) (va : Value) (ps : List (Nd × Value)) (nx : List Int) (w : World), DnIn w0 bk bs ba bv gn bn bd base kind vi vl n ls L at' va ps nx w → Calls Tryd.prog 95 (dnArgs bk bs ba bv bn bd L) w (DnSays w0 bk bs ba bv gn bn bd base kind vi vl ls L at' va ps nx w)
  | 0, at', va, ps, nx, w, h => down_zero w0 bk bs ba bv gn bn bd base kind vi vl n ls hn at' va ps nx w h
  | L + 1, at', va, ps, nx, w, h => down_succ w0 bk bs ba bv gn bn bd base kind vi vl n ls hn hfit hrd hkd hls L (down_any w0 bk bs ba bv gn bn bd base kind vi vl n ls hn hfit hrd hkd hls L) at' va ps nx w h
/-- A tree's nodes. -/
def nodesL (kind : Int) (ids : List Int) (ls : List (List Int)) : List Nd := if ids.length = 0 then [] else below kind ls ls.length 0 []
theorem lv_nine2 {ids : List Int} {ls : List (List Int)} (h : OkT ids ls) : ls.length ≤ 9 := by
  by_cases hz : ids.length = 0
  · have h2 := h.2
    rw [hz] at h2
    rw [okLv_zero h2]
    exact Nat.zero_le _
  · have h2 := okLv_high ls ids.length h.2 (by omega)
    refine Nat.le_of_not_lt fun q => ?_
    have h3 : (2 : Int) ^ 10 ≤ 2 ^ ls.length := by
      rw [show ls.length = 10 + (ls.length - 10) by omega, Int.pow_add]
      have h3 : ∀ n : Nat, (1 : Int) ≤ 2 ^ n := fun n => by
        induction n with
        | zero => decide
        | succ n ih => rw [Int.pow_succ]; omega
      have h3 := h3 (ls.length - 10)
      omega
    have := h.1.1
    have h4 : (2 : Int) ^ 10 = 1024 := by decide
    omega
def NdSays (kind : Int) (ids : List Int) (ls : List (List Int)) (w : World) (e : Ending) (w' : World) : Prop := ∃ v ps, e = .returned v ∧ OwnN w' w.heap.size v ps ∧ ps.map Prod.fst = nodesL kind ids ls ∧ Aft w w'
set_option maxRecDepth 100000 in
set_option maxHeartbeats 1000000 in
theorem nodes_any (kind : Int) (hkd : kind = 1 ∨ kind = 2) (vi vl : Value) (ids : List Int) (ls : List (List Int)) (w : World) (hi : Rd w vi (zv ids)) (hl : RdLs w vl ls) (hok : OkT ids ls) :
    Calls Tryd.prog 70 #[.int .i64 kind, .agg (shpL vi vl).toArray] w (NdSays kind ids ls w) := by
  have HOk := Lib.hid hok
  have HFit := Lib.hid (okLv_fit ls ids.length hok.2)
  have HRd := Lib.hid hl
  have HKd := Lib.hid hkd
  have h9 := lv_nine2 hok
  have H9 := Lib.hid h9
  obtain ⟨ao, cap, rfl, -, -⟩ := hi.numS
  obtain ⟨bo, dap, rfl, -⟩ := hl.shape
  have hmf : ∀ (fn : Fn) (first cap : Array Value) (w : World), (Instr.makeFunc fn first cap).run Tryd.prog w = .ok (.func fn first cap) w := fun _ _ _ _ => rfl
  have HL := Lib.hid (Led.start w)
  clear hok hi hl hkd
  go_enter Tryd.func70, Tryd.ntmps70
  go_upto_region 5 with (first | (refine wpList_boxO rfl 3 (.tmp 0) rfl (.int .i64 kind) rfl (.cells [.int .i64 kind].toArray 3) (box_int1 _) ?_; intro w1 aa gg zz; replace HL := Lib.hid (HL.out.alloc aa gg.out); clear aa gg zz; try simp only [List.nil_append, List.cons_append, List.set_cons_zero, List.set_cons_succ] at HL) | (refine wpList_boxO rfl 25 (.tmp 1) rfl (.agg (shpL (.slice ao ids.length cap) (.slice bo ls.length dap)).toArray) rfl (.cells (shpL (.slice ao ids.length cap) (.slice bo ls.length dap)).toArray 25) (box_shp _) ?_; intro w2 aa gg zz; replace HL := Lib.hid (HL.out.alloc aa gg.out); clear aa gg zz; try simp only [List.nil_append, List.cons_append, List.set_cons_zero, List.set_cons_succ] at HL) | (refine wpList_allocO rfl 63 rfl (.cells [.slice none 0 0].toArray 63) alloc_nodes ?_; intro w3 aa gg zz; replace HL := Lib.hid (HL.out.alloc aa gg.out); clear aa gg zz; try simp only [List.nil_append, List.cons_append, List.set_cons_zero, List.set_cons_succ] at HL) | (refine wpList_allocO rfl 144 rfl (.cells [.nilFunc].toArray 144) alloc_fnA ?_; intro w4 aa gg zz; replace HL := Lib.hid (HL.out.alloc aa gg.out); clear aa gg zz; try simp only [List.nil_append, List.cons_append, List.set_cons_zero, List.set_cons_succ] at HL) | (refine wpList_store_cellJ rfl 144 (.tmp 5) (.tmp 8) rfl _ 0 (fnA w2.heap.size) rfl rfl _ _ (by simp) (HL.out.get 3 rfl) (by kernel_rfl) rfl rfl ?_; intro w5 b1 b2 b3; replace HL := Lib.hid (HL.out.store 3 rfl b1 b2 b3); clear b1 b2 b3; try simp only [List.nil_append, List.cons_append, List.set_cons_zero, List.set_cons_succ] at HL; have hcs := cell_part (n := 1) (HL.out.get 1 rfl) rfl) | (refine wpList_makeIntsB (by kernel_rfl) (.tmp 12) (.tmp 12) rfl (ls.length + 1) ((ls.length : Int) + 1) rfl rfl rfl (by omega) ?_; intro w6 aS gS; replace HL := Lib.hid (HL.out.alloc aS gS.out); clear aS gS hcs; try simp only [List.nil_append, List.cons_append, List.set_cons_zero, List.set_cons_succ] at HL) | (refine wpList_allocO rfl 22 rfl (.cells [.slice none 0 0].toArray 22) alloc_intsV ?_; intro w7 aa gg zz; replace HL := Lib.hid (HL.out.alloc aa gg.out); clear aa gg zz; try simp only [List.nil_append, List.cons_append, List.set_cons_zero, List.set_cons_succ] at HL) | (refine wpList_store_cellJ rfl 22 (.tmp 6) (.tmp 13) rfl _ 0 (.slice (some ⟨w5.heap.size, 0, none⟩) (ls.length + 1) (ls.length + 1)) rfl rfl _ _ (by simp) (HL.out.get 5 rfl) (by kernel_rfl) rfl rfl ?_; intro w8 b1 b2 b3; replace HL := Lib.hid (HL.out.store 5 rfl b1 b2 b3); clear b1 b2 b3; try simp only [List.nil_append, List.cons_append, List.set_cons_zero, List.set_cons_succ] at HL) | (refine wpList_allocO rfl 84 rfl (.cells [.nilFunc].toArray 84) alloc_fnD ?_; intro w9 aa gg zz; replace HL := Lib.hid (HL.out.alloc aa gg.out); clear aa gg zz; try simp only [List.nil_append, List.cons_append, List.set_cons_zero, List.set_cons_succ] at HL) | (refine wpList_store_cellJ rfl 84 (.tmp 7) (.tmp 14) rfl _ 0 (fnD w.heap.size w1.heap.size w2.heap.size w3.heap.size w6.heap.size w8.heap.size) rfl rfl _ _ (by simp) (HL.out.get 6 rfl) (by kernel_rfl) rfl rfl ?_; intro w10 b1 b2 b3; replace HL := Lib.hid (HL.out.store 6 rfl b1 b2 b3); clear b1 b2 b3; try simp only [List.nil_append, List.cons_append, List.set_cons_zero, List.set_cons_succ] at HL))
  clear hmf
  have hc0 := cell_part (n := 0) (HL.out.get 1 rfl) rfl
  have hc1 := cell_part (n := 1) (HL.out.get 1 rfl) rfl
  have hcd : w10.cell? ⟨w8.heap.size, 0, none⟩ = some (Value.func (.func 95) #[] #[.pointer (some ⟨w6.heap.size, 0, none⟩), .pointer (some ⟨w2.heap.size, 0, none⟩), .pointer (some ⟨w8.heap.size, 0, none⟩), .pointer (some ⟨w1.heap.size, 0, none⟩), .pointer (some ⟨w3.heap.size, 0, none⟩), .pointer (some ⟨w.heap.size, 0, none⟩)]) := cell_part (n := 0) (u := fnD w.heap.size w1.heap.size w2.heap.size w3.heap.size w6.heap.size w8.heap.size) (HL.out.get 6 rfl) rfl
  have hca := cell_part (n := 0) (HL.out.get 2 rfl) rfl
  by_cases hz : ids.length = 0
  · have hpos : ¬ (0 : Int) < (ids.length : Nat) := by omega
    have HZ := Lib.hid hz
    clear hz
    go_wp2_with (first | (refine wpList_store_cellJ rfl 63 (.tmp 4) (.tmp 24) rfl _ 0 (.slice none 0 0) rfl rfl _ _ (by simp) (HL.out.get 2 rfl) (by kernel_rfl) rfl rfl ?_; intro w11 b1 b2 b3; replace HL := Lib.hid (HL.out.store 2 rfl b1 b2 b3); clear b1 b2 b3 hca; simp only [List.set_cons_succ, List.set_cons_zero] at HL; have hca := cell_part (n := 0) (HL.out.get 2 rfl) rfl))
    refine bodyPost_ret (results_cell_one rfl Tryd.underlying63 _ _ _ _ rfl hca) rfl ?_
    refine ⟨_, [], rfl, OwnN.nil _ _, ?_, HL.out.aft⟩
    unfold nodesL
    rw [if_pos HZ.out]
    rfl
  · have hpos : (0 : Int) < (ids.length : Nat) := by omega
    have HZ := Lib.hid hz
    clear hz
    go_wp2_with fail
    have hp3 : 3 ^ ls.length ≤ 3 ^ 9 := Nat.pow_le_pow_right (by decide) H9.out
    refine (down_any w w.heap.size w1.heap.size w2.heap.size w3.heap.size w5.heap.size w6.heap.size w8.heap.size w10.heap.size kind _ _ ids.length ls HOk.out.1.1 HFit.out HRd.out HKd.out (by omega) ls.length 0 (.slice none 0 0) [] (List.replicate (ls.length + 1) 0) w10 ⟨by unfold ledN; rw [List.length_replicate]; exact HL.out, OwnN.nil _ _, heap_lt (HL.out.get 6 rfl), Nat.le_refl _, al_zero ls _ _, List.length_replicate, Nat.le_refl _, cnt_pos HFit.out (by omega) _ (Nat.le_refl _), by simp only [List.length_nil]; omega⟩).mono ?_
    rintro e w11 ⟨va, ps, nx, rfl, hled, hown, hfst, -, -, -, -, -⟩
    obtain ⟨va1, vac, rfl⟩ := hown.shape
    have HBa := Lib.hid (Nat.lt_of_lt_of_le (heap_lt (HL.out.get 2 rfl)) (Nat.le_refl _))
    have HW := Lib.hid (Below.size HL.out.aft)
    have HO := Lib.hid hown
    have HF := Lib.hid hfst
    replace HL := Lib.hid hled
    clear hled hown hfst hp3 hca hc0 hc1 hcd
    have hca := cell_part (n := 0) (HL.out.get 2 rfl) rfl
    go_wp2_with (first | (refine wpList_store_cellJ rfl 63 (.tmp 4) (.tmp 24) rfl _ 0 (.slice va1 ps.length vac) rfl rfl _ _ (by simp) (HL.out.get 2 rfl) (by kernel_rfl) rfl rfl ?_; intro w12 b1 b2 b3; replace HO := Lib.hid (HO.out.low HBa.out b2.out); replace HL := Lib.hid (HL.out.store 2 rfl b1 b2 b3); clear b1 b2 b3 hca; simp only [List.set_cons_succ, List.set_cons_zero] at HL; have hca := cell_part (n := 0) (HL.out.get 2 rfl) rfl))
    refine bodyPost_ret (results_cell_one rfl Tryd.underlying63 _ _ _ _ rfl hca) rfl ?_
    refine ⟨_, ps, rfl, HO.out.mono HW.out, ?_, HL.out.aft⟩
    unfold nodesL
    rw [if_neg HZ.out]
    exact HF.out
end Go.Proofs.YtdbhlajajdlmfaaDoor
/- red.may, red.Nodes; live of law 11: it answers true. -/
namespace Go.Proofs.YtdbhlajajdlmfaaDoor
open Go Go.RowKit
set_option linter.unusedSimpArgs false
def mayE (kind : Int) (ids : List Int) (ls : List (List Int)) : Int := if kind = 1 ∨ kind = 2 then chkT ids ls else 1
theorem mayE_zero {kind : Int} {ids : List Int} {ls : List (List Int)} : mayE kind ids ls = 0 ↔ (kind = 1 ∨ kind = 2) ∧ OkT ids ls := by
  unfold mayE
  split
  · rename_i h
    rw [chkT_zero]
    exact ⟨fun q => ⟨h, q⟩, fun q => q.2⟩
  · rename_i h
    exact ⟨fun q => absurd q (by decide), fun q => absurd q.1 h⟩
theorem mayE_or (kind : Int) (ids : List Int) (ls : List (List Int)) : mayE kind ids ls = 0 ∨ mayE kind ids ls = 1 := by
  unfold mayE
  split
  · exact chkT_or ids ls
  · exact .inr rfl
set_option maxRecDepth 100000 in
set_option maxHeartbeats 1000000 in
theorem may_any (kind : Int) (vi vl : Value) (ids : List Int) (ls : List (List Int)) (w : World) (hi : Rd w vi (zv ids)) (hl : RdLs w vl ls) (hs : Small ids ls) :
    Calls Tryd.prog 68 #[.int .i64 kind, .agg (shpL vi vl).toArray] w fun e w' => e = .returned (.int .i64 (mayE kind ids ls)) ∧ Aft w w' := by
  have HCk := Lib.hid (fun (wx : World) (ha : Aft w wx) => tcheck_any vi vl ids ls wx (hi.grow ha) (hl.aft ha) hs)
  obtain ⟨ao, cap, rfl, -, -⟩ := hi.numS
  obtain ⟨bo, dap, rfl, -⟩ := hl.shape
  have HL := Lib.hid (Led.start w)
  clear hi hl hs
  by_cases h12 : kind = 1 ∨ kind = 2
  · have HE := Lib.hid (show mayE kind ids ls = chkT ids ls from if_pos h12)
    rcases h12 with rfl | rfl
    all_goals
      go_enter Tryd.func68, Tryd.ntmps68
      go_wp2_with (first | (refine wpList_boxO rfl 25 (.tmp 1) rfl (.agg (shpL (.slice ao ids.length cap) (.slice bo ls.length dap)).toArray) rfl (.cells (shpL (.slice ao ids.length cap) (.slice bo ls.length dap)).toArray 25) (box_shp _) ?_; intro w' aa gg zz; replace HL := Lib.hid (HL.out.alloc aa gg.out); clear aa gg zz; try simp only [List.nil_append, List.cons_append, List.set_cons_zero, List.set_cons_succ] at HL) | (refine wpList_load_rowG (by kernel_rfl) 25 (.tmp 3) rfl _ rfl _ _ _ _ (HL.out.get 0 rfl) Tryd.underlying25 rfl (shp_info _ _) ?_))
      refine (HCk.out _ HL.out.aft).mono ?_
      rintro e w2 ⟨rfl, h2⟩
      replace HL := Lib.hid (HL.out.call h2)
      clear h2
      go_wp2_with fail
      go_ret
      exact ⟨by rw [HE.out]; rfl, HL.out.aft⟩
  · have HE := Lib.hid (show mayE kind ids ls = 1 from if_neg h12)
    have h1 : ¬ kind = 1 := fun q => h12 (.inl q)
    have h2 : ¬ kind = 2 := fun q => h12 (.inr q)
    have hb1 : (kind != 1) = true := by simp [h1]
    have hb2 : (kind != 2) = true := by simp [h2]
    clear h12
    go_enter Tryd.func68, Tryd.ntmps68
    go_wp2_with (first | (refine wpList_boxO rfl 25 (.tmp 1) rfl (.agg (shpL (.slice ao ids.length cap) (.slice bo ls.length dap)).toArray) rfl (.cells (shpL (.slice ao ids.length cap) (.slice bo ls.length dap)).toArray 25) (box_shp _) ?_; intro w' aa gg zz; replace HL := Lib.hid (HL.out.alloc aa gg.out); clear aa gg zz; try simp only [List.nil_append, List.cons_append, List.set_cons_zero, List.set_cons_succ] at HL) | (refine wpList_load_rowG (by kernel_rfl) 25 (.tmp 3) rfl _ rfl _ _ _ _ (HL.out.get 0 rfl) Tryd.underlying25 rfl (shp_info _ _) ?_))
    go_ret
    exact ⟨by rw [HE.out]; rfl, HL.out.aft⟩
def RNdSays (kind : Int) (ids : List Int) (ls : List (List Int)) (w : World) (e : Ending) (w' : World) : Prop :=
  ∃ v ps, e = .returned (.tuple #[v, .int .i64 (mayE kind ids ls)]) ∧ OwnN w' w.heap.size v ps ∧ ps.map Prod.fst = (if mayE kind ids ls = 0 then nodesL kind ids ls else []) ∧ Aft w w'
set_option maxRecDepth 100000 in
set_option maxHeartbeats 1000000 in
theorem rnodes_any (kind : Int) (vi vl : Value) (ids : List Int) (ls : List (List Int)) (w : World) (hi : Rd w vi (zv ids)) (hl : RdLs w vl ls) (hs : Small ids ls) :
    Calls Tryd.prog 50 #[.int .i64 kind, .agg (shpL vi vl).toArray] w (RNdSays kind ids ls w) := by
  have HCk := Lib.hid (fun (wx : World) (ha : Aft w wx) => may_any kind vi vl ids ls wx (hi.grow ha) (hl.aft ha) hs)
  have HNd := Lib.hid (fun (hk : kind = 1 ∨ kind = 2) (hok : OkT ids ls) (wx : World) (ha : Aft w wx) => nodes_any kind hk vi vl ids ls wx (hi.grow ha) (hl.aft ha) hok)
  obtain ⟨ao, cap, rfl, -, -⟩ := hi.numS
  obtain ⟨bo, dap, rfl, -⟩ := hl.shape
  have HL := Lib.hid (Led.start w)
  clear hi hl hs
  go_enter Tryd.func50, Tryd.ntmps50
  go_wp2_with (first | (refine wpList_boxO rfl 25 (.tmp 1) rfl (.agg (shpL (.slice ao ids.length cap) (.slice bo ls.length dap)).toArray) rfl (.cells (shpL (.slice ao ids.length cap) (.slice bo ls.length dap)).toArray 25) (box_shp _) ?_; intro w' aa gg zz; replace HL := Lib.hid (HL.out.alloc aa gg.out); clear aa gg zz; try simp only [List.nil_append, List.cons_append, List.set_cons_zero, List.set_cons_succ] at HL) | (refine wpList_load_rowG (by kernel_rfl) 25 (.tmp 3) rfl _ rfl _ _ _ _ (HL.out.get 0 rfl) Tryd.underlying25 rfl (shp_info _ _) ?_))
  refine (HCk.out _ HL.out.aft).mono ?_
  rintro e w2 ⟨rfl, h2⟩
  replace HL := Lib.hid (HL.out.call h2)
  clear h2 HCk
  have HE := Lib.hid (mayE_or kind ids ls)
  by_cases h0 : mayE kind ids ls = 0
  · obtain ⟨hk, hok⟩ := mayE_zero.1 h0
    have HZ := Lib.hid h0
    rw [h0]
    have HNd2 := Lib.hid (HNd.out hk hok)
    clear h0 hk hok HNd HE
    go_wp2_with (first | (refine wpList_load_rowG (by kernel_rfl) 25 (.tmp 3) rfl _ rfl _ _ _ _ (HL.out.get 0 rfl) Tryd.underlying25 rfl (shp_info _ _) ?_))
    refine (HNd2.out _ HL.out.aft).mono ?_
    rintro e w3 ⟨v, ps, rfl, ho, hf, h3⟩
    have HO := Lib.hid (ho.mono (Below.size HL.out.aft))
    have HF := Lib.hid hf
    replace HL := Lib.hid (HL.out.call h3)
    clear ho hf h3
    go_wp2_with fail
    go_ret2
    refine ⟨v, ps, by rw [HZ.out]; rfl, HO.out, ?_, HL.out.aft⟩
    rw [if_pos HZ.out]
    exact HF.out
  · have h1 : mayE kind ids ls = 1 := HE.out.resolve_left h0
    have HZ := Lib.hid h1
    rw [h1]
    clear h0 h1 HE HNd
    go_wp2_with fail
    go_ret2
    refine ⟨_, [], by rw [HZ.out]; rfl, OwnN.nil _ _, ?_, HL.out.aft⟩
    rw [if_neg (by rw [HZ.out]; decide)]
    rfl
theorem bld3 : bld [1, 2, 3] [] [] = (0, [1, 2, 3], [[3]]) := by decide
theorem ok3 : OkT [1, 2, 3] [[3]] := by decide
theorem nd3a : (nodesL 1 [1, 2, 3] [[3]]).length = 4 := by decide
theorem nd3b : (nodesL 2 [1, 2, 3] [[3]]).length = 5 ∧ ((nodesL 2 [1, 2, 3] [[3]]).getD 2 nd0).rd = true := by decide
theorem may3a : mayE 1 [1, 2, 3] [[3]] = 0 := by decide
theorem may3b : mayE 2 [1, 2, 3] [[3]] = 0 := by decide
theorem fst_len {ps : List (Nd × Value)} {l : List Nd} (h : ps.map Prod.fst = l) : ps.length = l.length := by rw [← h, List.length_map]
end Go.Proofs.YtdbhlajajdlmfaaDoor
