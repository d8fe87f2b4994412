/- A plan in memory: its steps; what plan.Make keeps between its rounds. -/
import Derived.Test.YtfgammcefaomeaaP4
namespace Go.Proofs.Ytfgammcefaomeaa
open Go Go.RowKit
set_option linter.unusedSimpArgs false
/-- A step, as numbers. -/
structure Stp where
  nd : Int
  fr : Int
  sd : List Int
def stP : Stp × Value := (⟨0, 0, []⟩, .slice none 0 0)
def stRs (ps : List (Stp × Value)) : List (List Value) := ps.map fun p => stR p.1.nd p.1.fr p.2
theorem stRs_length (ps : List (Stp × Value)) : (stRs ps).length = ps.length := List.length_map ..
theorem stRs_append (ps qs : List (Stp × Value)) : stRs (ps ++ qs) = stRs ps ++ stRs qs := List.map_append
theorem stRs_at {ps : List (Stp × Value)} {i : Nat} (hi : i < ps.length) : (stRs ps).getD i [] = stR (ps.getD i stP).1.nd (ps.getD i stP).1.fr (ps.getD i stP).2 := by
  simp [stRs, List.getD_eq_getElem?_getD, List.getElem?_eq_getElem hi]
/-- A slice of steps that is read. -/
structure RdSt (w : World) (v : Value) (ps : List (Stp × Value)) : Prop where
  row : RdR 3 w v (stRs ps)
  kid : ∀ p ∈ ps, Rd w p.2 (zv p.1.sd)
theorem RdSt.aft {w w' : World} {v : Value} {ps : List (Stp × Value)} (h : RdSt w v ps) (ha : Aft w w') : RdSt w' v ps := ⟨h.row.grow ha, fun p hp => (h.kid p hp).grow ha⟩
theorem RdSt.shape {w : World} {v : Value} {ps : List (Stp × Value)} (h : RdSt w v ps) : ∃ ao cap, v = .slice ao ps.length cap ∧ ps.length ≤ cap ∧ cap ≤ 9223372036854775807 := by
  have := h.row.shape
  rwa [stRs_length] at this
theorem stP_mem {ps : List (Stp × Value)} {i : Nat} (hi : i < ps.length) : ps.getD i stP ∈ ps := by
  rw [List.getD_eq_getElem?_getD, List.getElem?_eq_getElem hi]
  exact List.getElem_mem hi
theorem RdSt.rng {w : World} {v : Value} {ps : List (Stp × Value)} (h : RdSt w v ps) {i : Nat} (hi : i < ps.length) :
    ∃ g o cap, v = .slice (some ⟨g, o, none⟩) ps.length cap ∧ ∀ wx, Aft w wx → wx.rangeAt g (o + i * 3) (stR (ps.getD i stP).1.nd (ps.getD i stP).1.fr (ps.getD i stP).2) := by
  obtain ⟨g, o, cap, h1, h2, h3⟩ := h.row.at (i := i) (by rw [stRs_length]; exact hi)
  rw [stRs_at hi] at h3
  rw [stRs_length] at h1
  exact ⟨g, o, cap, h1, h3⟩
/-- A slice of steps of one's own, what they send to too. -/
structure OwnSt (w : World) (base : Nat) (v : Value) (ps : List (Stp × Value)) : Prop where
  row : OwnR 3 40 w base v (stRs ps)
  own : ∀ p ∈ ps, OwnI w base p.2 p.1.sd
theorem OwnSt.nil (w : World) (base : Nat) : OwnSt w base (.slice none 0 0) [] := ⟨OwnR.nil 3 _ w base, fun p hp => by simp at hp⟩
theorem OwnSt.mono {w : World} {base base' : Nat} {v : Value} {ps : List (Stp × Value)} (h : OwnSt w base v ps) (hb : base' ≤ base) : OwnSt w base' v ps := ⟨h.row.mono hb, fun p hp => (h.own p hp).mono hb⟩
theorem OwnSt.aft {w w' : World} {base : Nat} {v : Value} {ps : List (Stp × Value)} (h : OwnSt w base v ps) (ha : Aft w w') : OwnSt w' base v ps := ⟨h.row.aft ha, fun p hp => (h.own p hp).aft ha⟩
theorem OwnSt.rd {w : World} {base : Nat} {v : Value} {ps : List (Stp × Value)} (h : OwnSt w base v ps) : RdSt w v ps := ⟨h.row.rd, fun p hp => (h.own p hp).rd⟩
theorem OwnSt.shape {w : World} {base : Nat} {v : Value} {ps : List (Stp × Value)} (h : OwnSt w base v ps) : ∃ ao cap, v = .slice ao ps.length cap := by
  have := h.row.shape
  rwa [stRs_length] at this
theorem OwnSt.lt {w : World} {base : Nat} {v : Value} {ps : List (Stp × Value)} (h : OwnSt w base v ps) : ∀ g, v.ownBlock = some g → base ≤ g ∧ g < w.heap.size := h.row.lt
/-- Where the row alone is turned. -/
theorem OwnSt.kids {w w' : World} {base : Nat} {v : Value} {ps : List (Stp × Value)} (h : OwnSt w base v ps) (hf : Fr (fun b => v.ownBlock = some b) w w') : ∀ p ∈ ps, OwnI w' base p.2 p.1.sd := fun p hp =>
  (h.own p hp).fr hf fun g hg e => own_ne2 h.row.2 (h.own p hp) (by decide) hg e
/-- Where another block is turned. -/
theorem OwnSt.keep {w w' : World} {base : Nat} {v : Value} {ps : List (Stp × Value)} (h : OwnSt w base v ps) {S : Nat → Prop} (hf : Fr S w w') (h1 : ∀ g, v.ownBlock = some g → ¬ S g) (h2 : ∀ p ∈ ps, ∀ g, p.2.ownBlock = some g → ¬ S g) : OwnSt w' base v ps :=
  ⟨h.row.keep fun g hg => hf.block g (h.lt g hg).2 (h1 g hg), fun p hp => (h.own p hp).fr hf (h2 p hp)⟩
theorem info_st : (Try.prog.info? 40).map (fun i => (i.zero, i.size, i.bytes)) = some (some (.agg (stR 0 0 (.slice none 0 0)).toArray), 3, 40) := by kernel_rfl
section
variable {ops : Array Oper} {rest : List Oper} {o : Oper} {a : Act} {w : World} {Q : Exit → Act → World → Prop}
theorem run_stSlice (x : List Value) (at' fr : Int) (ao : Option Addr) (n c : Nat) (hx : x = stR at' fr (.slice ao n c)) (w : World) : (Instr.buildSlice 28 1 #[(0, .agg x.toArray)]).run Try.prog w = .ok (.slice (some ⟨w.heap.size, 0, none⟩) 1 1) (w.alloc (.cells x.toArray 40)) := by
  subst hx
  kernel_rfl
theorem wpList_stSlice (hw : Region.wanted o (yielded ops a.tmps) = true) (y : Operand) (at' fr : Int) (ao : Option Addr) (n c : Nat) (ho : o.op = .buildSlice 28 1 #[(0, y)]) (hy : a.eval y = .agg (stR at' fr (.slice ao n c)).toArray)
    (h : ∀ w', Aft w w' → Hid (w'.heap[w.heap.size]? = some (.cells (stR at' fr (.slice ao n c)).toArray 40 (0, 0))) → wpList Try.prog ops Q rest (a.put o.dst (.slice (some ⟨w.heap.size, 0, none⟩) 1 1)) w') : wpList Try.prog ops Q (o :: rest) a w := by
  unfold wpList
  rw [if_pos hw]
  refine .inl (wp_noOut ?_)
  unfold Oper.wp execOp
  simp only [ho, hy, Sem.run_bind, List.map_toArray, List.map_cons, List.map_nil, run_stSlice _ at' fr ao n c rfl w, Result.andThen_ok, Sem.run_pure]
  exact h _ (Aft.alloc w _) (Lib.hid (heap_alloc_new w _))
/-- One step more. -/
theorem wpList_snocSt (hgd : o.guard = none) (s x : Operand) (ho : o.op = .call { callee := .builtin .append, args := #[s, x], argTypes := #[28, 28] }) (base : Nat) (v : Value) (ps : List (Stp × Value)) (hs : a.eval s = v) (hown : OwnSt w base v ps) (gx : Nat) (z : Stp) (kv : Value) (hx : a.eval x = .slice (some ⟨gx, 0, none⟩) 1 1)
    (hg : w.heap[gx]? = some (.cells (stR z.nd z.fr kv).toArray 40 (0, 0))) (hk : OwnI w base kv z.sd) (hl : ps.length ≤ 1000000) (hb : base ≤ w.heap.size)
    (h : ∀ g c w', Hid (OwnSt w' base (.slice (some ⟨g, 0, none⟩) (ps.length + 1) c) (ps ++ [(z, kv)])) → Hid (Fr (fun b => v.ownBlock = some b) w w') → Hid (v.ownBlock = some g ∨ w.heap.size ≤ g) → wpList Try.prog ops Q rest (a.put o.dst (.slice (some ⟨g, 0, none⟩) (ps.length + 1) c)) w') : wpList Try.prog ops Q (o :: rest) a w := by
  obtain ⟨i0, hi0, hz1, hz2, hz3⟩ := info_parts info_st
  obtain ⟨ka, kc, rfl⟩ := hk.shape
  have hro := hown.row.2
  rw [stRs_length] at hro
  refine wpList_append_lies w hgd s x 28 ho base 40 i0 _ 3 40 Try.underlying28 hi0 hz1 hz2 hz3 rfl (by decide) v ps.length (stRs ps).flatten hs hro ⟨gx, 0, none⟩ 1 1 (stR z.nd z.fr (.slice ka z.sd.length kc)) hx rfl (fun j u hu => by
    rw [Addr.add_lit, Nat.zero_add]
    exact cell_part hg hu) stR_one (by decide) (by unfold maxLen; omega) (by omega) hb _ rfl ?_
  intro g c w' k1 k2 k3 k4
  have hf : Fr (fun b => v.ownBlock = some b) w w' := Fr.of_grown k2 fun k hk => hk
  refine h g c w' (Lib.hid ⟨⟨?_, ?_⟩, fun p hp => ?_⟩) (Lib.hid hf) (Lib.hid ?_)
  · rw [stRs_append]
    exact hown.row.1.append (Row.one rfl stR_one)
  · rw [stRs_length, List.length_append, stRs_append, List.flatten_append]
    simpa [stRs] using k1
  · rcases List.mem_append.1 hp with hp | hp
    · exact hown.kids hf p hp
    · rw [List.mem_singleton.1 hp]
      exact hk.fr hf fun g hg e => own_ne2 hown.row.2 hk (by decide) hg e
  · rcases k3 with h | h
    · exact .inl h
    · exact .inr (by omega)
end
/-- The plan's cells. -/
def plR (vk vs : Value) : List Value := [vk, vs]
theorem pl_info (vk vs : Value) : (Try.prog.info? 30).map (·.size) = some (plR vk vs).toArray.size := by kernel_rfl
theorem alloc_pl (w : World) : (Instr.alloc 30 true (.tuple #[])).run Try.prog w = .ok (.pointer (some ⟨w.heap.size, 0, none⟩)) (w.alloc (.cells (plR (.slice none 0 0) (.slice none 0 0)).toArray 30)) := by kernel_rfl
theorem plR_one {a b : Option Addr} {n c m d : Nat} : ∀ u ∈ plR (.slice a n c) (.slice b m d), u.oneCell' = true := by
  intro u hu
  simp only [plR, List.mem_cons, List.not_mem_nil, or_false] at hu
  rcases hu with rfl | rfl <;> rfl
/-- Which old leaves there are, by their members. -/
def lfF (A : List Nd) (ids : List Int) : Nat → Int → Option Int
  | 0, _ => none
  | i + 1, q => if (A.getD i nd0).lv = 0 then (if q = ids.getD (A.getD i nd0).ix.toNat 0 then some (i : Int) else lfF A ids i q) else lfF A ids i q
/-- .. but for those that are touched. -/
def lvT (A : List Nd) (ids T : List Int) (by' q : Int) : Option Int := if q = by' ∨ q ∈ T then none else lfF A ids A.length q
/-- What the first new nodes are kept as. -/
def keepL (A : List Nd) (f : Int → Option Int) (ids : List Int) (B : List Nd) : Nat → List Int
  | 0 => []
  | i + 1 => keepL A f ids B i ++ [keptN A f ids (keepL A f ids B i) (B.getD i nd0)]
theorem keepL_length (A : List Nd) (f : Int → Option Int) (ids : List Int) (B : List Nd) : ∀ i, (keepL A f ids B i).length = i
  | 0 => rfl
  | i + 1 => by rw [keepL, List.length_append, keepL_length A f ids B i]; rfl
/-- The steps of the first new nodes. -/
def stpL (A : List Nd) (f : Int → Option Int) (ids : List Int) (B : List Nd) (by' : Int) : Nat → List Stp
  | 0 => []
  | i + 1 => stpL A f ids B by' i ++ (if (keepL A f ids B (i + 1)).getD i 0 < 0 ∧ 0 < (B.getD i nd0).lv then [⟨(i : Int), (stepN B ids (keepL A f ids B (i + 1)) by' (B.getD i nd0).ks).1, (stepN B ids (keepL A f ids B (i + 1)) by' (B.getD i nd0).ks).2⟩] else [])
theorem stpL_length (A : List Nd) (f : Int → Option Int) (ids : List Int) (B : List Nd) (by' : Int) : ∀ i, (stpL A f ids B by' i).length ≤ i
  | 0 => Nat.le_refl _
  | i + 1 => by
    have := stpL_length A f ids B by' i
    rw [stpL, List.length_append]
    split <;> simp <;> omega
end Go.Proofs.Ytfgammcefaomeaa
