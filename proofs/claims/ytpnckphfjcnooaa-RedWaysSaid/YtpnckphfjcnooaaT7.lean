/- A tree of one's own under stores and insertions: what stays. -/
import Derived.Test.YtpnckphfjcnooaaT6
namespace Go.Proofs.Ytpnckphfjcnooaa
open Go Go.RowKit
set_option linter.unusedSimpArgs false
theorem OwnTr.nil (w : World) (base : Nat) : OwnTr w base (.slice none 0 0) (.slice none 0 0) [] [] [] :=
  ⟨OwnI.nil w base, ⟨World.ownsRow_nil w base _ 1, rfl, fun i u hu => by simp at hu, fun i j u u' g _ hu => by simp at hu⟩, fun i u g hu => by simp at hu⟩
theorem OwnTr.mono {w : World} {base base' : Nat} {vi vl : Value} {vs : List Value} {ids : List Int} {ls : List (List Int)} (h : OwnTr w base vi vl vs ids ls) (hb : base' ≤ base) : OwnTr w base' vi vl vs ids ls :=
  ⟨h.ids.mono hb, ⟨ownsRow_mono h.lv.row hb, h.lv.len, fun i u hu => (h.lv.own i u hu).mono hb, h.lv.dis⟩, h.dis⟩
/-- A block of another type was turned. -/
theorem OwnTr.stored {w w' : World} {base g t : Nat} {vi vl : Value} {vs : List Value} {ids : List Int} {ls : List (List Int)} {cs : Array Value} {fr : Nat × Nat} (h : OwnTr w base vi vl vs ids ls) (hg : w.heap[g]? = some (.cells cs t fr)) (h1 : t ≠ 3) (h2 : t ≠ 22) (hb : ∀ k, k ≠ g → w'.heap[k]? = w.heap[k]?) : OwnTr w' base vi vl vs ids ls :=
  ⟨h.ids.keep fun k hk => hb k (own_off h.ids hg h1 hk), ⟨ownsRow_below h.lv.row fun k hk => hb k (own_off h.lv.row hg h2 hk), h.lv.len, fun i u hu => (h.lv.own i u hu).keep fun k hk => hb k (own_off (h.lv.own i u hu) hg h1 hk), h.lv.dis⟩, h.dis⟩
theorem OwnTr.shape {w : World} {base : Nat} {vi vl : Value} {vs : List Value} {ids : List Int} {ls : List (List Int)} (h : OwnTr w base vi vl vs ids ls) : ∃ a c b d, vi = .slice a ids.length c ∧ vl = .slice b ls.length d := by
  obtain ⟨a, c, h1⟩ := h.ids.shape
  obtain ⟨b, d, h2⟩ := own_shape h.lv.row
  exact ⟨a, c, b, d, h1, by rw [h2, h.lv.len]⟩
/-- The members were turned. -/
theorem OwnTr.turnI {w w' : World} {base : Nat} {vi vi' vl : Value} {vs : List Value} {ids ids' : List Int} {ls : List (List Int)} (h : OwnTr w base vi vl vs ids ls) (hf : Fr (fun b => vi.ownBlock = some b) w w') (ho : OwnI w' base vi' ids') (hn : ∀ g, vi'.ownBlock = some g → vi.ownBlock = some g ∨ w.heap.size ≤ g) : OwnTr w' base vi' vl vs ids' ls := by
  refine ⟨ho, h.lv.keep hf (fun g hg e => h.lv.row_ne h.ids e hg) (fun i u g hu hg e => h.dis i u g hu hg e), fun i u g hu hg e => ?_⟩
  rcases hn g e with h1 | h1
  · exact h.dis i u g hu hg h1
  · have := ((h.lv.own i u hu).lt hg).2
    omega
/-- One cell of a level was turned. -/
theorem OwnTr.cell {w w' : World} {base : Nat} {vi vl : Value} {vs : List Value} {ids : List Int} {ls : List (List Int)} (h : OwnTr w base vi vl vs ids ls) {k : Nat} {u : Value} {l' : List Int} (hu : vs[k]? = some u) (hf : Fr (fun b => u.ownBlock = some b) w w') (ho : OwnI w' base u l') : OwnTr w' base vi vl vs ids (ls.set k l') := by
  have hset : vs.set k u = vs := by
    refine List.ext_getElem? fun j => ?_
    have hk : k < vs.length := (List.getElem?_eq_some_iff.1 hu).1
    by_cases e : k = j
    · subst e
      rw [List.getElem?_set_self hk, hu]
    · rw [List.getElem?_set_ne e]
  have hrow : w'.ownsRow base 22 1 vl (vs.set k u).length (vs.set k u) := by
    rw [hset]
    exact ownsRow_fr h.lv.row hf fun g hg e => h.lv.row_ne (h.lv.own k u hu) e hg
  have := h.turn hu hf ho (fun g hg => .inl hg) (Fr.refl _ w') hrow
  rwa [hset] at this
/-- No block of that type is on the ledger. -/
def ofT (t : TypeId) : Obj → Bool
  | .cells _ t' _ => t' == t
  | _ => false
def noT (t : TypeId) (L : List (Nat × Obj)) : Bool := L.all fun p => !ofT t p.2
theorem noT_at {t : TypeId} {L : List (Nat × Obj)} (h : noT t L = true) : ∀ p ∈ L, ∀ cs' t' fr', p.2 = Obj.cells cs' t' fr' → t' ≠ t := by
  intro p hp cs' t' fr' e q
  subst q
  have := List.all_eq_true.1 h p hp
  rw [e] at this
  simp [ofT] at this
/-- The ledger where a row of one's own was turned. -/
theorem Led.frO {w0 w w' : World} {L : List (Nat × Obj)} {base e n : Nat} {v : Value} {xs : List Value} (h : Led w0 w L) (ho : w.ownsRow base e 1 v n xs) (hb : w0.heap.size ≤ base) (hf : Fr (fun b => v.ownBlock = some b) w w') (ht : noT e L = true) : Led w0 w' L := by
  refine ⟨⟨hf.os.trans h.aft.os, hf.tape.trans h.aft.tape, hf.output.trans h.aft.output, Nat.le_trans h.aft.size hf.size, fun k hk => (hf.block k (Nat.lt_of_lt_of_le hk h.aft.size) fun q => ?_).trans (h.aft.block k hk)⟩, fun i k o hi => ⟨?_, (h.has i k o hi).2⟩, h.inc⟩
  · have := (own_lt ho q).1
    omega
  · have hk := h.get i hi
    refine (hf.block k (heap_lt hk) fun q => ?_).trans hk
    rcases ho.2 with ⟨rfl, -⟩ | ⟨g, cap, cur, rfl, -, hg, -⟩
    · cases q
    · cases q
      rw [show Addr.block ⟨g, 0, none⟩ = g from rfl] at hk
      rw [hg] at hk
      exact noT_at ht _ (List.mem_of_getElem? hi) _ _ _ (Option.some.inj hk).symm rfl
theorem fr_store {w w' : World} {g : Nat} {v : Value} (hv : v.ownBlock = some g) (hb : ∀ k, k ≠ g → w'.heap[k]? = w.heap[k]?) (h3 : ∀ k w0, k ≤ g → Below k w0 w → Below k w0 w') : Fr (fun b => v.ownBlock = some b) w w' :=
  have h := h3 g w (Nat.le_refl _) (Below.refl _ _)
  ⟨h.os, h.tape, h.output, h.size, fun k _ hn => hb k fun e => hn (by rw [e]; exact hv)⟩
/-- Later worlds in which only blocks of S may have turned. -/
structure LaterF (S : Nat → Prop) (w0 : World) where
  w : World
  h : Fr S w0 w
theorem run_intSlice (x : Int) (w : World) : (Instr.buildSlice 22 1 #[(0, .int .i64 x)]).run Try.prog w = .ok (.slice (some ⟨w.heap.size, 0, none⟩) 1 1) (w.alloc (.cells #[.int .i64 x] 3)) := by kernel_rfl
theorem wpList_intSlice {ops : Array Oper} {rest : List Oper} {o : Oper} {a : Act} {w : World} {Q : Exit → Act → World → Prop} (hw : Region.wanted o (yielded ops a.tmps) = true) (y : Operand) (x : Int) (ho : o.op = .buildSlice 22 1 #[(0, y)]) (hy : a.eval y = .int .i64 x)
    (h : ∀ w', Aft w w' → Hid (w'.heap[w.heap.size]? = some (.cells #[.int .i64 x] 3 (0, 0))) → wpList Try.prog ops Q rest (a.put o.dst (.slice (some ⟨w.heap.size, 0, none⟩) 1 1)) w') : wpList Try.prog ops Q (o :: rest) a w := by
  unfold wpList
  rw [if_pos hw]
  refine .inl (wp_noOut ?_)
  unfold Oper.wp execOp
  simp only [ho, hy, Sem.run_bind, List.map_toArray, List.map_cons, List.map_nil, run_intSlice x w, Result.andThen_ok, Sem.run_pure]
  exact h _ (Aft.alloc w _) (heap_alloc_new w _)
/-- A cell of a row of numbers turned. -/
theorem wpList_store_num {ops : Array Oper} {rest : List Oper} {o : Oper} {a : Act} {w : World} {Q : Exit → Act → World → Prop} (hgd : o.guard = none) (x y : Operand) (ho : o.op = .store 3 x y) (base g n cap : Nat) (l : List Int) (i : Nat) (hi : i < l.length) (z : Int)
    (hown : OwnI w base (.slice (some ⟨g, 0, none⟩) n cap) l) (hx : a.eval x = .pointer (some ⟨g, i, none⟩)) (hy : a.eval y = .int .i64 z)
    (h : ∀ w', OwnI w' base (.slice (some ⟨g, 0, none⟩) n cap) (l.set i z) → Fr (fun b => (Value.slice (some ⟨g, 0, none⟩) n cap).ownBlock = some b) w w' → wpList Try.prog ops Q rest (a.put o.dst undef) w') : wpList Try.prog ops Q (o :: rest) a w := by
  have hown2 : w.ownsRow base 3 1 (.slice (some ⟨g, 0, none⟩) n cap) (zv l).length (zv l) := by rw [zv_length]; exact hown
  refine wpList_store_row1 hgd 3 (by kernel_rfl) x y ho base g n cap (zv l) i (by rw [zv_length]; exact hi) (.int .i64 z) rfl rfl hown2 hx hy ?_
  intro w' q1 b2 b3
  rw [zv_set, zv_length] at q1
  exact h w' q1 (fr_store rfl b2.out b3)
end Go.Proofs.Ytpnckphfjcnooaa
