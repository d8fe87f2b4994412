/- changed of law 12, walked. -/
import Derived.Test.YtfgammcefaomeaaP13
import Derived.Test.YtfgammcefaomeaaB3
import Derived.Deep.AppendLies
import Derived.Deep.Upon
namespace Go.Proofs.Ytfgammcefaomeaa
open Go Go.RowKit
set_option linter.unusedSimpArgs false
/-- How a tree came of another, and by whom. -/
inductive Chd (ids0 : List Int) (ls0 : List (List Int)) : List Int → List (List Int) → List Int → Prop
  | nil : Chd ids0 ls0 ids0 ls0 []
  | del {ids : List Int} {ls : List (List Int)} {T : List Int} {x : Int} : Chd ids0 ls0 ids ls T → delE ids ls x = 0 → Chd ids0 ls0 (delIds ids ls x) (delLv ids ls x) (T ++ [x])
  | ins {ids : List Int} {ls : List (List Int)} {T : List Int} {x : Int} : Chd ids0 ls0 ids ls T → insE ids ls x = 0 → Chd ids0 ls0 (insIds ids ls x) (insLv ids ls x) (T ++ [x])
/-- A tree of one's own, and a list that lies elsewhere. -/
def TrN (w : World) (base : Nat) (vi vl : Value) (ids : List Int) (ls : List (List Int)) (vt : Value) : Prop :=
  ∃ vs, OwnTr w base vi vl vs ids ls ∧ (∀ g, vt.ownBlock = some g → vi.ownBlock ≠ some g) ∧ ∀ (g i : Nat) (u : Value), vt.ownBlock = some g → vs[i]? = some u → u.ownBlock ≠ some g
theorem TrN.aft {w w' : World} {base : Nat} {vi vl vt : Value} {ids : List Int} {ls : List (List Int)} (h : TrN w base vi vl ids ls vt) (ha : Aft w w') : TrN w' base vi vl ids ls vt := by
  obtain ⟨vs, h1, h2, h3⟩ := h
  exact ⟨vs, h1.aft ha, h2, h3⟩
theorem TrN.stored {w w' : World} {base g t : Nat} {vi vl vt : Value} {ids : List Int} {ls : List (List Int)} {cs : Array Value} {fr : Nat × Nat} (h : TrN w base vi vl ids ls vt) (hg : w.heap[g]? = some (.cells cs t fr)) (h1 : t ≠ 3) (h2 : t ≠ 22) (hb : ∀ k, k ≠ g → w'.heap[k]? = w.heap[k]?) : TrN w' base vi vl ids ls vt := by
  obtain ⟨vs, k1, k2, k3⟩ := h
  exact ⟨vs, k1.stored hg h1 h2 hb, k2, k3⟩
theorem TrN.app {w w' : World} {base base2 g : Nat} {vi vl vt vt' : Value} {ids T : List Int} {ls : List (List Int)} (h : TrN w base vi vl ids ls vt) (ht : OwnI w base2 vt T) (hf : Fr (fun b => vt.ownBlock = some b) w w') (hn : vt.ownBlock = some g ∨ w.heap.size ≤ g) (hv : vt'.ownBlock = some g) : TrN w' base vi vl ids ls vt' := by
  obtain ⟨vs, h1, h2, h3⟩ := h
  refine ⟨vs, ⟨h1.ids.fr hf fun k hk e => h2 k e hk, h1.lv.keep hf (fun k hk e => own_ne2 ht h1.lv.row (by decide) hk e) (fun i u k hu hk e => h3 k i u e hu hk), h1.dis⟩, fun k hk e => ?_, fun k i u hk hu e => ?_⟩
  · rw [hv] at hk
    cases hk
    rcases hn with q | q
    · exact h2 _ q e
    · have := (h1.ids.lt e).2
      omega
  · rw [hv] at hk
    cases hk
    rcases hn with q | q
    · exact h3 _ i u q hu e
    · have := ((h1.lv.own i u hu).lt e).2
      omega
theorem TrN.cat {w w' : World} {base base2 : Nat} {vi vl vt vt' : Value} {ids T : List Int} {ls : List (List Int)} (h : TrN w base vi vl ids ls vt) (ht : OwnI w base2 vt T) (hf : Fr (fun b => vt.ownBlock = some b) w w') (hn : ∀ g, vt'.ownBlock = some g → vt.ownBlock = some g ∨ w.heap.size ≤ g) : TrN w' base vi vl ids ls vt' := by
  obtain ⟨vs, h1, h2, h3⟩ := h
  refine ⟨vs, ⟨h1.ids.fr hf fun k hk e => h2 k e hk, h1.lv.keep hf (fun k hk e => own_ne2 ht h1.lv.row (by decide) hk e) (fun i u k hu hk e => h3 k i u e hu hk), h1.dis⟩, fun k hk e => ?_, fun k i u hk hu e => ?_⟩
  · rcases hn k hk with q | q
    · exact h2 _ q e
    · have := (h1.ids.lt e).2
      omega
  · rcases hn k hk with q | q
    · exact h3 _ i u q hu e
    · have := ((h1.lv.own i u hu).lt e).2
      omega
/-- One slice behind another; and where it lies. -/
theorem wpList_catL {ops : Array Oper} {rest : List Oper} {o : Oper} {a : Act} {w : World} {Q : Exit → Act → World → Prop} (hgd : o.guard = none) (s x : Operand) (ho : o.op = .call { callee := .builtin .append, args := #[s, x], argTypes := #[22, 22] }) (base : Nat) (v u : Value) (xs ys : List Int) (hs : a.eval s = v) (hx : a.eval x = u) (hown : OwnI w base v xs) (hu : Rd w u (zv ys)) (hl : xs.length + ys.length ≤ 16777216) (hb : base ≤ w.heap.size)
    (h : ∀ v' w', Hid (OwnI w' base v' (xs ++ ys)) → Hid (Fr (fun b => v.ownBlock = some b) w w') → Hid (∀ g, v'.ownBlock = some g → v.ownBlock = some g ∨ w.heap.size ≤ g) → wpList Try.prog ops Q rest (a.put o.dst v') w') : wpList Try.prog ops Q (o :: rest) a w := by
  obtain ⟨i0, hi0, hz1, hz2, hz3⟩ := info_parts info_int
  obtain ⟨ao, cap, rfl, r1, r2, r3, r4⟩ := hu
  rw [zv_length] at *
  have hstay : ys = [] → wpList Try.prog ops Q rest (a.put o.dst v) w := fun e => by
    subst e
    exact h v w (Lib.hid (by rw [List.append_nil]; exact hown)) (Lib.hid (Fr.refl _ _)) (Lib.hid fun g hg => .inl hg)
  cases ao with
  | none =>
    have hc := r3 rfl
    have hn : ys = [] := List.length_eq_zero_iff.1 (by omega)
    have hw := hstay hn
    subst hn hc
    exact wpList_append_own_none hgd s x 22 ho base 3 i0 1 Try.underlying22 hi0 v xs.length (zv xs) hs hown hx hw
  | some ad =>
    by_cases hn : ys = []
    · have hw := hstay hn
      subst hn
      obtain ⟨vo, vc, rfl, hvc⟩ : ∃ vo vc, v = .slice vo xs.length vc ∧ xs.length ≤ vc := by
        obtain ⟨q1, q2, q3, q4, -⟩ := hown.rd
        rw [zv_length] at *
        exact ⟨q1, q2, q3, q4⟩
      have hrun := run_append_nothing (P := Try.prog) w 22 22 o.type 3 i0 Try.underlying22 hi0 vo xs.length vc hvc (.slice (some ad) 0 cap) (Src.ofSlice w Try.underlying22 ad 0 cap [] (Nat.zero_mul _).symm (fun j u hu => by cases hu) (fun u hu => by cases hu))
      refine wpList_plain hgd fun K hK => ?_
      unfold Oper.wp
      simp [execOp, ho, resolve, invoke, builtin, hs, hx, hrun, Result.andThen]
      exact hK _ _ hw
    · have hpos : 0 < ys.length := List.length_pos_iff.2 hn
      refine wpList_append_lies w hgd s x 22 ho base 3 i0 (.int .i64 0) 1 8 Try.underlying22 hi0 hz1 hz2 hz3 rfl (by decide) v xs.length (zv xs) hs hown ad ys.length cap (zv ys) hx (by rw [zv_length, Nat.mul_one]) (r4 ad rfl) (zv_one ys) hpos (by unfold maxLen; omega) (by omega) hb _ rfl ?_
      intro g c w' k1 k2 k3 k4
      refine h _ w' (Lib.hid ?_) (Lib.hid (Fr.of_grown k2 fun k hk => hk)) (Lib.hid fun k hk => ?_)
      · rw [← zv_append] at k1
        show w'.ownsRow base _ 1 _ (xs ++ ys).length _
        rw [List.length_append]
        exact k1
      · have e : g = k := Option.some.inj hk
        subst e
        rcases k3 with q | q
        · exact .inl q
        · exact .inr (by omega)
theorem TrN.new {w w' : World} {base base2 b3 : Nat} {vi vl vt : Value} {vs : List Value} {ids T : List Int} {ls : List (List Int)} (h : OwnTr w' b3 vi vl vs ids ls) (hb : base ≤ b3) (hw : w.heap.size ≤ b3) (ht : OwnI w base2 vt T) : TrN w' base vi vl ids ls vt := by
  refine ⟨vs, h.mono hb, fun g hg e => ?_, fun g i u hg hu e => ?_⟩
  · have h1 := (ht.lt hg).2
    have h2 := (h.ids.lt e).1
    omega
  · have h1 := (ht.lt hg).2
    have h2 := ((h.lv.own i u hu).lt e).1
    omega
theorem TrN.none {w : World} {base : Nat} {vi vl : Value} {vs : List Value} {ids : List Int} {ls : List (List Int)} (h : OwnTr w base vi vl vs ids ls) : TrN w base vi vl ids ls (.slice none 0 0) :=
  ⟨vs, h, (fun g hg => by cases hg), (fun g i u hg => by cases hg)⟩
theorem TrN.shape {w : World} {base : Nat} {vi vl vt : Value} {ids : List Int} {ls : List (List Int)} (h : TrN w base vi vl ids ls vt) : ∃ a c b d, vi = .slice a ids.length c ∧ vl = .slice b ls.length d := by
  obtain ⟨vs, h1, -⟩ := h
  exact h1.shape
/-- What changed keeps. -/
structure ChW (w0 w : World) (ids0 : List Int) (ls0 : List (List Int)) (vi0 vl0 : Value) (ids : List Int) (ls : List (List Int)) (vi vl vt : Value) (T : List Int) : Prop where
  t0 : TrN w w0.heap.size vi0 vl0 ids0 ls0 vt
  t1 : TrN w w0.heap.size vi vl ids ls vt
  tt : OwnI w w0.heap.size vt T
  k0 : OkT ids0 ls0
  k1 : OkT ids ls
  ch : Chd ids0 ls0 ids ls T
theorem ChW.aft {w0 w w' : World} {ids0 : List Int} {ls0 : List (List Int)} {vi0 vl0 : Value} {ids : List Int} {ls : List (List Int)} {vi vl vt : Value} {T : List Int} (h : ChW w0 w ids0 ls0 vi0 vl0 ids ls vi vl vt T) (ha : Aft w w') : ChW w0 w' ids0 ls0 vi0 vl0 ids ls vi vl vt T :=
  ⟨h.t0.aft ha, h.t1.aft ha, h.tt.aft ha, h.k0, h.k1, h.ch⟩
theorem ChW.stored {w0 w w' : World} {g t : Nat} {ids0 : List Int} {ls0 : List (List Int)} {vi0 vl0 : Value} {ids : List Int} {ls : List (List Int)} {vi vl vt : Value} {T : List Int} {cs : Array Value} {fr : Nat × Nat} (h : ChW w0 w ids0 ls0 vi0 vl0 ids ls vi vl vt T) (hg : w.heap[g]? = some (.cells cs t fr)) (h1 : t ≠ 3) (h2 : t ≠ 22) (hb : Hid (∀ k, k ≠ g → w'.heap[k]? = w.heap[k]?)) : ChW w0 w' ids0 ls0 vi0 vl0 ids ls vi vl vt T :=
  ⟨h.t0.stored hg h1 h2 hb.out, h.t1.stored hg h1 h2 hb.out, h.tt.storedP hg h1 hb.out, h.k0, h.k1, h.ch⟩
theorem ChW.app {w0 w w' : World} {g : Nat} {ids0 : List Int} {ls0 : List (List Int)} {vi0 vl0 : Value} {ids : List Int} {ls : List (List Int)} {vi vl vt vt' : Value} {T T' : List Int} {ids2 : List Int} {ls2 : List (List Int)} {vi2 vl2 : Value} (h : ChW w0 w ids0 ls0 vi0 vl0 ids ls vi vl vt T) (hf : Fr (fun b => vt.ownBlock = some b) w w') (ho : OwnI w' w0.heap.size vt' T') (hn : vt.ownBlock = some g ∨ w.heap.size ≤ g) (hv : vt'.ownBlock = some g) (ht : TrN w w0.heap.size vi2 vl2 ids2 ls2 vt) (hk : OkT ids2 ls2) (hc : Chd ids0 ls0 ids2 ls2 T') : ChW w0 w' ids0 ls0 vi0 vl0 ids2 ls2 vi2 vl2 vt' T' :=
  ⟨h.t0.app h.tt hf hn hv, ht.app h.tt hf hn hv, ho, h.k0, hk, hc⟩
theorem chg_del {ids : List Int} {ls : List (List Int)} {x : Int} (hok : OkT ids ls) : chgR ids ls [x] [] = if delE ids ls x = 0 then (0, delIds ids ls x, delLv ids ls x) else (delE ids ls x, [], []) := by
  unfold chgR
  rw [if_pos (chkT_zero.2 hok)]
  simp only [dlR]
  by_cases h : delE ids ls x = 0
  · simp only [if_pos h, if_true, inR]
  · simp only [if_neg h]
theorem chg_ins {ids : List Int} {ls : List (List Int)} {x : Int} (hok : OkT ids ls) : chgR ids ls [] [x] = if insE ids ls x = 0 then (0, insIds ids ls x, insLv ids ls x) else (insE ids ls x, [], []) := by
  unfold chgR
  rw [if_pos (chkT_zero.2 hok)]
  by_cases h : insE ids ls x = 0 <;> simp [dlR, inR, h]
def ChdSays (out in' more : List Int) (w : World) (e : Ending) (w' : World) : Prop :=
  ∃ (ids0 : List Int) (ls0 : List (List Int)) (vi0 vl0 : Value) (ids : List Int) (ls : List (List Int)) (vi vl vt : Value) (T : List Int), e = .returned (.tuple #[.agg (shpL vi0 vl0).toArray, .agg (shpL vi vl).toArray, vt, .bool (decide (0 < ids.length))]) ∧
    TrN w' w.heap.size vi0 vl0 ids0 ls0 vt ∧ TrN w' w.heap.size vi vl ids ls vt ∧ OwnI w' w.heap.size vt (T ++ more) ∧ OkT ids0 ls0 ∧ OkT ids ls ∧ Chd ids0 ls0 ids ls T ∧ (∀ x ∈ T, x ∈ out ∨ x ∈ in') ∧ T.length ≤ out.length + in'.length ∧ Aft w w'
end Go.Proofs.Ytfgammcefaomeaa
