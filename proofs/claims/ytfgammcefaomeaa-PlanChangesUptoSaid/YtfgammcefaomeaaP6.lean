/- plan.Make, walked: its parts. -/
import Derived.Test.YtfgammcefaomeaaP5
namespace Go.Proofs.Ytfgammcefaomeaa
open Go Go.RowKit
set_option linter.unusedSimpArgs false
theorem Led.frP {w0 w w' : World} {L : List (Nat × Obj)} {base e sz n : Nat} {v : Value} {xs : List Value} (h : Led w0 w L) (ho : w.ownsRow base e sz v n xs) (hb : w0.heap.size ≤ base) (hf : Fr (fun b => v.ownBlock = some b) w w') (ht : noT e L = true) : Led w0 w' L := by
  refine ⟨⟨hf.os.trans h.aft.os, hf.tape.trans h.aft.tape, hf.output.trans h.aft.output, Nat.le_trans h.aft.size hf.size, fun k hk => (hf.block k (Nat.lt_of_lt_of_le hk h.aft.size) fun q => ?_).trans (h.aft.block k hk)⟩, fun i k o hi => ⟨?_, (h.has i k o hi).2⟩, h.inc⟩
  · have := (ho.lt k q).1
    omega
  · have hk := h.get i hi
    refine (hf.block k (heap_lt hk) fun q => ?_).trans hk
    rcases ho.2 with ⟨rfl, -⟩ | ⟨g, cap, cur, rfl, -, hg, -⟩
    · cases q
    · cases q
      rw [show Addr.block ⟨g, 0, none⟩ = g from rfl] at hk
      rw [hg] at hk
      exact noT_at ht _ (List.mem_of_getElem? hi) _ _ _ (Option.some.inj hk).symm rfl
/-- The ledger where a map was turned. -/
theorem Led.mapM {w0 w w' : World} {b : Nat} {es : Array MapEntry} {clock : Nat} {L : List (Nat × Obj)} (hm : w.heap[b]? = some (.map es clock)) (h : Led w0 w L) (hb : w0.heap.size ≤ b) (hg : w.grownBy w' (some b)) (hL : ∀ p ∈ L, ∃ cs t fr, p.2 = Obj.cells cs t fr) : Led w0 w' L :=
  ⟨⟨hg.os.trans h.aft.os, hg.tape.trans h.aft.tape, hg.output.trans h.aft.output, Nat.le_trans h.aft.size hg.size, fun k hk => (hg.block k (Nat.lt_of_lt_of_le hk h.aft.size) (fun e => by
    have := Option.some.inj e
    omega)).trans (h.aft.block k hk)⟩, fun i g o hi => ⟨(hg.block g (heap_lt (h.get i hi)) (fun e => by
      obtain ⟨cs, t, fr, ho⟩ := hL _ (List.mem_of_getElem? hi)
      have := h.get i hi
      simp only at ho
      rw [ho] at this
      cases Option.some.inj e
      rw [hm] at this
      cases this)).trans (h.get i hi), (h.has i g o hi).2⟩, h.inc⟩
theorem MapM.stored {w w' : World} {b n g t : Nat} {f : Int → Option Int} {cs : Array Value} {fr : Nat × Nat} (h : MapM w b n f) (hg : w.heap[g]? = some (.cells cs t fr)) (hb : ∀ k, k ≠ g → w'.heap[k]? = w.heap[k]?) : MapM w' b n f := by
  refine h.keep (hb b fun e => ?_)
  obtain ⟨es, clock, hm⟩ := h.blk
  rw [e, hg] at hm
  cases hm
theorem MapM.row {w w' : World} {base e sz n m b : Nat} {v : Value} {xs : List Value} {f : Int → Option Int} (h : MapM w b n f) (ho : w.ownsRow base e sz v m xs) (hf : Fr (fun b => v.ownBlock = some b) w w') : MapM w' b n f := by
  refine h.keep (hf.block b h.lt fun q => ?_)
  obtain ⟨es, clock, hm⟩ := h.blk
  rcases ho.2 with ⟨rfl, -⟩ | ⟨g, cap, cur, rfl, -, hg, -⟩
  · cases q
  · cases q
    rw [show w.heap[Addr.block ⟨g, 0, none⟩]? = _ from hg] at hm
    cases hm
theorem MapM.mono {w : World} {b n n' : Nat} {f : Int → Option Int} (h : MapM w b n f) (hn : n ≤ n') (hm : n' ≤ 1000000) : MapM w b n' f := by
  obtain ⟨h1, D, hD, hr⟩ := h
  exact ⟨hm, D, hD.mono hn, hr⟩
theorem aft_mapM {a b c : World} {r : Nat} (h : Aft a b) (hg : b.grownBy c (some r)) (hr : a.heap.size ≤ r) : Aft a c :=
  ⟨hg.os.trans h.os, hg.tape.trans h.tape, hg.output.trans h.output, Nat.le_trans h.size hg.size, fun k hk => (hg.block k (Nat.lt_of_lt_of_le hk h.size) fun e => by
    have := Option.some.inj e
    omega).trans (h.block k hk)⟩
/-- The leaves, where some are struck. -/
def delF (f : Int → Option Int) (l : List Int) (q : Int) : Option Int := if q ∈ l then none else f q
theorem delF_nil (f : Int → Option Int) (q : Int) : delF f [] q = f q := if_neg (by simp)
theorem delF_snoc (f : Int → Option Int) (l : List Int) (z q : Int) : (if q = z then none else delF f l q) = delF f (l ++ [z]) q := by
  unfold delF
  by_cases h : q = z
  · rw [if_pos h, if_pos (by simp [h])]
  · rw [if_neg h]
    by_cases h2 : q ∈ l
    · rw [if_pos h2, if_pos (by simp [h2])]
    · rw [if_neg h2, if_neg (by simp [h, h2])]
theorem delF_all (A : List Nd) (ids T : List Int) (by' q : Int) : delF (fun q => if q = by' then none else lfF A ids A.length q) T q = lvT A ids T by' q := by
  unfold delF lvT
  show (if q ∈ T then none else if q = by' then none else lfF A ids A.length q) = _
  by_cases h : q = by'
  · rw [if_pos h]
    by_cases h2 : q ∈ T
    · rw [if_pos h2, if_pos (.inl h)]
    · rw [if_neg h2, if_pos (.inl h)]
  · rw [if_neg h]
    by_cases h2 : q ∈ T
    · rw [if_pos h2, if_pos (.inr h2)]
    · rw [if_neg h2, if_neg (fun q => q.elim h h2)]
theorem lfF_succ (A : List Nd) (ids : List Int) (i : Nat) : lfF A ids (i + 1) = if (A.getD i nd0).lv = 0 then (fun q => if q = ids.getD (A.getD i nd0).ix.toNat 0 then some (i : Int) else lfF A ids i q) else lfF A ids i := by
  funext q
  show (if _ then _ else _) = _
  split <;> rfl
/-- So that nothing is out of its bounds. -/
structure PlOk (A : List Nd) (ids0 : List Int) (B : List Nd) (ids : List Int) : Prop where
  al : ∀ i, i < A.length → (A.getD i nd0).lv = 0 → ∃ j : Nat, (A.getD i nd0).ix = (j : Int) ∧ j < ids0.length
  au : ∀ i, i < A.length → (A.getD i nd0).up = -1 ∨ ∃ j : Nat, (A.getD i nd0).up = (j : Int) ∧ j < A.length
  aw : ∀ i, i < A.length → (A.getD i nd0).ks.length ≤ 3
  bl : ∀ i, i < B.length → (B.getD i nd0).lv = 0 → ∃ j : Nat, (B.getD i nd0).ix = (j : Int) ∧ j < ids.length
  bk : ∀ i, i < B.length → (B.getD i nd0).lv ≠ 0 → (B.getD i nd0).ks ≠ [] ∧ (B.getD i nd0).ks.length ≤ 3 ∧ ∀ k ∈ (B.getD i nd0).ks, ∃ j : Nat, k = (j : Int) ∧ j < i
  wf0 : ∀ x ∈ ids0, (Lit.int .i64 x).wf = true
  wf1 : ∀ x ∈ ids, (Lit.int .i64 x).wf = true
theorem lfF_in {A : List Nd} {ids : List Int} : ∀ {i : Nat} {q k : Int}, lfF A ids i q = some k → ∃ j : Nat, k = (j : Int) ∧ j < i
  | 0, q, k, h => by cases h
  | i + 1, q, k, h => by
    rw [lfF] at h
    split at h
    · split at h
      · exact ⟨i, (Option.some.inj h).symm, by omega⟩
      · obtain ⟨j, h1, h2⟩ := lfF_in h
        exact ⟨j, h1, by omega⟩
    · obtain ⟨j, h1, h2⟩ := lfF_in h
      exact ⟨j, h1, by omega⟩
theorem keptN_in {A : List Nd} {f : Int → Option Int} {ids keep : List Int} {x : Nd} (hf : ∀ q k, f q = some k → ∃ j : Nat, k = (j : Int) ∧ j < A.length) (ho : KeptOk A ids keep x) : keptN A f ids keep x = -1 ∨ ∃ j : Nat, keptN A f ids keep x = (j : Int) ∧ j < A.length := by
  unfold keptN
  split
  · cases h : f (ids.getD x.ix.toNat 0) with
    | none => exact .inl rfl
    | some k => exact .inr (hf _ _ h)
  · rename_i hz
    split
    · exact .inl rfl
    · rename_i hany
      obtain ⟨h1, h2, h3⟩ := ho.kids hz
      have h0 : 0 < x.ks.length := List.length_pos_iff.2 h1
      obtain ⟨j, hj1, hj2⟩ := h3 _ (getD_memP h0)
      have hk : (kidK keep x.ks).getD 0 0 = keep.getD j 0 := by rw [kidK_at h0, hj1, Int.toNat_natCast]
      have hpos : ∃ a : Nat, (kidK keep x.ks).getD 0 0 = (a : Int) ∧ a < A.length := by
        rcases ho.keep _ (getD_memP hj2) with q | ⟨a, q1, q2⟩
        · refine absurd (List.any_eq_true.2 ⟨(kidK keep x.ks).getD 0 0, getD_memP (by rw [kidK_length]; exact h0), ?_⟩) hany
          rw [hk, q]
          decide
        · exact ⟨a, hk.trans q1, q2⟩
      obtain ⟨a, ha1, ha2⟩ := hpos
      simp only [ha1, Int.toNat_natCast]
      split
      · exact .inl rfl
      · exact ho.up a ha2
theorem PlOk.kept {A B : List Nd} {ids0 ids : List Int} (h : PlOk A ids0 B ids) {f : Int → Option Int} (hf : ∀ q k, f q = some k → ∃ j : Nat, k = (j : Int) ∧ j < A.length) : ∀ i, i ≤ B.length → (∀ v ∈ keepL A f ids B i, v = -1 ∨ ∃ j : Nat, v = (j : Int) ∧ j < A.length) ∧ (i < B.length → KeptOk A ids (keepL A f ids B i) (B.getD i nd0)) := by
  intro i
  have hok : ∀ i, (∀ v ∈ keepL A f ids B i, v = -1 ∨ ∃ j : Nat, v = (j : Int) ∧ j < A.length) → i < B.length → KeptOk A ids (keepL A f ids B i) (B.getD i nd0) := fun i hv hi =>
    ⟨fun hz => by
      obtain ⟨j, h1, h2⟩ := h.bl i hi hz
      exact ⟨j, h1, h2, h.wf1 _ (getD_memP h2)⟩, fun hz => by
      obtain ⟨h1, h2, h3⟩ := h.bk i hi hz
      refine ⟨h1, h2, fun k hk => ?_⟩
      obtain ⟨j, h4, h5⟩ := h3 k hk
      exact ⟨j, h4, by rw [keepL_length]; exact h5⟩, hv, h.au, h.aw⟩
  induction i with
  | zero =>
    intro _
    have h0 : ∀ v ∈ keepL A f ids B 0, v = -1 ∨ ∃ j : Nat, v = (j : Int) ∧ j < A.length := fun v hv => by cases hv
    exact ⟨h0, hok 0 h0⟩
  | succ i ih =>
    intro hi
    obtain ⟨h1, h2⟩ := ih (by omega)
    have h3 : ∀ v ∈ keepL A f ids B (i + 1), v = -1 ∨ ∃ j : Nat, v = (j : Int) ∧ j < A.length := fun v hv => by
      rcases List.mem_append.1 hv with hv | hv
      · exact h1 v hv
      · rw [List.mem_singleton.1 hv]
        exact keptN_in hf (h2 (by omega))
    exact ⟨h3, hok (i + 1) h3⟩
theorem PlOk.own {A B : List Nd} {ids0 ids : List Int} (h : PlOk A ids0 B ids) (f : Int → Option Int) {i : Nat} (hi : i < B.length) (hz : (B.getD i nd0).lv ≠ 0) : ∀ k ∈ (B.getD i nd0).ks, ∃ j : Nat, k = (j : Int) ∧ OwnOk B ids (keepL A f ids B (i + 1)) j := fun k hk => by
  obtain ⟨j, h4, h5⟩ := (h.bk i hi hz).2.2 k hk
  exact ⟨j, h4, by omega, fun hz => h.bl j (by omega) hz, fun _ => by rw [keepL_length]; omega⟩
theorem lvT_in {A : List Nd} {ids T : List Int} {by' : Int} (q k : Int) (h : lvT A ids T by' q = some k) : ∃ j : Nat, k = (j : Int) ∧ j < A.length := by
  unfold lvT at h
  split at h
  · cases h
  · exact lfF_in h
theorem build_pl0 (w : World) : (Instr.build 30 #[]).run Try.prog w = .ok (.agg (plR (.slice none 0 0) (.slice none 0 0)).toArray) w := by kernel_rfl
end Go.Proofs.Ytfgammcefaomeaa
