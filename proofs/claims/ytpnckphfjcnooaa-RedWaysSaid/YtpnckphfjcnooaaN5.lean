/- red.nodes: a group with all below it (the recursion), a leaf first. -/
import Derived.Test.YtpnckphfjcnooaaN4
namespace Go.Proofs.Ytpnckphfjcnooaa
open Go Go.RowKit
set_option linter.unusedSimpArgs false
theorem OwnN.low {w w' : World} {base g : Nat} {v : Value} {ps : List (Nd × Value)} (h : OwnN w base v ps) (hg : g < base) (hb : ∀ k, k ≠ g → w'.heap[k]? = w.heap[k]?) : OwnN w' base v ps :=
  ⟨h.row.keep fun k hk => hb k (by have := (h.lt k hk).1; omega), fun p hp => (h.own p hp).keep fun k hk => hb k (by have := ((h.own p hp).lt hk).1; omega)⟩
theorem Led.frS {w0 w w' : World} {L : List (Nat × Obj)} {S : Nat → Prop} (h : Led w0 w L) (hf : Fr S w w') (hlow : ∀ b, S b → w0.heap.size ≤ b) (hS : ∀ (i g : Nat) (o : Obj), L[i]? = some (g, o) → ¬ S g) : Led w0 w' L :=
  ⟨⟨hf.os.trans h.aft.os, hf.tape.trans h.aft.tape, hf.output.trans h.aft.output, Nat.le_trans h.aft.size hf.size, fun k hk => (hf.block k (Nat.lt_of_lt_of_le hk h.aft.size) fun q => by
    have := hlow k q
    omega).trans (h.aft.block k hk)⟩, fun i g o hi => ⟨(hf.block g (heap_lt (h.get i hi)) (hS i g o hi)).trans (h.get i hi), (h.has i g o hi).2⟩, h.inc⟩
/-- One of the ledger's blocks was turned, and others that are not on it. -/
theorem Led.turn {w0 w w' : World} {L : List (Nat × Obj)} {S : Nat → Prop} (h : Led w0 w L) (i : Nat) {b : Nat} {old new : Obj} (hi : L[i]? = some (b, old)) (hg : w'.heap[b]? = some new) (hf : Fr S w w') (hlow : ∀ k, S k → w0.heap.size ≤ k) (hS : ∀ (j g : Nat) (o : Obj), j ≠ i → L[j]? = some (g, o) → ¬ S g) : Led w0 w' (L.set i (b, new)) := by
  have hl : i < L.length := (List.getElem?_eq_some_iff.1 hi).1
  have hset : ∀ (j k : Nat) (o : Obj), (L.set i (b, new))[j]? = some (k, o) → (j = i ∧ k = b ∧ o = new) ∨ (j ≠ i ∧ L[j]? = some (k, o)) := by
    intro j k o hj
    by_cases e : j = i
    · subst e
      rw [List.getElem?_set_self hl] at hj
      cases hj
      exact .inl ⟨rfl, rfl, rfl⟩
    · rw [List.getElem?_set_ne (Ne.symm e)] at hj
      exact .inr ⟨e, hj⟩
  refine ⟨⟨hf.os.trans h.aft.os, hf.tape.trans h.aft.tape, hf.output.trans h.aft.output, Nat.le_trans h.aft.size hf.size, fun k hk => (hf.block k (Nat.lt_of_lt_of_le hk h.aft.size) fun q => by
    have := hlow k q
    omega).trans (h.aft.block k hk)⟩, fun j g o hj => ?_, fun j k g g' o p hjk hj hk => ?_⟩
  · rcases hset j g o hj with ⟨rfl, rfl, rfl⟩ | ⟨e, hj⟩
    · exact ⟨hg, (h.has _ _ _ hi).2⟩
    · exact ⟨(hf.block g (heap_lt (h.get j hj)) (hS j g o e hj)).trans (h.get j hj), (h.has j g o hj).2⟩
  · rcases hset j g o hj with ⟨rfl, rfl, rfl⟩ | ⟨e, hj2⟩ <;> rcases hset k g' p hk with ⟨rfl, rfl, rfl⟩ | ⟨e', hk2⟩
    · omega
    · exact h.inc _ _ _ _ _ _ hjk hi hk2
    · exact h.inc _ _ _ _ _ _ hjk hj2 hi
    · exact h.inc _ _ _ _ _ _ hjk hj2 hk2
theorem Led.top {w0 w : World} {L : List (Nat × Obj)} (h : Led w0 w L) {m b i g : Nat} {ob o : Obj} (hm : L.length = m + 1) (hb : L[m]? = some (b, ob)) (hi : L[i]? = some (g, o)) : g ≤ b := by
  have hl : i < L.length := (List.getElem?_eq_some_iff.1 hi).1
  by_cases e : i = m
  · subst e
    rw [hi] at hb
    cases hb
    exact Nat.le_refl _
  · exact Nat.le_of_lt (h.inc i m g b o ob (by omega) hi hb)
def fnA (ba : Nat) : Value := .func (.func 74) #[] #[.pointer (some ⟨ba, 0, none⟩)]
def fnD (bk bs ba bv bn bd : Nat) : Value := .func (.func 75) #[] #[.pointer (some ⟨bn, 0, none⟩), .pointer (some ⟨ba, 0, none⟩), .pointer (some ⟨bd, 0, none⟩), .pointer (some ⟨bs, 0, none⟩), .pointer (some ⟨bv, 0, none⟩), .pointer (some ⟨bk, 0, none⟩)]
/-- The variables that the closures share. -/
def ledN (bk bs ba bv gn bn bd : Nat) (kind : Int) (vi vl va : Value) (nx : List Int) : List (Nat × Obj) :=
  [(bk, .cells [.int .i64 kind].toArray 3), (bs, .cells (shpL vi vl).toArray 26), (ba, .cells [va].toArray 37), (bv, .cells [fnA ba].toArray 91), (gn, .cells (zv nx).toArray 3),
    (bn, .cells [.slice (some ⟨gn, 0, none⟩) nx.length nx.length].toArray 22), (bd, .cells [fnD bk bs ba bv bn bd].toArray 92)]
structure DnIn (w0 : World) (bk bs ba bv gn bn bd base : Nat) (kind : Int) (vi vl : Value) (n : Nat) (ls : List (List Int)) (L at' : Nat) (va : Value) (ps : List (Nd × Value)) (nx : List Int) (w : World) : Prop where
  led : Led w0 w (ledN bk bs ba bv gn bn bd kind vi vl va nx)
  own : OwnN w base va ps
  lo : bd < base
  sz : base ≤ w.heap.size
  al : Al ls L at' nx
  nl : nx.length = ls.length + 1
  hL : L ≤ ls.length
  ha : at' < cntN n ls L
  few : ps.length + 2 * 3 ^ L ≤ 90000
def DnSays (w0 : World) (bk bs ba bv gn bn bd base : Nat) (kind : Int) (vi vl : Value) (ls : List (List Int)) (L at' : Nat) (va : Value) (ps : List (Nd × Value)) (nx : List Int) (w : World) (e : Ending) (w' : World) : Prop :=
  ∃ va' ps' nx', e = .returned (.int .i64 ((ps'.length - 1 : Nat) : Int)) ∧ Led w0 w' (ledN bk bs ba bv gn bn bd kind vi vl va' nx') ∧ OwnN w' base va' ps' ∧ ps'.map Prod.fst = below kind ls L at' (ps.map Prod.fst) ∧ Al ls L (at' + 1) nx' ∧ nx'.length = nx.length ∧
    (∀ j, L < j → nx'.getD j 0 = nx.getD j 0) ∧ Fr (fun b => b = ba ∨ b = gn ∨ va.ownBlock = some b) w w' ∧ ∀ g, va'.ownBlock = some g → va.ownBlock = some g ∨ w.heap.size ≤ g
def dnArgs (bk bs ba bv bn bd L : Nat) : Array Value := #[.int .i64 (L : Nat), .pointer (some ⟨bn, 0, none⟩), .pointer (some ⟨ba, 0, none⟩), .pointer (some ⟨bd, 0, none⟩), .pointer (some ⟨bs, 0, none⟩), .pointer (some ⟨bv, 0, none⟩), .pointer (some ⟨bk, 0, none⟩)]
set_option maxRecDepth 100000 in
set_option maxHeartbeats 1000000 in
theorem down_zero (w0 : World) (bk bs ba bv gn bn bd base : Nat) (kind : Int) (vi vl : Value) (n : Nat) (ls : List (List Int)) (hn : n ≤ 1000) (at' : Nat) (va : Value) (ps : List (Nd × Value)) (nx : List Int) (w : World)
    (h : DnIn w0 bk bs ba bv gn bn bd base kind vi vl n ls 0 at' va ps nx w) :
    Calls Try.prog 75 (dnArgs bk bs ba bv bn bd 0) w (DnSays w0 bk bs ba bv gn bn bd base kind vi vl ls 0 at' va ps nx w) := by
  obtain ⟨hled, hown, hlo, hsz, hal, hnl, -, ha, hfew⟩ := h
  have ha2 : at' < n := ha
  have hat : (at' : Int) ≤ 1000 := by omega
  have hL0 : 0 < nx.length := by omega
  unfold dnArgs
  unfold ledN at hled
  have HL := Lib.hid hled
  have HO := Lib.hid hown
  have HLo := Lib.hid hlo
  have HSz := Lib.hid hsz
  have HAl := Lib.hid hal
  have HNl := Lib.hid hnl
  have HFew := Lib.hid hfew
  have hcn := cell_part (n := 0) (HL.out.get 5 rfl) rfl
  have hcx := cell_part (n := 0) (HL.out.get 4 rfl) (zv_at hL0)
  rw [show nx.getD 0 0 = (at' : Int) from hal] at hcx
  have HLen := Lib.hid hL0
  obtain ⟨ca, cc, rfl⟩ := hown.shape
  have hx0 : (0 : Int) < (nx.length : Nat) := by omega
  clear hled hown hlo hsz hal hnl hfew ha ha2 hn hL0
  go_enter Try.func75, Try.ntmps75
  go_wp2_with (first | (refine wpList_store_cellJ rfl 3 (.tmp 23) (.tmp 22) rfl gn 0 (.int .i64 ((at' : Int) + 1)) rfl rfl _ (zv nx) (by rw [zv_length]; exact HLen.out) (HL.out.get 4 rfl) (by kernel_rfl) rfl rfl ?_; intro w1 b1 b2 b3; rw [zv_set] at b1; clear hcn hcx; replace HO := Lib.hid (HO.out.low (Nat.lt_trans (HL.out.inc 4 6 _ _ _ _ (by decide) rfl rfl) HLo.out) b2.out); have HF1 := Lib.hid (fr_store2 b2.out b3); replace HL := Lib.hid (HL.out.store 4 rfl b1 b2 b3); clear b1 b2 b3; simp only [List.set_cons_succ, List.set_cons_zero] at HL; have hca := cell_part (n := 0) (HL.out.get 2 rfl) rfl) | (refine wpList_buildO (by kernel_rfl) 41 #[(1, .tmp 27), (3, .tmp 28), (4, .tmp 30), (6, .const (.int .i64 (-1)))] rfl #[(1, .int .i64 (at' : Int)), (3, .int .i64 (at' : Int)), (4, .int .i64 ((at' : Int) + 1)), (6, .int .i64 (-1))] (by kernel_rfl) _ (build_leaf _ _) ?_) | (refine wpList_ndSlice (by kernel_rfl) (.tmp 31) ⟨0, (at' : Int), false, (at' : Int), (at' : Int) + 1, [], -1⟩ (.slice none 0 0) rfl rfl ?_; intro wS aS gS; have HOs := Lib.hid (HO.out.aft aS); have HLs := Lib.hid (HL.out.call aS); have HSs := Lib.hid (show w1.heap.size ≤ wS.heap.size from Below.size aS); have HFs := Lib.hid (HF1.out.mono (S' := fun b => b = ba ∨ b = gn ∨ (Value.slice ca ps.length cc).ownBlock = some b) (fun k _ e => .inr (.inl e)) |>.trans (Fr.of_below aS)); clear aS) | (refine wpList_snocN rfl (.tmp 26) (.tmp 32) rfl base _ ps rfl HOs.out w1.heap.size ⟨0, (at' : Int), false, (at' : Int), (at' : Int) + 1, [], -1⟩ (.slice none 0 0) rfl gS.out (OwnI.nil _ _) (by have := HFew.out; omega) (by have h1 := HSz.out; have h2 := HF1.out.size; have h3 := HSs.out; omega) ?_; intro g2 c2 wT t1 t2 t3; have HLt := Lib.hid (HLs.out.frS t2.out (fun b hb => by have h1 := (HOs.out.lt b hb).1; have h2 := HL.out.le 6 rfl; have h3 := HLo.out; omega) (fun i g o hi e => by have h1 := (HOs.out.lt g e).1; have h2 := HLo.out; have h3 := HLs.out.top (m := 6) rfl rfl hi; omega)); clear hca) | (refine wpList_store_cellJ rfl 37 (.tmp 2) (.tmp 33) rfl ba 0 (.slice (some ⟨g2, 0, none⟩) (ps.length + 1) c2) rfl rfl _ [.slice ca ps.length cc] (by simp) (HLt.out.get 2 rfl) (by kernel_rfl) rfl rfl ?_; intro wU b1 b2 b3; have hb3 := cell_part (n := 0) b1.out rfl; have HB2 := b2; have HF9 := Lib.hid (fr_store2 b2.out b3); have HLu := Lib.hid (HLt.out.store 2 rfl b1 b2 b3); clear b1 b2 b3))
  go_ret
  refine ⟨_, _, nx.set 0 ((at' : Int) + 1), congrArg (fun z => Ending.returned (.int .i64 z)) ((wrapM _ (by have := HFew.out; omega)).trans (by rw [List.length_append]; rfl)), ?_, (t1.out.low (Nat.lt_trans (HL.out.inc 2 6 _ _ _ _ (by decide) rfl rfl) HLo.out) HB2.out), ?_, ?_, List.length_set .., fun j hj => getD_set_neN (by omega), ?_, ?_⟩
  · unfold ledN
    rw [List.length_set]
    exact HLu.out
  · simp only [below, List.map_append, List.map_cons, List.map_nil]
  · exact getD_set_selfN HLen.out
  · exact ((HFs.out).trans (t2.out.mono fun k _ e => .inr (.inr e))).trans (HF9.out.mono fun k _ e => .inl e)
  · intro q hq
    cases hq
    rcases t3.out with e | e
    · exact .inl e
    · have h1 := HF1.out.size
      have h2 := HSs.out
      exact .inr (Nat.le_trans h1 (Nat.le_trans h2 e))
end Go.Proofs.Ytpnckphfjcnooaa
