/- red.nodes: where a group's turn stands between its calls. -/
import Derived.Test.YtpnckphfjcnooaaN5
namespace Go.Proofs.Ytpnckphfjcnooaa
open Go Go.RowKit
theorem Fr.next {S S2 : Nat → Prop} {w wa wb : World} (h1 : Fr S w wa) (h2 : Fr S2 wa wb) (hs : ∀ k, k < w.heap.size → S2 k → S k) : Fr S w wb :=
  ⟨h2.os.trans h1.os, h2.tape.trans h1.tape, h2.output.trans h1.output, Nat.le_trans h1.size h2.size, fun k hk hn => (h2.block k (Nat.lt_of_lt_of_le hk h1.size) fun e => hn (hs k hk e)).trans (h1.block k hk hn)⟩
/-- One block more on the ledger, behind all others. -/
theorem Led.snocB {w0 w : World} {L : List (Nat × Obj)} {b : Nat} {o : Obj} (h : Led w0 w L) (hb : w.heap[b]? = some o) (hl : w0.heap.size ≤ b) (hlt : ∀ (i g : Nat) (p : Obj), L[i]? = some (g, p) → g < b) : Led w0 w (L ++ [(b, o)]) := by
  refine ⟨h.aft, fun i g p hi => ?_, fun i j g k p q hij hi hj => ?_⟩
  · by_cases hlen : i < L.length
    · rw [List.getElem?_append_left hlen] at hi
      exact h.has i g p hi
    · obtain ⟨e1, e2⟩ := getElem?_snoc hi hlen
      cases e2
      exact ⟨hb, hl⟩
  · by_cases hj' : j < L.length
    · rw [List.getElem?_append_left hj'] at hj
      rw [List.getElem?_append_left (by omega)] at hi
      exact h.inc i j g k p q hij hi hj
    · obtain ⟨e1, e2⟩ := getElem?_snoc hj hj'
      cases e2
      rw [List.getElem?_append_left (by omega)] at hi
      exact hlt i g p hi
section
variable {w0 : World} {bk bs ba bv gn bn bd base : Nat} {kind : Int} {vi vl : Value} {n : Nat} {ls : List (List Int)} {bx : Nat} {X : Obj} {va0 : Value} {wS : World}
structure DnSt (w0 : World) (bk bs ba bv gn bn bd base : Nat) (kind : Int) (vi vl : Value) (ls : List (List Int)) (bx : Nat) (X : Obj) (va0 : Value) (wS : World) (va : Value) (ps : List (Nd × Value)) (nx : List Int) (w : World) : Prop where
  led : Led w0 w (ledN bk bs ba bv gn bn bd kind vi vl va nx ++ [(bx, X)])
  own : OwnN w base va ps
  lo : bd < base
  nb : ∀ g, va.ownBlock = some g → g ≠ bx
  fr : Fr (fun b => b = ba ∨ b = gn ∨ va0.ownBlock = some b) wS w
  gr : ∀ g, va.ownBlock = some g → va0.ownBlock = some g ∨ wS.heap.size ≤ g
  nl : nx.length = ls.length + 1
  sz : base ≤ w.heap.size
theorem DnSt.aft {va : Value} {ps : List (Nd × Value)} {nx : List Int} {w w' : World} (h : DnSt w0 bk bs ba bv gn bn bd base kind vi vl ls bx X va0 wS va ps nx w) (ha : Aft w w') : DnSt w0 bk bs ba bv gn bn bd base kind vi vl ls bx X va0 wS va ps nx w' :=
  ⟨h.led.call ha, h.own.aft ha, h.lo, h.nb, h.fr.trans (Fr.of_below ha), h.gr, h.nl, Nat.le_trans h.sz (Below.size ha)⟩
theorem DnSt.le0 {va : Value} {ps : List (Nd × Value)} {nx : List Int} {w : World} (h : DnSt w0 bk bs ba bv gn bn bd base kind vi vl ls bx X va0 wS va ps nx w) : w0.heap.size ≤ ba ∧ w0.heap.size ≤ gn ∧ w0.heap.size ≤ bd ∧ ba < bd ∧ gn < bd ∧ bd < bx ∧ w0.heap.size ≤ bx :=
  ⟨h.led.le 2 rfl, h.led.le 4 rfl, h.led.le 6 rfl, h.led.inc 2 6 _ _ _ _ (by decide) rfl rfl, h.led.inc 4 6 _ _ _ _ (by decide) rfl rfl, h.led.inc 6 7 _ _ _ _ (by decide) rfl rfl, h.led.le 7 rfl⟩
theorem DnSt.inn {va : Value} {ps : List (Nd × Value)} {nx : List Int} {w : World} {L at' : Nat} (h : DnSt w0 bk bs ba bv gn bn bd base kind vi vl ls bx X va0 wS va ps nx w) (hal : Al ls L at' nx) (hL : L ≤ ls.length) (ha : at' < cntN n ls L) (hf : ps.length + 2 * 3 ^ L ≤ 90000) :
    DnIn w0 bk bs ba bv gn bn bd base kind vi vl n ls L at' va ps nx w := ⟨h.led.cut 7, h.own, h.lo, h.sz, hal, h.nl, hL, ha, hf⟩
theorem DnSt.down {va : Value} {ps : List (Nd × Value)} {nx : List Int} {w w' : World} {e : Ending} {L at' : Nat} (h : DnSt w0 bk bs ba bv gn bn bd base kind vi vl ls bx X va0 wS va ps nx w) (hs : DnSays w0 bk bs ba bv gn bn bd base kind vi vl ls L at' va ps nx w e w') :
    ∃ va' ps' nx', e = .returned (.int .i64 ((ps'.length - 1 : Nat) : Int)) ∧ DnSt w0 bk bs ba bv gn bn bd base kind vi vl ls bx X va0 wS va' ps' nx' w' ∧ ps'.map Prod.fst = below kind ls L at' (ps.map Prod.fst) ∧ Al ls L (at' + 1) nx' ∧ (∀ j, L < j → nx'.getD j 0 = nx.getD j 0) := by
  obtain ⟨va', ps', nx', he, h1, h2, h3, h4, h5, h6, h7, h8⟩ := hs
  obtain ⟨k1, k2, k3, k4, k5, k6, k7⟩ := h.le0
  have hbx := h.led.get 7 rfl
  have hsz := h.fr.size
  have hlt := heap_lt hbx
  refine ⟨va', ps', nx', he, ⟨?_, h2, h.lo, fun g hg => ?_, h.fr.next h7 fun k hk q => ?_, fun g hg => ?_, h5.trans h.nl, Nat.le_trans h.sz h7.size⟩, h3, h4, h6⟩
  · refine h1.snocB ((h7.block bx hlt ?_).trans hbx) k7 fun i g p hi => ?_
    · rintro (q | q | q)
      · omega
      · omega
      · exact h.nb _ q rfl
    · have := h1.top (m := 6) rfl rfl hi
      omega
  · rcases h8 g hg with q | q
    · exact h.nb g q
    · omega
  · rcases q with q | q | q
    · exact .inl q
    · exact .inr (.inl q)
    · rcases h.gr k q with q | q
      · exact .inr (.inr q)
      · omega
  · rcases h8 g hg with q | q
    · exact h.gr g q
    · exact .inr (by omega)
theorem DnSt.above {va kv : Value} {ps : List (Nd × Value)} {nx : List Int} {w w' : World} {e : Ending} {x : Nd} {ks : List Nat} (h : DnSt w0 bk bs ba bv gn bn bd base kind vi vl ls bx X va0 wS va ps nx w) (hs : AbvSays x kv ks ba base va ps w e w') :
    ∃ va', e = .returned (.int .i64 (ps.length : Nat)) ∧ DnSt w0 bk bs ba bv gn bn bd base kind vi vl ls bx X va0 wS va' (abvP x kv ps ks) nx w' := by
  obtain ⟨va', he, h1, h2, h3, h4⟩ := hs
  obtain ⟨k1, k2, k3, k4, k5, k6, k7⟩ := h.le0
  have hbx := h.led.get 7 rfl
  have hsz := h.fr.size
  have hlt := heap_lt hbx
  refine ⟨va', he, ⟨?_, h2, h.lo, fun g hg => ?_, h.fr.next h3 fun k hk q => ?_, fun g hg => ?_, h.nl, Nat.le_trans h.sz h3.size⟩⟩
  · refine h.led.turn 2 rfl h1 h3 (fun k q => ?_) fun j g o hj hi q => ?_
    · rcases q with q | q
      · omega
      · have := (h.own.lt k q).1
        have := h.lo
        omega
    · rcases q with q | q
      · subst q
        rcases Nat.lt_or_gt_of_ne hj with q | q
        · have := h.led.inc j 2 _ _ _ _ q hi rfl
          omega
        · have := h.led.inc 2 j _ _ _ _ q rfl hi
          omega
      · by_cases e7 : j = 7
        · subst e7
          have e8 := hi
          cases e8
          exact h.nb _ q rfl
        · have hl : j < 8 := (List.getElem?_eq_some_iff.1 hi).1
          have hg : g ≤ bd := by
            by_cases e6 : j = 6
            · subst e6
              have e8 := hi
              cases e8
              exact Nat.le_refl _
            · exact Nat.le_of_lt (h.led.inc j 6 _ _ _ _ (by omega) hi rfl)
          have := (h.own.lt g q).1
          have := h.lo
          omega
  · rcases h4 g hg with q | q
    · exact h.nb g q
    · omega
  · rcases q with q | q
    · exact .inl q
    · rcases h.gr k q with q | q
      · exact .inr (.inr q)
      · omega
  · rcases h4 g hg with q | q
    · exact h.gr g q
    · exact .inr (by omega)
end
end Go.Proofs.Ytpnckphfjcnooaa
