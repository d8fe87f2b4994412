/- What terms.Close keeps in memory. -/
import Derived.Test.YtfgammcefaomeaaK10
namespace Go.Proofs.Ytfgammcefaomeaa
open Go Go.RowKit
structure ClW (w0 : World) (mb ab lb base n m : Nat) (v9 : Value) (L : Nat) (next lf met : List Int) (f : Int → List Int) (X : Nat → Prop) (w : World) : Prop where
  af : Aft w0 w
  sz : base ≤ w.heap.size
  mp : SetM w mb m met
  lo : OwnI w lb (.slice (some ⟨lb, 0, none⟩) L L) lf
  nx : OwnI w base v9 next
  ak : AskM w ab base n f (fun g => v9.ownBlock = some g ∨ X g)
  b1 : w0.heap.size ≤ mb ∧ mb < base
  b2 : w0.heap.size ≤ ab ∧ ab < base
  b3 : w0.heap.size ≤ lb ∧ lb < base
  ne : mb ≠ ab
section
variable {w0 w w' : World} {mb ab lb base n m : Nat} {v9 : Value} {L : Nat} {next lf met : List Int} {f : Int → List Int} {X : Nat → Prop}
theorem ClW.aft (h : ClW w0 mb ab lb base n m v9 L next lf met f X w) (ha : Aft w w') : ClW w0 mb ab lb base n m v9 L next lf met f X w' :=
  ⟨h.af.trans ha, Nat.le_trans h.sz ha.size, h.mp.aft ha, h.lo.aft ha, h.nx.aft ha, h.ak.aft ha, h.b1, h.b2, h.b3, h.ne⟩
theorem ClW.reno {X' : Nat → Prop} (h : ClW w0 mb ab lb base n m v9 L next lf met f X w) (hX : ∀ g, X' g → X g ∨ w.heap.size ≤ g) : ClW w0 mb ab lb base n m v9 L next lf met f X' w :=
  ⟨h.af, h.sz, h.mp, h.lo, h.nx, h.ak.reno fun g hg => by
    rcases hg with hg | hg
    · exact .inl (.inl hg)
    · rcases hX g hg with q | q
      · exact .inl (.inr q)
      · exact .inr q, h.b1, h.b2, h.b3, h.ne⟩
theorem ClW.mono {n' : Nat} (h : ClW w0 mb ab lb base n m v9 L next lf met f X w) (hn : n ≤ n') (hm : n' ≤ 1000000000) : ClW w0 mb ab lb base n' m v9 L next lf met f X w :=
  ⟨h.af, h.sz, h.mp, h.lo, h.nx, h.ak.mono hn hm, h.b1, h.b2, h.b3, h.ne⟩
theorem ClW.congr {f' : Int → List Int} (h : ClW w0 mb ab lb base n m v9 L next lf met f X w) (e : ∀ x, f x = f' x) : ClW w0 mb ab lb base n m v9 L next lf met f' X w :=
  ⟨h.af, h.sz, h.mp, h.lo, h.nx, h.ak.congr e, h.b1, h.b2, h.b3, h.ne⟩
/-- Where one row is turned. -/
theorem aft_row {a b c : World} {r : Option Nat} (h : Aft a b) (hg : b.grownBy c r) (hr : ∀ g, r = some g → a.heap.size ≤ g) : Aft a c :=
  ⟨hg.os.trans h.os, hg.tape.trans h.tape, hg.output.trans h.output, Nat.le_trans h.size hg.size, fun k hk => (hg.block k (Nat.lt_of_lt_of_le hk h.size) fun e => by
    have := hr k e.symm
    omega).trans (h.block k hk)⟩
theorem own_row {b c : World} {r : Option Nat} {base : Nat} {v : Value} {xs : List Int} (h : OwnI b base v xs) (hg : b.grownBy c r) (hr : ∀ g, v.ownBlock = some g → r ≠ some g) : OwnI c base v xs :=
  h.keep fun g hv => hg.block g (h.lt hv).2 fun e => hr g hv e.symm
theorem set_row {b c : World} {r : Option Nat} {g k : Nat} {xs : List Int} (h : SetM b g k xs) (hg : b.grownBy c r) (hr : some g ≠ r) : SetM c g k xs :=
  h.keep (hg.block g h.lt hr)
theorem ClW.mnomap {base' : Nat} {v : Value} {xs : List Int} (h : ClW w0 mb ab lb base n m v9 L next lf met f X w) (hv : OwnI w base' v xs) : some mb ≠ v.ownBlock ∧ some ab ≠ v.ownBlock := by
  obtain ⟨es, clock, hm⟩ := h.mp.blk
  obtain ⟨es', clock', ha⟩ := h.ak.blk
  exact ⟨own_nomap hv hm, own_nomap hv ha⟩
theorem ClW.left {lf' : List Int} (h : ClW w0 mb ab lb base n m v9 L next lf met f X w) (hF : Fr (fun b => (Value.slice (some ⟨lb, 0, none⟩) L L).ownBlock = some b) w w') (ho : OwnI w' lb (.slice (some ⟨lb, 0, none⟩) L L) lf') : ClW w0 mb ab lb base n m v9 L next lf' met f X w' := by
  have hg := grown_of_fr hF
  obtain ⟨h1, h2⟩ := h.mnomap h.lo
  refine ⟨aft_row h.af hg fun g e => by cases e; exact h.b3.1, Nat.le_trans h.sz hg.size, set_row h.mp hg h1, ho, own_row h.nx hg fun g hv e => ?_, h.ak.grow hg h2 (fun g e => ?_) (fun g q => .inl q), h.b1, h.b2, h.b3, h.ne⟩
  · cases e
    have h3 := (h.nx.lt hv).1
    have h4 := h.b3.2
    have h5 : lb = Addr.block ⟨lb, 0, none⟩ := rfl
    omega
  · cases e
    exact .inr h.b3.2
theorem ClW.push {v9' : Value} {g : Nat} {next' : List Int} (h : ClW w0 mb ab lb base n m v9 L next lf met f X w) (hF : Fr (fun b => v9.ownBlock = some b) w w') (ho : OwnI w' base v9' next') (hv : v9'.ownBlock = some g) (hl : v9.ownBlock = some g ∨ w.heap.size ≤ g) : ClW w0 mb ab lb base n m v9' L next' lf met f X w' := by
  have hg := grown_of_fr hF
  obtain ⟨h1, h2⟩ := h.mnomap h.nx
  have hb := h.b1
  refine ⟨aft_row h.af hg fun g e => by have := (h.nx.lt e).1; omega, Nat.le_trans h.sz hg.size, set_row h.mp hg h1, own_row h.lo hg fun g hv e => ?_, ho, h.ak.grow hg h2 (fun g e => .inl (.inl e)) (fun k q => ?_), h.b1, h.b2, h.b3, h.ne⟩
  · cases hv
    have h3 := (h.nx.lt e).1
    have h4 := h.b3.2
    have h5 : lb = Addr.block ⟨lb, 0, none⟩ := rfl
    omega
  · rcases q with q | q
    · rw [hv] at q
      cases q
      rcases hl with hl | hl
      · exact .inl (.inl hl)
      · exact .inr hl
    · exact .inl (.inr q)
/-- The slice that is looked at, cut at its end. -/
theorem ClW.cut {v9' : Value} {next' : List Int} (h : ClW w0 mb ab lb base n m v9 L next lf met f X w) (ho : OwnI w base v9' next') (hv : ∀ g, v9'.ownBlock = some g → v9.ownBlock = some g) : ClW w0 mb ab lb base n m v9' L next' lf met f X w :=
  ⟨h.af, h.sz, h.mp, h.lo, ho, h.ak.reno fun g hg => by
    rcases hg with hg | hg
    · exact .inl (.inl (hv g hg))
    · exact .inl (.inr hg), h.b1, h.b2, h.b3, h.ne⟩
theorem ClW.seen {met' : List Int} {m' : Nat} (h : ClW w0 mb ab lb base n m v9 L next lf met f X w) (hg : w.grownBy w' (some mb)) (hS : SetM w' mb m' met') : ClW w0 mb ab lb base n m' v9 L next lf met' f X w' := by
  have h1 := h.mnomap h.lo
  have h2 := h.mnomap h.nx
  exact ⟨aft_row h.af hg fun g e => by cases e; exact h.b1.1, Nat.le_trans h.sz hg.size, hS, own_row h.lo hg fun g hv e => h1.1 (by rw [hv, e]), own_row h.nx hg fun g hv e => h2.1 (by rw [hv, e]), h.ak.grow hg (fun e => h.ne (Option.some.inj e).symm) (fun g e => by cases e; exact .inr h.b1.2) (fun g q => .inl q), h.b1, h.b2, h.b3, h.ne⟩
/-- A look-up, an append to what was found, a store. -/
theorem ClW.ask {wB wC wD : World} {u : Value} {xs : List Int} {n' : Nat} {f' : Int → List Int} (h : ClW w0 mb ab lb base n m v9 L next lf met f X w) (hB : Aft w wB) (hu : OwnI w base u xs) (hno : ∀ g, u.ownBlock = some g → ¬ (v9.ownBlock = some g ∨ X g)) (hF : Fr (fun b => u.ownBlock = some b) wB wC) (hG : wC.grownBy wD (some ab)) (hA : AskM wD ab base n' f' (fun g => v9.ownBlock = some g ∨ X g)) :
    ClW w0 mb ab lb base n' m v9 L next lf met f' X wD := by
  have hb := h.aft hB
  have hg := grown_of_fr hF
  have hub := hu.aft hB
  have h1 := hb.mnomap hub
  have h2 := hb.mnomap hb.lo
  have h3 := hb.mnomap hb.nx
  have hq := h.b1
  refine ⟨aft_row (aft_row hb.af hg fun g e => by have := (hu.lt e).1; omega) hG fun g e => by cases e; exact h.b2.1, Nat.le_trans hb.sz (Nat.le_trans hg.size hG.size), set_row (set_row hb.mp hg h1.1) hG fun e => h.ne (Option.some.inj e), own_row (own_row hb.lo hg fun g hv e => ?_) hG fun g hv e => h2.2 (by rw [hv, e]), own_row (own_row hb.nx hg fun g hv e => hno g e (.inl hv)) hG fun g hv e => h3.2 (by rw [hv, e]), hA, h.b1, h.b2, h.b3, h.ne⟩
  cases hv
  have h4 := (hu.lt e).1
  have h5 := h.b3.2
  have h6 : lb = Addr.block ⟨lb, 0, none⟩ := rfl
  omega
/-- .. and another slice of numbers that it shuns. -/
theorem ClW.askOther {wB wC wD : World} {u v : Value} {ys : List Int} {base' : Nat} (h : ClW w0 mb ab lb base n m v9 L next lf met f X w) (hB : Aft w wB) (hno : ∀ g, u.ownBlock = some g → ¬ (v9.ownBlock = some g ∨ X g)) (hF : Fr (fun b => u.ownBlock = some b) wB wC) (hG : wC.grownBy wD (some ab)) (hv : OwnI w base' v ys) (hX : ∀ g, v.ownBlock = some g → X g) : OwnI wD base' v ys := by
  have hb := h.aft hB
  have hg := grown_of_fr hF
  have hvb := hv.aft hB
  have h3 := hb.mnomap hvb
  exact own_row (own_row hvb hg fun g hv e => hno g e (.inr (hX g hv))) hG fun g hv e => h3.2 (by rw [hv, e])
theorem fr_cell {w w' : World} {base g t : Nat} {u : Value} {xs : List Int} {cs : Array Value} {fr : Nat × Nat} (hF : Fr (fun b => u.ownBlock = some b) w w') (hu : OwnI w base u xs) (hg : w.heap[g]? = some (.cells cs t fr)) (ht : t ≠ 3) : w'.heap[g]? = some (.cells cs t fr) := by
  refine (hF.block g (heap_lt hg) fun e => ?_).trans hg
  rcases hu.2 with ⟨rfl, -⟩ | ⟨b, cap, cur, rfl, -, hgc, -⟩
  · cases e
  · cases e
    rw [show w.heap[Addr.block ⟨b, 0, none⟩]? = _ from hgc] at hg
    cases hg
    exact ht rfl
theorem ClW.askCell {wB wC wD : World} {u : Value} {xs : List Int} {g t : Nat} {cs : Array Value} {fr : Nat × Nat} (h : ClW w0 mb ab lb base n m v9 L next lf met f X w) (hB : Aft w wB) (hu : OwnI w base u xs) (hF : Fr (fun b => u.ownBlock = some b) wB wC) (hG : wC.grownBy wD (some ab)) (hg : w.heap[g]? = some (.cells cs t fr)) (ht : t ≠ 3) : wD.heap[g]? = some (.cells cs t fr) := by
  have h1 := fr_cell hF (hu.aft hB) ((hB.block g (heap_lt hg)).trans hg) ht
  refine (hG.block g (heap_lt h1) fun e => ?_).trans h1
  cases e
  obtain ⟨es, clock, hm⟩ := h.ak.blk
  rw [hm] at hg
  cases hg
end
/-- A slice of one's own, cut at its end. -/
theorem own_take {w : World} {base : Nat} {ao : Option Addr} {n cap k : Nat} {xs : List Int} (h : OwnI w base (.slice ao n cap) xs) (hk : k ≤ xs.length) (hs : ao ≠ none) : OwnI w base (.slice ao k cap) (xs.take k) := by
  rcases h.2 with ⟨he, -⟩ | ⟨g, cap', cur, he, hb, hgc, hn, hm, hc, ht⟩
  · cases he
    exact absurd rfl hs
  · cases he
    unfold OwnI
    have hl : (xs.take k).length = k := by rw [List.length_take]; omega
    refine ⟨by rw [zv_length, Nat.mul_one], .inr ⟨g, cap, cur, by rw [hl], hb, hgc, by omega, hm, hc, ?_⟩⟩
    rw [Nat.mul_one] at ht ⊢
    rw [hl]
    have h4 := congrArg (List.take k) ht
    rw [List.take_take, Nat.min_eq_left hk] at h4
    rw [h4]
    unfold zv
    rw [List.map_take]
end Go.Proofs.Ytfgammcefaomeaa
