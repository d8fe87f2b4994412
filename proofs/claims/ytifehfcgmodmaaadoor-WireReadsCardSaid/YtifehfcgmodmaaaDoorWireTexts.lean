/- Texts read: wire.TakeText, Texts, End, and the document's; and coterieref01.SameAll. -/
import Derived.Test.YtifehfcgmodmaaaDoorWireTake
namespace Go.Proofs.YtifehfcgmodmaaaDoor
open Go Go.RowKit
/-- What TakeText hands back: a text, the place behind it, and why not. -/
def takeText (b : List (BitVec 8)) (p : Int) : List (BitVec 8) × Int × Int :=
  if (takeNum b p 2).2.2 ≠ 0 then ([], 0, (takeNum b p 2).2.2) else if (b.length : Int) - (takeNum b p 2).2.1 < ((takeNum b p 2).1 : Int) then ([], 0, 2)
  else ((b.drop (takeNum b p 2).2.1.toNat).take (takeNum b p 2).1, (takeNum b p 2).2.1 + ((takeNum b p 2).1 : Int), 0)
theorem takeText_bad {b : List (BitVec 8)} {p : Int} {n : Nat} {q e : Int} (h : takeNum b p 2 = (n, q, e)) (he : e ≠ 0) : takeText b p = ([], 0, e) := by
  unfold takeText; rw [h, if_pos he]
theorem takeText_short {b : List (BitVec 8)} {p : Int} {n : Nat} {q : Int} (h : takeNum b p 2 = (n, q, 0)) (hs : (b.length : Int) - q < n) : takeText b p = ([], 0, 2) := by
  unfold takeText; rw [h, if_neg (by simp), if_pos hs]
theorem takeText_good {b : List (BitVec 8)} {p : Int} {n : Nat} {q : Int} (h : takeNum b p 2 = (n, q, 0)) (hs : ¬ (b.length : Int) - q < n) : takeText b p = ((b.drop q.toNat).take n, q + n, 0) := by
  unfold takeText; rw [h, if_neg (by simp), if_neg hs]
theorem takeNum2 {b : List (BitVec 8)} {p : Int} {n : Nat} {q : Int} (h : takeNum b p 2 = (n, q, 0)) : 0 ≤ p ∧ q = p + 2 ∧ q ≤ b.length ∧ n < 65536 := by
  have h1 := takeNum_ok (b := b) (p := p) (W := 2) (by rw [h])
  unfold takeNum at h
  rw [if_neg (by omega), if_neg (by omega)] at h
  simp only [Prod.mk.injEq, and_true] at h
  obtain ⟨rfl, rfl⟩ := h
  have h2 := beN_lt ((b.drop p.toNat).take (Int.toNat 2))
  have h3 : ((b.drop p.toNat).take (Int.toNat 2)).length ≤ 2 := by rw [List.length_take]; exact Nat.min_le_left _ _
  have h4 := Nat.lt_of_lt_of_le h2 (Nat.pow_le_pow_right (by omega) h3)
  exact ⟨h1.1, rfl, by omega, by omega⟩
theorem takeText_ok {b : List (BitVec 8)} {p : Int} (h : (takeText b p).2.2 = 0) : 0 ≤ p ∧ p + 2 ≤ (takeText b p).2.1 ∧ (takeText b p).2.1 ≤ b.length ∧ (takeText b p).1.length ≤ 65535 := by
  obtain ⟨n, q, e, hn⟩ : ∃ n q e, takeNum b p 2 = (n, q, e) := ⟨_, _, _, rfl⟩
  by_cases he : e = 0
  · subst he
    have h2 := takeNum2 hn
    by_cases hs : (b.length : Int) - q < n
    · rw [takeText_short hn hs] at h; cases h
    · rw [takeText_good hn hs]
      refine ⟨h2.1, by simp only; omega, by simp only; omega, ?_⟩
      simp only
      rw [List.length_take]
      omega
  · rw [takeText_bad hn he] at h
    exact absurd h he
/-- What TakeText hands back, as values. -/
def TTSays (x : List (BitVec 8) × Int × Int) (w : World) (e : Ending) (w' : World) : Prop :=
  ∃ ao cap, e = .returned (.tuple #[.slice ao (bv x.1).length cap, .int .i64 x.2.1, .int .i64 x.2.2]) ∧ w'.ownsRow w.heap.size 5 1 (.slice ao (bv x.1).length cap) (bv x.1).length (bv x.1) ∧ Below w.heap.size w w'
theorem TTSays.none {x : List (BitVec 8) × Int × Int} {q e : Int} {w : World} (h : x = ([], q, e)) : TTSays x w (.returned (.tuple #[.slice none 0 0, .int .i64 q, .int .i64 e])) w := by
  subst h
  exact ⟨_, _, rfl, World.ownsRow_nil _ _ _ _, Below.refl _ _⟩
theorem TTSays.some {x : List (BitVec 8) × Int × Int} {t : List (BitVec 8)} {q e : Int} {ao : Option Addr} {n cap : Nat} {w w' : World} (h : x = (t, q, e)) (hn : n = (bv t).length) (ho : w'.ownsRow w.heap.size 5 1 (.slice ao (bv t).length cap) (bv t).length (bv t)) (hb : Below w.heap.size w w') :
    TTSays x w (.returned (.tuple #[.slice ao n cap, .int .i64 q, .int .i64 e])) w' := by
  subst h hn
  exact ⟨_, _, rfl, ho, hb⟩
set_option maxRecDepth 100000 in
set_option maxHeartbeats 1000000 in
theorem takeText_any (vb : Value) (b : List (BitVec 8)) (p : Int) (w : World) (hb : Rd w vb (bv b)) (hl : b.length ≤ 1099511627776) :
    Calls Tryd.prog 49 #[vb, .int .i64 p] w (TTSays (takeText b p) w) := by
  have HB := Lib.hid hb
  have HL := Lib.hid hl
  have hbl := bv_length b
  have HT := Lib.hid (takeNum_any vb b p 2 w hb hl)
  obtain ⟨ab, cb, rfl, -, -, -, -⟩ := hb
  rw [hbl] at HB HT ⊢
  clear hbl hl
  obtain ⟨n, q, e, hn⟩ : ∃ n q e, takeNum b p 2 = (n, q, e) := ⟨_, _, _, rfl⟩
  rw [hn] at HT
  have HN := Lib.hid hn
  clear hn
  unfold tnV at HT
  go_enter Tryd.func49, Tryd.ntmps49
  go_wp2_with fail
  refine HT.out.mono ?_
  rintro e' w' ⟨rfl, rfl⟩
  by_cases he : e = 0
  · subst he
    obtain ⟨h1, h2, h3, h4⟩ := takeNum2 HN.out
    have hl2 := HL.out
    by_cases hs : (b.length : Int) - q < n
    · have HE := Lib.hid (takeText_short HN.out hs)
      clear h2
      go_wp2_with fail
      go_ret3
      exact TTSays.none HE.out
    · have HE := Lib.hid (takeText_good HN.out hs)
      obtain ⟨r, rfl⟩ : ∃ r : Nat, q = (r : Int) := ⟨q.toNat, by omega⟩
      rw [Int.toNat_natCast] at HE
      obtain ⟨ax, hcut, hrd⟩ := cut_lh HB.out (show r + n ≤ b.length by omega) (r : Int) ((r : Int) + (n : Int)) rfl (by omega)
      have hsu : (bv ((b.drop r).take n)).length = n := by rw [bv_length, List.length_take, List.length_drop]; omega
      have HSu := Lib.hid hsu
      have hcl := clone_any _ _ w' hrd (bv_one _) (by rw [hsu]; omega)
      have HCl := Lib.hid hcl
      clear hrd hcl h2 hsu
      go_wp2_with fail
      refine HCl.out.mono ?_
      rintro e' w2 ⟨a2, c2, rfl, ho2, hb2⟩
      have HO2 := Lib.hid ho2
      have HB2 := Lib.hid hb2
      clear ho2 hb2
      go_wp2_with fail
      go_ret3
      exact TTSays.some HE.out rfl HO2.out HB2.out
  · have HE := Lib.hid (takeText_bad HN.out he)
    go_wp2_with fail
    go_ret3
    exact TTSays.none HE.out
set_option maxRecDepth 100000 in
set_option maxHeartbeats 1000000 in
theorem refTakeText_any (vb : Value) (b : List (BitVec 8)) (p : Int) (w : World) (hb : Rd w vb (bv b)) (hl : b.length ≤ 1099511627776) :
    Calls Tryd.prog 53 #[vb, .int .i64 p] w (TTSays (takeText b p) w) := by
  have HB := Lib.hid hb
  have HL := Lib.hid hl
  have hbl := bv_length b
  have HT := Lib.hid (refTakeNum_any vb b p 2 w hb hl)
  obtain ⟨ab, cb, rfl, -, -, -, -⟩ := hb
  rw [hbl] at HB HT ⊢
  clear hbl hl
  obtain ⟨n, q, e, hn⟩ : ∃ n q e, takeNum b p 2 = (n, q, e) := ⟨_, _, _, rfl⟩
  rw [hn] at HT
  have HN := Lib.hid hn
  clear hn
  unfold tnV at HT
  go_enter Tryd.func53, Tryd.ntmps53
  go_wp2_with fail
  refine HT.out.mono ?_
  rintro e' w' ⟨rfl, rfl⟩
  by_cases he : e = 0
  · subst he
    obtain ⟨h1, h2, h3, h4⟩ := takeNum2 HN.out
    have hl2 := HL.out
    by_cases hs : (b.length : Int) - q < n
    · have HE := Lib.hid (takeText_short HN.out hs)
      clear h2
      go_wp2_with fail
      go_ret3
      exact TTSays.none HE.out
    · have HE := Lib.hid (takeText_good HN.out hs)
      obtain ⟨r, rfl⟩ : ∃ r : Nat, q = (r : Int) := ⟨q.toNat, by omega⟩
      rw [Int.toNat_natCast] at HE
      obtain ⟨ax, hcut, hrd⟩ := cut_lh HB.out (show r + n ≤ b.length by omega) (r : Int) ((r : Int) + (n : Int)) rfl (by omega)
      have hsu : (bv ((b.drop r).take n)).length = n := by rw [bv_length, List.length_take, List.length_drop]; omega
      have HSu := Lib.hid hsu
      have hcl := copy_any _ _ w' hrd (by rw [← bv_length, hsu]; omega)
      have HCl := Lib.hid hcl
      clear hrd hcl h2 hsu
      go_wp2_with fail
      refine HCl.out.mono ?_
      rintro e' w2 ⟨a2, c2, rfl, ho2, hb2⟩
      have HO2 := Lib.hid ho2
      have HB2 := Lib.hid hb2
      clear ho2 hb2
      go_wp2_with fail
      go_ret3
      exact TTSays.some HE.out rfl HO2.out HB2.out
  · have HE := Lib.hid (takeText_bad HN.out he)
    go_wp2_with fail
    go_ret3
    exact TTSays.none HE.out
def textsGo (b : List (BitVec 8)) : Nat → Int → List (List (BitVec 8)) × Int × Int
  | 0, p => ([], p, 0)
  | k + 1, p => if (takeText b p).2.2 ≠ 0 then ([], 0, (takeText b p).2.2) else
      if (textsGo b k (takeText b p).2.1).2.2 ≠ 0 then ([], 0, (textsGo b k (takeText b p).2.1).2.2) else ((takeText b p).1 :: (textsGo b k (takeText b p).2.1).1, (textsGo b k (takeText b p).2.1).2.1, 0)
theorem textsGo_cons {b : List (BitVec 8)} {k : Nat} {p : Int} {t : List (BitVec 8)} {q : Int} {l : List (List (BitVec 8))} {r : Int} (h : takeText b p = (t, q, 0)) (h2 : textsGo b k q = (l, r, 0)) : textsGo b (k + 1) p = (t :: l, r, 0) := by
  unfold textsGo; rw [h, if_neg (by simp), h2, if_neg (by simp)]
theorem textsGo_bad1 {b : List (BitVec 8)} {k : Nat} {p : Int} {t : List (BitVec 8)} {q e : Int} (h : takeText b p = (t, q, e)) (he : e ≠ 0) : textsGo b (k + 1) p = ([], 0, e) := by
  unfold textsGo; rw [h, if_pos he]
theorem textsGo_bad2 {b : List (BitVec 8)} {k : Nat} {p : Int} {t : List (BitVec 8)} {q : Int} {l : List (List (BitVec 8))} {r e : Int} (h : takeText b p = (t, q, 0)) (h2 : textsGo b k q = (l, r, e)) (he : e ≠ 0) : textsGo b (k + 1) p = ([], 0, e) := by
  unfold textsGo; rw [h, if_neg (by simp), h2, if_pos he]
theorem textsGo_split {b : List (BitVec 8)} {k : Nat} {p : Int} {l : List (List (BitVec 8))} {r : Int} (h : textsGo b (k + 1) p = (l, r, 0)) : ∃ t q m, takeText b p = (t, q, 0) ∧ textsGo b k q = (m, r, 0) ∧ l = t :: m := by
  obtain ⟨t, q, e, h1⟩ : ∃ t q e, takeText b p = (t, q, e) := ⟨_, _, _, rfl⟩
  by_cases he : e = 0
  · subst he
    obtain ⟨m, r2, f, h2⟩ : ∃ m r2 f, textsGo b k q = (m, r2, f) := ⟨_, _, _, rfl⟩
    by_cases hf : f = 0
    · subst hf
      rw [textsGo_cons h1 h2] at h
      simp only [Prod.mk.injEq, and_true] at h
      obtain ⟨rfl, rfl⟩ := h
      exact ⟨t, q, m, h1, h2, rfl⟩
    · rw [textsGo_bad2 h1 h2 hf] at h
      simp only [Prod.mk.injEq] at h
      exact absurd h.2.2 hf
  · rw [textsGo_bad1 h1 he] at h
    simp only [Prod.mk.injEq] at h
    exact absurd h.2.2 he
theorem textsGo_snoc {b : List (BitVec 8)} : ∀ (i : Nat) {p : Int} {l : List (List (BitVec 8))} {q : Int} {t : List (BitVec 8)} {r : Int}, textsGo b i p = (l, q, 0) → takeText b q = (t, r, 0) → textsGo b (i + 1) p = (l ++ [t], r, 0)
  | 0, p, l, q, t, r, h, h2 => by
    simp only [textsGo, Prod.mk.injEq, and_true] at h
    obtain ⟨rfl, rfl⟩ := h
    exact textsGo_cons h2 rfl
  | i + 1, p, l, q, t, r, h, h2 => by
    obtain ⟨s, q1, m, h3, h4, rfl⟩ := textsGo_split h
    exact textsGo_cons h3 (textsGo_snoc i h4 h2)
theorem textsGo_fail {b : List (BitVec 8)} (k : Nat) : ∀ (i : Nat) {p : Int} {l : List (List (BitVec 8))} {q : Int} {t : List (BitVec 8)} {r e : Int}, textsGo b i p = (l, q, 0) → takeText b q = (t, r, e) → e ≠ 0 → textsGo b (i + (k + 1)) p = ([], 0, e)
  | 0, p, l, q, t, r, e, h, h2, he => by
    simp only [textsGo, Prod.mk.injEq, and_true] at h
    obtain ⟨rfl, rfl⟩ := h
    rw [Nat.zero_add]
    exact textsGo_bad1 h2 he
  | i + 1, p, l, q, t, r, e, h, h2, he => by
    obtain ⟨s, q1, m, h3, h4, rfl⟩ := textsGo_split h
    rw [show i + 1 + (k + 1) = (i + (k + 1)) + 1 by omega]
    exact textsGo_bad2 h3 (textsGo_fail k i h4 h2 he) he
theorem textsGo_len {b : List (BitVec 8)} : ∀ (i : Nat) {p : Int} {l : List (List (BitVec 8))} {q : Int}, textsGo b i p = (l, q, 0) → l.length = i
  | 0, p, l, q, h => by
    simp only [textsGo, Prod.mk.injEq, and_true] at h
    obtain ⟨rfl, rfl⟩ := h
    rfl
  | i + 1, p, l, q, h => by
    obtain ⟨s, q1, m, h3, h4, rfl⟩ := textsGo_split h
    rw [List.length_cons, textsGo_len i h4]
/-- What Texts hands back. -/
def texts (b : List (BitVec 8)) (p many : Int) : List (List (BitVec 8)) × Int × Int := if many < 0 ∨ p < 0 ∨ (b.length : Int) < p then ([], 0, 1) else textsGo b many.toNat p
def TXSays (x : List (List (BitVec 8)) × Int × Int) (w : World) (e : Ending) (w' : World) : Prop :=
  ∃ ao cap, e = .returned (.tuple #[.slice ao x.1.length cap, .int .i64 x.2.1, .int .i64 x.2.2]) ∧ RdAll w' (.slice ao x.1.length cap) x.1 ∧ Below w.heap.size w w'
theorem TXSays.none {x : List (List (BitVec 8)) × Int × Int} {q e : Int} {w w' : World} (h : x = ([], q, e)) (hb : Below w.heap.size w w') : TXSays x w (.returned (.tuple #[.slice none 0 0, .int .i64 q, .int .i64 e])) w' := by
  subst h
  exact ⟨_, _, rfl, RdAll.nil _, hb⟩
/-- Texts, each a row of its own; the slice of them too. -/
def OwnT (B : Nat) (v : Value) (l : List (List (BitVec 8))) (w : World) : Prop :=
  ∃ vs, w.ownsRow B 25 1 v vs.length vs ∧ vs.length = l.length ∧ ∀ j u, vs[j]? = some u → w.ownsRow B 5 1 u (bv (txt l j)).length (bv (txt l j))
theorem own_ne {w : World} {B1 B2 e1 e2 n1 n2 : Nat} {v1 v2 : Value} {x1 x2 : List Value} (h1 : w.ownsRow B1 e1 1 v1 n1 x1) (h2 : w.ownsRow B2 e2 1 v2 n2 x2) (he : e1 ≠ e2) : v1.ownBlock = none ∨ v1.ownBlock ≠ v2.ownBlock := by
  rcases h1.2 with ⟨rfl, -⟩ | ⟨g1, c1, k1, rfl, -, q1, -⟩
  · exact .inl rfl
  · refine .inr ?_
    rcases h2.2 with ⟨rfl, -⟩ | ⟨g2, c2, k2, rfl, -, q2, -⟩
    · simp [Value.ownBlock]
    · simp only [Value.ownBlock, ne_eq, Option.some.injEq]
      intro h
      subst h
      rw [q1] at q2
      simp only [Option.some.injEq, Obj.cells.injEq] at q2
      exact he q2.2.1
theorem OwnT.below {B : Nat} {v : Value} {l : List (List (BitVec 8))} {w w' : World} (h : OwnT B v l w) (hb : Aft w w') : OwnT B v l w' := by
  obtain ⟨vs, h1, h2, h3⟩ := h
  exact ⟨vs, ownsRow_below h1 (fun g hg => Below.block hb g (own_lt h1 hg).2), h2, fun j u hu => ownsRow_below (h3 j u hu) (fun g hg => Below.block hb g (own_lt (h3 j u hu) hg).2)⟩
theorem OwnT.all {B : Nat} {v : Value} {l : List (List (BitVec 8))} {w : World} (h : OwnT B v l w) : RdAll w v l := by
  obtain ⟨vs, h1, h2, h3⟩ := h
  exact ⟨vs, Rd.of_own h1, h2, fun i u hu => Rd.of_own (h3 i u hu)⟩
theorem OwnT.nil (B : Nat) (w : World) : OwnT B (.slice none 0 0) [] w := ⟨[], World.ownsRow_nil _ _ _ _, rfl, fun j u hu => by simp at hu⟩
theorem OwnT.shape {B : Nat} {v : Value} {l : List (List (BitVec 8))} {w : World} (h : OwnT B v l w) : ∃ a c, v = .slice a l.length c := by
  obtain ⟨vs, h1, h2, -⟩ := h
  obtain ⟨a, c, rfl⟩ := own_shape h1
  exact ⟨a, c, by rw [h2]⟩
theorem txt_snoc (l : List (List (BitVec 8))) (t : List (BitVec 8)) (j : Nat) : txt (l ++ [t]) j = if j < l.length then txt l j else if j = l.length then t else [] := by
  unfold txt
  rw [List.getD_eq_getElem?_getD, List.getD_eq_getElem?_getD]
  by_cases h : j < l.length
  · rw [if_pos h, List.getElem?_append_left h]
  · rw [if_neg h, List.getElem?_append_right (by omega)]
    by_cases h2 : j = l.length
    · rw [if_pos h2, h2, Nat.sub_self]; rfl
    · rw [if_neg h2, List.getElem?_eq_none (by simp; omega)]; rfl
theorem OwnT.snoc {B : Nat} {v v' u : Value} {l : List (List (BitVec 8))} {t : List (BitVec 8)} {vs : List Value} {w w' : World} (h1 : w.ownsRow B 25 1 v vs.length vs) (h2 : vs.length = l.length) (h3 : ∀ j u, vs[j]? = some u → w.ownsRow B 5 1 u (bv (txt l j)).length (bv (txt l j)))
    (hu : w.ownsRow B 5 1 u (bv t).length (bv t)) (hn : w'.ownsRow B 25 1 v' (vs ++ [u]).length (vs ++ [u])) (hg : w.grownBy w' v.ownBlock) : OwnT B v' (l ++ [t]) w' := by
  have hne : (5 : Nat) ≠ 25 := by decide
  refine ⟨vs ++ [u], hn, by simp [h2], fun j x hx => ?_⟩
  rw [txt_snoc]
  by_cases hj : j < vs.length
  · rw [List.getElem?_append_left hj] at hx
    rw [if_pos (by omega)]
    exact (h3 j x hx).kept hg (own_ne (h3 j x hx) h1 hne)
  · rw [List.getElem?_append_right (by omega)] at hx
    have hj2 : j = vs.length := by
      have := (List.getElem?_eq_some_iff.1 hx).1
      simp at this
      omega
    subst hj2
    rw [Nat.sub_self] at hx
    cases hx
    rw [if_neg (by omega), if_pos h2]
    exact hu.kept hg (own_ne hu h1 hne)
end Go.Proofs.YtifehfcgmodmaaaDoor
