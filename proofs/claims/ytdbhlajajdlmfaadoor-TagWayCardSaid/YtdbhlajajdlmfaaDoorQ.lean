import Derived.Test.YtdbhlajajdlmfaaDoorB5
import Derived.Deep.Cut
import Derived.Test.YtdbhlajajdlmfaaDoorB3
import Derived.OwnWalk
/- A leaf's way up: the plain function; the closure of red.path, slices.IndexFunc at nodes. -/
namespace Go.Proofs.YtdbhlajajdlmfaaDoor
open Go Go.RowKit
set_option linter.unusedSimpArgs false
/-- Each node but the last has its way up behind it; the last none. -/
def UpOk (b : Nat) (S : List Nd) : Prop := (∀ i, i + 1 < S.length → ∃ j : Nat, (S.getD i nd0).up = ((b + j : Nat) : Int) ∧ i < j ∧ j < S.length) ∧ (lastN S).up = -1
theorem getD_app_left {A B : List Nd} {i : Nat} (h : i < A.length) : (A ++ B).getD i nd0 = A.getD i nd0 := by
  rw [List.getD_eq_getElem?_getD, List.getElem?_append_left h, ← List.getD_eq_getElem?_getD]
theorem getD_app_right {A B : List Nd} {i : Nat} (h : A.length ≤ i) : (A ++ B).getD i nd0 = B.getD (i - A.length) nd0 := by
  rw [List.getD_eq_getElem?_getD, List.getElem?_append_right h, ← List.getD_eq_getElem?_getD]
/-- All ways up of a part lie inside, or are the given one. -/
def UpIn (b n : Nat) (S : List Nd) : Prop := ∀ i, i < S.length → ∃ j : Nat, (S.getD i nd0).up = (j : Int) ∧ b + i < j ∧ j ≤ n
theorem upL_in {b n : Nat} {A : List Nd} (h : UpOk b A) (hA : 0 < A.length) (hn : b + A.length ≤ n) : UpIn b n (upL A (n : Int)) := by
  intro i hi
  rw [upL_length] at hi
  unfold upL
  by_cases e : i = A.length - 1
  · subst e
    rw [List.getD_eq_getElem?_getD, List.getElem?_set_self (by omega)]
    exact ⟨n, rfl, by omega, Nat.le_refl _⟩
  · rw [List.getD_eq_getElem?_getD, List.getElem?_set_ne (by omega), ← List.getD_eq_getElem?_getD]
    obtain ⟨j, h1, h2, h3⟩ := h.1 i (by omega)
    exact ⟨b + j, h1, by omega, by omega⟩
theorem UpIn.app {b n : Nat} {A B : List Nd} (hA : UpIn b n A) (hB : UpIn (b + A.length) n B) : UpIn b n (A ++ B) := by
  intro i hi
  rw [List.length_append] at hi
  by_cases h : i < A.length
  · rw [getD_app_left h]
    exact hA i h
  · rw [getD_app_right (by omega)]
    obtain ⟨j, h1, h2, h3⟩ := hB (i - A.length) (by omega)
    exact ⟨j, h1, by omega, h3⟩
theorem UpIn.le {b n m : Nat} {A : List Nd} (hA : UpIn b n A) (h : n ≤ m) : UpIn b m A := fun i hi => by
  obtain ⟨j, h1, h2, h3⟩ := hA i hi
  exact ⟨j, h1, h2, by omega⟩
theorem UpIn.ok {b : Nat} {A : List Nd} {x : Nd} (hA : UpIn b (b + A.length) A) (hx : x.up = -1) : UpOk b (A ++ [x]) := by
  refine ⟨fun i hi => ?_, by rw [lastN_snoc]; exact hx⟩
  rw [List.length_append, List.length_singleton] at hi
  rw [getD_app_left (by omega)]
  obtain ⟨j, h1, h2, h3⟩ := hA i (by omega)
  refine ⟨j - b, ?_, by omega, by rw [List.length_append, List.length_singleton]; omega⟩
  rw [h1, show b + (j - b) = j by omega]
theorem seg_up (kind : Int) (ls : List (List Int)) : ∀ (L at' b : Nat), UpOk b (seg kind ls L at' b)
  | 0, at', b => ⟨fun i hi => by simp [seg] at hi, rfl⟩
  | L + 1, at', b => by
    have hA := seg_pos kind ls L (fstN ls L at') b
    have hB := seg_pos kind ls L (fstN ls L at' + 1) (b + (seg kind ls L (fstN ls L at') b).length)
    have uA := seg_up kind ls L (fstN ls L at') b
    have uB := seg_up kind ls L (fstN ls L at' + 1) (b + (seg kind ls L (fstN ls L at') b).length)
    by_cases h2 : (ls.getD L []).getD at' 0 = 2
    · simp only [seg]
      rw [if_pos h2]
      generalize seg kind ls L (fstN ls L at') b = A at *
      generalize seg kind ls L (fstN ls L at' + 1) (b + A.length) = B at *
      rw [← List.append_assoc]
      refine UpIn.ok ?_ rfl
      have e : b + (upL A ((b + A.length + B.length : Nat) : Int) ++ upL B ((b + A.length + B.length : Nat) : Int)).length = b + A.length + B.length := by rw [List.length_append, upL_length, upL_length]; omega
      rw [e]
      exact (upL_in uA hA (by omega)).app (by rw [upL_length]; exact upL_in uB hB (Nat.le_refl _))
    · by_cases hk : kind = 1
      · have hC := seg_pos kind ls L (fstN ls L at' + 2) (b + (seg kind ls L (fstN ls L at') b).length + (seg kind ls L (fstN ls L at' + 1) (b + (seg kind ls L (fstN ls L at') b).length)).length)
        have uC := seg_up kind ls L (fstN ls L at' + 2) (b + (seg kind ls L (fstN ls L at') b).length + (seg kind ls L (fstN ls L at' + 1) (b + (seg kind ls L (fstN ls L at') b).length)).length)
        simp only [seg]
        rw [if_neg h2, if_pos hk]
        generalize seg kind ls L (fstN ls L at') b = A at *
        generalize seg kind ls L (fstN ls L at' + 1) (b + A.length) = B at *
        generalize seg kind ls L (fstN ls L at' + 2) (b + A.length + B.length) = C at *
        rw [← List.append_assoc, ← List.append_assoc]
        refine UpIn.ok ?_ rfl
        have e : b + ((upL A ((b + A.length + B.length + C.length : Nat) : Int) ++ upL B ((b + A.length + B.length + C.length : Nat) : Int)) ++ upL C ((b + A.length + B.length + C.length : Nat) : Int)).length = b + A.length + B.length + C.length := by simp only [List.length_append, upL_length]; omega
        rw [e]
        refine UpIn.app ((upL_in uA hA (by omega)).app (by rw [upL_length]; exact upL_in uB hB (by omega))) ?_
        rw [List.length_append, upL_length, upL_length, ← Nat.add_assoc]
        exact upL_in uC hC (Nat.le_refl _)
      · have hC := seg_pos kind ls L (fstN ls L at' + 2) (b + (seg kind ls L (fstN ls L at') b).length + (seg kind ls L (fstN ls L at' + 1) (b + (seg kind ls L (fstN ls L at') b).length)).length + 1)
        have uC := seg_up kind ls L (fstN ls L at' + 2) (b + (seg kind ls L (fstN ls L at') b).length + (seg kind ls L (fstN ls L at' + 1) (b + (seg kind ls L (fstN ls L at') b).length)).length + 1)
        rw [seg_red h2 hk]
        simp only []
        generalize seg kind ls L (fstN ls L at') b = A at *
        generalize seg kind ls L (fstN ls L at' + 1) (b + A.length) = B at *
        generalize seg kind ls L (fstN ls L at' + 2) (b + A.length + B.length + 1) = C at *
        generalize ndN (L + 1) at' true (loN ls (L + 1) at') (loN ls L (fstN ls L at' + 2)) [b + A.length - 1, b + A.length + B.length - 1] = r at *
        generalize hz : ndN (L + 1) at' false (loN ls (L + 1) at') (loN ls (L + 1) (at' + 1)) [b + A.length + B.length, b + A.length + B.length + 1 + C.length - 1] = z at *
        have ez : z.up = -1 := by subst hz; rfl
        generalize hr : ({ r with up := ((b + A.length + B.length + 1 + C.length : Nat) : Int) } : Nd) = r2 at *
        have er : r2.up = ((b + A.length + B.length + 1 + C.length : Nat) : Int) := by subst hr; rfl
        have e0 : upL A ((b + A.length + B.length : Nat) : Int) ++ (upL B ((b + A.length + B.length : Nat) : Int) ++ r2 :: (upL C ((b + A.length + B.length + 1 + C.length : Nat) : Int) ++ [z])) = ((upL A ((b + A.length + B.length : Nat) : Int) ++ upL B ((b + A.length + B.length : Nat) : Int)) ++ ([r2] ++ upL C ((b + A.length + B.length + 1 + C.length : Nat) : Int))) ++ [z] := by simp only [List.append_assoc, List.cons_append, List.nil_append]
        rw [e0]
        refine UpIn.ok ?_ ez
        have e : b + ((upL A ((b + A.length + B.length : Nat) : Int) ++ upL B ((b + A.length + B.length : Nat) : Int)) ++ ([r2] ++ upL C ((b + A.length + B.length + 1 + C.length : Nat) : Int))).length = b + A.length + B.length + 1 + C.length := by simp only [List.length_append, upL_length, List.length_cons, List.length_nil]; omega
        rw [e]
        refine UpIn.app (((upL_in uA hA (by omega)).app (by rw [upL_length]; exact upL_in uB hB (Nat.le_refl _))).le (by omega)) ?_
        rw [List.length_append, upL_length, upL_length, ← Nat.add_assoc]
        refine UpIn.app (A := [r2]) (fun i hi => ?_) ?_
        · have hi0 : i = 0 := by simp at hi; omega
          subst hi0
          exact ⟨_, er, by omega, Nat.le_refl _⟩
        · exact upL_in uC hC (Nat.le_refl _)
end Go.Proofs.YtdbhlajajdlmfaaDoor
/- red.path: a leaf's way up. -/
namespace Go.Proofs.YtdbhlajajdlmfaaDoor
open Go Go.RowKit
set_option linter.unusedSimpArgs false

def isLeaf (at' : Int) (x : Nd) : Bool := x.lv == 0 && x.ix == at'
/-- Where the first one is of which it is told; none: -1. -/
def leafI (at' : Int) (N : List Nd) : Int := match N.findIdx? (isLeaf at') with
  | some i => (i : Int)
  | none => -1
set_option maxRecDepth 100000 in
set_option maxHeartbeats 1000000 in
theorem isLeaf_any (x : Nd) (kx : Value) (at' : Int) (pb : Nat) (w : World) (hx : Rd w kx (zv x.ks)) (hp : ∀ wx, Aft w wx → wx.cell? ⟨pb, 0, none⟩ = some (.int .i64 at')) :
    Calls Tryd.prog 71 #[.agg (ndR x kx).toArray, .pointer (some ⟨pb, 0, none⟩)] w fun e w' => e = .returned (.bool (isLeaf at' x)) ∧ Aft w w' := by
  obtain ⟨ka, kc, rfl, -, -⟩ := hx.numS
  have HP := Lib.hid hp
  have HL := Lib.hid (Led.start w)
  clear hx hp
  by_cases h0 : x.lv = 0
  · have h0b := Lib.hid h0
    by_cases h1 : x.ix = at'
    · have h1b := Lib.hid h1
      have HE := Lib.hid (show isLeaf at' x = true by simp [isLeaf, h0, h1])
      clear h0 h1
      go_enter Tryd.func71, Tryd.ntmps71
      go_wp2_with (first | (refine wpList_boxO rfl 68 (.tmp 0) rfl (.agg (ndR x (.slice ka x.ks.length kc)).toArray) rfl (.cells (ndR x (.slice ka x.ks.length kc)).toArray 68) (box_nd _) ?_; intro w' aa gg zz; (try replace HO := Lib.hid (HO.out.aft aa)); (try replace HO2 := Lib.hid (HO2.out.aft aa)); (try replace HOK := Lib.hid (HOK.out.aft aa)); (try replace HO3 := Lib.hid (HO3.out.aft aa)); (try replace HO4 := Lib.hid (HO4.out.aft aa)); (try replace HO5 := Lib.hid (HO5.out.aft aa)); replace HL := Lib.hid (HL.out.alloc aa gg.out); clear aa gg zz; try simp only [List.nil_append, List.cons_append, List.set_cons_zero, List.set_cons_succ] at HL; have c0 := cell_part (n := 0) (HL.out.get 0 rfl) rfl; rw [h0b.out] at c0; have c1 := cell_part (n := 1) (HL.out.get 0 rfl) rfl; rw [h1b.out] at c1; have cp := HP.out _ HL.out.aft))
      go_ret
      exact ⟨by rw [HE.out]; rfl, HL.out.aft⟩
    · have hb : (x.ix == at') = false := by simp [h1]
      have HE := Lib.hid (show isLeaf at' x = false by simp [isLeaf, h1])
      clear h0 h1
      go_enter Tryd.func71, Tryd.ntmps71
      go_wp2_with (first | (refine wpList_boxO rfl 68 (.tmp 0) rfl (.agg (ndR x (.slice ka x.ks.length kc)).toArray) rfl (.cells (ndR x (.slice ka x.ks.length kc)).toArray 68) (box_nd _) ?_; intro w' aa gg zz; (try replace HO := Lib.hid (HO.out.aft aa)); (try replace HO2 := Lib.hid (HO2.out.aft aa)); (try replace HOK := Lib.hid (HOK.out.aft aa)); (try replace HO3 := Lib.hid (HO3.out.aft aa)); (try replace HO4 := Lib.hid (HO4.out.aft aa)); (try replace HO5 := Lib.hid (HO5.out.aft aa)); replace HL := Lib.hid (HL.out.alloc aa gg.out); clear aa gg zz; try simp only [List.nil_append, List.cons_append, List.set_cons_zero, List.set_cons_succ] at HL; have c0 := cell_part (n := 0) (HL.out.get 0 rfl) rfl; rw [h0b.out] at c0; have c1 := cell_part (n := 1) (HL.out.get 0 rfl) rfl; have cp := HP.out _ HL.out.aft))
      go_ret
      exact ⟨by rw [HE.out]; rfl, HL.out.aft⟩
  · have hb : (x.lv == 0) = false := by simp [h0]
    have HE := Lib.hid (show isLeaf at' x = false by simp [isLeaf, h0])
    clear h0
    go_enter Tryd.func71, Tryd.ntmps71
    go_wp2_with (first | (refine wpList_boxO rfl 68 (.tmp 0) rfl (.agg (ndR x (.slice ka x.ks.length kc)).toArray) rfl (.cells (ndR x (.slice ka x.ks.length kc)).toArray 68) (box_nd _) ?_; intro w' aa gg zz; (try replace HO := Lib.hid (HO.out.aft aa)); (try replace HO2 := Lib.hid (HO2.out.aft aa)); (try replace HOK := Lib.hid (HOK.out.aft aa)); (try replace HO3 := Lib.hid (HO3.out.aft aa)); (try replace HO4 := Lib.hid (HO4.out.aft aa)); (try replace HO5 := Lib.hid (HO5.out.aft aa)); replace HL := Lib.hid (HL.out.alloc aa gg.out); clear aa gg zz; try simp only [List.nil_append, List.cons_append, List.set_cons_zero, List.set_cons_succ] at HL; have c0 := cell_part (n := 0) (HL.out.get 0 rfl) rfl))
    go_ret
    exact ⟨by rw [HE.out]; rfl, HL.out.aft⟩
theorem findIdx_at {N : List Nd} {p : Nd → Bool} {i : Nat} (hi : i < N.length) (hn : ∀ j, j < i → p (N.getD j nd0) = false) (hp : p (N.getD i nd0) = true) : N.findIdx? p = some i := by
  rw [List.findIdx?_eq_some_iff_getElem]
  refine ⟨hi, ?_, fun j hj => ?_⟩
  · rw [List.getD_eq_getElem?_getD, List.getElem?_eq_getElem hi] at hp
    exact hp
  · have := hn j hj
    rw [List.getD_eq_getElem?_getD, List.getElem?_eq_getElem (by omega)] at this
    simpa using this
theorem findIdx_none {N : List Nd} {p : Nd → Bool} (hn : ∀ j, j < N.length → p (N.getD j nd0) = false) : N.findIdx? p = none := by
  rw [List.findIdx?_eq_none_iff]
  intro x hx
  obtain ⟨j, hj, rfl⟩ := List.getElem_of_mem hx
  have := hn j hj
  rw [List.getD_eq_getElem?_getD, List.getElem?_eq_getElem hj] at this
  exact this
set_option maxRecDepth 100000 in
set_option maxHeartbeats 1000000 in
theorem leafI_any (v : Value) (ps : List (Nd × Value)) (at' : Int) (pb : Nat) (w : World) (hx : RdN w v ps) (hp : ∀ wx, Aft w wx → wx.cell? ⟨pb, 0, none⟩ = some (.int .i64 at')) (hn : ps.length ≤ 1000000) :
    Calls Tryd.prog 35 #[v, .func (.func 71) #[] #[.pointer (some ⟨pb, 0, none⟩)]] w fun e w' => e = .returned (.int .i64 (leafI at' (ps.map Prod.fst))) ∧ Aft w w' := by
  have HX := Lib.hid hx
  have HP := Lib.hid hp
  have HN := Lib.hid hn
  obtain ⟨ao, cap, rfl, -, -⟩ := hx.shape
  obtain ⟨bq, hbq⟩ : ∃ bq, bq = leafI at' (ps.map Prod.fst) := ⟨_, rfl⟩
  have HB := Lib.hid hbq
  have HLn := Lib.hid (show (ps.map Prod.fst).length = ps.length from List.length_map _)
  have HG := Lib.hid (fun k => fst_getD ps k)
  rw [← hbq]
  clear hx hp hbq hn
  go_enter Tryd.func35, Tryd.ntmps35
  go_wp2_with fail
  go_loopw [8] (fun v8 wr => ∃ i : Nat, i ≤ ps.length ∧ v8 = .int .i64 (i : Int) ∧ (∀ j, j < i → isLeaf at' ((ps.map Prod.fst).getD j nd0) = false) ∧ Aft w wr) (fun v8 _ => ps.length - (intOf v8).toNat)
  case atStart => exact ⟨0, by omega, rfl, fun j hj => absurd hj (Nat.not_lt_zero _), Aft.refl _⟩
  case round =>
    obtain ⟨i, hi, rfl, hsm, hA⟩ := hrel
    have HA := Lib.hid hA
    have HSm := Lib.hid hsm
    have hn6 := HN.out
    clear hA hsm
    by_cases hlt : i < ps.length
    · have hlt' : (i : Int) < (ps.length : Nat) := by omega
      obtain ⟨b1, o1, c1, he, hrx⟩ := HX.out.rng hlt
      injection he with he1 he2 he3
      subst he1 he3
      have hkx := HX.out.mem hlt
      have hxg := HG.out i
      have HRx := Lib.hid (hrx wr HA.out)
      generalize ps.getD i ndP = p at *
      obtain ⟨x, kx⟩ := p
      dsimp only at HRx hkx hxg
      have HIs := Lib.hid (isLeaf_any x kx at' pb wr (hkx.grow HA.out) (fun wx hw => HP.out wx (Aft.trans HA.out hw)))
      obtain ⟨ka, kc, rfl, -, -⟩ := hkx.numS
      have HXg := Lib.hid hxg
      clear he2 hrx hkx hxg
      go_wp2_with (first | (refine wpList_dstT 15 rfl ?_; refine wpList_load_mid2 (by kernel_rfl) 68 (.tmp 14) rfl _ _ rfl (ndR x (.slice ka x.ks.length kc)) HRx.out _ Tryd.underlying68 rfl (nd_info2 _ _) ?_))
      refine HIs.out.mono ?_
      rintro e w2 ⟨rfl, h2⟩
      replace HA := Lib.hid (Aft.trans HA.out h2)
      clear h2
      cases hl : isLeaf at' x with
      | true =>
        have HR := Lib.hid (show bq = (i : Int) by
          rw [HB.out]
          unfold leafI
          rw [findIdx_at (by rw [HLn.out]; exact hlt) HSm.out (by rw [HXg.out]; exact hl)])
        clear hl
        go_wp2_with fail
        go_ret
        exact ⟨by rw [HR.out]; rfl, HA.out⟩
      | false =>
        have Hl := Lib.hid hl
        clear hl
        go_wp2_with fail
        go_roundw
        case rel =>
          refine ⟨i + 1, by omega, by go_num, fun j hj => ?_, HA.out⟩
          by_cases hji : j = i
          · subst hji
            rw [HXg.out]
            exact Hl.out
          · exact HSm.out j (by omega)
        case measure => simp [intOf]; omega
    · obtain rfl : i = ps.length := by omega
      have hlt' : ¬ ((ps.length : Nat) : Int) < (ps.length : Nat) := by omega
      have HR := Lib.hid (show bq = -1 by
        rw [HB.out]
        unfold leafI
        rw [findIdx_none fun j hj => HSm.out j (by rw [← HLn.out]; exact hj)])
      go_wp2_with fail
      go_ret
      exact ⟨by rw [HR.out]; rfl, HA.out⟩
end Go.Proofs.YtdbhlajajdlmfaaDoor
/- red.path walked. -/
namespace Go.Proofs.YtdbhlajajdlmfaaDoor
open Go Go.RowKit
set_option linter.unusedSimpArgs false

/-- The way up from a node. -/
def wayN (N : List Nd) : Nat → Int → List Int
  | 0, _ => []
  | f + 1, i => if i < 0 then [] else i :: wayN N f (N.getD i.toNat nd0).up
theorem wayN_neg (N : List Nd) (f : Nat) : wayN N f (-1) = [] := by
  cases f with
  | zero => rfl
  | succ f => exact if_pos (by decide)
theorem wayN_pos (N : List Nd) (f k : Nat) : wayN N (f + 1) (k : Int) = (k : Int) :: wayN N f (N.getD k nd0).up := if_neg (by omega)
theorem nodes_up {kind : Int} {ids : List Int} {ls : List (List Int)} (hok : OkT ids ls) {i : Nat} (hi : i < (nodesL kind ids ls).length) : ((nodesL kind ids ls).getD i nd0).up = -1 ∨ ∃ j : Nat, ((nodesL kind ids ls).getD i nd0).up = (j : Int) ∧ i < j ∧ j < (nodesL kind ids ls).length := by
  by_cases hz : ids.length = 0
  · unfold nodesL at hi
    rw [if_pos hz] at hi
    simp at hi
  · rw [nodes_seg hok hz] at hi ⊢
    have hu := seg_up kind ls ls.length 0 0
    by_cases e : i + 1 < (seg kind ls ls.length 0 0).length
    · obtain ⟨j, h1, h2, h3⟩ := hu.1 i e
      rw [Nat.zero_add] at h1
      exact .inr ⟨j, h1, h2, h3⟩
    · refine .inl ?_
      have : i = (seg kind ls ls.length 0 0).length - 1 := by omega
      rw [this]
      exact hu.2
theorem leafI_lt (at' : Int) (N : List Nd) : leafI at' N = -1 ∨ ∃ k : Nat, leafI at' N = (k : Int) ∧ k < N.length := by
  unfold leafI
  cases h : N.findIdx? (isLeaf at') with
  | none => exact .inl rfl
  | some k =>
    rw [List.findIdx?_eq_some_iff_getElem] at h
    exact .inr ⟨k, rfl, h.1⟩
def rpathE (kind : Int) (ids : List Int) (ls : List (List Int)) (id : Int) : Int := if mayE kind ids ls = 0 then (if id ∈ ids then 0 else 6) else 1
def rpathW (kind : Int) (ids : List Int) (ls : List (List Int)) (id : Int) : List Int := if rpathE kind ids ls id = 0 then wayN (nodesL kind ids ls) (nodesL kind ids ls).length (leafI (cnt ids id : Nat) (nodesL kind ids ls)) else []
def rpathN (kind : Int) (ids : List Int) (ls : List (List Int)) (id : Int) : List Nd := if rpathE kind ids ls id = 0 then nodesL kind ids ls else []
def PathSays (kind : Int) (ids : List Int) (ls : List (List Int)) (id : Int) (w : World) (e : Ending) (w' : World) : Prop :=
  ∃ vw va ps, e = .returned (.tuple #[vw, va, .int .i64 (rpathE kind ids ls id)]) ∧ OwnI w' w.heap.size vw (rpathW kind ids ls id) ∧ OwnN w' w.heap.size va ps ∧ ps.map Prod.fst = rpathN kind ids ls id ∧ Aft w w'
def wayMu (n : Nat) (v : Value) : Nat := if intOf v < 0 then 0 else n - (intOf v).toNat
theorem wayMu_neg (n : Nat) : wayMu n (.int .i64 (-1)) = 0 := rfl
theorem wayMu_nat (n k : Nat) : wayMu n (.int .i64 (k : Int)) = n - k := by
  unfold wayMu
  rw [if_neg (show ¬ intOf (.int .i64 (k : Int)) < 0 from by show ¬ (k : Int) < 0; omega)]
  rfl
theorem alloc_int1 (w : World) : (Instr.alloc 3 true (.tuple #[])).run Tryd.prog w = .ok (.pointer (some ⟨w.heap.size, 0, none⟩)) (w.alloc (.cells [.int .i64 0].toArray 3)) := by kernel_rfl
set_option maxRecDepth 100000 in
set_option maxHeartbeats 2000000 in
theorem path_any (kind : Int) (vi vl : Value) (ids : List Int) (ls : List (List Int)) (id : Int) (w : World) (hi : Rd w vi (zv ids)) (hl : RdLs w vl ls) (hs : Small ids ls) :
    Calls Tryd.prog 40 #[.int .i64 kind, .agg (shpL vi vl).toArray, .int .i64 id] w (PathSays kind ids ls id w) := by
  have HMy := Lib.hid (fun (wx : World) (ha : Aft w wx) => may_any kind vi vl ids ls wx (hi.grow ha) (hl.aft ha) hs)
  have HFd := Lib.hid (fun (wx : World) (ha : Aft w wx) => find_any vi vl ids id wx (hi.grow ha) hs.fi)
  have HNd := Lib.hid (fun (hk : kind = 1 ∨ kind = 2) (hok : OkT ids ls) (wx : World) (ha : Aft w wx) => nodes_any kind hk vi vl ids ls wx (hi.grow ha) (hl.aft ha) hok)
  obtain ⟨ao, cap, rfl, -, -⟩ := hi.numS
  obtain ⟨bo, dap, rfl, -⟩ := hl.shape
  have hmf : ∀ (fn : Fn) (first cap : Array Value) (w : World), (Instr.makeFunc fn first cap).run Tryd.prog w = .ok (.func fn first cap) w := fun _ _ _ _ => rfl
  have HL := Lib.hid (Led.start w)
  clear hi hl hs
  go_enter Tryd.func40, Tryd.ntmps40
  go_wp2_with (first | (refine wpList_boxO rfl 25 (.tmp 1) rfl (.agg (shpL (.slice ao ids.length cap) (.slice bo ls.length dap)).toArray) rfl (.cells (shpL (.slice ao ids.length cap) (.slice bo ls.length dap)).toArray 25) (box_shp _) ?_; intro w' aa gg zz; (try replace HO := Lib.hid (HO.out.aft aa)); (try replace HO2 := Lib.hid (HO2.out.aft aa)); (try replace HOK := Lib.hid (HOK.out.aft aa)); (try replace HO3 := Lib.hid (HO3.out.aft aa)); (try replace HO4 := Lib.hid (HO4.out.aft aa)); (try replace HO5 := Lib.hid (HO5.out.aft aa)); replace HL := Lib.hid (HL.out.alloc aa gg.out); clear aa gg zz; try simp only [List.nil_append, List.cons_append, List.set_cons_zero, List.set_cons_succ] at HL) | (refine wpList_load_rowG (by kernel_rfl) 25 (.tmp 4) rfl _ rfl _ _ _ _ (HL.out.get 0 rfl) Tryd.underlying25 rfl (shp_info _ _) ?_))
  refine (HMy.out _ HL.out.aft).mono ?_
  rintro e w2 ⟨rfl, h2⟩
  (try replace HO := Lib.hid (HO.out.aft h2)); (try replace HO2 := Lib.hid (HO2.out.aft h2)); (try replace HOK := Lib.hid (HOK.out.aft h2)); (try replace HO3 := Lib.hid (HO3.out.aft h2)); (try replace HO4 := Lib.hid (HO4.out.aft h2)); (try replace HO5 := Lib.hid (HO5.out.aft h2)); replace HL := Lib.hid (HL.out.call h2)
  clear h2 HMy
  by_cases h0 : mayE kind ids ls = 0
  rotate_left
  · have h1 : mayE kind ids ls = 1 := (mayE_or kind ids ls).resolve_left h0
    have HE := Lib.hid (show rpathE kind ids ls id = 1 from if_neg h0)
    rw [h1]
    clear h0 h1 HNd HFd
    go_wp2_with fail
    go_ret3
    refine ⟨_, _, [], by rw [HE.out]; rfl, ?_, OwnN.nil _ _, ?_, HL.out.aft⟩
    · rw [show rpathW kind ids ls id = [] from if_neg (by rw [HE.out]; decide)]
      exact OwnI.nil _ _
    · exact (if_neg (by rw [HE.out]; decide)).symm
  obtain ⟨hk, hok⟩ := mayE_zero.1 h0
  have H0 := Lib.hid h0
  have HOk := Lib.hid hok
  have HNd2 := Lib.hid (HNd.out hk hok)
  rw [h0]
  clear h0 hk hok HNd
  go_wp2_with (first | (refine wpList_load_rowG (by kernel_rfl) 25 (.tmp 4) rfl _ rfl _ _ _ _ (HL.out.get 0 rfl) Tryd.underlying25 rfl (shp_info _ _) ?_))
  refine (HFd.out _ HL.out.aft).mono ?_
  rintro e w3 ⟨rfl, h3⟩
  (try replace HO := Lib.hid (HO.out.aft h3)); (try replace HO2 := Lib.hid (HO2.out.aft h3)); (try replace HOK := Lib.hid (HOK.out.aft h3)); (try replace HO3 := Lib.hid (HO3.out.aft h3)); (try replace HO4 := Lib.hid (HO4.out.aft h3)); (try replace HO5 := Lib.hid (HO5.out.aft h3)); replace HL := Lib.hid (HL.out.call h3)
  clear h3 HFd
  by_cases hin : id ∈ ids
  rotate_left
  · have HE := Lib.hid (show rpathE kind ids ls id = 6 by unfold rpathE; rw [if_pos H0.out, if_neg hin])
    rw [decide_eq_false hin]
    clear hin HNd2
    go_wp2_with (first | (refine wpList_allocO rfl 3 rfl (.cells [.int .i64 0].toArray 3) alloc_int1 ?_; intro w' aa gg zz; replace HL := Lib.hid (HL.out.alloc aa gg.out); clear aa gg zz; simp only [List.nil_append, List.cons_append] at HL) | (refine wpList_store_cellJ rfl 3 (.tmp 10) (.tmp 24) rfl _ 0 (.int .i64 (cnt ids id : Nat)) rfl rfl _ _ (by simp) (HL.out.get 1 rfl) (by kernel_rfl) rfl rfl ?_; intro w' b1 b2 b3; replace HL := Lib.hid (HL.out.store 1 rfl b1 b2 b3); clear b1 b2 b3; simp only [List.set_cons_succ, List.set_cons_zero] at HL))
    go_ret3
    refine ⟨_, _, [], by rw [HE.out]; rfl, ?_, OwnN.nil _ _, ?_, HL.out.aft⟩
    · rw [show rpathW kind ids ls id = [] from if_neg (by rw [HE.out]; decide)]
      exact OwnI.nil _ _
    · exact (if_neg (by rw [HE.out]; decide)).symm
  have HE := Lib.hid (show rpathE kind ids ls id = 0 by unfold rpathE; rw [if_pos H0.out, if_pos hin])
  rw [decide_eq_true hin]
  clear hin
  go_wp2_with (first | (refine wpList_allocO rfl 3 rfl (.cells [.int .i64 0].toArray 3) alloc_int1 ?_; intro w' aa gg zz; replace HL := Lib.hid (HL.out.alloc aa gg.out); clear aa gg zz; simp only [List.nil_append, List.cons_append] at HL) | (refine wpList_store_cellJ rfl 3 (.tmp 10) (.tmp 24) rfl _ 0 (.int .i64 (cnt ids id : Nat)) rfl rfl _ _ (by simp) (HL.out.get 1 rfl) (by kernel_rfl) rfl rfl ?_; intro w' b1 b2 b3; replace HL := Lib.hid (HL.out.store 1 rfl b1 b2 b3); clear b1 b2 b3; simp only [List.set_cons_succ, List.set_cons_zero] at HL) | (refine wpList_load_rowG (by kernel_rfl) 25 (.tmp 4) rfl _ rfl _ _ _ _ (HL.out.get 0 rfl) Tryd.underlying25 rfl (shp_info _ _) ?_))
  refine (HNd2.out _ HL.out.aft).mono ?_
  rintro e w4 ⟨v4, ps4, rfl, ho4, hf4, h4⟩
  obtain ⟨x4, y4, rfl⟩ := ho4.shape
  have HN4 := Lib.hid (ho4.mono (Below.size HL.out.aft))
  replace HL := Lib.hid (HL.out.call h4)
  have HF4 := Lib.hid hf4
  have hn4 : ps4.length ≤ 90000 := by
    have h := (below_length kind ls ls.length 0 []).2
    have h9 : 3 ^ ls.length ≤ 3 ^ 9 := Nat.pow_le_pow_right (by decide) (lv_nine2 HOk.out)
    have h5 : (nodesL kind ids ls).length ≤ 90000 := by
      unfold nodesL
      split
      · simp
      · simp only [List.length_nil] at h
        omega
    rw [← hf4, List.length_map] at h5
    exact h5
  clear h4 ho4 hf4 HNd2
  go_wp2_with fail
  have HCp := Lib.hid (fun (wx : World) (hw : Aft w4 wx) => cell_part (n := 0) (Aft.get hw (HL.out.get 1 rfl)) rfl)
  refine (leafI_any _ ps4 (cnt ids id : Nat) w3.heap.size w4 HN4.out.rd HCp.out (by omega)).mono ?_
  rintro e w5 ⟨rfl, h5⟩
  replace HL := Lib.hid (HL.out.call h5)
  replace HN4 := Lib.hid (HN4.out.aft h5)
  have HLn := Lib.hid (show (ps4.map Prod.fst).length = ps4.length from List.length_map _)
  have HG := Lib.hid (fun k => fst_getD ps4 k)
  have HUp := Lib.hid (fun (k : Nat) (hk : k < ps4.length) => show ((ps4.map Prod.fst).getD k nd0).up = -1 ∨ ∃ j : Nat, ((ps4.map Prod.fst).getD k nd0).up = (j : Int) ∧ k < j ∧ j < ps4.length by
    have h := nodes_up (kind := kind) HOk.out (i := k) (by rw [← HF4.out, List.length_map]; exact hk)
    rw [← HF4.out, List.length_map] at h
    exact h)
  have HLf := Lib.hid (show leafI (cnt ids id : Nat) (ps4.map Prod.fst) = -1 ∨ ∃ k : Nat, leafI (cnt ids id : Nat) (ps4.map Prod.fst) = (k : Int) ∧ k < ps4.length by
    have h := leafI_lt (cnt ids id : Nat) (ps4.map Prod.fst)
    rw [HLn.out] at h
    exact h)
  have HWy := Lib.hid (show rpathW kind ids ls id = wayN (ps4.map Prod.fst) ps4.length (leafI (cnt ids id : Nat) (ps4.map Prod.fst)) by
    unfold rpathW
    rw [if_pos HE.out, ← HF4.out, List.length_map])
  clear h5 HCp
  generalize leafI (cnt ids id : Nat) (ps4.map Prod.fst) = lf at *
  generalize hwy : rpathW kind ids ls id = wy at *
  have HWq := Lib.hid hwy
  clear hwy
  go_wp2_with fail
  go_loopw [6, 13] (fun v6 v13 wr => ∃ (done : List Int) (i : Int) (f : Nat), v13 = .int .i64 i ∧ OwnI wr w5.heap.size v6 done ∧ Aft w5 wr ∧ done ++ wayN (ps4.map Prod.fst) f i = wy ∧ (i = -1 ∧ done.length ≤ ps4.length ∨ ∃ k : Nat, i = (k : Int) ∧ k < ps4.length ∧ ps4.length ≤ k + f ∧ done.length ≤ k)) (fun _ v13 _ => wayMu ps4.length v13)
  case atStart =>
    refine ⟨[], lf, ps4.length, rfl, OwnI.nil _ _, Aft.refl _, HWy.out.symm, ?_⟩
    rcases HLf.out with h | ⟨k, h, hk⟩
    · exact .inl ⟨h, Nat.zero_le _⟩
    · exact .inr ⟨k, h, hk, by omega, Nat.zero_le _⟩
  case round =>
    obtain ⟨done, i, f, rfl, ho, hA, hw, hc⟩ := hrel
    obtain ⟨da, dc, rfl⟩ := ho.shape
    have HO := Lib.hid ho
    have HA := Lib.hid hA
    have HW := Lib.hid hw
    clear ho hA hw
    rcases hc with ⟨rfl, hdl⟩ | ⟨k, rfl, hk, hf, hdl⟩
    · go_wp2_with fail
      go_ret3
      refine ⟨_, _, ps4, by rw [HE.out]; rfl, ?_, ?_, ?_, Aft.trans HL.out.aft HA.out⟩
      · have := HW.out
        rw [wayN_neg, List.append_nil] at this
        rw [HWq.out, ← this]
        exact HO.out.mono (Below.size HL.out.aft)
      · exact HN4.out.aft HA.out
      · rw [HF4.out]
        exact (if_pos HE.out).symm
    · obtain ⟨f', rfl⟩ : ∃ f', f = f' + 1 := ⟨f - 1, by omega⟩
      have hk' : (k : Int) < (ps4.length : Nat) := by omega
      obtain ⟨g4, c4, he, -, hc4⟩ := HN4.out.atA hk
      injection he with he1 he2 he3
      subst he1 he3
      have HC4 := Lib.hid (fun wx hx => hc4 wx hx 6 _ rfl)
      have hup := HUp.out k hk
      rw [HG.out] at hup
      have HW2 := Lib.hid (show done ++ (k : Int) :: wayN (ps4.map Prod.fst) f' (ps4.getD k ndP).1.up = wy by have h := HW.out; rw [wayN_pos, HG.out] at h; exact h)
      generalize (ps4.getD k ndP).1.up = u at *
      clear hc4 he2 HW
      go_wp2_with (first | (refine wpList_intSlice (by kernel_rfl) (.tmp 43) (k : Int) rfl rfl ?_; intro wB aB gB; have HOb := Lib.hid (HO.out.aft aB); have HAb := Lib.hid (Aft.trans HA.out aB); clear aB) | (refine wpList_snocI rfl (.tmp 42) (.tmp 44) rfl w5.heap.size _ done rfl HOb.out wr.heap.size (k : Int) rfl gB.out (by omega) (Below.size HAb.out) ?_; intro g6 c6 wC t1 t2 t3; have HAc := Lib.hid (aft_fr HAb.out HOb.out (Nat.le_refl _) t2.out); have cu := HC4.out _ HAc.out))
      have hlen : (done ++ [(k : Int)]).length = done.length + 1 := by rw [List.length_append]; rfl
      rcases hup with rfl | ⟨j, rfl, hj1, hj2⟩
      · refine ⟨⟨done ++ [(k : Int)], -1, f', rfl, t1.out, HAc.out, by rw [List.append_assoc]; exact HW2.out, .inl ⟨rfl, by omega⟩⟩, ?_⟩
        rw [wayMu_neg, wayMu_nat]
        omega
      · refine ⟨⟨done ++ [(k : Int)], (j : Int), f', rfl, t1.out, HAc.out, by rw [List.append_assoc]; exact HW2.out, .inr ⟨j, rfl, hj2, by omega, by omega⟩⟩, ?_⟩
        rw [wayMu_nat, wayMu_nat]
        omega
end Go.Proofs.YtdbhlajajdlmfaaDoor
/- red.Path and red.Beside. -/
namespace Go.Proofs.YtdbhlajajdlmfaaDoor
open Go Go.RowKit
set_option linter.unusedSimpArgs false

def RPathSays (kind : Int) (ids : List Int) (ls : List (List Int)) (id : Int) (w : World) (e : Ending) (w' : World) : Prop :=
  ∃ vw, e = .returned (.tuple #[vw, .int .i64 (rpathE kind ids ls id)]) ∧ OwnI w' w.heap.size vw (rpathW kind ids ls id) ∧ Aft w w'
set_option maxRecDepth 100000 in
set_option maxHeartbeats 1000000 in
theorem rPath_any (kind : Int) (vi vl : Value) (ids : List Int) (ls : List (List Int)) (id : Int) (w : World) (hi : Rd w vi (zv ids)) (hl : RdLs w vl ls) (hs : Small ids ls) :
    Calls Tryd.prog 13 #[.int .i64 kind, .agg (shpL vi vl).toArray, .int .i64 id] w (RPathSays kind ids ls id w) := by
  have HPt := Lib.hid (fun (wx : World) (ha : Aft w wx) => path_any kind vi vl ids ls id wx (hi.grow ha) (hl.aft ha) hs)
  obtain ⟨ao, cap, rfl, -, -⟩ := hi.numS
  obtain ⟨bo, dap, rfl, -⟩ := hl.shape
  have HL := Lib.hid (Led.start w)
  clear hi hl hs
  go_enter Tryd.func13, Tryd.ntmps13
  go_wp2_with (first | (refine wpList_boxO rfl 25 (.tmp 1) rfl (.agg (shpL (.slice ao ids.length cap) (.slice bo ls.length dap)).toArray) rfl (.cells (shpL (.slice ao ids.length cap) (.slice bo ls.length dap)).toArray 25) (box_shp _) ?_; intro w' aa gg zz; (try replace HO := Lib.hid (HO.out.aft aa)); (try replace HO2 := Lib.hid (HO2.out.aft aa)); (try replace HOK := Lib.hid (HOK.out.aft aa)); (try replace HO3 := Lib.hid (HO3.out.aft aa)); (try replace HO4 := Lib.hid (HO4.out.aft aa)); (try replace HO5 := Lib.hid (HO5.out.aft aa)); replace HL := Lib.hid (HL.out.alloc aa gg.out); clear aa gg zz; try simp only [List.nil_append, List.cons_append, List.set_cons_zero, List.set_cons_succ] at HL) | (refine wpList_load_rowG (by kernel_rfl) 25 (.tmp 4) rfl _ rfl _ _ _ _ (HL.out.get 0 rfl) Tryd.underlying25 rfl (shp_info _ _) ?_))
  refine (HPt.out _ HL.out.aft).mono ?_
  rintro e w2 ⟨vw, va, ps, rfl, ho, hn, hf, h2⟩
  have HO := Lib.hid (ho.mono (Below.size HL.out.aft))
  replace HL := Lib.hid (HL.out.call h2)
  clear ho hn hf h2
  go_wp2_with fail
  go_ret2
  exact ⟨vw, rfl, HO.out, HL.out.aft⟩
theorem upL_mem {A : List Nd} {u : Int} {p : Nd → Prop} (hp : ∀ x, p x → p { x with up := u }) (h : ∀ x ∈ A, p x) : ∀ x ∈ upL A u, p x := by
  intro x hx
  unfold upL at hx
  rcases List.mem_or_eq_of_mem_set hx with hx | rfl
  · exact h x hx
  · by_cases hz : A.length = 0
    · rw [List.eq_nil_of_length_eq_zero hz] at hx
      simp at hx
    · refine hp _ (h _ ?_)
      rw [List.getD_eq_getElem?_getD, List.getElem?_eq_getElem (by omega)]
      exact List.getElem_mem _
theorem seg_k3 (kind : Int) (ls : List (List Int)) : ∀ (L at' b : Nat), ∀ x ∈ seg kind ls L at' b, x.ks.length ≤ 3
  | 0, at', b => fun x hx => by
    simp only [seg, List.mem_singleton] at hx
    subst hx
    exact Nat.zero_le _
  | L + 1, at', b => by
    have gA := seg_k3 kind ls L (fstN ls L at') b
    have gB := seg_k3 kind ls L (fstN ls L at' + 1) (b + (seg kind ls L (fstN ls L at') b).length)
    intro x hx
    by_cases h2 : (ls.getD L []).getD at' 0 = 2
    · simp only [seg] at hx
      rw [if_pos h2] at hx
      simp only [List.mem_append, List.mem_singleton] at hx
      rcases hx with hx | hx | rfl
      · exact upL_mem (p := fun x => x.ks.length ≤ 3) (fun _ h => h) gA x hx
      · exact upL_mem (p := fun x => x.ks.length ≤ 3) (fun _ h => h) gB x hx
      · show 2 ≤ 3
        decide
    · by_cases hk : kind = 1
      · have gC := seg_k3 kind ls L (fstN ls L at' + 2) (b + (seg kind ls L (fstN ls L at') b).length + (seg kind ls L (fstN ls L at' + 1) (b + (seg kind ls L (fstN ls L at') b).length)).length)
        simp only [seg] at hx
        rw [if_neg h2, if_pos hk] at hx
        simp only [List.mem_append, List.mem_singleton] at hx
        rcases hx with hx | hx | hx | rfl
        · exact upL_mem (p := fun x => x.ks.length ≤ 3) (fun _ h => h) gA x hx
        · exact upL_mem (p := fun x => x.ks.length ≤ 3) (fun _ h => h) gB x hx
        · exact upL_mem (p := fun x => x.ks.length ≤ 3) (fun _ h => h) gC x hx
        · show 3 ≤ 3
          decide
      · have gC := seg_k3 kind ls L (fstN ls L at' + 2) (b + (seg kind ls L (fstN ls L at') b).length + (seg kind ls L (fstN ls L at' + 1) (b + (seg kind ls L (fstN ls L at') b).length)).length + 1)
        rw [seg_red h2 hk] at hx
        simp only [List.mem_append, List.mem_cons, List.not_mem_nil, or_false] at hx
        rcases hx with hx | hx | rfl | hx | rfl
        · exact upL_mem (p := fun x => x.ks.length ≤ 3) (fun _ h => h) gA x hx
        · exact upL_mem (p := fun x => x.ks.length ≤ 3) (fun _ h => h) gB x hx
        · show 2 ≤ 3
          decide
        · exact upL_mem (p := fun x => x.ks.length ≤ 3) (fun _ h => h) gC x hx
        · show 2 ≤ 3
          decide
theorem nodes_k3 {kind : Int} {ids : List Int} {ls : List (List Int)} (hok : OkT ids ls) (k : Nat) : ((nodesL kind ids ls).getD k nd0).ks.length ≤ 3 := by
  by_cases hk : k < (nodesL kind ids ls).length
  · have hm : (nodesL kind ids ls).getD k nd0 ∈ nodesL kind ids ls := by
      rw [List.getD_eq_getElem?_getD, List.getElem?_eq_getElem hk]
      exact List.getElem_mem hk
    by_cases hz : ids.length = 0
    · unfold nodesL at hk
      rw [if_pos hz] at hk
      simp at hk
    · rw [nodes_seg hok hz] at hm ⊢
      exact seg_k3 kind ls ls.length 0 0 _ hm
  · rw [List.getD_eq_getElem?_getD, List.getElem?_eq_none (by omega)]
    exact Nat.zero_le _
theorem wayN_length (N : List Nd) : ∀ (f : Nat) (i : Int), (wayN N f i).length ≤ f
  | 0, _ => Nat.le_refl _
  | f + 1, i => by
    unfold wayN
    split
    · exact Nat.zero_le _
    · have := wayN_length N f (N.getD i.toNat nd0).up
      simp only [List.length_cons]
      omega
def InN (N : List Nd) (i : Int) : Prop := i = -1 ∨ ∃ k : Nat, i = (k : Int) ∧ k < N.length
theorem wayN_in {N : List Nd} (hu : ∀ k, k < N.length → InN N (N.getD k nd0).up) : ∀ (f : Nat) (i : Int), InN N i → ∀ x ∈ wayN N f i, ∃ k : Nat, x = (k : Int) ∧ k < N.length
  | 0, _, _, x, hx => by simp [wayN] at hx
  | f + 1, i, hi, x, hx => by
    unfold wayN at hx
    rcases hi with rfl | ⟨k, rfl, hk⟩
    · rw [if_pos (by decide)] at hx
      simp at hx
    · rw [if_neg (by omega)] at hx
      rcases List.mem_cons.1 hx with rfl | hx
      · exact ⟨k, rfl, hk⟩
      · exact wayN_in hu f _ (hu k hk) x hx
/-- The nodes beside a step of a way: those below it, but the one of the way. -/
def besF (N : List Nd) (W : List Int) (i : Nat) : List Int := (N.getD (W.getD i 0).toNat nd0).ks.filter (fun z => z != W.getD (i - 1) 0)
def besTo (N : List Nd) (W : List Int) : Nat → List Int
  | 0 => []
  | n + 1 => besTo N W n ++ besF N W (n + 1)
theorem besTo_length {N : List Nd} (h3 : ∀ k, (N.getD k nd0).ks.length ≤ 3) (W : List Int) : ∀ n, (besTo N W n).length ≤ 3 * n
  | 0 => Nat.zero_le _
  | n + 1 => by
    have h1 := besTo_length h3 W n
    have h2 := List.length_filter_le (fun z => z != W.getD (n + 1 - 1) 0) (N.getD (W.getD (n + 1) 0).toNat nd0).ks
    have h4 := h3 (W.getD (n + 1) 0).toNat
    have h5 : (besF N W (n + 1)).length ≤ 3 := Nat.le_trans h2 h4
    simp only [besTo, List.length_append]
    omega
def rbesW (kind : Int) (ids : List Int) (ls : List (List Int)) (id : Int) : List Int := if rpathE kind ids ls id = 0 then besTo (nodesL kind ids ls) (rpathW kind ids ls id) ((rpathW kind ids ls id).length - 1) else []
def RBesSays (kind : Int) (ids : List Int) (ls : List (List Int)) (id : Int) (w : World) (e : Ending) (w' : World) : Prop :=
  ∃ vw, e = .returned (.tuple #[vw, .int .i64 (rpathE kind ids ls id)]) ∧ OwnI w' w.heap.size vw (rbesW kind ids ls id) ∧ Aft w w'
end Go.Proofs.YtdbhlajajdlmfaaDoor
/- A member's way up, and what is beside it: the plain law of RedWays. -/
namespace Go.Proofs.YtdbhlajajdlmfaaDoor
open Go Go.RowKit
theorem upL_snoc (A : List Nd) (x : Nd) (u : Int) : upL (A ++ [x]) u = A ++ [{ x with up := u }] := by
  have h := lastN_snoc A x
  unfold lastN at h
  unfold upL
  rw [h, List.length_append, List.length_singleton, Nat.add_sub_cancel, List.set_append_right _ _ (Nat.le_refl _), Nat.sub_self]
  rfl
def Emb2 (N : List Nd) (b : Nat) (S : List Nd) : Prop := b + S.length ≤ N.length ∧ ∀ i, i < S.length → N.getD (b + i) nd0 = S.getD i nd0
theorem Emb2.left {N : List Nd} {b : Nat} {S T : List Nd} (h : Emb2 N b (S ++ T)) : Emb2 N b S := by
  refine ⟨by have := h.1; rw [List.length_append] at this; omega, fun i hi => ?_⟩
  rw [h.2 i (by rw [List.length_append]; omega), getD_app_left hi]
theorem Emb2.right {N : List Nd} {b : Nat} {S T : List Nd} (h : Emb2 N b (S ++ T)) : Emb2 N (b + S.length) T := by
  refine ⟨by have := h.1; rw [List.length_append] at this; omega, fun i hi => ?_⟩
  rw [Nat.add_assoc, h.2 (S.length + i) (by rw [List.length_append]; omega), getD_app_right (by omega), Nat.add_sub_cancel_left]
theorem Emb2.last {N : List Nd} {b : Nat} {A : List Nd} {u : Int} (h : Emb2 N b (upL A u)) (hA : 0 < A.length) : (N.getD (b + A.length - 1) nd0).up = u := by
  have h2 := h.2 (A.length - 1) (by rw [upL_length]; omega)
  rw [show b + (A.length - 1) = b + A.length - 1 by omega] at h2
  rw [h2]
  unfold upL
  rw [List.getD_eq_getElem?_getD, List.getElem?_set_self (by omega)]
  rfl
/-- The way up of a part's nodes, but of its last, leads to where they are below. -/
def KidUp (N : List Nd) (b n : Nat) : Prop := ∀ i, b ≤ i → i + 1 < n → ∃ p : Nat, (N.getD i nd0).up = (p : Int) ∧ p < N.length ∧ ((i : Nat) : Int) ∈ (N.getD p nd0).ks
theorem KidUp.join {N : List Nd} {b m n : Nat} (h1 : KidUp N b m) (h2 : KidUp N m n) (hm : b < m → ∃ p : Nat, (N.getD (m - 1) nd0).up = (p : Int) ∧ p < N.length ∧ ((m - 1 : Nat) : Int) ∈ (N.getD p nd0).ks) : KidUp N b n := by
  intro i hi hn
  by_cases c1 : i + 1 < m
  · exact h1 i hi c1
  · by_cases c2 : m ≤ i
    · exact h2 i c2 hn
    · have : i = m - 1 := by omega
      rw [this]
      exact hm (by omega)
theorem KidUp.one (N : List Nd) (b : Nat) : KidUp N b (b + 1) := fun i hi hn => by omega
theorem seg_kid (kind : Int) (ls : List (List Int)) (N : List Nd) : ∀ (L at' b : Nat) (u : Int), Emb2 N b (upL (seg kind ls L at' b) u) → KidUp N b (b + (seg kind ls L at' b).length)
  | 0, at', b, u, _ => KidUp.one N b
  | L + 1, at', b, u, he => by
    have hA := seg_pos kind ls L (fstN ls L at') b
    have hB := seg_pos kind ls L (fstN ls L at' + 1) (b + (seg kind ls L (fstN ls L at') b).length)
    have uA := seg_kid kind ls N L (fstN ls L at') b
    have uB := seg_kid kind ls N L (fstN ls L at' + 1) (b + (seg kind ls L (fstN ls L at') b).length)
    by_cases h2 : (ls.getD L []).getD at' 0 = 2
    · simp only [seg] at he ⊢
      rw [if_pos h2] at he ⊢
      generalize seg kind ls L (fstN ls L at') b = A at *
      generalize seg kind ls L (fstN ls L at' + 1) (b + A.length) = B at *
      rw [← List.append_assoc, upL_snoc, List.append_assoc] at he
      have eA := he.left
      have eB := he.right.left
      have eX := he.right.right
      rw [upL_length] at eB
      rw [upL_length, upL_length] at eX
      have hx := eX.2 0 Nat.one_pos
      have hl := eX.1
      rw [Nat.add_zero] at hx
      simp only [List.length_append, upL_length, List.length_cons, List.length_nil]
      rw [show b + (A.length + (B.length + (0 + 1))) = b + A.length + B.length + 1 by omega]
      refine ((uA _ eA).join (uB _ eB) fun _ => ⟨_, eA.last hA, by simp at hl; omega, ?_⟩).join (KidUp.one N _) fun _ => ⟨_, eB.last hB, by simp at hl; omega, ?_⟩
      · rw [hx]
        exact List.mem_cons_self ..
      · rw [hx]
        exact List.mem_cons_of_mem _ (List.mem_cons_self ..)
    · by_cases hk : kind = 1
      · have hC := seg_pos kind ls L (fstN ls L at' + 2) (b + (seg kind ls L (fstN ls L at') b).length + (seg kind ls L (fstN ls L at' + 1) (b + (seg kind ls L (fstN ls L at') b).length)).length)
        have uC := seg_kid kind ls N L (fstN ls L at' + 2) (b + (seg kind ls L (fstN ls L at') b).length + (seg kind ls L (fstN ls L at' + 1) (b + (seg kind ls L (fstN ls L at') b).length)).length)
        simp only [seg] at he ⊢
        rw [if_neg h2, if_pos hk] at he ⊢
        generalize seg kind ls L (fstN ls L at') b = A at *
        generalize seg kind ls L (fstN ls L at' + 1) (b + A.length) = B at *
        generalize seg kind ls L (fstN ls L at' + 2) (b + A.length + B.length) = C at *
        rw [← List.append_assoc, ← List.append_assoc, upL_snoc, List.append_assoc, List.append_assoc] at he
        have eA := he.left
        have eB := he.right.left
        have eC := he.right.right.left
        have eX := he.right.right.right
        rw [upL_length] at eB
        rw [upL_length, upL_length] at eC
        rw [upL_length, upL_length, upL_length] at eX
        have hx := eX.2 0 Nat.one_pos
        have hl := eX.1
        rw [Nat.add_zero] at hx
        simp only [List.length_append, upL_length, List.length_cons, List.length_nil]
        rw [show b + (A.length + (B.length + (C.length + (0 + 1)))) = b + A.length + B.length + C.length + 1 by omega]
        refine (((uA _ eA).join (uB _ eB) fun _ => ⟨_, eA.last hA, by simp at hl; omega, ?_⟩).join (uC _ eC) fun _ => ⟨_, eB.last hB, by simp at hl; omega, ?_⟩).join (KidUp.one N _) fun _ => ⟨_, eC.last hC, by simp at hl; omega, ?_⟩
        · rw [hx]
          exact List.mem_cons_self ..
        · rw [hx]
          exact List.mem_cons_of_mem _ (List.mem_cons_self ..)
        · rw [hx]
          exact List.mem_cons_of_mem _ (List.mem_cons_of_mem _ (List.mem_cons_self ..))
      · have hC := seg_pos kind ls L (fstN ls L at' + 2) (b + (seg kind ls L (fstN ls L at') b).length + (seg kind ls L (fstN ls L at' + 1) (b + (seg kind ls L (fstN ls L at') b).length)).length + 1)
        have uC := seg_kid kind ls N L (fstN ls L at' + 2) (b + (seg kind ls L (fstN ls L at') b).length + (seg kind ls L (fstN ls L at' + 1) (b + (seg kind ls L (fstN ls L at') b).length)).length + 1)
        rw [seg_red h2 hk] at he ⊢
        simp only [] at he ⊢
        generalize seg kind ls L (fstN ls L at') b = A at *
        generalize seg kind ls L (fstN ls L at' + 1) (b + A.length) = B at *
        generalize seg kind ls L (fstN ls L at' + 2) (b + A.length + B.length + 1) = C at *
        generalize hz : ndN (L + 1) at' false (loN ls (L + 1) at') (loN ls (L + 1) (at' + 1)) [b + A.length + B.length, b + A.length + B.length + 1 + C.length - 1] = z at *
        have ez : z.ks = kz [b + A.length + B.length, b + A.length + B.length + 1 + C.length - 1] := by subst hz; rfl
        generalize hr : ({ ndN (L + 1) at' true (loN ls (L + 1) at') (loN ls L (fstN ls L at' + 2)) [b + A.length - 1, b + A.length + B.length - 1] with up := ((b + A.length + B.length + 1 + C.length : Nat) : Int) } : Nd) = r at *
        have er : r.up = ((b + A.length + B.length + 1 + C.length : Nat) : Int) ∧ r.ks = kz [b + A.length - 1, b + A.length + B.length - 1] := by subst hr; exact ⟨rfl, rfl⟩
        have e0 : upL A ((b + A.length + B.length : Nat) : Int) ++ (upL B ((b + A.length + B.length : Nat) : Int) ++ r :: (upL C ((b + A.length + B.length + 1 + C.length : Nat) : Int) ++ [z])) = (upL A ((b + A.length + B.length : Nat) : Int) ++ (upL B ((b + A.length + B.length : Nat) : Int) ++ ([r] ++ upL C ((b + A.length + B.length + 1 + C.length : Nat) : Int)))) ++ [z] := by simp only [List.append_assoc, List.cons_append, List.nil_append]
        rw [e0, upL_snoc] at he
        rw [e0]
        simp only [List.append_assoc] at he
        have eA := he.left
        have eB := he.right.left
        have eR := he.right.right.left
        have eC := he.right.right.right.left
        have eX := he.right.right.right.right
        rw [upL_length] at eB
        rw [upL_length, upL_length] at eR
        rw [upL_length, upL_length, List.length_singleton] at eC
        rw [upL_length, upL_length, upL_length, List.length_singleton] at eX
        have hx := eX.2 0 Nat.one_pos
        have hxr := eR.2 0 Nat.one_pos
        have hl := eX.1
        rw [Nat.add_zero] at hx hxr
        simp only [List.length_append, upL_length, List.length_cons, List.length_nil]
        rw [show b + (A.length + (B.length + (0 + 1 + C.length)) + (0 + 1)) = b + A.length + B.length + 1 + C.length + 1 by omega]
        have hxu : (N.getD (b + A.length + B.length) nd0).up = ((b + A.length + B.length + 1 + C.length : Nat) : Int) := by rw [hxr]; exact er.1
        refine ((((uA _ eA).join (uB _ eB) fun _ => ⟨_, eA.last hA, by simp at hl; omega, ?_⟩).join (KidUp.one N _) fun _ => ⟨_, eB.last hB, by simp at hl; omega, ?_⟩).join (uC _ eC) fun _ => ⟨_, by rw [Nat.add_sub_cancel]; exact hxu, by simp at hl; omega, ?_⟩).join (KidUp.one N _) fun _ => ⟨_, eC.last hC, by simp at hl; omega, ?_⟩
        · rw [hxr]
          show _ ∈ r.ks
          rw [er.2]
          exact List.mem_cons_self ..
        · rw [hxr]
          show _ ∈ r.ks
          rw [er.2]
          exact List.mem_cons_of_mem _ (List.mem_cons_self ..)
        · rw [hx]
          show _ ∈ z.ks
          rw [ez, Nat.add_sub_cancel]
          exact List.mem_cons_self ..
        · rw [hx]
          show _ ∈ z.ks
          rw [ez]
          exact List.mem_cons_of_mem _ (List.mem_cons_self ..)
theorem nodes_kid {kind : Int} {ids : List Int} {ls : List (List Int)} (hok : OkT ids ls) (hz : ¬ ids.length = 0) {i : Nat} (hi : i + 1 < (nodesL kind ids ls).length) :
    ∃ p : Nat, ((nodesL kind ids ls).getD i nd0).up = (p : Int) ∧ p < (nodesL kind ids ls).length ∧ ((i : Nat) : Int) ∈ ((nodesL kind ids ls).getD p nd0).ks := by
  rw [nodes_seg hok hz] at hi ⊢
  have hu := seg_up kind ls ls.length 0 0
  have hp := seg_pos kind ls ls.length 0 0
  refine seg_kid kind ls _ ls.length 0 0 (-1) ⟨by rw [upL_length]; omega, fun j hj => ?_⟩ i (Nat.zero_le _) (by omega)
  rw [upL_length] at hj
  rw [Nat.zero_add]
  unfold upL
  by_cases e : (seg kind ls ls.length 0 0).length - 1 = j
  · subst e
    rw [List.getD_eq_getElem?_getD (l := List.set _ _ _), List.getElem?_set_self (by omega)]
    have h := hu.2
    unfold lastN at h
    show _ = ({ (seg kind ls ls.length 0 0).getD ((seg kind ls ls.length 0 0).length - 1) nd0 with up := -1 } : Nd)
    rw [← h]
  · rw [List.getD_eq_getElem?_getD (l := List.set _ _ _), List.getElem?_set_ne e, ← List.getD_eq_getElem?_getD]
/-- Where groups begin rises. -/
theorem lo_lt {n : Nat} {ls : List (List Int)} (h : Fit n ls) : ∀ (L at' : Nat), L ≤ ls.length → at' < cntN n ls L → loN ls L at' < loN ls L (at' + 1)
  | 0, _, _, _ => Nat.lt_succ_self _
  | L + 1, at', hL, ha => by
    obtain ⟨x, hx, hx23, hx1, hx2⟩ := fit_step h hL ha
    show loN ls L (fstN ls L at') < loN ls L (fstN ls L (at' + 1))
    rw [hx1]
    have h1 := lo_lt h L (fstN ls L at') (by omega) (by omega)
    have h2 := lo_lt h L (fstN ls L at' + 1) (by omega) (by omega)
    rcases hx23 with rfl | rfl
    · exact Nat.lt_trans h1 h2
    · exact Nat.lt_trans (Nat.lt_trans h1 h2) (lo_lt h L (fstN ls L at' + 2) (by omega) (by omega))
theorem lo_zero (ls : List (List Int)) : ∀ L, loN ls L 0 = 0
  | 0 => rfl
  | L + 1 => by
    have : fstN ls L 0 = 0 := by simp [fstN, frm]
    show loN ls L (fstN ls L 0) = 0
    rw [this]
    exact lo_zero ls L
theorem lo_end {n : Nat} {ls : List (List Int)} (h : Fit n ls) : ∀ L, L ≤ ls.length → loN ls L (cntN n ls L) = n
  | 0, _ => rfl
  | L + 1, hL => by
    have hf : fstN ls L (cntN n ls (L + 1)) = cntN n ls L := by
      unfold fstN frm
      rw [show cntN n ls (L + 1) = (ls.getD L []).length from rfl, List.take_length, h.sum L hL]
      rfl
    show loN ls L (fstN ls L (cntN n ls (L + 1))) = n
    rw [hf]
    exact lo_end h L (by omega)
end Go.Proofs.YtdbhlajajdlmfaaDoor
/- A member's way up covers what it should: the plain law of RedWays. -/
namespace Go.Proofs.YtdbhlajajdlmfaaDoor
open Go Go.RowKit
theorem seg_lt {n : Nat} {ls : List (List Int)} (h : Fit n ls) (kind : Int) : ∀ (L at' b : Nat), L ≤ ls.length → at' < cntN n ls L → ∀ x ∈ seg kind ls L at' b, x.fr < x.tt
  | 0, at', b, _, _ => fun x hx => by
    simp only [seg, List.mem_singleton] at hx
    subst hx
    show ((at' : Nat) : Int) < ((at' + 1 : Nat) : Int)
    omega
  | L + 1, at', b, hL, ha => by
    obtain ⟨y, hy, hy23, hy1, hy2⟩ := fit_step h hL ha
    have gA := seg_lt h kind L (fstN ls L at') b (by omega) (by omega)
    have gB := seg_lt h kind L (fstN ls L at' + 1) (b + (seg kind ls L (fstN ls L at') b).length) (by omega) (by omega)
    have hlt := lo_lt h (L + 1) at' hL ha
    intro x hx
    by_cases h2 : (ls.getD L []).getD at' 0 = 2
    · simp only [seg] at hx
      rw [if_pos h2] at hx
      simp only [List.mem_append, List.mem_singleton] at hx
      rcases hx with hx | hx | rfl
      · exact upL_mem (p := fun x => x.fr < x.tt) (fun _ h => h) gA x hx
      · exact upL_mem (p := fun x => x.fr < x.tt) (fun _ h => h) gB x hx
      · exact Int.ofNat_lt.2 hlt
    · have hy' : y = 3 := by omega
      subst hy'
      by_cases hk : kind = 1
      · have gC := seg_lt h kind L (fstN ls L at' + 2) (b + (seg kind ls L (fstN ls L at') b).length + (seg kind ls L (fstN ls L at' + 1) (b + (seg kind ls L (fstN ls L at') b).length)).length) (by omega) (by omega)
        simp only [seg] at hx
        rw [if_neg h2, if_pos hk] at hx
        simp only [List.mem_append, List.mem_singleton] at hx
        rcases hx with hx | hx | hx | rfl
        · exact upL_mem (p := fun x => x.fr < x.tt) (fun _ h => h) gA x hx
        · exact upL_mem (p := fun x => x.fr < x.tt) (fun _ h => h) gB x hx
        · exact upL_mem (p := fun x => x.fr < x.tt) (fun _ h => h) gC x hx
        · exact Int.ofNat_lt.2 hlt
      · have gC := seg_lt h kind L (fstN ls L at' + 2) (b + (seg kind ls L (fstN ls L at') b).length + (seg kind ls L (fstN ls L at' + 1) (b + (seg kind ls L (fstN ls L at') b).length)).length + 1) (by omega) (by omega)
        rw [seg_red h2 hk] at hx
        simp only [List.mem_append, List.mem_cons, List.not_mem_nil, or_false] at hx
        rcases hx with hx | hx | rfl | hx | rfl
        · exact upL_mem (p := fun x => x.fr < x.tt) (fun _ h => h) gA x hx
        · exact upL_mem (p := fun x => x.fr < x.tt) (fun _ h => h) gB x hx
        · have h1 := lo_lt h L (fstN ls L at') (by omega) (by omega)
          have h3 := lo_lt h L (fstN ls L at' + 1) (by omega) (by omega)
          exact Int.ofNat_lt.2 (Nat.lt_trans h1 h3)
        · exact upL_mem (p := fun x => x.fr < x.tt) (fun _ h => h) gC x hx
        · exact Int.ofNat_lt.2 hlt
theorem nodes_lt {kind : Int} {ids : List Int} {ls : List (List Int)} (hok : OkT ids ls) (hz : ¬ ids.length = 0) {i : Nat} (hi : i < (nodesL kind ids ls).length) : ((nodesL kind ids ls).getD i nd0).fr < ((nodesL kind ids ls).getD i nd0).tt := by
  rw [nodes_seg hok hz] at hi ⊢
  refine seg_lt (okLv_fit ls ids.length hok.2) kind ls.length 0 0 (Nat.le_refl _) (by rw [cnt_top hok hz]; exact Nat.one_pos) _ ?_
  rw [List.getD_eq_getElem?_getD, List.getElem?_eq_getElem hi]
  exact List.getElem_mem hi
/-- Each leaf is among a group's. -/
theorem sk_leaf {n : Nat} {ls : List (List Int)} (h : Fit n ls) (kind : Int) : ∀ (L at' x : Nat), L ≤ ls.length → at' < cntN n ls L → loN ls L at' ≤ x → x < loN ls L (at' + 1) → (⟨0, (x : Nat), false, (x : Nat), (x + 1 : Nat)⟩ : Cor) ∈ skN kind ls L at'
  | 0, at', x, _, _, h1, h2 => by
    have h3 : at' ≤ x := h1
    have h4 : x < at' + 1 := h2
    obtain rfl : x = at' := by omega
    exact List.mem_singleton.2 rfl
  | L + 1, at', x, hL, ha, h1, h2 => by
    obtain ⟨y, hy, hy23, hy1, hy2⟩ := fit_step h hL ha
    have h1' : loN ls L (fstN ls L at') ≤ x := h1
    have h2' : x < loN ls L (fstN ls L at' + y) := by rw [← hy1]; exact h2
    have s1 := fun q q2 => sk_leaf h kind L (fstN ls L at') x (by omega) (by omega) q q2
    have s2 := fun q q2 => sk_leaf h kind L (fstN ls L at' + 1) x (by omega) (by omega) q q2
    simp only [skN]
    by_cases c1 : x < loN ls L (fstN ls L at' + 1)
    · have := s1 h1' c1
      split
      · exact List.mem_append_left _ this
      · split
        · exact List.mem_append_left _ this
        · exact List.mem_append_left _ this
    · by_cases c2 : x < loN ls L (fstN ls L at' + 1 + 1)
      · have := s2 (by omega) c2
        split
        · exact List.mem_append_right _ (List.mem_append_left _ this)
        · split
          · exact List.mem_append_right _ (List.mem_append_left _ this)
          · exact List.mem_append_right _ (List.mem_append_left _ this)
      · have hy' : y = 3 := by
          rcases hy23 with rfl | rfl
          · exact absurd h2' c2
          · rfl
        subst hy'
        have s3 := sk_leaf h kind L (fstN ls L at' + 2) x (by omega) (by omega) (Nat.le_of_not_lt c2) h2'
        rw [if_neg (by rw [hy]; decide)]
        split
        · exact List.mem_append_right _ (List.mem_append_right _ (List.mem_append_left _ s3))
        · exact List.mem_append_right _ (List.mem_append_right _ (List.mem_cons_of_mem _ (List.mem_append_left _ s3)))
theorem leaf_is {kind : Int} {ids : List Int} {ls : List (List Int)} (hok : OkT ids ls) {a : Nat} (ha : a < ids.length) :
    ∃ k : Nat, leafI (a : Int) (nodesL kind ids ls) = (k : Int) ∧ k < (nodesL kind ids ls).length ∧ ((nodesL kind ids ls).getD k nd0).lv = 0 ∧ ((nodesL kind ids ls).getD k nd0).fr = (a : Int) ∧ ((nodesL kind ids ls).getD k nd0).tt = (a : Int) + 1 := by
  have hz : ¬ ids.length = 0 := by omega
  have hf := okLv_fit ls ids.length hok.2
  have hm := sk_leaf hf kind ls.length 0 a (Nat.le_refl _) (by rw [cnt_top hok hz]; exact Nat.one_pos) (by rw [lo_zero]; exact Nat.zero_le _) (by
    have h1 := lo_end hf ls.length (Nat.le_refl _)
    rw [cnt_top hok hz] at h1
    rw [Nat.zero_add, h1]
    exact ha)
  rw [← seg_cor kind ls ls.length 0 0, ← nodes_seg hok hz] at hm
  obtain ⟨x, hx, hxc⟩ := List.mem_map.1 hm
  have hl : isLeaf (a : Int) x = true := by
    have e1 : x.lv = 0 := congrArg Cor.lv hxc
    have e2 : x.ix = (a : Int) := congrArg Cor.ix hxc
    simp [isLeaf, e1, e2]
  unfold leafI
  cases hfi : (nodesL kind ids ls).findIdx? (isLeaf (a : Int)) with
  | none =>
    rw [List.findIdx?_eq_none_iff] at hfi
    rw [hfi x hx] at hl
    cases hl
  | some k =>
    rw [List.findIdx?_eq_some_iff_getElem] at hfi
    obtain ⟨hk, hp, -⟩ := hfi
    have hg := nodes_good (kind := kind) hok hk
    have he : (nodesL kind ids ls).getD k nd0 = (nodesL kind ids ls)[k] := by
      rw [List.getD_eq_getElem?_getD, List.getElem?_eq_getElem hk]
      rfl
    rw [← he] at hp
    refine ⟨k, rfl, hk, ?_⟩
    generalize (nodesL kind ids ls).getD k nd0 = y at *
    have e1 : y.lv = 0 ∧ y.ix = (a : Int) := by simpa [isLeaf] using hp
    refine ⟨e1.1, ?_⟩
    rcases hg with ⟨at', -, -, -, hix, hfr, htt⟩ | ⟨L, at', ks, hlv, -⟩
    · rw [hfr, htt, ← hix, e1.2]
      exact ⟨rfl, rfl⟩
    · rw [e1.1] at hlv
      omega
/-- Whether a leaf is below a node. -/
def indN (N : List Nd) (x : Int) (k : Nat) : Nat := if (N.getD k nd0).fr ≤ x ∧ x < (N.getD k nd0).tt then 1 else 0
theorem chain_le {N : List Nd} : ∀ {f t : Int} {ks : List Nat}, ChainN N f ks t → (∀ k ∈ ks, (N.getD k nd0).fr < (N.getD k nd0).tt) → f ≤ t
  | _, _, [], h, _ => Int.le_of_eq h
  | f, t, k :: ks, h, hl => by
    have h1 := chain_le h.2 fun k hk => hl k (List.mem_cons_of_mem _ hk)
    have h2 := hl k (List.mem_cons_self ..)
    have h3 := h.1
    omega
theorem chain_sub {N : List Nd} : ∀ {f t : Int} {ks : List Nat}, ChainN N f ks t → (∀ k ∈ ks, (N.getD k nd0).fr < (N.getD k nd0).tt) → ∀ k ∈ ks, f ≤ (N.getD k nd0).fr ∧ (N.getD k nd0).tt ≤ t
  | f, t, k :: ks, h, hl, c, hc => by
    have h1 := chain_le h.2 fun k hk => hl k (List.mem_cons_of_mem _ hk)
    have h2 := hl k (List.mem_cons_self ..)
    have h3 := h.1
    rcases List.mem_cons.1 hc with rfl | hc
    · exact ⟨by omega, h1⟩
    · have h4 := chain_sub h.2 (fun k hk => hl k (List.mem_cons_of_mem _ hk)) c hc
      exact ⟨by omega, h4.2⟩
theorem chain_sum {N : List Nd} (x : Int) : ∀ {f t : Int} {ks : List Nat}, ChainN N f ks t → (∀ k ∈ ks, (N.getD k nd0).fr < (N.getD k nd0).tt) → (ks.map (indN N x)).sum = if f ≤ x ∧ x < t then 1 else 0
  | f, t, [], h, _ => by
    have h1 : f = t := h
    rw [if_neg (by omega)]
    rfl
  | f, t, k :: ks, h, hl => by
    have h1 := chain_le h.2 fun k hk => hl k (List.mem_cons_of_mem _ hk)
    have h2 := hl k (List.mem_cons_self ..)
    have h3 := h.1
    have h4 := chain_sum x h.2 fun k hk => hl k (List.mem_cons_of_mem _ hk)
    rw [List.map_cons, List.sum_cons, h4]
    unfold indN
    split <;> split <;> split <;> omega
theorem sum_but (g : Nat → Nat) (c : Nat) : ∀ (ks : List Nat), c ∈ ks → (ks.map g).sum ≤ 1 → (∀ k ∈ ks, g k ≤ 1) → ((ks.filter (fun k => k != c)).map g).sum + g c = (ks.map g).sum
  | k :: ks, hc, hs, hg => by
    rw [List.map_cons, List.sum_cons] at hs ⊢
    by_cases e : k = c
    · subst e
      rw [List.filter_cons_of_neg (by simp)]
      by_cases hin : k ∈ ks
      · have h1 := sum_but g k ks hin (by omega) fun q hq => hg q (List.mem_cons_of_mem _ hq)
        omega
      · rw [List.filter_eq_self.2 fun q hq => by
          have : q ≠ k := fun e => hin (e ▸ hq)
          simpa using this]
        omega
    · have hin : c ∈ ks := by
        rcases List.mem_cons.1 hc with h | h
        · exact absurd h.symm e
        · exact h
      have h1 := sum_but g c ks hin (by omega) fun q hq => hg q (List.mem_cons_of_mem _ hq)
      rw [List.filter_cons_of_pos (by simpa using e), List.map_cons, List.sum_cons]
      omega
end Go.Proofs.YtdbhlajajdlmfaaDoor
/- RedWays' plain law, whole. -/
namespace Go.Proofs.YtdbhlajajdlmfaaDoor
open Go Go.RowKit
theorem nodes_root {kind : Int} {ids : List Int} {ls : List (List Int)} (hok : OkT ids ls) (hz : ¬ ids.length = 0) : 0 < (nodesL kind ids ls).length ∧ ((nodesL kind ids ls).getD ((nodesL kind ids ls).length - 1) nd0).fr = 0 ∧ ((nodesL kind ids ls).getD ((nodesL kind ids ls).length - 1) nd0).tt = (ids.length : Nat) ∧ ((nodesL kind ids ls).getD ((nodesL kind ids ls).length - 1) nd0).up = -1 := by
  rw [nodes_seg hok hz]
  have h1 := seg_last kind ls ls.length 0 0
  have h2 := lo_end (okLv_fit ls ids.length hok.2) ls.length (Nat.le_refl _)
  rw [cnt_top hok hz] at h2
  rw [lo_zero, Nat.zero_add, h2] at h1
  exact ⟨seg_pos _ _ _ _ _, h1.1, h1.2, (seg_up kind ls ls.length 0 0).2⟩
/-- Where a node is below, and what that has. -/
def UpSub (N : List Nd) (i p : Nat) : Prop := (N.getD i nd0).up = (p : Int) ∧ i < p ∧ p < N.length ∧ (N.getD p nd0).fr ≤ (N.getD i nd0).fr ∧ (N.getD i nd0).tt ≤ (N.getD p nd0).tt ∧
  ∃ ks : List Nat, (N.getD p nd0).ks = kz ks ∧ i ∈ ks ∧ (∀ k ∈ ks, k < N.length) ∧ ChainN N (N.getD p nd0).fr ks (N.getD p nd0).tt
theorem kz_mem {ks : List Nat} {i : Nat} (h : (i : Int) ∈ kz ks) : i ∈ ks := by
  obtain ⟨k, hk, e⟩ := List.mem_map.1 h
  have : k = i := by omega
  exact this ▸ hk
theorem nodes_sub {kind : Int} {ids : List Int} {ls : List (List Int)} (hok : OkT ids ls) (hz : ¬ ids.length = 0) {i : Nat} (hi : i + 1 < (nodesL kind ids ls).length) : ∃ p, UpSub (nodesL kind ids ls) i p := by
  obtain ⟨p, h1, h2, h3⟩ := nodes_kid (kind := kind) hok hz hi
  have hu := nodes_up (kind := kind) hok (i := i) (by omega)
  have hg := nodes_good (kind := kind) hok h2
  have hip : i < p := by
    rcases hu with h | ⟨j, h, hj, -⟩
    · rw [h1] at h; omega
    · rw [h1] at h; omega
  rcases hg with ⟨at', -, -, hks, -⟩ | ⟨L, at', ks, -, -, hks, -, hkn, hch, -⟩
  · rw [hks] at h3
    simp at h3
  · rw [hks] at h3
    have h4 := chain_sub hch (fun k hk => nodes_lt hok hz (hkn k hk)) i (kz_mem h3)
    exact ⟨p, h1, hip, h2, h4.1, h4.2, ks, hks, kz_mem h3, hkn, hch⟩
structure WaySpec (N : List Nd) (i : Nat) (W : List Int) : Prop where
  pos : 0 < W.length
  head : W.getD 0 0 = (i : Int)
  all : ∀ j, j < W.length → ∃ k : Nat, W.getD j 0 = (k : Int) ∧ k < N.length ∧ (N.getD k nd0).fr ≤ (N.getD i nd0).fr ∧ (N.getD i nd0).tt ≤ (N.getD k nd0).tt
  step : ∀ j, j + 1 < W.length → ∃ k p : Nat, W.getD j 0 = (k : Int) ∧ W.getD (j + 1) 0 = (p : Int) ∧ UpSub N k p
  last : W.getD (W.length - 1) 0 = ((N.length - 1 : Nat) : Int)
theorem way_spec {N : List Nd} (hs : ∀ i, i + 1 < N.length → ∃ p, UpSub N i p) (hr : (N.getD (N.length - 1) nd0).up = -1) : ∀ (f i : Nat), i < N.length → N.length ≤ i + f → WaySpec N i (wayN N f i)
  | 0, i, h1, h2 => by omega
  | f + 1, i, h1, h2 => by
    rw [wayN_pos]
    by_cases e : i + 1 < N.length
    · obtain ⟨p, hp⟩ := hs i e
      have ih := way_spec hs hr f p hp.2.2.1 (by have := hp.2.1; omega)
      rw [hp.1]
      refine ⟨Nat.succ_pos _, rfl, fun j hj => ?_, fun j hj => ?_, ?_⟩
      · cases j with
        | zero => exact ⟨i, rfl, h1, Int.le_refl _, Int.le_refl _⟩
        | succ j =>
          obtain ⟨k, k1, k2, k3, k4⟩ := ih.all j (by simpa using hj)
          exact ⟨k, k1, k2, Int.le_trans k3 hp.2.2.2.1, Int.le_trans hp.2.2.2.2.1 k4⟩
      · cases j with
        | zero => exact ⟨i, p, rfl, ih.head, hp⟩
        | succ j =>
          obtain ⟨k, q, k1, k2, k3⟩ := ih.step j (by simpa using hj)
          exact ⟨k, q, k1, k2, k3⟩
      · have hl := ih.last
        have hp0 := ih.pos
        rw [List.length_cons, Nat.add_sub_cancel, show (wayN N f (p : Int)).length = (wayN N f (p : Int)).length - 1 + 1 by omega]
        exact hl
    · have hi : i = N.length - 1 := by omega
      have hu : (N.getD i nd0).up = -1 := by rw [hi]; exact hr
      rw [hu, wayN_neg]
      refine ⟨Nat.one_pos, rfl, fun j hj => ?_, fun j hj => by simp at hj, by rw [← hi]; rfl⟩
      have hj0 : j = 0 := by simpa using hj
      subst hj0
      exact ⟨i, rfl, h1, Int.le_refl _, Int.le_refl _⟩
theorem kz_filter (ks : List Nat) (c : Nat) : (kz ks).filter (fun z => z != (c : Int)) = kz (ks.filter (fun k => k != c)) := by
  unfold kz
  rw [List.filter_map]
  congr 1
  refine List.filter_congr fun k _ => ?_
  show ((k : Int) != (c : Int)) = (k != c)
  by_cases e : k = c
  · rw [e, bne_self_eq_false, bne_self_eq_false]
  · have h1 : ((k : Int) != (c : Int)) = true := bne_iff_ne.2 (by omega)
    have h2 : (k != c) = true := bne_iff_ne.2 e
    rw [h1, h2]
def indZ (N : List Nd) (x : Int) (z : Int) : Nat := indN N x z.toNat
theorem kz_sum (N : List Nd) (x : Int) (ks : List Nat) : ((kz ks).map (indZ N x)).sum = (ks.map (indN N x)).sum := by
  unfold kz
  rw [List.map_map]
  rfl
theorem bes_step {N : List Nd} {W : List Int} (hl : ∀ k, k < N.length → (N.getD k nd0).fr < (N.getD k nd0).tt) {j k p : Nat} (h1 : W.getD j 0 = (k : Int)) (h2 : W.getD (j + 1) 0 = (p : Int)) (h3 : UpSub N k p) (x : Int) :
    ((besF N W (j + 1)).map (indZ N x)).sum + indN N x k = indN N x p := by
  obtain ⟨-, -, -, -, -, ks, hks, hin, hkn, hch⟩ := h3
  have hsum := chain_sum x hch fun q hq => hl q (hkn q hq)
  have hone : ∀ q, indN N x q ≤ 1 := fun q => by unfold indN; split <;> omega
  have hle : (ks.map (indN N x)).sum ≤ 1 := by rw [hsum]; split <;> omega
  unfold besF
  rw [h2, Int.toNat_natCast, Nat.add_sub_cancel, h1, hks, kz_filter, kz_sum, sum_but (indN N x) k ks hin hle fun q _ => hone q, hsum]
  rfl
theorem bes_all {N : List Nd} {W : List Int} {i : Nat} (hw : WaySpec N i W) (hl : ∀ k, k < N.length → (N.getD k nd0).fr < (N.getD k nd0).tt) (x : Int) : ∀ m, m < W.length → ((besTo N W m).map (indZ N x)).sum + indN N x i = indZ N x (W.getD m 0)
  | 0, _ => by
    rw [hw.head]
    show 0 + indN N x i = indN N x (Int.toNat (i : Int))
    rw [Int.toNat_natCast, Nat.zero_add]
  | m + 1, hm => by
    have ih := bes_all hw hl x m (by omega)
    obtain ⟨k, p, h1, h2, h3⟩ := hw.step m hm
    have hs := bes_step hl h1 h2 h3 x
    rw [h1] at ih
    have e1 : indZ N x (k : Int) = indN N x k := rfl
    rw [h2]
    show ((besTo N W m ++ besF N W (m + 1)).map (indZ N x)).sum + indN N x i = indN N x p
    rw [List.map_append, List.sum_append]
    omega
/-- All of RedWays. -/
theorem ways_law {kind : Int} {ids : List Int} {ls : List (List Int)} (hok : OkT ids ls) {a : Nat} (ha : a < ids.length) :
    ∃ i : Nat, WaySpec (nodesL kind ids ls) i (wayN (nodesL kind ids ls) (nodesL kind ids ls).length (leafI (a : Int) (nodesL kind ids ls))) ∧ ((nodesL kind ids ls).getD i nd0).lv = 0 ∧ ((nodesL kind ids ls).getD i nd0).fr = (a : Int) ∧ ((nodesL kind ids ls).getD i nd0).tt = (a : Int) + 1 := by
  have hz : ¬ ids.length = 0 := by omega
  obtain ⟨i, h1, h2, h3, h4, h5⟩ := leaf_is (kind := kind) hok ha
  rw [h1]
  exact ⟨i, way_spec (fun j hj => nodes_sub hok hz hj) (nodes_root hok hz).2.2.2 _ i h2 (by omega), h3, h4, h5⟩
/-- Each leaf is once among what is beside the way, and the way's own. -/
theorem ways_once {kind : Int} {ids : List Int} {ls : List (List Int)} (hok : OkT ids ls) {W : List Int} {i : Nat} (hw : WaySpec (nodesL kind ids ls) i W) {x : Nat} (hx : x < ids.length) :
    ((besTo (nodesL kind ids ls) W (W.length - 1)).map (indZ (nodesL kind ids ls) (x : Int))).sum + indN (nodesL kind ids ls) (x : Int) i = 1 := by
  have hz : ¬ ids.length = 0 := by omega
  have hr := nodes_root (kind := kind) hok hz
  rw [bes_all hw (fun k hk => nodes_lt hok hz hk) _ _ (by have := hw.pos; omega), hw.last]
  show indN _ _ (Int.toNat ((_ : Nat) : Int)) = 1
  rw [Int.toNat_natCast]
  unfold indN
  rw [hr.2.1, hr.2.2.1, if_pos (by omega)]
theorem nodes_bd {kind : Int} {ids : List Int} {ls : List (List Int)} (hok : OkT ids ls) (hz : ¬ ids.length = 0) {p : Nat} (hp : p < (nodesL kind ids ls).length) : 0 ≤ ((nodesL kind ids ls).getD p nd0).fr ∧ ((nodesL kind ids ls).getD p nd0).tt ≤ (ids.length : Nat) := by
  have hr := nodes_root (kind := kind) hok hz
  have hw := way_spec (fun j hj => nodes_sub (kind := kind) hok hz hj) hr.2.2.2 _ p hp (Nat.le_add_left _ _)
  obtain ⟨k, k1, k2, k3, k4⟩ := hw.all _ (Nat.sub_lt hw.pos Nat.one_pos)
  rw [hw.last] at k1
  have hk : k = (nodesL kind ids ls).length - 1 := by omega
  rw [hk, hr.2.1] at k3
  rw [hk, hr.2.2.1] at k4
  exact ⟨k3, k4⟩
theorem bes_in {kind : Int} {ids : List Int} {ls : List (List Int)} (hok : OkT ids ls) (hz : ¬ ids.length = 0) {W : List Int} {i : Nat} (hw : WaySpec (nodesL kind ids ls) i W) : ∀ m, m < W.length → ∀ z ∈ besTo (nodesL kind ids ls) W m, ∃ k : Nat, z = (k : Int) ∧ k < (nodesL kind ids ls).length
  | 0, _, z, hzm => by simp [besTo] at hzm
  | m + 1, hm, z, hzm => by
    rcases List.mem_append.1 hzm with h | h
    · exact bes_in hok hz hw m (by omega) z h
    · obtain ⟨k, p, h1, h2, h3⟩ := hw.step m hm
      obtain ⟨-, -, -, -, -, ks, hks, -, hkn, -⟩ := h3
      unfold besF at h
      rw [h2, Int.toNat_natCast, Nat.add_sub_cancel, h1, hks, kz_filter] at h
      obtain ⟨q, hq, rfl⟩ := List.mem_map.1 h
      exact ⟨q, rfl, hkn q (List.mem_filter.1 hq).1⟩
def cntZ (N : List Nd) (i : Nat) (Bs : List Int) (j : Nat) (x : Nat) : Nat := ((Bs.take j).map (indZ N (x : Int))).sum + indN N (x : Int) i
theorem cntZ_succ {N : List Nd} {i : Nat} {Bs : List Int} {j : Nat} (h : j < Bs.length) (x : Nat) : cntZ N i Bs (j + 1) x = cntZ N i Bs j x + indZ N (x : Int) (Bs.getD j 0) := by
  unfold cntZ
  have ht : Bs.take (j + 1) = Bs.take j ++ [Bs.getD j 0] := by
    rw [List.take_add_one, List.getElem?_eq_getElem h, List.getD_eq_getElem?_getD, List.getElem?_eq_getElem h]
    rfl
  rw [ht, List.map_append, List.sum_append, List.map_cons, List.map_nil, List.sum_cons, List.sum_nil]
  omega
theorem cntZ_le {N : List Nd} {i : Nat} {Bs : List Int} (j x : Nat) : cntZ N i Bs j x ≤ (Bs.map (indZ N (x : Int))).sum + indN N (x : Int) i := by
  unfold cntZ
  have := congrArg (fun l => (l.map (indZ N (x : Int))).sum) (List.take_append_drop j Bs)
  simp only [List.map_append, List.sum_append] at this
  omega
end Go.Proofs.YtdbhlajajdlmfaaDoor

