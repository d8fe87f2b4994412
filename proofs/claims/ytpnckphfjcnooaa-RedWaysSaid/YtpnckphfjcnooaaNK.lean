/- Both kinds of a tree's nodes: the plain law of RedKinds. -/
import Derived.Test.YtpnckphfjcnooaaNP
import Derived.Test.YtpnckphfjcnooaaN9
namespace Go.Proofs.Ytpnckphfjcnooaa
open Go Go.RowKit
structure Cor where
  lv : Int
  ix : Int
  rd : Bool
  fr : Int
  tt : Int
deriving DecidableEq
def cor (x : Nd) : Cor := ⟨x.lv, x.ix, x.rd, x.fr, x.tt⟩
theorem upL_cor (l : List Nd) (n : Int) : (upL l n).map cor = l.map cor := by
  unfold upL
  rw [List.map_set]
  refine List.ext_getElem? fun j => ?_
  by_cases e : l.length - 1 = j
  · subst e
    by_cases h : l.length - 1 < l.length
    · rw [List.getElem?_set_self (by rw [List.length_map]; exact h), List.getElem?_map, List.getD_eq_getElem?_getD, List.getElem?_eq_getElem h]
      rfl
    · rw [List.getElem?_eq_none (by rw [List.length_set, List.length_map]; omega), List.getElem?_eq_none (by rw [List.length_map]; omega)]
  · rw [List.getElem?_set_ne e]
/-- The nodes without their ways up and down. -/
def skN (kind : Int) (ls : List (List Int)) : Nat → Nat → List Cor
  | 0, at' => [⟨0, (at' : Nat), false, (at' : Nat), (at' + 1 : Nat)⟩]
  | L + 1, at' =>
    if (ls.getD L []).getD at' 0 = 2 then
      skN kind ls L (fstN ls L at') ++ (skN kind ls L (fstN ls L at' + 1) ++ [⟨(L + 1 : Nat), (at' : Nat), false, (loN ls (L + 1) at' : Nat), (loN ls (L + 1) (at' + 1) : Nat)⟩])
    else if kind = 1 then
      skN kind ls L (fstN ls L at') ++ (skN kind ls L (fstN ls L at' + 1) ++ (skN kind ls L (fstN ls L at' + 2) ++ [⟨(L + 1 : Nat), (at' : Nat), false, (loN ls (L + 1) at' : Nat), (loN ls (L + 1) (at' + 1) : Nat)⟩]))
    else
      skN kind ls L (fstN ls L at') ++ (skN kind ls L (fstN ls L at' + 1) ++ (⟨(L + 1 : Nat), (at' : Nat), true, (loN ls (L + 1) at' : Nat), (loN ls L (fstN ls L at' + 2) : Nat)⟩ :: (skN kind ls L (fstN ls L at' + 2) ++ [⟨(L + 1 : Nat), (at' : Nat), false, (loN ls (L + 1) at' : Nat), (loN ls (L + 1) (at' + 1) : Nat)⟩])))
theorem seg_cor (kind : Int) (ls : List (List Int)) : ∀ (L at' b : Nat), (seg kind ls L at' b).map cor = skN kind ls L at'
  | 0, at', b => rfl
  | L + 1, at', b => by
    simp only [seg, skN]
    split
    · simp only [List.map_append, upL_cor, seg_cor kind ls L, List.map_cons, List.map_nil]
      rfl
    · split
      · simp only [List.map_append, upL_cor, seg_cor kind ls L, List.map_cons, List.map_nil]
        rfl
      · simp only [List.map_append, upL_cor, seg_cor kind ls L, List.map_cons, List.map_nil]
        rfl
theorem sk_one (ls : List (List Int)) : ∀ (L at' : Nat), (skN 1 ls L at').filter (fun c => !c.rd) = skN 1 ls L at'
  | 0, at' => rfl
  | L + 1, at' => by
    simp only [skN]
    split
    · simp only [List.filter_append, sk_one ls L]
      rfl
    · simp only [if_true, List.filter_append, sk_one ls L]
      rfl
theorem sk_two (ls : List (List Int)) : ∀ (L at' : Nat), (skN 2 ls L at').filter (fun c => !c.rd) = skN 1 ls L at'
  | 0, at' => rfl
  | L + 1, at' => by
    simp only [skN]
    split
    · simp only [List.filter_append, sk_two ls L]
      rfl
    · rw [if_neg (by decide)]
      simp only [if_true, List.filter_append, List.filter_cons, sk_two ls L]
      rfl
/-- How many groups of three. -/
def thrN (ls : List (List Int)) : Nat → Nat → Nat
  | 0, _ => 0
  | L + 1, at' => if (ls.getD L []).getD at' 0 = 2 then thrN ls L (fstN ls L at') + thrN ls L (fstN ls L at' + 1) else thrN ls L (fstN ls L at') + thrN ls L (fstN ls L at' + 1) + thrN ls L (fstN ls L at' + 2) + 1
theorem sk_thr (ls : List (List Int)) : ∀ (L at' : Nat), ((skN 2 ls L at').filter (fun c => c.rd)).length = thrN ls L at'
  | 0, at' => rfl
  | L + 1, at' => by
    simp only [skN, thrN]
    split
    · simp only [List.filter_append, List.length_append, sk_thr ls L]
      rfl
    · rw [if_neg (by decide)]
      simp only [List.filter_append, List.filter_cons, List.length_append, List.length_cons, sk_thr ls L, if_true]
      simp
      omega
def c3 (l : List Int) : Nat := (l.filter (fun x => x == 3)).length
def sumTo (n : Nat) (g : Nat → Nat) : Nat := ((List.range n).map g).sum
theorem sumTo_zero (g : Nat → Nat) : sumTo 0 g = 0 := rfl
theorem sumTo_succ (n : Nat) (g : Nat → Nat) : sumTo (n + 1) g = sumTo n g + g n := by
  simp [sumTo, List.range_succ]
/-- The groups of a level, up to one, have just what stands below up to where it begins. -/
theorem part {n : Nat} {ls : List (List Int)} (h : Fit n ls) {L : Nat} (hL : L < ls.length) (k : Nat) (hk : k ≤ cntN n ls (L + 1)) :
    sumTo k (thrN ls (L + 1)) = sumTo (fstN ls L k) (thrN ls L) + c3 ((ls.getD L []).take k) := by
  induction k with
  | zero => simp [sumTo, fstN, frm, c3]
  | succ k ih =>
    have hk' : k < cntN n ls (L + 1) := by omega
    obtain ⟨x, hx, hx23, hx1, hx2⟩ := fit_step h hL hk'
    have hkl : k < (ls.getD L []).length := hk'
    have ht : (ls.getD L []).take (k + 1) = (ls.getD L []).take k ++ [(ls.getD L []).getD k 0] := by
      generalize ls.getD L [] = l at hkl
      rw [List.take_add_one, List.getElem?_eq_getElem hkl, List.getD_eq_getElem?_getD, List.getElem?_eq_getElem hkl]
      rfl
    have hc : c3 ((ls.getD L []).take (k + 1)) = c3 ((ls.getD L []).take k) + (if x = 3 then 1 else 0) := by
      rw [ht, hx]
      unfold c3
      rw [List.filter_append, List.length_append]
      rcases hx23 with rfl | rfl <;> rfl
    rw [sumTo_succ, ih (by omega), hx1, hc]
    unfold thrN
    rcases hx23 with rfl | rfl
    · rw [if_pos (show (ls.getD L []).getD k 0 = 2 from hx), show fstN ls L k + 2 = fstN ls L k + 1 + 1 from rfl, sumTo_succ, sumTo_succ, if_neg (by decide)]
      omega
    · rw [if_neg (by rw [hx]; decide), show fstN ls L k + 3 = fstN ls L k + 1 + 1 + 1 from rfl, sumTo_succ, sumTo_succ, sumTo_succ, if_pos rfl]
      omega
def c3s (ls : List (List Int)) (m : Nat) : Nat := ((ls.take m).map c3).sum
theorem c3s_succ {ls : List (List Int)} {m : Nat} (h : m < ls.length) : c3s ls (m + 1) = c3s ls m + c3 (ls.getD m []) := by
  unfold c3s
  have ht : ls.take (m + 1) = ls.take m ++ [ls.getD m []] := by
    rw [List.take_add_one, List.getElem?_eq_getElem h, List.getD_eq_getElem?_getD, List.getElem?_eq_getElem h]
    rfl
  rw [ht, List.map_append, List.sum_append, List.map_cons, List.map_nil, List.sum_cons, List.sum_nil, Nat.add_zero]
theorem thr_all {n : Nat} {ls : List (List Int)} (h : Fit n ls) : ∀ L, L ≤ ls.length → sumTo (cntN n ls L) (thrN ls L) = c3s ls L
  | 0, _ => by
    have : ∀ m, sumTo m (thrN ls 0) = 0 := fun m => by
      induction m with
      | zero => rfl
      | succ m ih => rw [sumTo_succ, ih]; rfl
    rw [this]
    rfl
  | L + 1, hL => by
    have h1 := thr_all h L (by omega)
    have hs := h.sum L hL
    have hf : fstN ls L (cntN n ls (L + 1)) = cntN n ls L := by
      unfold fstN frm
      rw [show cntN n ls (L + 1) = (ls.getD L []).length from rfl, List.take_length, hs]
      rfl
    rw [part h hL _ (Nat.le_refl _), hf, h1, c3s_succ hL, show cntN n ls (L + 1) = (ls.getD L []).length from rfl, List.take_length]
theorem thr_top {n : Nat} {ls : List (List Int)} (h : Fit n ls) (ht : cntN n ls ls.length = 1) : thrN ls ls.length 0 = c3s ls ls.length := by
  have := thr_all h ls.length (Nat.le_refl _)
  rw [ht, sumTo_succ, sumTo_zero, Nat.zero_add] at this
  exact this
theorem cnt_top {ids : List Int} {ls : List (List Int)} (hok : OkT ids ls) (hz : ¬ ids.length = 0) : cntN ids.length ls ls.length = 1 := by
  have hf := okLv_fit ls ids.length hok.2
  have h1 := cnt_pos hf (by omega) ls.length (Nat.le_refl _)
  have h2 := hf.top
  omega
theorem nodes_seg {kind : Int} {ids : List Int} {ls : List (List Int)} (hok : OkT ids ls) (hz : ¬ ids.length = 0) : nodesL kind ids ls = seg kind ls ls.length 0 0 := by
  unfold nodesL
  rw [if_neg hz, below_seg (okLv_fit ls ids.length hok.2) kind ls.length 0 [] (Nat.le_refl _) (by rw [cnt_top hok hz]; exact Nat.one_pos)]
  rfl
theorem kinds_cor {ids : List Int} {ls : List (List Int)} (hok : OkT ids ls) : ((nodesL 2 ids ls).filter (fun x => !x.rd)).map cor = (nodesL 1 ids ls).map cor := by
  have e : ∀ l : List Nd, (l.filter (fun x => !x.rd)).map cor = (l.map cor).filter (fun c => !c.rd) := fun l => by
    rw [List.filter_map]
    rfl
  rw [e]
  by_cases hz : ids.length = 0
  · unfold nodesL
    rw [if_pos hz, if_pos hz]
    rfl
  · rw [nodes_seg hok hz, nodes_seg hok hz, seg_cor, seg_cor, sk_two]
theorem kinds_thr {ids : List Int} {ls : List (List Int)} (hok : OkT ids ls) : ((nodesL 2 ids ls).filter (fun x => x.rd)).length = c3s ls ls.length := by
  have e : ∀ l : List Nd, (l.filter (fun x => x.rd)).length = ((l.map cor).filter (fun c => c.rd)).length := fun l => by
    rw [List.filter_map, List.length_map]
    rfl
  rw [e]
  by_cases hz : ids.length = 0
  · have h2 := hok.2
    rw [hz] at h2
    rw [okLv_zero h2]
    unfold nodesL
    rw [if_pos hz]
    rfl
  · rw [nodes_seg hok hz, seg_cor, sk_thr, thr_top (okLv_fit ls ids.length hok.2) (cnt_top hok hz)]
def redK (b : List Nd) (i : Nat) : Nat := ((b.take i).filter (fun x => x.rd)).length
def nonK (b : List Nd) (i : Nat) : Nat := ((b.take i).filter (fun x => !x.rd)).length
theorem take_snoc (b : List Nd) {i : Nat} (h : i < b.length) : b.take (i + 1) = b.take i ++ [b.getD i nd0] := by
  rw [List.take_add_one, List.getElem?_eq_getElem h, List.getD_eq_getElem?_getD, List.getElem?_eq_getElem h]
  rfl
theorem redK_step (b : List Nd) {i : Nat} (h : i < b.length) : redK b (i + 1) = redK b i + (if (b.getD i nd0).rd then 1 else 0) := by
  unfold redK
  rw [take_snoc b h, List.filter_append, List.length_append]
  generalize b.getD i nd0 = y
  rw [List.filter_cons]
  cases y.rd <;> rfl
theorem nonK_step (b : List Nd) {i : Nat} (h : i < b.length) : nonK b (i + 1) = nonK b i + (if (b.getD i nd0).rd then 0 else 1) := by
  unfold nonK
  rw [take_snoc b h, List.filter_append, List.length_append]
  generalize b.getD i nd0 = y
  rw [List.filter_cons]
  cases y.rd <;> rfl
theorem nonK_at {a b : List Nd} (hc : (b.filter (fun x => !x.rd)).map cor = a.map cor) {i : Nat} (h : i < b.length) (hr : (b.getD i nd0).rd = false) : nonK b i < a.length ∧ cor (a.getD (nonK b i) nd0) = cor (b.getD i nd0) := by
  have e : b = b.take i ++ (b.getD i nd0 :: b.drop (i + 1)) := by
    have := List.take_append_drop i b
    rw [List.drop_eq_getElem_cons h] at this
    rw [List.getD_eq_getElem?_getD, List.getElem?_eq_getElem h]
    exact this.symm
  have hf : b.filter (fun x => !x.rd) = (b.take i).filter (fun x => !x.rd) ++ (b.getD i nd0 :: (b.drop (i + 1)).filter (fun x => !x.rd)) := by
    have := congrArg (List.filter (fun x : Nd => !x.rd)) e
    rw [List.filter_append, List.filter_cons, hr] at this
    exact this
  have hk : (a.map cor)[nonK b i]? = some (cor (b.getD i nd0)) := by
    have hz : nonK b i = ((b.take i).filter (fun x => !x.rd)).length := rfl
    rw [← hc, hf, List.map_append, hz, List.getElem?_append_right (by rw [List.length_map]; exact Nat.le_refl _), List.length_map, Nat.sub_self]
    rfl
  have hlt : nonK b i < a.length := by
    have := (List.getElem?_eq_some_iff.1 hk).1
    rwa [List.length_map] at this
  refine ⟨hlt, ?_⟩
  rw [List.getElem?_map, List.getElem?_eq_getElem hlt] at hk
  rw [List.getD_eq_getElem?_getD, List.getElem?_eq_getElem hlt]
  exact Option.some.inj hk
theorem nonK_all {a b : List Nd} (hc : (b.filter (fun x => !x.rd)).map cor = a.map cor) : nonK b b.length = a.length := by
  unfold nonK
  rw [List.take_length, ← List.length_map (f := cor), hc, List.length_map]
theorem redK_le (b : List Nd) (i : Nat) : redK b i ≤ redK b b.length := by
  unfold redK
  rw [List.take_length]
  exact List.Sublist.length_le ((List.take_sublist i b).filter _)
theorem c3s_le {ids : List Int} {ls : List (List Int)} (hok : OkT ids ls) : (nodesL 2 ids ls).length ≤ 90000 := by
  unfold nodesL
  split
  · simp
  · have h := (below_length 2 ls ls.length 0 []).2
    have h9 : 3 ^ ls.length ≤ 3 ^ 9 := Nat.pow_le_pow_right (by decide) (lv_nine2 hok)
    simp only [List.length_nil] at h
    omega
def leftK (b : List Nd) (i : Nat) : Nat := redK b b.length - redK b i
theorem leftK_zero {ids : List Int} {ls : List (List Int)} (hok : OkT ids ls) : leftK (nodesL 2 ids ls) 0 = c3s ls ls.length := by
  unfold leftK redK
  rw [List.take_length, kinds_thr hok]
  rfl
theorem leftK_red {b : List Nd} {i : Nat} (h : i < b.length) (hr : (b.getD i nd0).rd = true) : leftK b i = leftK b (i + 1) + 1 := by
  have h1 := redK_step b h
  have h2 := redK_le b (i + 1)
  rw [hr, if_pos rfl] at h1
  unfold leftK
  omega
theorem leftK_non {b : List Nd} {i : Nat} (h : i < b.length) (hr : (b.getD i nd0).rd = false) : leftK b (i + 1) = leftK b i := by
  have h1 := redK_step b h
  rw [hr] at h1
  unfold leftK
  rw [h1]
  rfl
theorem leftK_end (b : List Nd) : leftK b b.length = 0 := Nat.sub_self _
theorem nonK_le (b : List Nd) (i : Nat) : nonK b i ≤ i := Nat.le_trans (List.length_filter_le _ _) (by rw [List.length_take]; exact Nat.min_le_left _ _)
theorem leftK_le (b : List Nd) (i : Nat) : leftK b i ≤ b.length := by
  have h4 := List.length_filter_le (fun x : Nd => x.rd) b
  unfold leftK redK
  rw [List.take_length]
  omega
theorem c3s_mono {ls : List (List Int)} (m : Nat) : ∀ d, m + d ≤ ls.length → c3s ls m ≤ c3s ls (m + d)
  | 0, _ => Nat.le_refl _
  | d + 1, h => by
    have h1 := c3s_mono (ls := ls) m d (by omega)
    have h2 := c3s_succ (ls := ls) (m := m + d) (by omega)
    rw [← Nat.add_assoc, h2]
    omega
theorem c3_take_le (l : List Int) (j : Nat) : c3 (l.take j) ≤ c3 l := List.Sublist.length_le ((List.take_sublist j l).filter _)
theorem c3s_few {ids : List Int} {ls : List (List Int)} (hok : OkT ids ls) {m : Nat} (h : m < ls.length) (j : Nat) : c3s ls m + c3 ((ls.getD m []).take j) ≤ 90000 := by
  have h1 := c3_take_le (ls.getD m []) j
  have h2 := c3s_succ h
  have h3 := c3s_mono (ls := ls) (m + 1) (ls.length - (m + 1)) (by omega)
  rw [show m + 1 + (ls.length - (m + 1)) = ls.length by omega, ← kinds_thr hok] at h3
  have h4 := List.length_filter_le (fun x : Nd => x.rd) (nodesL 2 ids ls)
  have h5 := c3s_le hok
  omega
theorem c3s_few2 {ids : List Int} {ls : List (List Int)} (hok : OkT ids ls) {m : Nat} (h : m ≤ ls.length) : c3s ls m ≤ 90000 := by
  have h3 := c3s_mono (ls := ls) m (ls.length - m) (by omega)
  rw [show m + (ls.length - m) = ls.length by omega, ← kinds_thr hok] at h3
  have h4 := List.length_filter_le (fun x : Nd => x.rd) (nodesL 2 ids ls)
  have h5 := c3s_le hok
  omega
theorem c3_take {l : List Int} {j : Nat} (h : j < l.length) : c3 (l.take (j + 1)) = c3 (l.take j) + (if l.getD j 0 = 3 then 1 else 0) := by
  have ht : l.take (j + 1) = l.take j ++ [l.getD j 0] := by
    rw [List.take_add_one, List.getElem?_eq_getElem h, List.getD_eq_getElem?_getD, List.getElem?_eq_getElem h]
    rfl
  rw [ht]
  unfold c3
  rw [List.filter_append, List.length_append]
  congr 1
  generalize l.getD j 0 = y
  by_cases e : y = 3
  · rw [if_pos e, e]
    rfl
  · rw [if_neg e]
    simp [e]
theorem nd_info3 (x : Nd) (kv : Value) : (Try.prog.info? 41).map (·.size) = some (ndR x kv).length := by kernel_rfl
theorem may_two {ids : List Int} {ls : List (List Int)} (kind : Int) (h : kind = 1 ∨ kind = 2) : mayE kind ids ls = chkT ids ls := if_pos h
theorem OwnN.rngA {w : World} {base : Nat} {v : Value} {ps : List (Nd × Value)} (h : OwnN w base v ps) {i : Nat} (hi : i < ps.length) :
    ∃ g cap, v = .slice (some ⟨g, 0, none⟩) ps.length cap ∧ g < w.heap.size ∧ ∀ wx, Aft w wx → wx.rangeAt g (i * 7) (ndR (ps.getD i ndP).1 (ps.getD i ndP).2) := by
  obtain ⟨g, cap, hv, hg, hc⟩ := h.atA hi
  exact ⟨g, cap, hv, hg, fun wx hx j u hu => hc wx hx j u hu⟩
theorem OwnN.kidv {w : World} {base : Nat} {v : Value} {ps : List (Nd × Value)} (h : OwnN w base v ps) {i : Nat} (hi : i < ps.length) : ∃ a c, (ps.getD i ndP).2 = .slice a (ps.getD i ndP).1.ks.length c :=
  (h.own _ (by rw [List.getD_eq_getElem?_getD, List.getElem?_eq_getElem hi]; exact List.getElem_mem hi)).shape
end Go.Proofs.Ytpnckphfjcnooaa
