/- plan.Make, walked. -/
import Derived.Test.YtfgammcefaomeaaP6
namespace Go.Proofs.Ytfgammcefaomeaa
open Go Go.RowKit
set_option linter.unusedSimpArgs false
/-- What plan.Make's last loop keeps. -/
structure LpS (w6 wz : World) (lb n : Nat) (f : Int → Option Int) (base : Nat) (vk : Value) (kl : List Int) (vs : Value) (ss : List (Stp × Value)) : Prop where
  mp : MapM wz lb n f
  a6 : Aft w6 wz
  b6 : w6.heap.size ≤ base
  sz : base ≤ wz.heap.size
  ow : OwnI wz base vk kl
  st : OwnSt wz base vs ss
  di : ∀ p ∈ ss, ∀ g, p.2.ownBlock = some g → vk.ownBlock ≠ some g
theorem LpS.aft {w6 wz w' : World} {lb n : Nat} {f : Int → Option Int} {base : Nat} {vk : Value} {kl : List Int} {vs : Value} {ss : List (Stp × Value)} (h : LpS w6 wz lb n f base vk kl vs ss) (ha : Aft wz w') : LpS w6 w' lb n f base vk kl vs ss :=
  ⟨h.mp.aft ha, h.a6.trans ha, h.b6, Nat.le_trans h.sz (Below.size ha), h.ow.aft ha, h.st.aft ha, h.di⟩
theorem OwnSt.storedP {w w' : World} {base g t : Nat} {v : Value} {ps : List (Stp × Value)} {cs : Array Value} {fr : Nat × Nat} (h : OwnSt w base v ps) (hg : w.heap[g]? = some (.cells cs t fr)) (ht : t ≠ 3) (ht2 : t ≠ 40) (hb : ∀ k, k ≠ g → w'.heap[k]? = w.heap[k]?) : OwnSt w' base v ps := by
  refine ⟨h.row.keep fun k hk => hb k fun e => ?_, fun p hp => (h.own p hp).storedP hg ht hb⟩
  subst e
  rcases h.row.2.2 with ⟨rfl, -⟩ | ⟨b, cap, cur, rfl, -, hgc, -⟩
  · cases hk
  · cases hk
    rw [show w.heap[Addr.block ⟨b, 0, none⟩]? = _ from hgc] at hg
    cases hg
    exact ht2 rfl
theorem LpS.stored {w6 wz w' : World} {lb n g t : Nat} {f : Int → Option Int} {base : Nat} {vk : Value} {kl : List Int} {vs : Value} {ss : List (Stp × Value)} {cs : Array Value} {fr : Nat × Nat} (h : LpS w6 wz lb n f base vk kl vs ss) (hg : wz.heap[g]? = some (.cells cs t fr)) (ht : t ≠ 3) (ht2 : t ≠ 40) (hg6 : w6.heap.size ≤ g) (hb : Hid (∀ k, k ≠ g → w'.heap[k]? = wz.heap[k]?)) (h3 : ∀ k w0, k ≤ g → Below k w0 wz → Below k w0 w') : LpS w6 w' lb n f base vk kl vs ss :=
  ⟨h.mp.stored hg hb.out, h3 _ _ hg6 h.a6, h.b6, Nat.le_trans h.sz (Below.size (h3 0 wz (Nat.zero_le _) (Below.refl _ _))), h.ow.storedP hg ht hb.out, h.st.storedP hg ht ht2 hb.out, h.di⟩
theorem LpS.app {w6 wz w' : World} {lb n g : Nat} {f : Int → Option Int} {base : Nat} {vk vk' : Value} {kl kl' : List Int} {vs : Value} {ss : List (Stp × Value)} (h : LpS w6 wz lb n f base vk kl vs ss) (hf : Fr (fun b => vk.ownBlock = some b) wz w') (ho : OwnI w' base vk' kl') (hn : vk.ownBlock = some g ∨ wz.heap.size ≤ g) (hv : vk'.ownBlock = some g) : LpS w6 w' lb n f base vk' kl' vs ss :=
  ⟨h.mp.row h.ow hf, aft_fr h.a6 h.ow h.b6 hf, h.b6, Nat.le_trans h.sz hf.size, ho, h.st.keep hf (fun g hg e => own_ne2 h.ow h.st.row.2 (by decide) hg e) h.di, fun p hp g' hg' e => by
    rw [hv] at e
    cases e
    rcases hn with q | q
    · exact h.di p hp _ hg' q
    · have := ((h.st.own p hp).lt hg').2
      omega⟩
theorem LpS.appS {w6 wz w' : World} {lb n : Nat} {f : Int → Option Int} {base : Nat} {vk : Value} {kl : List Int} {vs vs' sv : Value} {ss : List (Stp × Value)} {z : Stp} (h : LpS w6 wz lb n f base vk kl vs ss) (hf : Fr (fun b => vs.ownBlock = some b) wz w') (ho : OwnSt w' base vs' (ss ++ [(z, sv)])) (hd : ∀ g, sv.ownBlock = some g → vk.ownBlock ≠ some g) : LpS w6 w' lb n f base vk kl vs' (ss ++ [(z, sv)]) :=
  ⟨h.mp.row h.st.row.2 hf, ⟨hf.os.trans h.a6.os, hf.tape.trans h.a6.tape, hf.output.trans h.a6.output, Nat.le_trans h.a6.size hf.size, fun k hk => (hf.block k (Nat.lt_of_lt_of_le hk h.a6.size) fun q => by
    have h1 := (h.st.lt k q).1
    have h2 := h.b6
    omega).trans (h.a6.block k hk)⟩, h.b6, Nat.le_trans h.sz hf.size, h.ow.fr hf (fun g hg e => own_ne2 h.st.row.2 h.ow (by decide) hg e), ho, fun p hp => by
    rcases List.mem_append.1 hp with hp | hp
    · exact h.di p hp
    · rw [List.mem_singleton.1 hp]
      exact hd⟩
theorem LpS.mk' {w6 wz : World} {lb n mb : Nat} {f : Int → Option Int} {base : Nat} {va vb vi vk : Value} {by' : Int} {kl ids : List Int} {vs : Value} {ss : List (Stp × Value)} {A B : List (Nd × Value)} (h : LpS w6 wz lb n f base vk kl vs ss) (hb : wz.heap[mb]? = some (.cells (mkrR va vb lb vi vk by').toArray 73 (0, 0))) (hA : RdN w6 va A) (hB : RdN w6 vb B) (hI : Rd w6 vi (zv ids)) : MkW wz mb lb va vb vi vk by' A B ids kl n f :=
  ⟨hb, hA.aft h.a6, hB.aft h.a6, hI.grow h.a6, h.ow.rd, h.mp⟩
/-- What plan.Make says. -/
def PlnOk (kind : Int) (ids0 : List Int) (ls0 : List (List Int)) (ids : List Int) (ls : List (List Int)) (by' : Int) : Prop := mayE kind ids0 ls0 = 0 ∧ mayE kind ids ls = 0 ∧ by' ∈ ids
def PlnSays (kind : Int) (ids0 : List Int) (ls0 : List (List Int)) (ids : List Int) (ls : List (List Int)) (T : List Int) (by' : Int) (w : World) (e : Ending) (w' : World) : Prop :=
  (PlnOk kind ids0 ls0 ids ls by' ∧ ∃ vk vs ss, e = .returned (.tuple #[.agg (plR vk vs).toArray, .int .i64 0]) ∧ OwnI w' w.heap.size vk (keepL (nodesL kind ids0 ls0) (lvT (nodesL kind ids0 ls0) ids0 T by') ids (nodesL kind ids ls) (nodesL kind ids ls).length) ∧ OwnSt w' w.heap.size vs ss ∧
    ss.map Prod.fst = stpL (nodesL kind ids0 ls0) (lvT (nodesL kind ids0 ls0) ids0 T by') ids (nodesL kind ids ls) by' (nodesL kind ids ls).length ∧ Aft w w') ∨
  (¬ PlnOk kind ids0 ls0 ids ls by' ∧ e = .returned (.tuple #[.agg (plR (.slice none 0 0) (.slice none 0 0)).toArray, .int .i64 1]) ∧ Aft w w')
set_option maxRecDepth 100000 in
set_option maxHeartbeats 8000000 in
theorem make_any (kind by' : Int) (vi0 vl0 vi vl vt : Value) (ids0 : List Int) (ls0 : List (List Int)) (ids : List Int) (ls : List (List Int)) (T : List Int) (w : World) (hi0 : Rd w vi0 (zv ids0)) (hl0 : RdLs w vl0 ls0) (hs0 : Small ids0 ls0) (hi : Rd w vi (zv ids)) (hl : RdLs w vl ls) (hs : Small ids ls) (ht : Rd w vt (zv T)) (hlen : ids.length ≤ 1048576) (hwT : ∀ x ∈ T, (Lit.int .i64 x).wf = true) (hwb : (Lit.int .i64 by').wf = true)
    (hok : PlnOk kind ids0 ls0 ids ls by' → PlOk (nodesL kind ids0 ls0) ids0 (nodesL kind ids ls) ids ∧ (nodesL kind ids0 ls0).length ≤ 90000 ∧ (nodesL kind ids ls).length ≤ 90000) :
    Calls Try.prog 13 #[.int .i64 kind, .agg (shpL vi0 vl0).toArray, .agg (shpL vi vl).toArray, vt, .int .i64 by'] w (PlnSays kind ids0 ls0 ids ls T by' w) := by
  have HN0 := Lib.hid (fun (wx : World) (ha : Aft w wx) => rnodes_any kind vi0 vl0 ids0 ls0 wx (hi0.grow ha) (hl0.aft ha) hs0)
  have HN1 := Lib.hid (fun (wx : World) (ha : Aft w wx) => rnodes_any kind vi vl ids ls wx (hi.grow ha) (hl.aft ha) hs)
  have HCo := Lib.hid (fun (wx : World) (ha : Aft w wx) => contains_any vi by' ids wx (hi.grow ha) hlen)
  have HI0 := Lib.hid hi0
  have HI := Lib.hid hi
  have HT := Lib.hid ht
  have HWT := Lib.hid hwT
  have HWb := Lib.hid hwb
  have HOk := Lib.hid hok
  obtain ⟨ao, ac, rfl, -, -⟩ := hi0.numS
  obtain ⟨bo, bc, rfl, -⟩ := hl0.shape
  obtain ⟨co, cc, rfl, -, -⟩ := hi.numS
  obtain ⟨dd, dc, rfl, -⟩ := hl.shape
  obtain ⟨eo, ec, rfl, -, -⟩ := ht.numS
  have HL := Lib.hid (Led.start w)
  clear hi0 hl0 hs0 hi hl hs ht hlen hwT hwb hok
  go_enter Try.func13, Try.ntmps13
  go_wp2_with (first | (refine wpList_dstT 6 rfl ?_; refine wpList_boxO rfl 25 (.tmp 1) rfl (.agg (shpL (.slice ao ids0.length ac) (.slice bo ls0.length bc)).toArray) rfl (.cells (shpL (.slice ao ids0.length ac) (.slice bo ls0.length bc)).toArray 25) (box_shp _) ?_; intro w1 aa gg zz; replace HL := Lib.hid (HL.out.alloc aa gg.out); clear aa gg zz; try simp only [List.nil_append, List.cons_append, List.set_cons_zero, List.set_cons_succ] at HL) | (refine wpList_dstT 7 rfl ?_; refine wpList_boxO rfl 25 (.tmp 2) rfl (.agg (shpL (.slice co ids.length cc) (.slice dd ls.length dc)).toArray) rfl (.cells (shpL (.slice co ids.length cc) (.slice dd ls.length dc)).toArray 25) (box_shp _) ?_; intro w2 aa gg zz; replace HL := Lib.hid (HL.out.alloc aa gg.out); clear aa gg zz; try simp only [List.nil_append, List.cons_append, List.set_cons_zero, List.set_cons_succ] at HL) | (refine wpList_allocO rfl 30 rfl (.cells (plR (.slice none 0 0) (.slice none 0 0)).toArray 30) alloc_pl ?_; intro w3 aa gg zz; replace HL := Lib.hid (HL.out.alloc aa gg.out); clear aa gg zz; try simp only [List.nil_append, List.cons_append, List.set_cons_zero, List.set_cons_succ] at HL) | (refine wpList_load_rowG (by kernel_rfl) 25 (.tmp 6) rfl _ rfl _ _ _ _ (HL.out.get 0 rfl) Try.underlying25 rfl (shp_info _ _) ?_))
  refine (HN0.out _ HL.out.aft).mono ?_
  rintro e w4 ⟨va, A, rfl, hoA, hfA, h4⟩
  have HOA := Lib.hid hoA
  have HFA := Lib.hid hfA
  obtain ⟨aa, ac2, rfl⟩ := hoA.shape
  replace HL := Lib.hid (HL.out.call h4)
  clear hoA hfA h4 HN0
  go_wp2_with (first | (refine wpList_load_rowG (by kernel_rfl) 25 (.tmp 7) rfl _ rfl _ _ _ _ (HL.out.get 1 rfl) Try.underlying25 rfl (shp_info _ _) ?_))
  refine (HN1.out _ HL.out.aft).mono ?_
  rintro e w5 ⟨vb, B, rfl, hoB, hfB, h5⟩
  have HOB := Lib.hid hoB
  have HFB := Lib.hid hfB
  obtain ⟨ba, bc2, rfl⟩ := hoB.shape
  replace HOA := Lib.hid (HOA.out.aft h5)
  replace HL := Lib.hid (HL.out.call h5)
  clear hoB hfB h5 HN1
  rcases mayE_or kind ids0 ls0 with hm0 | hm0
  rotate_left
  · have HX := Lib.hid hm0
    rw [hm0]
    clear hm0
    go_wp2_with (first | (refine wpList_buildO (by kernel_rfl) 30 #[] rfl #[] (by kernel_rfl) _ (build_pl0) ?_) | (refine wpList_store_rowZ rfl 30 (.tmp 10) (.tmp 49) rfl _ (plR (.slice none 0 0) (.slice none 0 0)).toArray rfl rfl _ _ (HL.out.get 2 rfl) (pl_info _ _) rfl (all_one plR_one) ?_; intro w9 b1 b2 b3; replace HL := Lib.hid (HL.out.store 2 rfl b1 b2 b3); clear b1 b2 b3; try simp only [List.nil_append, List.cons_append, List.set_cons_zero, List.set_cons_succ] at HL))
    refine bodyPost_ret (results_cell_tmp rfl _ _ _ 30 _ (0, 0) _ rfl (HL.out.get 2 rfl) Try.underlying30 rfl (pl_info _ _)) rfl ?_
    exact .inr ⟨fun q => by have := q.1; rw [HX.out] at this; exact absurd this (by decide), rfl, HL.out.aft⟩
  have HM0 := Lib.hid hm0
  rw [hm0]
  clear hm0
  rcases mayE_or kind ids ls with hm1 | hm1
  rotate_left
  · have HX := Lib.hid hm1
    rw [hm1]
    clear hm1
    go_wp2_with (first | (refine wpList_buildO (by kernel_rfl) 30 #[] rfl #[] (by kernel_rfl) _ (build_pl0) ?_) | (refine wpList_store_rowZ rfl 30 (.tmp 10) (.tmp 49) rfl _ (plR (.slice none 0 0) (.slice none 0 0)).toArray rfl rfl _ _ (HL.out.get 2 rfl) (pl_info _ _) rfl (all_one plR_one) ?_; intro w9 b1 b2 b3; replace HL := Lib.hid (HL.out.store 2 rfl b1 b2 b3); clear b1 b2 b3; try simp only [List.nil_append, List.cons_append, List.set_cons_zero, List.set_cons_succ] at HL))
    refine bodyPost_ret (results_cell_tmp rfl _ _ _ 30 _ (0, 0) _ rfl (HL.out.get 2 rfl) Try.underlying30 rfl (pl_info _ _)) rfl ?_
    exact .inr ⟨fun q => by have := q.2.1; rw [HX.out] at this; exact absurd this (by decide), rfl, HL.out.aft⟩
  have HM1 := Lib.hid hm1
  rw [hm1]
  clear hm1
  have e0 := cell_part (n := 0) (HL.out.get 1 rfl) rfl
  go_wp2_with fail
  refine (HCo.out _ HL.out.aft).mono ?_
  rintro e w6 ⟨rfl, rfl⟩
  clear e0 HCo
  by_cases hby : by' ∈ ids
  rotate_left
  · have HX := Lib.hid hby
    rw [decide_eq_false hby]
    clear hby
    go_wp2_with (first | (refine wpList_buildO (by kernel_rfl) 30 #[] rfl #[] (by kernel_rfl) _ (build_pl0) ?_) | (refine wpList_store_rowZ rfl 30 (.tmp 10) (.tmp 49) rfl _ (plR (.slice none 0 0) (.slice none 0 0)).toArray rfl rfl _ _ (HL.out.get 2 rfl) (pl_info _ _) rfl (all_one plR_one) ?_; intro w9 b1 b2 b3; replace HL := Lib.hid (HL.out.store 2 rfl b1 b2 b3); clear b1 b2 b3; try simp only [List.nil_append, List.cons_append, List.set_cons_zero, List.set_cons_succ] at HL))
    refine bodyPost_ret (results_cell_tmp rfl _ _ _ 30 _ (0, 0) _ rfl (HL.out.get 2 rfl) Try.underlying30 rfl (pl_info _ _)) rfl ?_
    exact .inr ⟨fun q => HX.out q.2.2, rfl, HL.out.aft⟩
  have HP := Lib.hid (show PlnOk kind ids0 ls0 ids ls by' from ⟨HM0.out, HM1.out, hby⟩)
  rw [decide_eq_true hby]
  clear hby
  have e0 := cell_part (n := 0) (HL.out.get 1 rfl) rfl
  have HQ := Lib.hid (HOk.out HP.out)
  have hfa : A.map Prod.fst = nodesL kind ids0 ls0 := by rw [HFA.out, if_pos HM0.out]
  have hfb : B.map Prod.fst = nodesL kind ids ls := by rw [HFB.out, if_pos HM1.out]
  rw [← hfa, ← hfb] at HQ
  have HFa := Lib.hid hfa
  have HFb := Lib.hid hfb
  have hAl : (A.map Prod.fst).length = A.length := List.length_map ..
  have hBl : (B.map Prod.fst).length = B.length := List.length_map ..
  have HA9 := Lib.hid (show A.length ≤ 90000 by have := HQ.out.2.1; omega)
  have HB9 := Lib.hid (show B.length ≤ 90000 by have := HQ.out.2.2; omega)
  have HFst := Lib.hid (fun (i : Nat) => show (A.map Prod.fst).getD i nd0 = (A.getD i ndP).1 from fst_getD A i)
  have HFsu := Lib.hid (fun (i : Nat) => show (B.map Prod.fst).getD i nd0 = (B.getD i ndP).1 from fst_getD B i)
  clear HFA HFB hfa hfb HOk HM0 HM1
  have HW6 := Lib.hid (Below.size HL.out.aft)
  have HRA := Lib.hid HOA.out.rd
  have HRB := Lib.hid HOB.out.rd
  clear HOA HOB
  go_wp2_with (first | (refine wpList_makeMapI (by kernel_rfl) rfl ?_; intro w7 aM gM; have HW7 := Lib.hid (show w6.heap.size ≤ w7.heap.size from Below.size aM); have HI6 := Lib.hid (HI.out.grow HL.out.aft); have HMp := Lib.hid gM.out; have HA6 := Lib.hid aM; replace HL := Lib.hid (HL.out.call aM); have e1 := cell_part (n := 0) (HL.out.get 1 rfl) rfl; clear aM gM e0) | (refine wpList_boxO rfl 73 (.tmp 56) rfl (.agg (mkrR (.slice aa A.length ac2) (.slice ba B.length bc2) w6.heap.size (.slice co ids.length cc) (.slice none 0 0) by').toArray) rfl (.cells (mkrR (.slice aa A.length ac2) (.slice ba B.length bc2) w6.heap.size (.slice co ids.length cc) (.slice none 0 0) by').toArray 73) (fun w => rfl) ?_; intro w8 aa1 gg zz; replace HMp := Lib.hid (HMp.out.aft aa1); replace HA6 := Lib.hid (Aft.trans HA6.out aa1); replace HL := Lib.hid (HL.out.alloc aa1 gg.out); clear aa1 gg zz e1; try simp only [List.nil_append, List.cons_append, List.set_cons_zero, List.set_cons_succ] at HL))
  have HWs := Lib.hid (show w.heap.size ≤ w6.heap.size from HW6.out)
  obtain ⟨lb, hlb⟩ : ∃ lb, lb = w6.heap.size := ⟨_, rfl⟩
  rw [← hlb] at HMp HL
  have HLb := Lib.hid hlb
  clear hlb
  go_loopw [60] (fun v60 wr => ∃ i : Nat, i ≤ A.length ∧ v60 = .int .i64 (i : Int) ∧ MapM wr lb i (lfF (A.map Prod.fst) ids0 i) ∧ Led w wr [(w.heap.size, .cells (shpL (.slice ao ids0.length ac) (.slice bo ls0.length bc)).toArray 25), (w1.heap.size, .cells (shpL (.slice co ids.length cc) (.slice dd ls.length dc)).toArray 25), (w2.heap.size, .cells (plR (.slice none 0 0) (.slice none 0 0)).toArray 30), (w7.heap.size, .cells (mkrR (.slice aa A.length ac2) (.slice ba B.length bc2) lb (.slice co ids.length cc) (.slice none 0 0) by').toArray 73)] ∧ Aft w6 wr) (fun v _ => A.length - (intOf v).toNat)
  case atStart => exact ⟨0, Nat.zero_le _, rfl, HMp.out.congr (fun x => rfl), HL.out, HA6.out⟩
  case round =>
    clear HMp HL HA6
    obtain ⟨i, hi, rfl, hM, hL, hA⟩ := hrel
    have HMp := Lib.hid hM
    have HL := Lib.hid hL
    have HA6 := Lib.hid hA
    clear hM hL hA
    by_cases hlt : i < A.length
    · have hlt' : (i : Int) < (A.length : Nat) := by omega
      obtain ⟨g, o, c4, he, hrg⟩ := HRA.out.rngP hlt
      injection he with he1 he2 he3
      subst he1 he3
      obtain ⟨ka, kc, hkv, -, -⟩ := (HRA.out.kid _ (ndP_mem hlt)).numS
      have hrx := hrg wr HA6.out
      rw [hkv] at hrx
      have HAl := Lib.hid (HQ.out.1.al i (by rw [hAl]; exact hlt))
      have HSu := Lib.hid (lfF_succ (A.map Prod.fst) ids0 i)
      rw [HFst.out] at HAl HSu
      generalize (A.getD i ndP).1 = x at *
      have HRx := Lib.hid hrx
      have hi9 : i ≤ 90000 := by have := HA9.out; omega
      clear hrx hrg hkv he2
      by_cases hz : x.lv = 0
      · obtain ⟨j, hj1, hj2⟩ := HAl.out hz
        have HSv := Lib.hid (HSu.out.trans (if_pos hz))
        rw [hj1, Int.toNat_natCast] at HSv
        obtain ⟨ig, io, rfl, -, -⟩ := HI0.out.some_of (by rw [zv_length]; omega)
        have HWj := Lib.hid (HQ.out.1.wf0 _ (getD_memP hj2))
        have hjb : j < 9223372036854775807 := by have := rd_len HI0.out; omega
        clear HAl HSu
        go_wp2_with (first | (refine wpList_dstT 64 rfl ?_; refine wpList_load_mid2 (by kernel_rfl) 38 (.tmp 63) rfl _ _ rfl (ndR x (.slice ka x.ks.length kc)) HRx.out _ Try.underlying38 rfl (nd_infoP _ _) ?_) | (refine wpList_allocO rfl 38 rfl (.cells (ndR nd0 (.slice none 0 0)).toArray 38) alloc_nd ?_; intro wA aa gg zz; replace HMp := Lib.hid (HMp.out.aft aa); have HA60 := HA6; replace HA6 := Lib.hid (Aft.trans HA6.out aa); replace HL := Lib.hid (HL.out.alloc aa gg.out); clear aa gg zz; try simp only [List.nil_append, List.cons_append, List.set_cons_zero, List.set_cons_succ] at HL) | (refine wpList_store_rowZ rfl 38 (.tmp 18) (.tmp 64) rfl _ (ndR x (.slice ka x.ks.length kc)).toArray rfl rfl _ _ (HL.out.get 4 rfl) (nd_info _ _) rfl (all_one ndR_one) ?_; intro wB b1 b2 b3; replace HMp := Lib.hid (HMp.out.stored (HL.out.get 4 rfl) b2.out); replace HA6 := Lib.hid (b3 _ _ (Below.size HA60.out) HA6.out); replace HL := Lib.hid (HL.out.store 4 rfl b1 b2 b3); clear b1 b2 b3; try simp only [List.nil_append, List.cons_append, List.set_cons_zero, List.set_cons_succ] at HL; have d0 := cell_part (n := 0) (HL.out.get 4 rfl) rfl))
        have m2 := fun u : Later wB.heap.size wB => (mk_cell (Aft.get u.h (HL.out.get 3 rfl))).2.2.1
        have s0 := fun u : Later wB.heap.size wB => shp_i (Aft.get u.h (HL.out.get 0 rfl))
        have x1 := fun u : Later wB.heap.size wB => (show u.w.cell? ⟨wr.heap.size, 1, none⟩ = some (.int .i64 (j : Int)) by rw [← hj1]; exact cell_part (n := 1) (Aft.get u.h (HL.out.get 4 rfl)) rfl)
        have i1 := fun u : Later wB.heap.size wB => (HI0.out.grow (Aft.trans HL.out.aft u.h)).num_at hj2
        have HDr := Lib.hid (show Aft wB wB.drew from (Below.refl _ _).drew)
        generalize ids0.getD j 0 = z at *
        clear d0 hj1
        go_wp2_with (first | (refine wp_region_lex (fun wz => ∃ u : Later wB.heap.size wB, wz = u.w) (fun i => ([] : List Nat).contains i) 11 (by kernel_rfl) (by kernel_rfl) ⟨⟨wB.drew, (Below.refl _ _).drew⟩, rfl⟩ ?_))
        change wpLx _ _ _ _ _ _ _ _ _ wB.drew
        try simp only [Act.put]
        repeat (first | (refine lx_skipT (by go_big_quiet_skip; exact wpQuiet_nil trivial) (by kernel_rfl) ?_; simp only [Act.put, List.setIfInBounds_toArray, List.set_cons_succ, List.set_cons_zero]) | (refine lx_quietT rfl (by go_big_quiet_want; exact quiet_false (by assumption)) (by kernel_rfl) rfl ?_; intro Kx hKx; go_big_quiet_op; go_big_quiet_on))
        refine lx_done ?_
        clear m2 s0 x1 i1
        replace HMp := Lib.hid (HMp.out.aft HDr.out)
        replace HA6 := Lib.hid (Aft.trans HA6.out HDr.out)
        replace HL := Lib.hid (HL.out.call HDr.out)
        generalize wB.drew = wd at *
        go_wp2_with (first | (refine wpList_putM rfl (.tmp 71) (.tmp 77) (.tmp 78) rfl lb i _ rfl HMp.out z (i : Int) rfl HWj.out rfl (wf_int (by omega) (by omega)) (by omega) ?_; intro w9 k1 k2))
        obtain ⟨es, clock, hbk⟩ := HMp.out.blk
        have HL9 := Lib.hid (HL.out.mapM hbk (by rw [HLb.out]; exact Nat.le_trans HWs.out (Nat.le_refl _)) k2.out (by intro p hp; simp only [List.mem_cons, List.not_mem_nil, or_false] at hp; rcases hp with rfl | rfl | rfl | rfl | rfl <;> exact ⟨_, _, _, rfl⟩))
        have HA9 := Lib.hid (aft_mapM HA6.out k2.out (by rw [HLb.out]; exact Nat.le_refl _))
        go_roundw
        case rel => exact ⟨i + 1, by omega, by go_num, by rw [HSv.out]; exact k1.out, HL9.out.cut 4, HA9.out⟩
        case measure => simp [intOf]; omega
      · have HSv := Lib.hid (HSu.out.trans (if_neg hz))
        clear HAl HSu
        go_wp2_with (first | (refine wpList_dstT 64 rfl ?_; refine wpList_load_mid2 (by kernel_rfl) 38 (.tmp 63) rfl _ _ rfl (ndR x (.slice ka x.ks.length kc)) HRx.out _ Try.underlying38 rfl (nd_infoP _ _) ?_) | (refine wpList_allocO rfl 38 rfl (.cells (ndR nd0 (.slice none 0 0)).toArray 38) alloc_nd ?_; intro wA aa gg zz; replace HMp := Lib.hid (HMp.out.aft aa); have HA60 := HA6; replace HA6 := Lib.hid (Aft.trans HA6.out aa); replace HL := Lib.hid (HL.out.alloc aa gg.out); clear aa gg zz; try simp only [List.nil_append, List.cons_append, List.set_cons_zero, List.set_cons_succ] at HL) | (refine wpList_store_rowZ rfl 38 (.tmp 18) (.tmp 64) rfl _ (ndR x (.slice ka x.ks.length kc)).toArray rfl rfl _ _ (HL.out.get 4 rfl) (nd_info _ _) rfl (all_one ndR_one) ?_; intro wB b1 b2 b3; replace HMp := Lib.hid (HMp.out.stored (HL.out.get 4 rfl) b2.out); replace HA6 := Lib.hid (b3 _ _ (Below.size HA60.out) HA6.out); replace HL := Lib.hid (HL.out.store 4 rfl b1 b2 b3); clear b1 b2 b3; try simp only [List.nil_append, List.cons_append, List.set_cons_zero, List.set_cons_succ] at HL; have d0 := cell_part (n := 0) (HL.out.get 4 rfl) rfl))
        go_roundw
        case rel => exact ⟨i + 1, by omega, by go_num, by rw [HSv.out]; exact HMp.out.mono (by omega) (by omega), HL.out.cut 4, HA6.out⟩
        case measure => simp [intOf]; omega
    · obtain rfl : i = A.length := by omega
      have hlt' : ¬ ((A.length : Nat) : Int) < (A.length : Nat) := by omega
      have m2 := (mk_cell (HL.out.get 3 rfl)).2.2.1
      go_wp2_with (first | (refine wpList_delM rfl (.tmp 83) (.tmp 84) rfl lb A.length _ rfl HMp.out by' rfl HWb.out ?_; intro w9 k1 k2))
      obtain ⟨es, clock, hbk⟩ := HMp.out.blk
      have HL9 := Lib.hid (HL.out.mapM hbk (by rw [HLb.out]; exact HWs.out) k2.out (by intro p hp; simp only [List.mem_cons, List.not_mem_nil, or_false] at hp; rcases hp with rfl | rfl | rfl | rfl <;> exact ⟨_, _, _, rfl⟩))
      have HA9 := Lib.hid (aft_mapM HA6.out k2.out (by rw [HLb.out]; exact Nat.le_refl _))
      have HM9 := Lib.hid k1.out
      clear k1 k2 hbk HMp HL HA6 m2
      go_loopw [87] (fun v87 wr => ∃ i : Nat, i ≤ T.length ∧ v87 = .int .i64 (i : Int) ∧ MapM wr lb A.length (delF (fun q => if q = by' then none else lfF (A.map Prod.fst) ids0 A.length q) (T.take i)) ∧ Led w wr [(w.heap.size, .cells (shpL (.slice ao ids0.length ac) (.slice bo ls0.length bc)).toArray 25), (w1.heap.size, .cells (shpL (.slice co ids.length cc) (.slice dd ls.length dc)).toArray 25), (w2.heap.size, .cells (plR (.slice none 0 0) (.slice none 0 0)).toArray 30), (w7.heap.size, .cells (mkrR (.slice aa A.length ac2) (.slice ba B.length bc2) lb (.slice co ids.length cc) (.slice none 0 0) by').toArray 73)] ∧ Aft w6 wr) (fun v _ => T.length - (intOf v).toNat)
      case atStart => exact ⟨0, Nat.zero_le _, rfl, HM9.out.congr (fun x => (delF_nil (fun q => if q = by' then none else lfF (A.map Prod.fst) ids0 A.length q) x).symm), HL9.out, HA9.out⟩
      case round =>
        clear HM9 HL9 HA9
        obtain ⟨i, hi, rfl, hM, hL, hA⟩ := hrel
        have HMp := Lib.hid hM
        have HL := Lib.hid hL
        have HA6 := Lib.hid hA
        clear hM hL hA
        by_cases hlt : i < T.length
        · have hlt' : (i : Int) < (T.length : Nat) := by omega
          obtain ⟨b, o, rfl, -, -⟩ := (HT.out.grow HL.out.aft).some_of (by rw [zv_length]; omega)
          have hc := (HT.out.grow HL.out.aft).num_at hlt
          have HWz := Lib.hid (HWT.out _ (getD_memP hlt))
          have HTk := Lib.hid (take_getD hlt)
          have hTb : T.length ≤ 9223372036854775807 := rd_len HT.out
          have m2 := (mk_cell (HL.out.get 3 rfl)).2.2.1
          generalize T.getD i 0 = z at *
          go_wp2_with (first | (refine wpList_delM rfl (.tmp 94) (.tmp 95) rfl lb A.length _ rfl HMp.out z rfl HWz.out ?_; intro w9 k1 k2))
          obtain ⟨es, clock, hbk⟩ := HMp.out.blk
          have HL9 := Lib.hid (HL.out.mapM hbk (by rw [HLb.out]; exact HWs.out) k2.out (by intro p hp; simp only [List.mem_cons, List.not_mem_nil, or_false] at hp; rcases hp with rfl | rfl | rfl | rfl <;> exact ⟨_, _, _, rfl⟩))
          have HA9 := Lib.hid (aft_mapM HA6.out k2.out (by rw [HLb.out]; exact Nat.le_refl _))
          go_roundw
          case rel => exact ⟨i + 1, by omega, by go_num, by rw [HTk.out]; exact k1.out.congr (fun x => delF_snoc _ _ z x), HL9.out, HA9.out⟩
          case measure => simp [intOf]; omega
        · obtain rfl : i = T.length := by omega
          have hlt' : ¬ ((T.length : Nat) : Int) < (T.length : Nat) := by omega
          obtain ⟨f, hf⟩ : ∃ f, f = lvT (A.map Prod.fst) ids0 T by' := ⟨_, rfl⟩
          replace HMp := Lib.hid (show MapM wr lb A.length f by
            rw [hf]
            refine HMp.out.congr fun x => ?_
            rw [List.take_length, ← hAl]
            exact delF_all _ _ _ _ _)
          have HFf := Lib.hid hf
          have HFi := Lib.hid (show ∀ q k, f q = some k → ∃ j : Nat, k = (j : Int) ∧ j < (A.map Prod.fst).length by rw [hf]; exact lvT_in)
          clear hf
          go_wp2_with (first | (refine wpList_allocO rfl 30 rfl (.cells (plR (.slice none 0 0) (.slice none 0 0)).toArray 30) alloc_pl ?_; intro w10 aa2 gg zz; have HA60 := Lib.hid (Below.size HA6.out); replace HMp := Lib.hid (HMp.out.aft aa2); replace HA6 := Lib.hid (Aft.trans HA6.out aa2); replace HL := Lib.hid (HL.out.alloc aa2 gg.out); clear aa2 gg zz; try simp only [List.nil_append, List.cons_append, List.set_cons_zero, List.set_cons_succ] at HL))
          have HWb2 := Lib.hid (Nat.le_trans HWs.out (Below.size HA6.out))
          obtain ⟨base, hbase⟩ : ∃ base, base = w10.heap.size := ⟨_, rfl⟩
          have HBs := Lib.hid (show base ≤ w10.heap.size ∧ w6.heap.size ≤ base ∧ w6.heap.size ≤ wr.heap.size from ⟨by rw [hbase]; exact Nat.le_refl _, by rw [hbase]; exact Below.size HA6.out, HA60.out⟩)
          clear hbase HA60
          obtain ⟨wp, hwp⟩ : ∃ wp, wp = wr := ⟨_, rfl⟩
          subst hwp
          go_loopw [99] (fun v99 wz => ∃ (i : Nat) (vk vs : Value) (ss : List (Stp × Value)), i ≤ B.length ∧ v99 = .int .i64 (i : Int) ∧ Led w wz [(w.heap.size, .cells (shpL (.slice ao ids0.length ac) (.slice bo ls0.length bc)).toArray 25), (w1.heap.size, .cells (shpL (.slice co ids.length cc) (.slice dd ls.length dc)).toArray 25), (w2.heap.size, .cells (plR (.slice none 0 0) (.slice none 0 0)).toArray 30), (w7.heap.size, .cells (mkrR (.slice aa A.length ac2) (.slice ba B.length bc2) lb (.slice co ids.length cc) vk by').toArray 73), (wp.heap.size, .cells (plR (.slice none 0 0) vs).toArray 30)] ∧ LpS w6 wz lb A.length f base vk (keepL (A.map Prod.fst) f ids (B.map Prod.fst) i) vs ss ∧ ss.map Prod.fst = stpL (A.map Prod.fst) f ids (B.map Prod.fst) by' i) (fun v _ => B.length - (intOf v).toNat)
          case atStart => exact ⟨0, _, _, [], Nat.zero_le _, rfl, HL.out, ⟨HMp.out, HA6.out, HBs.out.2.1, HBs.out.1, OwnI.nil _ _, OwnSt.nil _ _, fun p hp => by simp at hp⟩, rfl⟩
          case round =>
            clear HMp HL HA6
            obtain ⟨i, vk, vs, ss, hi, rfl, hL, hS, hss⟩ := hrel
            have HL := Lib.hid hL
            have HS := Lib.hid hS
            have HSs := Lib.hid hss
            obtain ⟨ka, kc, rfl⟩ := hS.ow.shape
            obtain ⟨sa, sc, rfl⟩ := hS.st.shape
            clear hL hS hss
            by_cases hlt : i < B.length
            · have hlt' : (i : Int) < (B.length : Nat) := by omega
              have hi9 : i ≤ 90000 := by have := HB9.out; omega
              obtain ⟨g, o, c4, he, hrg⟩ := HRB.out.rngP hlt
              injection he with he1 he2 he3
              subst he1 he3
              obtain ⟨qa, qc, hkv, -, -⟩ := (HRB.out.kid _ (ndP_mem hlt)).numS
              have hrx := hrg wr HS.out.a6
              have hkd := HRB.out.kid _ (ndP_mem hlt)
              rw [hkv] at hrx hkd
              have hkk := ((HQ.out.1.kept HFi.out i (by omega)).2 (by omega))
              have how := HQ.out.1.own f (i := i) (by omega)
              have hks : keepL (A.map Prod.fst) f ids (B.map Prod.fst) (i + 1) = keepL (A.map Prod.fst) f ids (B.map Prod.fst) i ++ [keptN (A.map Prod.fst) f ids (keepL (A.map Prod.fst) f ids (B.map Prod.fst) i) ((B.map Prod.fst).getD i nd0)] := rfl
              have hkl := keepL_length (A.map Prod.fst) f ids (B.map Prod.fst) i
              have hst : stpL (A.map Prod.fst) f ids (B.map Prod.fst) by' (i + 1) = stpL (A.map Prod.fst) f ids (B.map Prod.fst) by' i ++ (if (keepL (A.map Prod.fst) f ids (B.map Prod.fst) (i + 1)).getD i 0 < 0 ∧ 0 < ((B.map Prod.fst).getD i nd0).lv then [⟨(i : Int), (stepN (B.map Prod.fst) ids (keepL (A.map Prod.fst) f ids (B.map Prod.fst) (i + 1)) by' ((B.map Prod.fst).getD i nd0).ks).1, (stepN (B.map Prod.fst) ids (keepL (A.map Prod.fst) f ids (B.map Prod.fst) (i + 1)) by' ((B.map Prod.fst).getD i nd0).ks).2⟩] else []) := rfl
              rw [← HSs.out] at hst
              have hsl : ss.length ≤ 90000 := by
                have h1 := stpL_length (A.map Prod.fst) f ids (B.map Prod.fst) by' i
                rw [← HSs.out, List.length_map] at h1
                omega
              have hle := fun hz => (HQ.out.1.bk i (by omega) hz).2.1
              rw [HFsu.out] at hkk how hks hst hle
              rw [hks] at how hst
              have HKS := Lib.hid hks
              clear hrg hkv he2 HSs hks
              generalize (B.getD i ndP).1 = x at *
              generalize keepL (A.map Prod.fst) f ids (B.map Prod.fst) i = kl at *
              obtain ⟨z, hz⟩ : ∃ z, z = keptN (A.map Prod.fst) f ids kl x := ⟨_, rfl⟩
              rw [← hz] at how hst HKS
              have hzz : (kl ++ [z]).getD i 0 = z := by have := getD_midP (m := []) (z := z) hkl; rwa [List.append_nil] at this
              rw [hzz] at hst
              clear hzz
              have HZ := Lib.hid hz
              have HKd := Lib.hid hkd
              have HKk := Lib.hid hkk
              have HOw := Lib.hid how
              have HLe0 := Lib.hid hle
              have HSt := Lib.hid hst
              have HRx := Lib.hid hrx
              have HKl := Lib.hid hkl
              have HSl := Lib.hid hsl
              clear hz hkd hkk how hst hrx hkl hsl hle
              go_wp2_with (first | (refine wpList_dstT 103 rfl ?_; refine wpList_load_mid2 (by kernel_rfl) 38 (.tmp 102) rfl _ _ rfl (ndR x (.slice qa x.ks.length qc)) HRx.out _ Try.underlying38 rfl (nd_infoP _ _) ?_) | (refine wpList_allocO rfl 38 rfl (.cells (ndR nd0 (.slice none 0 0)).toArray 38) alloc_nd ?_; intro wA aa3 gg zz; have HZ6 := Lib.hid (Below.size HS.out.a6); replace HS := Lib.hid (HS.out.aft aa3); replace HL := Lib.hid (HL.out.alloc aa3 gg.out); clear aa3 gg zz; try simp only [List.nil_append, List.cons_append, List.set_cons_zero, List.set_cons_succ] at HL) | (refine wpList_store_rowZ rfl 38 (.tmp 23) (.tmp 103) rfl _ (ndR x (.slice qa x.ks.length qc)).toArray rfl rfl _ _ (HL.out.get 5 rfl) (nd_info _ _) rfl (all_one ndR_one) ?_; intro wB b1 b2 b3; replace HS := Lib.hid (HS.out.stored (HL.out.get 5 rfl) (by decide) (by decide) HZ6.out b2 b3); replace HL := Lib.hid (HL.out.store 5 rfl b1 b2 b3); clear b1 b2 b3 HZ6; try simp only [List.nil_append, List.cons_append, List.set_cons_zero, List.set_cons_succ] at HL))
              have HDr := Lib.hid (show Aft wB wB.drew from (Below.refl _ _).drew)
              replace HS := Lib.hid (HS.out.aft HDr.out)
              replace HL := Lib.hid (HL.out.call HDr.out)
              haveI : Inhabited (HasX w7.heap.size wr.heap.size w7.heap.size (.cells (mkrR (.slice aa A.length ac2) (.slice (some ⟨g, o, none⟩) B.length bc2) lb (.slice co ids.length cc) (.slice ka kl.length kc) by').toArray 73) (.cells (ndR x (.slice qa x.ks.length qc)).toArray 38) (.cells (mkrR (.slice aa A.length ac2) (.slice (some ⟨g, o, none⟩) B.length bc2) lb (.slice co ids.length cc) (.slice ka kl.length kc) by').toArray 73)) := ⟨⟨wB.drew, HL.out.get 3 rfl, HL.out.get 5 rfl, HL.out.get 3 rfl⟩⟩
              have f0 := fun u : HasX w7.heap.size wr.heap.size w7.heap.size (.cells (mkrR (.slice aa A.length ac2) (.slice (some ⟨g, o, none⟩) B.length bc2) lb (.slice co ids.length cc) (.slice ka kl.length kc) by').toArray 73) (.cells (ndR x (.slice qa x.ks.length qc)).toArray 38) (.cells (mkrR (.slice aa A.length ac2) (.slice (some ⟨g, o, none⟩) B.length bc2) lb (.slice co ids.length cc) (.slice ka kl.length kc) by').toArray 73) => show u.w.cell? ⟨w7.heap.size, 4, none⟩ = some (.slice ka kl.length kc) from (mk_cell u.h1).2.2.2.2.1
              refine wp_region_lex (fun wz => ∃ u : HasX w7.heap.size wr.heap.size w7.heap.size (.cells (mkrR (.slice aa A.length ac2) (.slice (some ⟨g, o, none⟩) B.length bc2) lb (.slice co ids.length cc) (.slice ka kl.length kc) by').toArray 73) (.cells (ndR x (.slice qa x.ks.length qc)).toArray 38) (.cells (mkrR (.slice aa A.length ac2) (.slice (some ⟨g, o, none⟩) B.length bc2) lb (.slice co ids.length cc) (.slice ka kl.length kc) by').toArray 73), wz = u.w) (fun i => ([7, 8, 9] : List Nat).contains i) 12 (by kernel_rfl) (by kernel_rfl) ⟨⟨wB.drew, HL.out.get 3 rfl, HL.out.get 5 rfl, HL.out.get 3 rfl⟩, rfl⟩ ?_
              change wpLx _ _ _ _ _ _ _ _ _ wB.drew
              generalize wB.drew = wd at *
              try simp only [Act.put]
              repeat (first | (refine lx_skipT (by go_big_quiet_skip; exact wpQuiet_nil trivial) (by kernel_rfl) ?_; simp only [Act.put, List.setIfInBounds_toArray, List.set_cons_succ, List.set_cons_zero]) | (refine lx_quietT rfl (by go_big_quiet_want; exact quiet_false (by assumption)) (by kernel_rfl) rfl ?_; intro Kx hKx; go_big_quiet_op; go_big_quiet_on))
              refine lx_load_agg rfl (by kernel_rfl) 38 (.tmp 23) rfl ⟨wr.heap.size, 0, none⟩ rfl (ndR x (.slice qa x.ks.length qc)).toArray (fun wz hz => by obtain ⟨u, rfl⟩ := hz; exact run_loadVar_row u.w _ _ _ _ _ _ u.h2 Try.underlying38 rfl (nd_info _ _)) ?_
              simp only [Act.put, List.setIfInBounds_toArray, List.set_cons_succ, List.set_cons_zero]
              repeat (first | (refine lx_skipT (by go_big_quiet_skip; exact wpQuiet_nil trivial) (by kernel_rfl) ?_; simp only [Act.put, List.setIfInBounds_toArray, List.set_cons_succ, List.set_cons_zero]) | (refine lx_quietT rfl (by go_big_quiet_want; exact quiet_false (by assumption)) (by kernel_rfl) rfl ?_; intro Kx hKx; go_big_quiet_op; go_big_quiet_on))
              refine lx_effT rfl (by go_big_quiet_want; exact quiet_false (by assumption)) (by kernel_rfl) ?_; intro Kx hKx; go_wp2_with fail
              refine (kept_any w7.heap.size lb _ _ _ _ by' A B ids kl A.length f x _ wd (HS.out.mk' (HL.out.get 3 rfl) HRA.out HRB.out HI6.out) (HKd.out.grow HS.out.a6) HKk.out).mono ?_
              rintro e w12 ⟨he, h12⟩
              rw [← HZ.out] at he
              subst he
              replace HS := Lib.hid (HS.out.aft h12)
              replace HL := Lib.hid (HL.out.call h12)
              clear h12 HKk
              go_wp2_with fail
              refine ⟨⟨⟨_, HL.out.get 3 rfl, HL.out.get 5 rfl, HL.out.get 3 rfl⟩, rfl⟩, ?_⟩
              repeat (first | (refine lx_skipT (by go_big_quiet_skip; exact wpQuiet_nil trivial) (by kernel_rfl) ?_; simp only [Act.put, List.setIfInBounds_toArray, List.set_cons_succ, List.set_cons_zero]) | (refine lx_quietT rfl (by go_big_quiet_want; exact quiet_false (by assumption)) (by kernel_rfl) rfl ?_; intro Kx hKx; go_big_quiet_op; go_big_quiet_on))
              refine lx_eff rfl (by kernel_rfl) ?_
              intro Kx hKx
              refine wp_of_list (ops := #[]) (wpList_intSlice rfl (.tmp 111) z rfl rfl ?_)
              intro w13 aB gB
              have HGb := Lib.hid gB.out
              replace HS := Lib.hid (HS.out.aft aB)
              replace HL := Lib.hid (HL.out.call aB)
              clear aB gB
              refine ⟨rfl, hKx _ _ ⟨⟨⟨_, HL.out.get 3 rfl, HL.out.get 5 rfl, HL.out.get 3 rfl⟩, rfl⟩, ?_⟩⟩
              clear hKx
              simp only [Act.put, List.setIfInBounds_toArray, List.set_cons_succ, List.set_cons_zero]
              repeat (first | (refine lx_skipT (by go_big_quiet_skip; exact wpQuiet_nil trivial) (by kernel_rfl) ?_; simp only [Act.put, List.setIfInBounds_toArray, List.set_cons_succ, List.set_cons_zero]) | (refine lx_quietT rfl (by go_big_quiet_want; exact quiet_false (by assumption)) (by kernel_rfl) rfl ?_; intro Kx hKx; go_big_quiet_op; go_big_quiet_on))
              refine lx_eff rfl (by kernel_rfl) ?_
              intro Kx hKx
              refine wp_of_list (ops := #[]) (wpList_snocI rfl (.tmp 108) (.tmp 112) rfl base _ kl rfl HS.out.ow _ z rfl HGb.out (by have := HKl.out; omega) HS.out.sz ?_)
              intro gk ck w14 k1 k2 k3
              have HSz := Lib.hid (Nat.le_trans HBs.out.2.1 (Nat.le_refl _))
              replace HL := Lib.hid (HL.out.frO HS.out.ow (Nat.le_trans HWs.out HBs.out.2.1) k2.out rfl)
              replace HS := Lib.hid (HS.out.app k2.out k1.out k3.out rfl)
              clear k1 k2 k3 HGb
              refine ⟨rfl, hKx _ _ ⟨⟨⟨_, HL.out.get 3 rfl, HL.out.get 5 rfl, HL.out.get 3 rfl⟩, rfl⟩, ?_⟩⟩
              clear hKx
              simp only [Act.put, List.setIfInBounds_toArray, List.set_cons_succ, List.set_cons_zero]
              repeat (first | (refine lx_skipT (by go_big_quiet_skip; exact wpQuiet_nil trivial) (by kernel_rfl) ?_; simp only [Act.put, List.setIfInBounds_toArray, List.set_cons_succ, List.set_cons_zero]) | (refine lx_quietT rfl (by go_big_quiet_want; exact quiet_false (by assumption)) (by kernel_rfl) rfl ?_; intro Kx hKx; go_big_quiet_op; go_big_quiet_on))
              refine lx_done ?_
              clear f0 this
              have d0 := cell_part (n := 0) (HL.out.get 5 rfl) rfl
              have hkp : (i : Int) < ((kl.length + 1 : Nat) : Int) := by have := HKl.out; omega
              by_cases hz0 : z < 0
              · by_cases hl0 : 0 < x.lv
                · have HSt2 := Lib.hid (HSt.out.trans (by rw [if_pos ⟨hz0, hl0⟩]))
                  have HOw2 := Lib.hid (HOw.out (by omega))
                  have HLe := Lib.hid (HLe0.out (by omega))
                  clear HSt HOw
                  go_wp2_with (first | (refine wpList_store_cellJ rfl 22 (.tmp 115) (.tmp 113) rfl _ 4 (.slice (some ⟨gk, 0, none⟩) (kl.length + 1) ck) rfl rfl _ _ (by simp [mkrR]) (HL.out.get 3 rfl) (by kernel_rfl) rfl rfl ?_; intro w15 b1 b2 b3; replace HS := Lib.hid (HS.out.stored (HL.out.get 3 rfl) (by decide) (by decide) HW7.out b2 b3); replace HL := Lib.hid (HL.out.store 3 rfl b1 b2 b3); clear b1 b2 b3; try simp only [List.nil_append, List.cons_append, List.set_cons_zero, List.set_cons_succ] at HL; replace d0 := cell_part (n := 0) (HL.out.get 5 rfl) rfl; have e4 : w15.cell? ⟨w7.heap.size, 4, none⟩ = some (.slice (some ⟨gk, 0, none⟩) (kl.length + 1) ck) := cell_part (n := 4) (HL.out.get 3 rfl) rfl; have ez := HS.out.ow.rd.num_at (i := i) (by rw [List.length_append, HKl.out]; exact Nat.lt_succ_self i); rw [show (kl ++ [z]).getD i 0 = z by have := getD_midP (m := []) (z := z) HKl.out; rwa [List.append_nil] at this, Nat.zero_add] at ez))
                  clear d0 e4 ez
                  have HDr := Lib.hid (show Aft w15 w15.drew from (Below.refl _ _).drew)
                  replace HS := Lib.hid (HS.out.aft HDr.out)
                  replace HL := Lib.hid (HL.out.call HDr.out)
                  haveI : Inhabited (HasX wp.heap.size wr.heap.size wp.heap.size (.cells (plR (.slice none 0 0) (.slice sa ss.length sc)).toArray 30) (.cells (ndR x (.slice qa x.ks.length qc)).toArray 38) (.cells (plR (.slice none 0 0) (.slice sa ss.length sc)).toArray 30)) := ⟨⟨w15.drew, HL.out.get 4 rfl, HL.out.get 5 rfl, HL.out.get 4 rfl⟩⟩
                  have f0 := fun u : HasX wp.heap.size wr.heap.size wp.heap.size (.cells (plR (.slice none 0 0) (.slice sa ss.length sc)).toArray 30) (.cells (ndR x (.slice qa x.ks.length qc)).toArray 38) (.cells (plR (.slice none 0 0) (.slice sa ss.length sc)).toArray 30) => show u.w.cell? ⟨wp.heap.size, 1, none⟩ = some (.slice sa ss.length sc) from cell_part (n := 1) u.h1 rfl
                  refine wp_region_lex (fun wz => ∃ u : HasX wp.heap.size wr.heap.size wp.heap.size (.cells (plR (.slice none 0 0) (.slice sa ss.length sc)).toArray 30) (.cells (ndR x (.slice qa x.ks.length qc)).toArray 38) (.cells (plR (.slice none 0 0) (.slice sa ss.length sc)).toArray 30), wz = u.w) (fun i => ([5, 6, 7] : List Nat).contains i) 9 (by kernel_rfl) (by kernel_rfl) ⟨⟨w15.drew, HL.out.get 4 rfl, HL.out.get 5 rfl, HL.out.get 4 rfl⟩, rfl⟩ ?_
                  change wpLx _ _ _ _ _ _ _ _ _ w15.drew
                  generalize w15.drew = wd2 at *
                  try simp only [Act.put]
                  repeat (first | (refine lx_skipT (by go_big_quiet_skip; exact wpQuiet_nil trivial) (by kernel_rfl) ?_; simp only [Act.put, List.setIfInBounds_toArray, List.set_cons_succ, List.set_cons_zero]) | (refine lx_quietT rfl (by go_big_quiet_want; exact quiet_false (by assumption)) (by kernel_rfl) rfl ?_; intro Kx hKx; go_big_quiet_op; go_big_quiet_on))
                  refine lx_load_agg rfl (by kernel_rfl) 38 (.tmp 23) rfl ⟨wr.heap.size, 0, none⟩ rfl (ndR x (.slice qa x.ks.length qc)).toArray (fun wz hz => by obtain ⟨u, rfl⟩ := hz; exact run_loadVar_row u.w _ _ _ _ _ _ u.h2 Try.underlying38 rfl (nd_info _ _)) ?_
                  simp only [Act.put, List.setIfInBounds_toArray, List.set_cons_succ, List.set_cons_zero]
                  repeat (first | (refine lx_skipT (by go_big_quiet_skip; exact wpQuiet_nil trivial) (by kernel_rfl) ?_; simp only [Act.put, List.setIfInBounds_toArray, List.set_cons_succ, List.set_cons_zero]) | (refine lx_quietT rfl (by go_big_quiet_want; exact quiet_false (by assumption)) (by kernel_rfl) rfl ?_; intro Kx hKx; go_big_quiet_op; go_big_quiet_on))
                  refine lx_effT rfl (by go_big_quiet_want; exact quiet_false (by assumption)) (by kernel_rfl) ?_; intro Kx hKx; go_wp2_with fail
                  refine (step_any w7.heap.size lb _ _ _ _ by' A B ids (kl ++ [z]) A.length f i x _ wd2 (HS.out.mk' (HL.out.get 3 rfl) HRA.out HRB.out HI6.out) (HKd.out.grow HS.out.a6) HLe.out HOw2.out).mono ?_
                  rintro e w16 ⟨sv, rfl, hsv, h16⟩
                  have HSv := Lib.hid (hsv.mono HS.out.sz)
                  have HDj := Lib.hid (show ∀ g, sv.ownBlock = some g → (Value.slice (some ⟨gk, 0, none⟩) (kl.length + 1) ck).ownBlock ≠ some g from fun g hg e => by
                    have h1 := (hsv.lt hg).1
                    have h2 := (HS.out.ow.lt (g := g) (by simpa using e)).2
                    omega)
                  replace HS := Lib.hid (HS.out.aft h16)
                  replace HL := Lib.hid (HL.out.call h16)
                  clear h16 hsv
                  obtain ⟨qv, qd, rfl⟩ := HSv.out.shape
                  generalize hsn : stepN (B.map Prod.fst) ids (kl ++ [z]) by' x.ks = sn at *
                  go_wp2_with fail
                  refine ⟨⟨⟨_, HL.out.get 4 rfl, HL.out.get 5 rfl, HL.out.get 4 rfl⟩, rfl⟩, ?_⟩
                  repeat (first | (refine lx_skipT (by go_big_quiet_skip; exact wpQuiet_nil trivial) (by kernel_rfl) ?_; simp only [Act.put, List.setIfInBounds_toArray, List.set_cons_succ, List.set_cons_zero]) | (refine lx_quietT rfl (by go_big_quiet_want; exact quiet_false (by assumption)) (by kernel_rfl) rfl ?_; intro Kx hKx; go_big_quiet_op; go_big_quiet_on))
                  refine lx_eff rfl (by kernel_rfl) ?_
                  intro Kx hKx
                  refine wp_of_list (ops := #[]) (wpList_stSlice rfl (.tmp 134) (i : Int) sn.1 qv sn.2.length qd rfl rfl ?_)
                  intro w17 aB gB
                  have HGb := Lib.hid gB.out
                  replace HS := Lib.hid (HS.out.aft aB)
                  replace HSv := Lib.hid (HSv.out.aft aB)
                  replace HL := Lib.hid (HL.out.call aB)
                  clear aB gB
                  refine ⟨rfl, hKx _ _ ⟨⟨⟨_, HL.out.get 4 rfl, HL.out.get 5 rfl, HL.out.get 4 rfl⟩, rfl⟩, ?_⟩⟩
                  clear hKx
                  simp only [Act.put, List.setIfInBounds_toArray, List.set_cons_succ, List.set_cons_zero]
                  repeat (first | (refine lx_skipT (by go_big_quiet_skip; exact wpQuiet_nil trivial) (by kernel_rfl) ?_; simp only [Act.put, List.setIfInBounds_toArray, List.set_cons_succ, List.set_cons_zero]) | (refine lx_quietT rfl (by go_big_quiet_want; exact quiet_false (by assumption)) (by kernel_rfl) rfl ?_; intro Kx hKx; go_big_quiet_op; go_big_quiet_on))
                  refine lx_eff rfl (by kernel_rfl) ?_
                  intro Kx hKx
                  refine wp_of_list (ops := #[]) (wpList_snocSt rfl (.tmp 130) (.tmp 135) rfl base _ ss rfl HS.out.st _ ⟨(i : Int), sn.1, sn.2⟩ (.slice qv sn.2.length qd) rfl HGb.out HSv.out (by have := HSl.out; omega) HS.out.sz ?_)
                  intro gs cs w18 k1 k2 k3
                  replace HL := Lib.hid (HL.out.frP HS.out.st.row.2 (Nat.le_trans HWs.out HBs.out.2.1) k2.out rfl)
                  replace HS := Lib.hid (HS.out.appS k2.out k1.out HDj.out)
                  clear k1 k2 k3 HGb HSv HDj
                  refine ⟨rfl, hKx _ _ ⟨⟨⟨_, HL.out.get 4 rfl, HL.out.get 5 rfl, HL.out.get 4 rfl⟩, rfl⟩, ?_⟩⟩
                  clear hKx
                  simp only [Act.put, List.setIfInBounds_toArray, List.set_cons_succ, List.set_cons_zero]
                  repeat (first | (refine lx_skipT (by go_big_quiet_skip; exact wpQuiet_nil trivial) (by kernel_rfl) ?_; simp only [Act.put, List.setIfInBounds_toArray, List.set_cons_succ, List.set_cons_zero]) | (refine lx_quietT rfl (by go_big_quiet_want; exact quiet_false (by assumption)) (by kernel_rfl) rfl ?_; intro Kx hKx; go_big_quiet_op; go_big_quiet_on))
                  refine lx_done ?_
                  clear f0 this
                  go_wp2_with (first | (refine wpList_store_cellJ rfl 28 (.tmp 137) (.tmp 136) rfl _ 1 (.slice (some ⟨gs, 0, none⟩) (ss.length + 1) cs) rfl rfl _ _ (by simp [plR]) (HL.out.get 4 rfl) (by kernel_rfl) rfl rfl ?_; intro w19 b1 b2 b3; replace HS := Lib.hid (HS.out.stored (HL.out.get 4 rfl) (by decide) (by decide) HBs.out.2.2 b2 b3); replace HL := Lib.hid (HL.out.store 4 rfl b1 b2 b3); clear b1 b2 b3; try simp only [List.nil_append, List.cons_append, List.set_cons_zero, List.set_cons_succ] at HL))
                  go_roundw
                  case rel => exact ⟨i + 1, _, _, _, by omega, by go_num, HL.out.cut 5, by rw [HKS.out]; exact HS.out, by rw [List.map_append, HSt2.out, ← hsn]; rfl⟩
                  case measure => simp [intOf]; omega
                · have HSt2 := Lib.hid (HSt.out.trans (by rw [if_neg (fun q => hl0 q.2), List.append_nil]))
                  clear HSt HOw
                  go_wp2_with (first | (refine wpList_store_cellJ rfl 22 (.tmp 115) (.tmp 113) rfl _ 4 (.slice (some ⟨gk, 0, none⟩) (kl.length + 1) ck) rfl rfl _ _ (by simp [mkrR]) (HL.out.get 3 rfl) (by kernel_rfl) rfl rfl ?_; intro w15 b1 b2 b3; replace HS := Lib.hid (HS.out.stored (HL.out.get 3 rfl) (by decide) (by decide) HW7.out b2 b3); replace HL := Lib.hid (HL.out.store 3 rfl b1 b2 b3); clear b1 b2 b3; try simp only [List.nil_append, List.cons_append, List.set_cons_zero, List.set_cons_succ] at HL; replace d0 := cell_part (n := 0) (HL.out.get 5 rfl) rfl; have e4 : w15.cell? ⟨w7.heap.size, 4, none⟩ = some (.slice (some ⟨gk, 0, none⟩) (kl.length + 1) ck) := cell_part (n := 4) (HL.out.get 3 rfl) rfl; have ez := HS.out.ow.rd.num_at (i := i) (by rw [List.length_append, HKl.out]; exact Nat.lt_succ_self i); rw [show (kl ++ [z]).getD i 0 = z by have := getD_midP (m := []) (z := z) HKl.out; rwa [List.append_nil] at this, Nat.zero_add] at ez))
                  go_roundw
                  case rel => exact ⟨i + 1, _, _, _, by omega, by go_num, HL.out.cut 5, by rw [HKS.out]; exact HS.out, HSt2.out.symm⟩
                  case measure => simp [intOf]; omega
              · have HSt2 := Lib.hid (HSt.out.trans (by rw [if_neg (fun q => hz0 q.1), List.append_nil]))
                clear HSt HOw
                go_wp2_with (first | (refine wpList_store_cellJ rfl 22 (.tmp 115) (.tmp 113) rfl _ 4 (.slice (some ⟨gk, 0, none⟩) (kl.length + 1) ck) rfl rfl _ _ (by simp [mkrR]) (HL.out.get 3 rfl) (by kernel_rfl) rfl rfl ?_; intro w15 b1 b2 b3; replace HS := Lib.hid (HS.out.stored (HL.out.get 3 rfl) (by decide) (by decide) HW7.out b2 b3); replace HL := Lib.hid (HL.out.store 3 rfl b1 b2 b3); clear b1 b2 b3; try simp only [List.nil_append, List.cons_append, List.set_cons_zero, List.set_cons_succ] at HL; replace d0 := cell_part (n := 0) (HL.out.get 5 rfl) rfl; have e4 : w15.cell? ⟨w7.heap.size, 4, none⟩ = some (.slice (some ⟨gk, 0, none⟩) (kl.length + 1) ck) := cell_part (n := 4) (HL.out.get 3 rfl) rfl; have ez := HS.out.ow.rd.num_at (i := i) (by rw [List.length_append, HKl.out]; exact Nat.lt_succ_self i); rw [show (kl ++ [z]).getD i 0 = z by have := getD_midP (m := []) (z := z) HKl.out; rwa [List.append_nil] at this, Nat.zero_add] at ez))
                go_roundw
                case rel => exact ⟨i + 1, _, _, _, by omega, by go_num, HL.out.cut 5, by rw [HKS.out]; exact HS.out, HSt2.out.symm⟩
                case measure => simp [intOf]; omega
            · obtain rfl : i = B.length := by omega
              have hlt' : ¬ ((B.length : Nat) : Int) < (B.length : Nat) := by omega
              have e4 : wr.cell? ⟨w7.heap.size, 4, none⟩ = some (.slice ka (keepL (A.map Prod.fst) f ids (B.map Prod.fst) B.length).length kc) := cell_part (n := 4) (HL.out.get 3 rfl) rfl
              have HKl := Lib.hid (keepL_length (A.map Prod.fst) f ids (B.map Prod.fst) B.length)
              obtain ⟨kl, hkl⟩ : ∃ kl, kl = keepL (A.map Prod.fst) f ids (B.map Prod.fst) B.length := ⟨_, rfl⟩
              rw [← hkl] at e4 HS HL HKl
              have HKe := Lib.hid hkl
              clear hkl
              go_wp2_with (first | (refine wpList_store_cellJ rfl 22 (.tmp 143) (.tmp 142) rfl _ 0 (.slice ka kl.length kc) rfl rfl _ _ (by simp [plR]) (HL.out.get 4 rfl) (by kernel_rfl) rfl rfl ?_; intro w19 b1 b2 b3; replace HS := Lib.hid (HS.out.stored (HL.out.get 4 rfl) (by decide) (by decide) HBs.out.2.2 b2 b3); replace HL := Lib.hid (HL.out.store 4 rfl b1 b2 b3); clear b1 b2 b3 e4; try simp only [List.nil_append, List.cons_append, List.set_cons_zero, List.set_cons_succ] at HL) | (refine wpList_load_rowG (by kernel_rfl) 30 (.tmp 21) rfl _ rfl _ (plR (.slice ka kl.length kc) (.slice sa ss.length sc)).toArray _ _ (HL.out.get 4 rfl) Try.underlying30 rfl (pl_info _ _) ?_) | (refine wpList_store_rowZ rfl 30 (.tmp 10) (.tmp 144) rfl _ (plR (.slice ka kl.length kc) (.slice sa ss.length sc)).toArray rfl rfl _ _ (HL.out.get 2 rfl) (pl_info _ _) rfl (all_one plR_one) ?_; intro w20 b1 b2 b3; have HOo := Lib.hid (HS.out.ow.storedP (HL.out.get 2 rfl) (by decide) b2.out); have HOs := Lib.hid (HS.out.st.storedP (HL.out.get 2 rfl) (by decide) (by decide) b2.out); replace HL := Lib.hid (HL.out.store 2 rfl b1 b2 b3); clear b1 b2 b3; try simp only [List.nil_append, List.cons_append, List.set_cons_zero, List.set_cons_succ] at HL))
              refine bodyPost_ret (results_cell_tmp rfl _ _ _ 30 _ (0, 0) _ rfl (HL.out.get 2 rfl) Try.underlying30 rfl (pl_info _ _)) rfl ?_
              have hbw : w.heap.size ≤ base := Nat.le_trans HWs.out HBs.out.2.1
              refine .inl ⟨HP.out, _, _, ss, rfl, ?_, HOs.out.mono hbw, ?_, HL.out.aft⟩
              · rw [← HFa.out, ← HFb.out, ← HFf.out, hBl, ← HKe.out]
                exact HOo.out.mono hbw
              · rw [← HFa.out, ← HFb.out, ← HFf.out, hBl]
                exact HSs.out
end Go.Proofs.Ytfgammcefaomeaa
