/- TreeNear of law 10, walked. -/
import Derived.Test.YtpnckphfjcnooaaT16
namespace Go.Proofs.Ytpnckphfjcnooaa
open Go Go.RowKit
set_option linter.unusedSimpArgs false

/-- A tree of one's own, whatever its levels' values. -/
def Tr (w : World) (base : Nat) (vi vl : Value) (ids : List Int) (ls : List (List Int)) : Prop := ∃ vs, OwnTr w base vi vl vs ids ls
theorem Tr.aft {w w' : World} {base : Nat} {vi vl : Value} {ids : List Int} {ls : List (List Int)} (h : Tr w base vi vl ids ls) (ha : Aft w w') : Tr w' base vi vl ids ls := ⟨h.choose, h.choose_spec.aft ha⟩
theorem Tr.stored {w w' : World} {base g t : Nat} {vi vl : Value} {ids : List Int} {ls : List (List Int)} {cs : Array Value} {fr : Nat × Nat} (h : Tr w base vi vl ids ls) (hg : w.heap[g]? = some (.cells cs t fr)) (ht : t ≠ 3 ∧ t ≠ 22) (hb : ∀ k, k ≠ g → w'.heap[k]? = w.heap[k]?) : Tr w' base vi vl ids ls :=
  ⟨h.choose, h.choose_spec.stored hg ht.1 ht.2 hb⟩
theorem Tr.ids {w : World} {base : Nat} {vi vl : Value} {ids : List Int} {ls : List (List Int)} (h : Tr w base vi vl ids ls) : Rd w vi (zv ids) := h.choose_spec.ids.rd
theorem Tr.lv {w : World} {base : Nat} {vi vl : Value} {ids : List Int} {ls : List (List Int)} (h : Tr w base vi vl ids ls) : RdLs w vl ls := h.choose_spec.lv.rd
set_option maxRecDepth 100000 in
set_option maxHeartbeats 8000000 in
theorem treeNear_any (vi vl : Value) (ids : List Int) (ls : List (List Int)) (id : Int) (w : World) (hi : Rd w vi (zv ids)) (hl : RdLs w vl ls) :
    Calls Try.prog 14 #[.agg (shpL vi vl).toArray, .int .i64 id] w fun e w' => e = .returned (.bool true) ∧ Aft w w' := by
  have HFw := Lib.hid (fun (wx : World) (ha : Aft w wx) => tfew_any vi vl ids ls wx (hi.grow ha) (hl.aft ha))
  have HCk := Lib.hid (fun (hs : Small ids ls) (wx : World) (ha : Aft w wx) => tcheck_any vi vl ids ls wx (hi.grow ha) (hl.aft ha) hs)
  have HIn := Lib.hid (fun (hs : Small ids ls) (wx : World) (ha : Aft w wx) => tinsert_any vi vl ids ls id wx (hi.grow ha) (hl.aft ha) hs)
  have HDe := Lib.hid (fun (hs : Small ids ls) (wx : World) (ha : Aft w wx) => tdelete_any vi vl ids ls id wx (hi.grow ha) (hl.aft ha) hs)
  have HN1 := Lib.hid (fun (hs : Small ids ls) (ids' : List Int) (ms : List (List Int)) (hs' : Small ids' ms) (ui ul : Value) (base : Nat) (wx : World) (ha : Aft w wx) (h : Tr wx base ui ul ids' ms) => near_any vi vl ui ul ids ids' ls ms wx (hi.grow ha) (hl.aft ha) h.ids h.lv hs hs')
  have HN2 := Lib.hid (fun (hs : Small ids ls) (ids' : List Int) (ms : List (List Int)) (hs' : Small ids' ms) (ui ul : Value) (base : Nat) (wx : World) (ha : Aft w wx) (h : Tr wx base ui ul ids' ms) => near_any ui ul vi vl ids' ids ms ls wx h.ids h.lv (hi.grow ha) (hl.aft ha) hs' hs)
  obtain ⟨ao, cap, rfl, -, -⟩ := hi.numS
  obtain ⟨bo, dap, rfl, -⟩ := hl.shape
  have HL := Lib.hid (Led.start w)
  clear hi hl
  go_enter Try.func14, Try.ntmps14
  go_wp2_with (first | (refine wpList_boxO rfl 26 (.tmp 0) rfl (.agg (shpL (.slice ao ids.length cap) (.slice bo ls.length dap)).toArray) rfl (.cells (shpL (.slice ao ids.length cap) (.slice bo ls.length dap)).toArray 26) (box_shp _) ?_; intro w' aa gg zz; (try replace HO := Lib.hid (HO.out.aft aa)); (try replace HO2 := Lib.hid (HO2.out.aft aa)); (try replace HOK := Lib.hid (HOK.out.aft aa)); (try replace HO3 := Lib.hid (HO3.out.aft aa)); (try replace HO4 := Lib.hid (HO4.out.aft aa)); (try replace HO5 := Lib.hid (HO5.out.aft aa)); replace HL := Lib.hid (HL.out.alloc aa gg.out); clear aa gg zz; try simp only [List.nil_append, List.cons_append, List.set_cons_zero, List.set_cons_succ] at HL))
  refine (live10_any _).mono ?_
  rintro e w1 ⟨rfl, h1⟩
  (try replace HO := Lib.hid (HO.out.aft h1)); (try replace HO2 := Lib.hid (HO2.out.aft h1)); (try replace HOK := Lib.hid (HOK.out.aft h1)); (try replace HO3 := Lib.hid (HO3.out.aft h1)); (try replace HO4 := Lib.hid (HO4.out.aft h1)); (try replace HO5 := Lib.hid (HO5.out.aft h1)); replace HL := Lib.hid (HL.out.call h1)
  clear h1
  go_wp2_with (first | (refine wpList_load_rowG (by kernel_rfl) 26 (.tmp 2) rfl _ rfl _ _ _ _ (HL.out.get 0 rfl) Try.underlying26 rfl (shp_info _ _) ?_))
  refine (HFw.out _ HL.out.aft).mono ?_
  rintro e w2 ⟨rfl, h2⟩
  (try replace HO := Lib.hid (HO.out.aft h2)); (try replace HO2 := Lib.hid (HO2.out.aft h2)); (try replace HOK := Lib.hid (HOK.out.aft h2)); (try replace HO3 := Lib.hid (HO3.out.aft h2)); (try replace HO4 := Lib.hid (HO4.out.aft h2)); (try replace HO5 := Lib.hid (HO5.out.aft h2)); replace HL := Lib.hid (HL.out.call h2)
  clear h2 HFw
  cases hf : fewT ids ls with
  | false =>
    clear hf
    go_wp2_with fail
    go_ret
    exact ⟨rfl, HL.out.aft⟩
  | true =>
    have HS := Lib.hid (fewT_small hf)
    clear hf
    go_wp2_with (first | (refine wpList_load_rowG (by kernel_rfl) 26 (.tmp 2) rfl _ rfl _ _ _ _ (HL.out.get 0 rfl) Try.underlying26 rfl (shp_info _ _) ?_))
    refine (HCk.out HS.out _ HL.out.aft).mono ?_
    rintro e w3 ⟨rfl, h3⟩
    (try replace HO := Lib.hid (HO.out.aft h3)); (try replace HO2 := Lib.hid (HO2.out.aft h3)); (try replace HOK := Lib.hid (HOK.out.aft h3)); (try replace HO3 := Lib.hid (HO3.out.aft h3)); (try replace HO4 := Lib.hid (HO4.out.aft h3)); (try replace HO5 := Lib.hid (HO5.out.aft h3)); replace HL := Lib.hid (HL.out.call h3)
    clear h3 HCk
    by_cases hok : OkT ids ls
    rotate_left
    · rw [chk_bad hok]
      clear hok
      go_wp2_with fail
      go_ret
      exact ⟨rfl, HL.out.aft⟩
    rw [chkT_zero.2 hok]
    have HOk := Lib.hid hok
    clear hok
    have HQ1 := Lib.hid (show insE ids ls id = 0 → nearT ls (insLv ids ls id) = true ∧ Small (insIds ids ls id) (insLv ids ls id) from fun q => ⟨near_ins q, small_of (ins_ok q).1⟩)
    have HQ2 := Lib.hid (show delE ids ls id = 0 → nearT (delLv ids ls id) ls = true ∧ Small (delIds ids ls id) (delLv ids ls id) from fun q => ⟨near_del q, small_of (del_ok q).1⟩)
    go_wp2_with (first | (refine wpList_load_rowG (by kernel_rfl) 26 (.tmp 2) rfl _ rfl _ _ _ _ (HL.out.get 0 rfl) Try.underlying26 rfl (shp_info _ _) ?_))
    refine (HIn.out HS.out _ HL.out.aft).mono ?_
    rintro e w4 ⟨ui, ul, us, rfl, ho, h4⟩
    obtain ⟨a1, c1, b1, d1, rfl, rfl⟩ := ho.shape
    (try replace HO := Lib.hid (HO.out.aft h4)); (try replace HO2 := Lib.hid (HO2.out.aft h4)); (try replace HOK := Lib.hid (HOK.out.aft h4)); (try replace HO3 := Lib.hid (HO3.out.aft h4)); (try replace HO4 := Lib.hid (HO4.out.aft h4)); (try replace HO5 := Lib.hid (HO5.out.aft h4)); replace HL := Lib.hid (HL.out.call h4)
    have HO := Lib.hid (show Tr w4 _ _ _ _ _ from ⟨_, ho⟩)
    clear ho h4 HIn
    generalize insIds ids ls id = ids1 at *
    generalize insLv ids ls id = ls1 at *
    generalize insE ids ls id = e1 at *
    go_wp2_with (first | (refine wpList_allocO rfl 26 rfl (.cells (shpL (.slice none 0 0) (.slice none 0 0)).toArray 26) alloc_shp ?_; intro w' aa gg zz; (try replace HO := Lib.hid (HO.out.aft aa)); (try replace HO2 := Lib.hid (HO2.out.aft aa)); (try replace HOK := Lib.hid (HOK.out.aft aa)); (try replace HO3 := Lib.hid (HO3.out.aft aa)); (try replace HO4 := Lib.hid (HO4.out.aft aa)); (try replace HO5 := Lib.hid (HO5.out.aft aa)); replace HL := Lib.hid (HL.out.alloc aa gg.out); clear aa gg zz; try simp only [List.nil_append, List.cons_append, List.set_cons_zero, List.set_cons_succ] at HL) | (refine wpList_store_shp rfl (.tmp 6) (.tmp 24) _ _ _ (.slice a1 ids1.length c1) (.slice b1 ls1.length d1) rfl rfl rfl rfl rfl (HL.out.get 1 rfl) ?_; intro w' b1 b2 b3; (try replace HO := Lib.hid (HO.out.stored (HL.out.get 1 rfl) (by decide) b2.out)); (try replace HO2 := Lib.hid (HO2.out.stored (HL.out.get 1 rfl) (by decide) b2.out)); (try replace HOK := Lib.hid (HOK.out.stored (HL.out.get 1 rfl) (by decide) b2.out)); (try replace HO3 := Lib.hid (HO3.out.stored (HL.out.get 1 rfl) (by decide) b2.out)); (try replace HO4 := Lib.hid (HO4.out.stored (HL.out.get 1 rfl) (by decide) b2.out)); (try replace HO5 := Lib.hid (HO5.out.stored (HL.out.get 1 rfl) (by decide) b2.out)); replace HL := Lib.hid (HL.out.store 1 rfl b1 b2 b3); clear b1 b2 b3; try simp only [List.nil_append, List.cons_append, List.set_cons_zero, List.set_cons_succ] at HL) | (refine wpList_load_rowG (by kernel_rfl) 26 (.tmp 2) rfl _ rfl _ _ _ _ (HL.out.get 0 rfl) Try.underlying26 rfl (shp_info _ _) ?_))
    refine (HDe.out HS.out _ HL.out.aft).mono ?_
    rintro e w5 ⟨xi, xl, xs, rfl, ho, h5⟩
    obtain ⟨a2, c2, b2, d2, rfl, rfl⟩ := ho.shape
    (try replace HO := Lib.hid (HO.out.aft h5)); (try replace HO2 := Lib.hid (HO2.out.aft h5)); (try replace HOK := Lib.hid (HOK.out.aft h5)); (try replace HO3 := Lib.hid (HO3.out.aft h5)); (try replace HO4 := Lib.hid (HO4.out.aft h5)); (try replace HO5 := Lib.hid (HO5.out.aft h5)); replace HL := Lib.hid (HL.out.call h5)
    have HO2 := Lib.hid (show Tr w5 _ _ _ _ _ from ⟨_, ho⟩)
    clear ho h5 HDe
    generalize delIds ids ls id = ids2 at *
    generalize delLv ids ls id = ls2 at *
    generalize delE ids ls id = e2 at *
    by_cases g1 : e1 = 0
    · obtain ⟨hn1, hs1⟩ := HQ1.out g1
      have HN := Lib.hid hn1
      have HSa := Lib.hid hs1
      subst g1
      clear hn1 hs1 HQ1
      by_cases g2 : e2 = 0
      · obtain ⟨hn2, hs2⟩ := HQ2.out g2
        have HNb := Lib.hid hn2
        have HSb := Lib.hid hs2
        subst g2
        clear hn2 hs2 HQ2
        go_wp2_with (first | (refine wpList_allocO rfl 26 rfl (.cells (shpL (.slice none 0 0) (.slice none 0 0)).toArray 26) alloc_shp ?_; intro w' aa gg zz; (try replace HO := Lib.hid (HO.out.aft aa)); (try replace HO2 := Lib.hid (HO2.out.aft aa)); (try replace HOK := Lib.hid (HOK.out.aft aa)); (try replace HO3 := Lib.hid (HO3.out.aft aa)); (try replace HO4 := Lib.hid (HO4.out.aft aa)); (try replace HO5 := Lib.hid (HO5.out.aft aa)); replace HL := Lib.hid (HL.out.alloc aa gg.out); clear aa gg zz; try simp only [List.nil_append, List.cons_append, List.set_cons_zero, List.set_cons_succ] at HL) | (refine wpList_store_shp rfl (.tmp 8) (.tmp 30) _ _ _ (.slice a2 ids2.length c2) (.slice b2 ls2.length d2) rfl rfl rfl rfl rfl (HL.out.get 2 rfl) ?_; intro w' b1 b2 b3; (try replace HO := Lib.hid (HO.out.stored (HL.out.get 2 rfl) (by decide) b2.out)); (try replace HO2 := Lib.hid (HO2.out.stored (HL.out.get 2 rfl) (by decide) b2.out)); (try replace HOK := Lib.hid (HOK.out.stored (HL.out.get 2 rfl) (by decide) b2.out)); (try replace HO3 := Lib.hid (HO3.out.stored (HL.out.get 2 rfl) (by decide) b2.out)); (try replace HO4 := Lib.hid (HO4.out.stored (HL.out.get 2 rfl) (by decide) b2.out)); (try replace HO5 := Lib.hid (HO5.out.stored (HL.out.get 2 rfl) (by decide) b2.out)); replace HL := Lib.hid (HL.out.store 2 rfl b1 b2 b3); clear b1 b2 b3; try simp only [List.nil_append, List.cons_append, List.set_cons_zero, List.set_cons_succ] at HL) | (refine wpList_dstT 37 rfl ?_; (refine wpList_load_rowG (by kernel_rfl) 26 (.tmp 2) rfl _ rfl _ _ _ _ (HL.out.get 0 rfl) Try.underlying26 rfl (shp_info _ _) ?_)) | (refine wpList_dstT 38 rfl ?_; (refine wpList_load_rowG (by kernel_rfl) 26 (.tmp 6) rfl _ rfl _ _ _ _ (HL.out.get 1 rfl) Try.underlying26 rfl (shp_info _ _) ?_)) | (refine wpList_dstT 46 rfl ?_; (refine wpList_load_rowG (by kernel_rfl) 26 (.tmp 8) rfl _ rfl _ _ _ _ (HL.out.get 2 rfl) Try.underlying26 rfl (shp_info _ _) ?_)) | (refine wpList_dstT 47 rfl ?_; (refine wpList_load_rowG (by kernel_rfl) 26 (.tmp 2) rfl _ rfl _ _ _ _ (HL.out.get 0 rfl) Try.underlying26 rfl (shp_info _ _) ?_)))
        refine (HN1.out HS.out _ _ HSa.out _ _ _ _ HL.out.aft HO.out).mono ?_
        rintro e w6 ⟨rfl, h6⟩
        rw [HN.out]
        (try replace HO := Lib.hid (HO.out.aft h6)); (try replace HO2 := Lib.hid (HO2.out.aft h6)); (try replace HOK := Lib.hid (HOK.out.aft h6)); (try replace HO3 := Lib.hid (HO3.out.aft h6)); (try replace HO4 := Lib.hid (HO4.out.aft h6)); (try replace HO5 := Lib.hid (HO5.out.aft h6)); replace HL := Lib.hid (HL.out.call h6)
        clear h6
        go_wp2_with (first | (refine wpList_allocO rfl 26 rfl (.cells (shpL (.slice none 0 0) (.slice none 0 0)).toArray 26) alloc_shp ?_; intro w' aa gg zz; (try replace HO := Lib.hid (HO.out.aft aa)); (try replace HO2 := Lib.hid (HO2.out.aft aa)); (try replace HOK := Lib.hid (HOK.out.aft aa)); (try replace HO3 := Lib.hid (HO3.out.aft aa)); (try replace HO4 := Lib.hid (HO4.out.aft aa)); (try replace HO5 := Lib.hid (HO5.out.aft aa)); replace HL := Lib.hid (HL.out.alloc aa gg.out); clear aa gg zz; try simp only [List.nil_append, List.cons_append, List.set_cons_zero, List.set_cons_succ] at HL) | (refine wpList_store_shp rfl (.tmp 8) (.tmp 30) _ _ _ (.slice a2 ids2.length c2) (.slice b2 ls2.length d2) rfl rfl rfl rfl rfl (HL.out.get 2 rfl) ?_; intro w' b1 b2 b3; (try replace HO := Lib.hid (HO.out.stored (HL.out.get 2 rfl) (by decide) b2.out)); (try replace HO2 := Lib.hid (HO2.out.stored (HL.out.get 2 rfl) (by decide) b2.out)); (try replace HOK := Lib.hid (HOK.out.stored (HL.out.get 2 rfl) (by decide) b2.out)); (try replace HO3 := Lib.hid (HO3.out.stored (HL.out.get 2 rfl) (by decide) b2.out)); (try replace HO4 := Lib.hid (HO4.out.stored (HL.out.get 2 rfl) (by decide) b2.out)); (try replace HO5 := Lib.hid (HO5.out.stored (HL.out.get 2 rfl) (by decide) b2.out)); replace HL := Lib.hid (HL.out.store 2 rfl b1 b2 b3); clear b1 b2 b3; try simp only [List.nil_append, List.cons_append, List.set_cons_zero, List.set_cons_succ] at HL) | (refine wpList_dstT 37 rfl ?_; (refine wpList_load_rowG (by kernel_rfl) 26 (.tmp 2) rfl _ rfl _ _ _ _ (HL.out.get 0 rfl) Try.underlying26 rfl (shp_info _ _) ?_)) | (refine wpList_dstT 38 rfl ?_; (refine wpList_load_rowG (by kernel_rfl) 26 (.tmp 6) rfl _ rfl _ _ _ _ (HL.out.get 1 rfl) Try.underlying26 rfl (shp_info _ _) ?_)) | (refine wpList_dstT 46 rfl ?_; (refine wpList_load_rowG (by kernel_rfl) 26 (.tmp 8) rfl _ rfl _ _ _ _ (HL.out.get 2 rfl) Try.underlying26 rfl (shp_info _ _) ?_)) | (refine wpList_dstT 47 rfl ?_; (refine wpList_load_rowG (by kernel_rfl) 26 (.tmp 2) rfl _ rfl _ _ _ _ (HL.out.get 0 rfl) Try.underlying26 rfl (shp_info _ _) ?_)))
        refine (HN2.out HS.out _ _ HSb.out _ _ _ _ HL.out.aft HO2.out).mono ?_
        rintro e w7 ⟨rfl, h7⟩
        rw [HNb.out]
        (try replace HO := Lib.hid (HO.out.aft h7)); (try replace HO2 := Lib.hid (HO2.out.aft h7)); (try replace HOK := Lib.hid (HOK.out.aft h7)); (try replace HO3 := Lib.hid (HO3.out.aft h7)); (try replace HO4 := Lib.hid (HO4.out.aft h7)); (try replace HO5 := Lib.hid (HO5.out.aft h7)); replace HL := Lib.hid (HL.out.call h7)
        clear h7
        go_wp2_with (first | (refine wpList_allocO rfl 26 rfl (.cells (shpL (.slice none 0 0) (.slice none 0 0)).toArray 26) alloc_shp ?_; intro w' aa gg zz; (try replace HO := Lib.hid (HO.out.aft aa)); (try replace HO2 := Lib.hid (HO2.out.aft aa)); (try replace HOK := Lib.hid (HOK.out.aft aa)); (try replace HO3 := Lib.hid (HO3.out.aft aa)); (try replace HO4 := Lib.hid (HO4.out.aft aa)); (try replace HO5 := Lib.hid (HO5.out.aft aa)); replace HL := Lib.hid (HL.out.alloc aa gg.out); clear aa gg zz; try simp only [List.nil_append, List.cons_append, List.set_cons_zero, List.set_cons_succ] at HL) | (refine wpList_store_shp rfl (.tmp 8) (.tmp 30) _ _ _ (.slice a2 ids2.length c2) (.slice b2 ls2.length d2) rfl rfl rfl rfl rfl (HL.out.get 2 rfl) ?_; intro w' b1 b2 b3; (try replace HO := Lib.hid (HO.out.stored (HL.out.get 2 rfl) (by decide) b2.out)); (try replace HO2 := Lib.hid (HO2.out.stored (HL.out.get 2 rfl) (by decide) b2.out)); (try replace HOK := Lib.hid (HOK.out.stored (HL.out.get 2 rfl) (by decide) b2.out)); (try replace HO3 := Lib.hid (HO3.out.stored (HL.out.get 2 rfl) (by decide) b2.out)); (try replace HO4 := Lib.hid (HO4.out.stored (HL.out.get 2 rfl) (by decide) b2.out)); (try replace HO5 := Lib.hid (HO5.out.stored (HL.out.get 2 rfl) (by decide) b2.out)); replace HL := Lib.hid (HL.out.store 2 rfl b1 b2 b3); clear b1 b2 b3; try simp only [List.nil_append, List.cons_append, List.set_cons_zero, List.set_cons_succ] at HL) | (refine wpList_dstT 37 rfl ?_; (refine wpList_load_rowG (by kernel_rfl) 26 (.tmp 2) rfl _ rfl _ _ _ _ (HL.out.get 0 rfl) Try.underlying26 rfl (shp_info _ _) ?_)) | (refine wpList_dstT 38 rfl ?_; (refine wpList_load_rowG (by kernel_rfl) 26 (.tmp 6) rfl _ rfl _ _ _ _ (HL.out.get 1 rfl) Try.underlying26 rfl (shp_info _ _) ?_)) | (refine wpList_dstT 46 rfl ?_; (refine wpList_load_rowG (by kernel_rfl) 26 (.tmp 8) rfl _ rfl _ _ _ _ (HL.out.get 2 rfl) Try.underlying26 rfl (shp_info _ _) ?_)) | (refine wpList_dstT 47 rfl ?_; (refine wpList_load_rowG (by kernel_rfl) 26 (.tmp 2) rfl _ rfl _ _ _ _ (HL.out.get 0 rfl) Try.underlying26 rfl (shp_info _ _) ?_)))
        go_ret
        exact ⟨rfl, HL.out.aft⟩
      · clear HQ2
        go_wp2_with (first | (refine wpList_allocO rfl 26 rfl (.cells (shpL (.slice none 0 0) (.slice none 0 0)).toArray 26) alloc_shp ?_; intro w' aa gg zz; (try replace HO := Lib.hid (HO.out.aft aa)); (try replace HO2 := Lib.hid (HO2.out.aft aa)); (try replace HOK := Lib.hid (HOK.out.aft aa)); (try replace HO3 := Lib.hid (HO3.out.aft aa)); (try replace HO4 := Lib.hid (HO4.out.aft aa)); (try replace HO5 := Lib.hid (HO5.out.aft aa)); replace HL := Lib.hid (HL.out.alloc aa gg.out); clear aa gg zz; try simp only [List.nil_append, List.cons_append, List.set_cons_zero, List.set_cons_succ] at HL) | (refine wpList_store_shp rfl (.tmp 8) (.tmp 30) _ _ _ (.slice a2 ids2.length c2) (.slice b2 ls2.length d2) rfl rfl rfl rfl rfl (HL.out.get 2 rfl) ?_; intro w' b1 b2 b3; (try replace HO := Lib.hid (HO.out.stored (HL.out.get 2 rfl) (by decide) b2.out)); (try replace HO2 := Lib.hid (HO2.out.stored (HL.out.get 2 rfl) (by decide) b2.out)); (try replace HOK := Lib.hid (HOK.out.stored (HL.out.get 2 rfl) (by decide) b2.out)); (try replace HO3 := Lib.hid (HO3.out.stored (HL.out.get 2 rfl) (by decide) b2.out)); (try replace HO4 := Lib.hid (HO4.out.stored (HL.out.get 2 rfl) (by decide) b2.out)); (try replace HO5 := Lib.hid (HO5.out.stored (HL.out.get 2 rfl) (by decide) b2.out)); replace HL := Lib.hid (HL.out.store 2 rfl b1 b2 b3); clear b1 b2 b3; try simp only [List.nil_append, List.cons_append, List.set_cons_zero, List.set_cons_succ] at HL) | (refine wpList_dstT 37 rfl ?_; (refine wpList_load_rowG (by kernel_rfl) 26 (.tmp 2) rfl _ rfl _ _ _ _ (HL.out.get 0 rfl) Try.underlying26 rfl (shp_info _ _) ?_)) | (refine wpList_dstT 38 rfl ?_; (refine wpList_load_rowG (by kernel_rfl) 26 (.tmp 6) rfl _ rfl _ _ _ _ (HL.out.get 1 rfl) Try.underlying26 rfl (shp_info _ _) ?_)))
        refine (HN1.out HS.out _ _ HSa.out _ _ _ _ HL.out.aft HO.out).mono ?_
        rintro e w6 ⟨rfl, h6⟩
        rw [HN.out]
        (try replace HO := Lib.hid (HO.out.aft h6)); (try replace HO2 := Lib.hid (HO2.out.aft h6)); (try replace HOK := Lib.hid (HOK.out.aft h6)); (try replace HO3 := Lib.hid (HO3.out.aft h6)); (try replace HO4 := Lib.hid (HO4.out.aft h6)); (try replace HO5 := Lib.hid (HO5.out.aft h6)); replace HL := Lib.hid (HL.out.call h6)
        clear h6
        go_wp2_with (first | (refine wpList_allocO rfl 26 rfl (.cells (shpL (.slice none 0 0) (.slice none 0 0)).toArray 26) alloc_shp ?_; intro w' aa gg zz; (try replace HO := Lib.hid (HO.out.aft aa)); (try replace HO2 := Lib.hid (HO2.out.aft aa)); (try replace HOK := Lib.hid (HOK.out.aft aa)); (try replace HO3 := Lib.hid (HO3.out.aft aa)); (try replace HO4 := Lib.hid (HO4.out.aft aa)); (try replace HO5 := Lib.hid (HO5.out.aft aa)); replace HL := Lib.hid (HL.out.alloc aa gg.out); clear aa gg zz; try simp only [List.nil_append, List.cons_append, List.set_cons_zero, List.set_cons_succ] at HL) | (refine wpList_store_shp rfl (.tmp 8) (.tmp 30) _ _ _ (.slice a2 ids2.length c2) (.slice b2 ls2.length d2) rfl rfl rfl rfl rfl (HL.out.get 2 rfl) ?_; intro w' b1 b2 b3; (try replace HO := Lib.hid (HO.out.stored (HL.out.get 2 rfl) (by decide) b2.out)); (try replace HO2 := Lib.hid (HO2.out.stored (HL.out.get 2 rfl) (by decide) b2.out)); (try replace HOK := Lib.hid (HOK.out.stored (HL.out.get 2 rfl) (by decide) b2.out)); (try replace HO3 := Lib.hid (HO3.out.stored (HL.out.get 2 rfl) (by decide) b2.out)); (try replace HO4 := Lib.hid (HO4.out.stored (HL.out.get 2 rfl) (by decide) b2.out)); (try replace HO5 := Lib.hid (HO5.out.stored (HL.out.get 2 rfl) (by decide) b2.out)); replace HL := Lib.hid (HL.out.store 2 rfl b1 b2 b3); clear b1 b2 b3; try simp only [List.nil_append, List.cons_append, List.set_cons_zero, List.set_cons_succ] at HL) | (refine wpList_dstT 37 rfl ?_; (refine wpList_load_rowG (by kernel_rfl) 26 (.tmp 2) rfl _ rfl _ _ _ _ (HL.out.get 0 rfl) Try.underlying26 rfl (shp_info _ _) ?_)) | (refine wpList_dstT 38 rfl ?_; (refine wpList_load_rowG (by kernel_rfl) 26 (.tmp 6) rfl _ rfl _ _ _ _ (HL.out.get 1 rfl) Try.underlying26 rfl (shp_info _ _) ?_)))
        go_ret
        exact ⟨rfl, HL.out.aft⟩
    · clear HQ1
      by_cases g2 : e2 = 0
      · obtain ⟨hn2, hs2⟩ := HQ2.out g2
        have HNb := Lib.hid hn2
        have HSb := Lib.hid hs2
        subst g2
        clear hn2 hs2 HQ2
        go_wp2_with (first | (refine wpList_allocO rfl 26 rfl (.cells (shpL (.slice none 0 0) (.slice none 0 0)).toArray 26) alloc_shp ?_; intro w' aa gg zz; (try replace HO := Lib.hid (HO.out.aft aa)); (try replace HO2 := Lib.hid (HO2.out.aft aa)); (try replace HOK := Lib.hid (HOK.out.aft aa)); (try replace HO3 := Lib.hid (HO3.out.aft aa)); (try replace HO4 := Lib.hid (HO4.out.aft aa)); (try replace HO5 := Lib.hid (HO5.out.aft aa)); replace HL := Lib.hid (HL.out.alloc aa gg.out); clear aa gg zz; try simp only [List.nil_append, List.cons_append, List.set_cons_zero, List.set_cons_succ] at HL) | (refine wpList_store_shp rfl (.tmp 8) (.tmp 30) _ _ _ (.slice a2 ids2.length c2) (.slice b2 ls2.length d2) rfl rfl rfl rfl rfl (HL.out.get 2 rfl) ?_; intro w' b1 b2 b3; (try replace HO := Lib.hid (HO.out.stored (HL.out.get 2 rfl) (by decide) b2.out)); (try replace HO2 := Lib.hid (HO2.out.stored (HL.out.get 2 rfl) (by decide) b2.out)); (try replace HOK := Lib.hid (HOK.out.stored (HL.out.get 2 rfl) (by decide) b2.out)); (try replace HO3 := Lib.hid (HO3.out.stored (HL.out.get 2 rfl) (by decide) b2.out)); (try replace HO4 := Lib.hid (HO4.out.stored (HL.out.get 2 rfl) (by decide) b2.out)); (try replace HO5 := Lib.hid (HO5.out.stored (HL.out.get 2 rfl) (by decide) b2.out)); replace HL := Lib.hid (HL.out.store 2 rfl b1 b2 b3); clear b1 b2 b3; try simp only [List.nil_append, List.cons_append, List.set_cons_zero, List.set_cons_succ] at HL) | (refine wpList_dstT 46 rfl ?_; (refine wpList_load_rowG (by kernel_rfl) 26 (.tmp 8) rfl _ rfl _ _ _ _ (HL.out.get 2 rfl) Try.underlying26 rfl (shp_info _ _) ?_)) | (refine wpList_dstT 47 rfl ?_; (refine wpList_load_rowG (by kernel_rfl) 26 (.tmp 2) rfl _ rfl _ _ _ _ (HL.out.get 0 rfl) Try.underlying26 rfl (shp_info _ _) ?_)))
        refine (HN2.out HS.out _ _ HSb.out _ _ _ _ HL.out.aft HO2.out).mono ?_
        rintro e w7 ⟨rfl, h7⟩
        rw [HNb.out]
        (try replace HO := Lib.hid (HO.out.aft h7)); (try replace HO2 := Lib.hid (HO2.out.aft h7)); (try replace HOK := Lib.hid (HOK.out.aft h7)); (try replace HO3 := Lib.hid (HO3.out.aft h7)); (try replace HO4 := Lib.hid (HO4.out.aft h7)); (try replace HO5 := Lib.hid (HO5.out.aft h7)); replace HL := Lib.hid (HL.out.call h7)
        clear h7
        go_wp2_with (first | (refine wpList_allocO rfl 26 rfl (.cells (shpL (.slice none 0 0) (.slice none 0 0)).toArray 26) alloc_shp ?_; intro w' aa gg zz; (try replace HO := Lib.hid (HO.out.aft aa)); (try replace HO2 := Lib.hid (HO2.out.aft aa)); (try replace HOK := Lib.hid (HOK.out.aft aa)); (try replace HO3 := Lib.hid (HO3.out.aft aa)); (try replace HO4 := Lib.hid (HO4.out.aft aa)); (try replace HO5 := Lib.hid (HO5.out.aft aa)); replace HL := Lib.hid (HL.out.alloc aa gg.out); clear aa gg zz; try simp only [List.nil_append, List.cons_append, List.set_cons_zero, List.set_cons_succ] at HL) | (refine wpList_store_shp rfl (.tmp 8) (.tmp 30) _ _ _ (.slice a2 ids2.length c2) (.slice b2 ls2.length d2) rfl rfl rfl rfl rfl (HL.out.get 2 rfl) ?_; intro w' b1 b2 b3; (try replace HO := Lib.hid (HO.out.stored (HL.out.get 2 rfl) (by decide) b2.out)); (try replace HO2 := Lib.hid (HO2.out.stored (HL.out.get 2 rfl) (by decide) b2.out)); (try replace HOK := Lib.hid (HOK.out.stored (HL.out.get 2 rfl) (by decide) b2.out)); (try replace HO3 := Lib.hid (HO3.out.stored (HL.out.get 2 rfl) (by decide) b2.out)); (try replace HO4 := Lib.hid (HO4.out.stored (HL.out.get 2 rfl) (by decide) b2.out)); (try replace HO5 := Lib.hid (HO5.out.stored (HL.out.get 2 rfl) (by decide) b2.out)); replace HL := Lib.hid (HL.out.store 2 rfl b1 b2 b3); clear b1 b2 b3; try simp only [List.nil_append, List.cons_append, List.set_cons_zero, List.set_cons_succ] at HL) | (refine wpList_dstT 46 rfl ?_; (refine wpList_load_rowG (by kernel_rfl) 26 (.tmp 8) rfl _ rfl _ _ _ _ (HL.out.get 2 rfl) Try.underlying26 rfl (shp_info _ _) ?_)) | (refine wpList_dstT 47 rfl ?_; (refine wpList_load_rowG (by kernel_rfl) 26 (.tmp 2) rfl _ rfl _ _ _ _ (HL.out.get 0 rfl) Try.underlying26 rfl (shp_info _ _) ?_)))
        go_ret
        exact ⟨rfl, HL.out.aft⟩
      · clear HQ2
        go_wp2_with (first | (refine wpList_allocO rfl 26 rfl (.cells (shpL (.slice none 0 0) (.slice none 0 0)).toArray 26) alloc_shp ?_; intro w' aa gg zz; (try replace HO := Lib.hid (HO.out.aft aa)); (try replace HO2 := Lib.hid (HO2.out.aft aa)); (try replace HOK := Lib.hid (HOK.out.aft aa)); (try replace HO3 := Lib.hid (HO3.out.aft aa)); (try replace HO4 := Lib.hid (HO4.out.aft aa)); (try replace HO5 := Lib.hid (HO5.out.aft aa)); replace HL := Lib.hid (HL.out.alloc aa gg.out); clear aa gg zz; try simp only [List.nil_append, List.cons_append, List.set_cons_zero, List.set_cons_succ] at HL) | (refine wpList_store_shp rfl (.tmp 8) (.tmp 30) _ _ _ (.slice a2 ids2.length c2) (.slice b2 ls2.length d2) rfl rfl rfl rfl rfl (HL.out.get 2 rfl) ?_; intro w' b1 b2 b3; (try replace HO := Lib.hid (HO.out.stored (HL.out.get 2 rfl) (by decide) b2.out)); (try replace HO2 := Lib.hid (HO2.out.stored (HL.out.get 2 rfl) (by decide) b2.out)); (try replace HOK := Lib.hid (HOK.out.stored (HL.out.get 2 rfl) (by decide) b2.out)); (try replace HO3 := Lib.hid (HO3.out.stored (HL.out.get 2 rfl) (by decide) b2.out)); (try replace HO4 := Lib.hid (HO4.out.stored (HL.out.get 2 rfl) (by decide) b2.out)); (try replace HO5 := Lib.hid (HO5.out.stored (HL.out.get 2 rfl) (by decide) b2.out)); replace HL := Lib.hid (HL.out.store 2 rfl b1 b2 b3); clear b1 b2 b3; try simp only [List.nil_append, List.cons_append, List.set_cons_zero, List.set_cons_succ] at HL))
        go_ret
        exact ⟨rfl, HL.out.aft⟩
end Go.Proofs.Ytpnckphfjcnooaa
