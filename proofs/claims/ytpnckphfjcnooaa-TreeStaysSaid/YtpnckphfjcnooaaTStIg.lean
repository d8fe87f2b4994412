/- A round of TreeStays. -/
import Derived.Test.YtpnckphfjcnooaaTStK
namespace Go.Proofs.Ytpnckphfjcnooaa
open Go Go.RowKit
set_option linter.unusedSimpArgs false

set_option maxRecDepth 100000 in
set_option maxHeartbeats 8000000 in
theorem stIgood {Q : Exit → Act → World → Prop} (u2 u7 u8 u9 u10 u12 u25 u26 u27 u28 u29 u30 u31 u32 u33 u34 u35 u36 u37 u38 u39 u40 u41 u42 u43 u44 u45 u46 u47 u48 u49 u50 u51 u52 u53 u54 u55 u56 u57 u58 u59 u60 u61 u62 u63 u64 u65 u66 u67 u68 u69 u70 u71 u72 u73 u74 u75 u76 u77 u78 u79 u80 u81 u82 u83 u84 u85 u86 u87 u88 u89 u90 u91 u92 u93 u94 u95 u96 u97 u98 u99 u100 u101 u102 u103 u104 u105 u106 u107 u108 u109 u110 u111 u112 u113 u114 u115 u116 u117 u118 u119 u120 u121 u122 u123 u124 u125 u126 u127 u128 u129 u130 u131 u132 u133 u134 u135 u136 u137 u138 : Value) (sl1 sl6 sl11 sl13 sl14 sl15 sl16 sl17 sl18 sl19 sl20 sl21 sl139 : Value) (w wr : World) (gs gm g o n cp k : Nat) (id : Int) (a1 b1 : Option Addr) (c1 d1 : Nat) (ids : List Int) (ls : List (List Int)) (hlt' : (k : Int) < (n : Nat)) (hn : n ≤ 120)
    (hL : Led w wr [(gs, .cells (shpL (.slice a1 ids.length c1) (.slice b1 ls.length d1)).toArray 26)]) (hT : Tr wr w.heap.size (.slice a1 ids.length c1) (.slice b1 ls.length d1) ids ls) (hS : SetM wr gm k ids) (hok : OkT ids ls) (hil : ids.length ≤ k) (hgm : w.heap.size ≤ gm)
    (hrg : ∀ wx, Aft wr wx → wx.rangeAt g (o + k * 2) (opR (id, false))) (hwf : (Lit.int .i64 id).wf = true) (hid : ¬ (id < 0 ∨ 1048576 < id)) (hin : ¬ id ∈ ids)
    (hnext : ∀ (w2 : World) (u24 : Value) (u2 u7 u8 u9 u10 u12 u25 u26 u27 u28 u29 u30 u31 u32 u33 u34 u35 u36 u37 u38 u39 u40 u41 u42 u43 u44 u45 u46 u47 u48 u49 u50 u51 u52 u53 u54 u55 u56 u57 u58 u59 u60 u61 u62 u63 u64 u65 u66 u67 u68 u69 u70 u71 u72 u73 u74 u75 u76 u77 u78 u79 u80 u81 u82 u83 u84 u85 u86 u87 u88 u89 u90 u91 u92 u93 u94 u95 u96 u97 u98 u99 u100 u101 u102 u103 u104 u105 u106 u107 u108 u109 u110 u111 u112 u113 u114 u115 u116 u117 u118 u119 u120 u121 u122 u123 u124 u125 u126 u127 u128 u129 u130 u131 u132 u133 u134 u135 u136 u137 u138 : Value), u24 = .int .i64 ((k + 1 : Nat) : Int) → StRel w gs gm n (k + 1) w2 → Q .normal ⟨#[(.slice (some ⟨g, o, none⟩) n cp), sl1, u2, (.bool true), (.pointer (some ⟨gs, 0, none⟩)), (.map (some gm)), sl6, u7, u8, u9, u10, sl11, u12, sl13, sl14, sl15, sl16, sl17, sl18, sl19, sl20, sl21, (.slice (some ⟨g, o, none⟩) n cp), (.int .i64 (n : Nat)), u24, u25, u26, u27, u28, u29, u30, u31, u32, u33, u34, u35, u36, u37, u38, u39, u40, u41, u42, u43, u44, u45, u46, u47, u48, u49, u50, u51, u52, u53, u54, u55, u56, u57, u58, u59, u60, u61, u62, u63, u64, u65, u66, u67, u68, u69, u70, u71, u72, u73, u74, u75, u76, u77, u78, u79, u80, u81, u82, u83, u84, u85, u86, u87, u88, u89, u90, u91, u92, u93, u94, u95, u96, u97, u98, u99, u100, u101, u102, u103, u104, u105, u106, u107, u108, u109, u110, u111, u112, u113, u114, u115, u116, u117, u118, u119, u120, u121, u122, u123, u124, u125, u126, u127, u128, u129, u130, u131, u132, u133, u134, u135, u136, u137, u138, sl139], []⟩ w2) :
    Code.wp Try.prog stBody Q ⟨#[(.slice (some ⟨g, o, none⟩) n cp), sl1, u2, (.bool true), (.pointer (some ⟨gs, 0, none⟩)), (.map (some gm)), sl6, u7, u8, u9, u10, sl11, u12, sl13, sl14, sl15, sl16, sl17, sl18, sl19, sl20, sl21, (.slice (some ⟨g, o, none⟩) n cp), (.int .i64 (n : Nat)), (.int .i64 (k : Nat)), u25, u26, u27, u28, u29, u30, u31, u32, u33, u34, u35, u36, u37, u38, u39, u40, u41, u42, u43, u44, u45, u46, u47, u48, u49, u50, u51, u52, u53, u54, u55, u56, u57, u58, u59, u60, u61, u62, u63, u64, u65, u66, u67, u68, u69, u70, u71, u72, u73, u74, u75, u76, u77, u78, u79, u80, u81, u82, u83, u84, u85, u86, u87, u88, u89, u90, u91, u92, u93, u94, u95, u96, u97, u98, u99, u100, u101, u102, u103, u104, u105, u106, u107, u108, u109, u110, u111, u112, u113, u114, u115, u116, u117, u118, u119, u120, u121, u122, u123, u124, u125, u126, u127, u128, u129, u130, u131, u132, u133, u134, u135, u136, u137, u138, sl139], []⟩ wr := by
  have HL := Lib.hid hL
  have HO := Lib.hid hT
  have HO4 := Lib.hid hS
  have HOk := Lib.hid hok
  have HIl := Lib.hid hil
  have HZn := Lib.hid hn
  have HGm := Lib.hid hgm
  have HRg := Lib.hid (hrg wr (Aft.refl wr))
  have HWf := Lib.hid (show (Lit.int .i64 id).wf = true from hwf)
  have HN := Lib.hid hnext
  clear hL hT hS hok hil hn hgm hrg hwf hnext
  have HIn := Lib.hid (fun (wx : World) (h : Tr wx w.heap.size (.slice a1 ids.length c1) (.slice b1 ls.length d1) ids ls) => tinsert_any _ _ ids ls id wx h.ids h.lv (small_of HOk.out))
  conv => arg 2; whnf
  go_wp2_with (first | (refine wpList_dstT 27 rfl ?_; refine wpList_load_mid2 (by kernel_rfl) 59 (.tmp 26) rfl _ _ rfl (opR (id, false)) HRg.out _ Try.underlying59 rfl (op_info2 _) ?_) | (refine wpList_allocO rfl 59 rfl (.cells (opR (0, false)).toArray 59) alloc_op ?_; intro w' aa gg zz; (try replace HO := Lib.hid (HO.out.aft aa)); (try replace HO2 := Lib.hid (HO2.out.aft aa)); (try replace HOK := Lib.hid (HOK.out.aft aa)); (try replace HO3 := Lib.hid (HO3.out.aft aa)); (try replace HO4 := Lib.hid (HO4.out.aft aa)); (try replace HO5 := Lib.hid (HO5.out.aft aa)); replace HL := Lib.hid (HL.out.alloc aa gg.out); clear aa gg zz; try simp only [List.nil_append, List.cons_append, List.set_cons_zero, List.set_cons_succ] at HL) | (refine wpList_store_rowZ rfl 59 (.tmp 7) (.tmp 27) rfl _ (opR (id, false)).toArray rfl rfl _ _ (HL.out.get 1 rfl) (op_info _) ((op_sz _).trans (op_sz _).symm) (all_one (opR_one _)) ?_; intro w' b1 b2 b3; (try replace HO := Lib.hid (HO.out.stored (HL.out.get 1 rfl) (by decide) b2.out)); (try replace HO2 := Lib.hid (HO2.out.stored (HL.out.get 1 rfl) (by decide) b2.out)); (try replace HOK := Lib.hid (HOK.out.stored (HL.out.get 1 rfl) (by decide) b2.out)); (try replace HO3 := Lib.hid (HO3.out.stored (HL.out.get 1 rfl) (by decide) b2.out)); (try replace HO4 := Lib.hid (HO4.out.stored (HL.out.get 1 rfl) (by decide) b2.out)); (try replace HO5 := Lib.hid (HO5.out.stored (HL.out.get 1 rfl) (by decide) b2.out)); replace HL := Lib.hid (HL.out.store 1 rfl b1 b2 b3); clear b1 b2 b3; try simp only [List.nil_append, List.cons_append, List.set_cons_zero, List.set_cons_succ] at HL) | (refine wpList_buildO (by kernel_rfl) 26 #[] rfl #[] (by kernel_rfl) _ (build_shp0) ?_) | (refine wpList_allocO rfl 26 rfl (.cells (shpL (.slice none 0 0) (.slice none 0 0)).toArray 26) alloc_shp ?_; intro w' aa gg zz; (try replace HO := Lib.hid (HO.out.aft aa)); (try replace HO2 := Lib.hid (HO2.out.aft aa)); (try replace HOK := Lib.hid (HOK.out.aft aa)); (try replace HO3 := Lib.hid (HO3.out.aft aa)); (try replace HO4 := Lib.hid (HO4.out.aft aa)); (try replace HO5 := Lib.hid (HO5.out.aft aa)); replace HL := Lib.hid (HL.out.alloc aa gg.out); clear aa gg zz; try simp only [List.nil_append, List.cons_append, List.set_cons_zero, List.set_cons_succ] at HL) | (refine wpList_store_shp rfl (.tmp 8) (.tmp 28) _ _ _ (.slice none 0 0) (.slice none 0 0) rfl rfl rfl rfl rfl (HL.out.get 2 rfl) ?_; intro w' b1 b2 b3; (try replace HO := Lib.hid (HO.out.stored (HL.out.get 2 rfl) (by decide) b2.out)); (try replace HO2 := Lib.hid (HO2.out.stored (HL.out.get 2 rfl) (by decide) b2.out)); (try replace HOK := Lib.hid (HOK.out.stored (HL.out.get 2 rfl) (by decide) b2.out)); (try replace HO3 := Lib.hid (HO3.out.stored (HL.out.get 2 rfl) (by decide) b2.out)); (try replace HO4 := Lib.hid (HO4.out.stored (HL.out.get 2 rfl) (by decide) b2.out)); (try replace HO5 := Lib.hid (HO5.out.stored (HL.out.get 2 rfl) (by decide) b2.out)); replace HL := Lib.hid (HL.out.store 2 rfl b1 b2 b3); clear b1 b2 b3; try simp only [List.nil_append, List.cons_append, List.set_cons_zero, List.set_cons_succ] at HL; have ho1 := op_o (HL.out.get 1 rfl); have ho0 := op_i (HL.out.get 1 rfl); dsimp only at ho1 ho0) | (refine wpList_dstT 39 rfl ?_; (refine wpList_load_rowG (by kernel_rfl) 26 (.tmp 4) rfl _ rfl _ _ _ _ (HL.out.get 0 rfl) Try.underlying26 rfl (shp_info _ _) ?_)))
  clear ho1 ho0
  refine (HIn.out _ HO.out).mono ?_
  rintro e wc ⟨xi, xl, xs, rfl, ho, hc⟩
  obtain ⟨a2, c2, b2, d2, rfl, rfl⟩ := ho.shape
  have HSz := Lib.hid HL.out.aft.size
  (try replace HO := Lib.hid (HO.out.aft hc)); (try replace HO2 := Lib.hid (HO2.out.aft hc)); (try replace HOK := Lib.hid (HOK.out.aft hc)); (try replace HO3 := Lib.hid (HO3.out.aft hc)); (try replace HO4 := Lib.hid (HO4.out.aft hc)); (try replace HO5 := Lib.hid (HO5.out.aft hc)); replace HL := Lib.hid (HL.out.call hc)
  have HO2 := Lib.hid (show Tr wc w.heap.size _ _ _ _ from ⟨_, ho.mono HSz.out⟩)
  clear ho hc HSz
  have hid1 : ¬ id < 0 := fun q => hid (.inl q)
  have hid2 : ¬ 1048576 < id := fun q => hid (.inr q)
  have hEi : insE ids ls id = if id ∈ ids then 7 else if ids.length = 1000 then 8 else 0 := if_neg (by
    rintro (q | q | q)
    · exact q HOk.out
    · exact hid1 q
    · exact hid2 q)
  clear hid
  have hE : insE ids ls id = 0 := by rw [hEi, if_neg hin, if_neg (by have := HIl.out; have := HZn.out; omega)]
  obtain ⟨k1, k2⟩ := ins_ok hE
  rw [hE]
  have HOk2 := Lib.hid k1
  have HM := Lib.hid hin
  have HDc := Lib.hid (decide_eq_false hin)
  have HY := Lib.hid (show ∀ q, q ∈ insIds ids ls id ↔ q = id ∨ q ∈ ids from fun q => by rw [k2]; exact insI_mem)
  have HYl := Lib.hid (show (insIds ids ls id).length = ids.length + 1 by rw [k2, insI_length])
  have HIl2 := Lib.hid (show (insIds ids ls id).length ≤ k + 1 by have := HYl.out; have := HIl.out; omega)
  clear hE hEi k1 k2 hin
  generalize insIds ids ls id = ids2 at *
  generalize insLv ids ls id = ls2 at *
  go_upto_region 17 with (first | (refine wpList_store_shp rfl (.tmp 8) (.tmp 43) _ _ _ (.slice a2 ids2.length c2) (.slice b2 ls2.length d2) rfl rfl rfl rfl rfl (HL.out.get 2 rfl) ?_; intro w' b1 b2 b3; (try replace HO := Lib.hid (HO.out.stored (HL.out.get 2 rfl) (by decide) b2.out)); (try replace HO2 := Lib.hid (HO2.out.stored (HL.out.get 2 rfl) (by decide) b2.out)); (try replace HOK := Lib.hid (HOK.out.stored (HL.out.get 2 rfl) (by decide) b2.out)); (try replace HO3 := Lib.hid (HO3.out.stored (HL.out.get 2 rfl) (by decide) b2.out)); (try replace HO4 := Lib.hid (HO4.out.stored (HL.out.get 2 rfl) (by decide) b2.out)); (try replace HO5 := Lib.hid (HO5.out.stored (HL.out.get 2 rfl) (by decide) b2.out)); replace HL := Lib.hid (HL.out.store 2 rfl b1 b2 b3); clear b1 b2 b3; try simp only [List.nil_append, List.cons_append, List.set_cons_zero, List.set_cons_succ] at HL; have ho1 := op_o (HL.out.get 1 rfl); have ho0 := op_i (HL.out.get 1 rfl); dsimp only at ho1 ho0))
  go_upto_region 21 with fail
  go_upto_region 28 with (first | (refine wpList_dstT 77 rfl ?_; refine wpList_lookS (by kernel_rfl) (.tmp 74) (.tmp 76) rfl gm k ids rfl HO4.out id rfl HWf.out ?_; rw [HDc.out]))
  go_wp2_with (first | (at_mapUpdate; refine wpList_putS rfl (.tmp 89) (.tmp 91) (.const (.bool true)) rfl gm k ids ids2 rfl HO4.out id rfl HWf.out rfl (by have := HZn.out; omega) HM.out HY.out HYl.out ?_; intro wZ q1 q2; clear ho1 ho0; have HGr := Lib.hid q2.out; replace HL := Lib.hid (HL.out.map HO4.out HGm.out HGr.out (fun p hp => by simp only [List.mem_cons, List.not_mem_nil, or_false] at hp; rcases hp with rfl | rfl | rfl <;> exact ⟨_, _, _, rfl⟩)); replace HO2 := Lib.hid (HO2.out.map HO4.out HGr.out); replace HO4 := Lib.hid q1.out; clear q1 q2 HGr HO) | (refine wpList_dstT 92 rfl ?_; (refine wpList_load_rowG (by kernel_rfl) 26 (.tmp 8) rfl _ rfl _ _ _ _ (HL.out.get 2 rfl) Try.underlying26 rfl (shp_info _ _) ?_)) | (refine wpList_store_shp rfl (.tmp 4) (.tmp 92) _ _ _ (.slice a2 ids2.length c2) (.slice b2 ls2.length d2) rfl rfl rfl rfl rfl (HL.out.get 0 rfl) ?_; intro w' b1 b2 b3; (try replace HO := Lib.hid (HO.out.stored (HL.out.get 0 rfl) (by decide) b2.out)); (try replace HO2 := Lib.hid (HO2.out.stored (HL.out.get 0 rfl) (by decide) b2.out)); (try replace HOK := Lib.hid (HOK.out.stored (HL.out.get 0 rfl) (by decide) b2.out)); (try replace HO3 := Lib.hid (HO3.out.stored (HL.out.get 0 rfl) (by decide) b2.out)); (try replace HO4 := Lib.hid (HO4.out.stored (HL.out.get 0 rfl) (by decide) b2.out)); (try replace HO5 := Lib.hid (HO5.out.stored (HL.out.get 0 rfl) (by decide) b2.out)); replace HL := Lib.hid (HL.out.store 0 rfl b1 b2 b3); clear b1 b2 b3; try simp only [List.nil_append, List.cons_append, List.set_cons_zero, List.set_cons_succ] at HL))
  have hlv0 := HOk2.out.2
  have HCk := Lib.hid (fun (wx : World) (h : Tr wx w.heap.size (.slice a2 ids2.length c2) (.slice b2 ls2.length d2) ids2 ls2) => tcheck_any _ _ ids2 ls2 wx h.ids h.lv (small_of HOk2.out))
  have f0 := fun u : Later w'.heap.size w' => shp_i (Aft.get u.h (HL.out.get 0 rfl))
  have f1 := fun u : Later w'.heap.size w' => shp_l (Aft.get u.h (HL.out.get 0 rfl))
  have hl9 : ls2.length ≤ 9 := lv_nine HOk2.out
  have hi2 : ids2.length ≤ 1000 := HOk2.out.1.1
  obtain ⟨P2, hsh, hP2⟩ : ∃ P2 : Int, (∀ w1 : World, (Go.binOp .shl 3 (.int .i64 1) (.int .i64 (ls2.length : Nat))).run Try.prog w1 = .ok (.int .i64 P2) w1) ∧ (0 < ids2.length → P2 ≤ (ids2.length : Nat)) := ⟨_, run_shl ls2.length hl9, fun q => okLv_high ls2 ids2.length hlv0 (by omega)⟩
  have HSh := Lib.hid hsh
  have e20 : decide ((20 : Int) < (ls2.length : Nat)) = false := decide_eq_false (by omega)
  have e20' : decide (20 < ls2.length) = false := decide_eq_false (by omega)
  clear hsh hlv0
  refine wp_region_lex (fun wz => ∃ u : Later w'.heap.size w', wz = u.w) (fun i => ([1] : List Nat).contains i) 33 (by kernel_rfl) (by kernel_rfl) ⟨⟨w'.drew, (Below.refl _ _).drew⟩, rfl⟩ ?_
  change wpLx _ _ _ _ _ _ _ _ _ w'.drew
  have HDr := Lib.hid (show Aft w' w'.drew from (Below.refl _ _).drew)
  generalize w'.drew = wd at *
  try simp only [Act.put, List.setIfInBounds_toArray, List.set_cons_succ, List.set_cons_zero]
  refine lx_load_agg rfl (by kernel_rfl) 26 (.tmp 4) rfl ⟨gs, 0, none⟩ rfl (shpL (.slice a2 ids2.length c2) (.slice b2 ls2.length d2)).toArray (fun wz hz => by obtain ⟨u, rfl⟩ := hz; exact run_loadVar_row u.w _ _ _ _ _ _ (Aft.get u.h (HL.out.get 0 rfl)) Try.underlying26 rfl (shp_info _ _)) ?_
  simp only [Act.put, List.setIfInBounds_toArray, List.set_cons_succ, List.set_cons_zero]
  refine lx_effT rfl (by go_big_quiet_want; exact quiet_false (by assumption)) (by kernel_rfl) ?_; intro Kx hKx; go_wp2_with fail
  refine (HCk.out _ (HO2.out.aft HDr.out)).mono ?_
  rintro r w6 ⟨rfl, h6⟩
  rw [chkT_zero.2 HOk2.out]
  go_wp2_with fail
  refine ⟨Later.on (Aft.trans HDr.out h6), ?_⟩
  replace HDr := Lib.hid (Aft.trans HDr.out h6)
  clear h6 HCk
  by_cases hz : ids2.length = 0
  · have hz1 : decide ((0 : Int) < (ids2.length : Nat)) = false := decide_eq_false (by omega)
    have hz2 : decide (0 < ids2.length) = false := decide_eq_false (by omega)
    have hz3 := Lib.hid hz
    clear hz hP2
    repeat (first | (refine lx_skipT (by go_big_quiet_skip; exact wpQuiet_nil trivial) (by kernel_rfl) ?_; simp only [Act.put, List.setIfInBounds_toArray, List.set_cons_succ, List.set_cons_zero]) | (refine lx_quietT rfl (by go_big_quiet_want; exact quiet_false (by assumption)) (by kernel_rfl) rfl ?_; intro Kx hKx; go_big_quiet_op; go_big_quiet_on))
    refine lx_val rfl (by kernel_rfl) (.int .i64 (ids2.length : Nat)) (fun wz hz => by obtain ⟨u, rfl⟩ := hz; exact run_lenS (HO4.out.aft u.h) _ (.tmp 100) rfl _ rfl) ?_
    simp only [Act.put, List.setIfInBounds_toArray, List.set_cons_succ, List.set_cons_zero]
    repeat (first | (refine lx_skipT (by go_big_quiet_skip; exact wpQuiet_nil trivial) (by kernel_rfl) ?_; simp only [Act.put, List.setIfInBounds_toArray, List.set_cons_succ, List.set_cons_zero]) | (refine lx_quietT rfl (by go_big_quiet_want; exact quiet_false (by assumption)) (by kernel_rfl) rfl ?_; intro Kx hKx; go_big_quiet_op; go_big_quiet_on))
    refine lx_done ?_
    clear hz1 hz2
    clear f0 f1 e20 e20'
    replace HL := Lib.hid (HL.out.call HDr.out)
    replace HO2 := Lib.hid (HO2.out.aft HDr.out)
    replace HO4 := Lib.hid (HO4.out.aft HDr.out)
    clear HDr
    have hIds := shp_i (HL.out.get 0 rfl)
    go_wp2_with fail
    go_loop [129] (fun v129 => ∃ j : Nat, j ≤ ids2.length ∧ v129 = .int .i64 (j : Int)) (fun v => ids2.length - (intOf v).toNat)
    case atStart => exact ⟨0, by omega, rfl⟩
    case round =>
      obtain ⟨j, hj, rfl⟩ := hrel
      by_cases hjl : j < ids2.length
      · have hjl' : (j : Int) < (ids2.length : Nat) := by omega
        have hids := HO2.out.ids
        obtain ⟨g3, o3, cp3, he, -, -, -, -⟩ := Rd.at hids (by rw [zv_length]; omega)
        rw [zv_length] at he
        injection he with he1 he2 he3
        subst he1
        subst he3
        have hcell := Rd.num_at hids hjl
        have hmem : ids2.getD j 0 ∈ ids2 := by
          rw [List.getD_eq_getElem?_getD, List.getElem?_eq_getElem hjl]
          exact List.getElem_mem hjl
        have hrng := HOk2.out.1.2.1 _ hmem
        have HWj := Lib.hid (wf_int (x := ids2.getD j 0) (by omega) (by omega))
        have HMj := Lib.hid (decide_eq_true hmem)
        clear hids he2 hmem hrng
        generalize ids2.getD j 0 = z at *
        go_wp2_with (first | (refine wpList_dstT 135 rfl ?_; refine wpList_lookS (by kernel_rfl) (.tmp 133) (.tmp 134) rfl gm _ ids2 rfl HO4.out z rfl HWj.out ?_; rw [HMj.out]))
        go_round
        case rel => exact ⟨j + 1, by omega, by go_num⟩
        case measure => simp [intOf]; omega
      · obtain rfl : j = ids2.length := by omega
        have hjl' : ¬ ((ids2.length : Nat) : Int) < (ids2.length : Nat) := by omega
        go_wp2_with fail
        have hn := HZn.out
        exact HN.out _ _ _ _ _ _ _ _ _ _ _ _ _ _ _ _ _ _ _ _ _ _ _ _ _ _ _ _ _ _ _ _ _ _ _ _ _ _ _ _ _ _ _ _ _ _ _ _ _ _ _ _ _ _ _ _ _ _ _ _ _ _ _ _ _ _ _ _ _ _ _ _ _ _ _ _ _ _ _ _ _ _ _ _ _ _ _ _ _ _ _ _ _ _ _ _ _ _ _ _ _ _ _ _ _ _ _ _ _ _ _ _ _ _ _ _ _ _ _ _ _ _ (by rw [wrap64_mid (by omega) (by omega)]; rfl) ⟨_, _, ids2, ls2, by omega, HOk2.out, HIl2.out, HO4.out.mono (by omega) (by omega), HO2.out, HL.out.cut 1⟩
  · have hz1 : decide ((0 : Int) < (ids2.length : Nat)) = true := decide_eq_true (by omega)
    have hz2 : decide (0 < ids2.length) = true := decide_eq_true (by omega)
    have hz4 : decide ((ids2.length : Int) < P2) = false := decide_eq_false (by have := hP2 (by omega); omega)
    have hz3 := Lib.hid hz
    clear hz hP2
    repeat (first | (refine lx_skipT (by go_big_quiet_skip; exact wpQuiet_nil trivial) (by kernel_rfl) ?_; simp only [Act.put, List.setIfInBounds_toArray, List.set_cons_succ, List.set_cons_zero]) | (refine lx_quietT rfl (by go_big_quiet_want; exact quiet_false (by assumption)) (by kernel_rfl) rfl ?_; intro Kx hKx; go_big_quiet_op; go_big_quiet_on))
    refine lx_val rfl (by kernel_rfl) (.int .i64 (ids2.length : Nat)) (fun wz hz => by obtain ⟨u, rfl⟩ := hz; exact run_lenS (HO4.out.aft u.h) _ (.tmp 100) rfl _ rfl) ?_
    simp only [Act.put, List.setIfInBounds_toArray, List.set_cons_succ, List.set_cons_zero]
    iterate 17 (first | (refine lx_skipT (by go_big_quiet_skip; exact wpQuiet_nil trivial) (by kernel_rfl) ?_; simp only [Act.put, List.setIfInBounds_toArray, List.set_cons_succ, List.set_cons_zero]) | (refine lx_quietT rfl (by go_big_quiet_want; exact quiet_false (by assumption)) (by kernel_rfl) rfl ?_; intro Kx hKx; go_big_quiet_op; go_big_quiet_on))
    refine lx_bin rfl (by kernel_rfl) .shl 3 3 (.const (.int .i64 1)) (.tmp 118) rfl (.int .i64 1) (.int .i64 (ls2.length : Nat)) (.int .i64 P2) rfl rfl HSh.out (fun w1 => by kernel_rfl) ?_
    simp only [Act.put, List.setIfInBounds_toArray, List.set_cons_succ, List.set_cons_zero]
    repeat (first | (refine lx_skipT (by go_big_quiet_skip; exact wpQuiet_nil trivial) (by kernel_rfl) ?_; simp only [Act.put, List.setIfInBounds_toArray, List.set_cons_succ, List.set_cons_zero]) | (refine lx_quietT rfl (by go_big_quiet_want; exact quiet_false (by assumption)) (by kernel_rfl) rfl ?_; intro Kx hKx; go_big_quiet_op; go_big_quiet_on))
    refine lx_done ?_
    clear hz1 hz2 hz4
    clear f0 f1 e20 e20'
    replace HL := Lib.hid (HL.out.call HDr.out)
    replace HO2 := Lib.hid (HO2.out.aft HDr.out)
    replace HO4 := Lib.hid (HO4.out.aft HDr.out)
    clear HDr
    have hIds := shp_i (HL.out.get 0 rfl)
    go_wp2_with fail
    go_loop [129] (fun v129 => ∃ j : Nat, j ≤ ids2.length ∧ v129 = .int .i64 (j : Int)) (fun v => ids2.length - (intOf v).toNat)
    case atStart => exact ⟨0, by omega, rfl⟩
    case round =>
      obtain ⟨j, hj, rfl⟩ := hrel
      by_cases hjl : j < ids2.length
      · have hjl' : (j : Int) < (ids2.length : Nat) := by omega
        have hids := HO2.out.ids
        obtain ⟨g3, o3, cp3, he, -, -, -, -⟩ := Rd.at hids (by rw [zv_length]; omega)
        rw [zv_length] at he
        injection he with he1 he2 he3
        subst he1
        subst he3
        have hcell := Rd.num_at hids hjl
        have hmem : ids2.getD j 0 ∈ ids2 := by
          rw [List.getD_eq_getElem?_getD, List.getElem?_eq_getElem hjl]
          exact List.getElem_mem hjl
        have hrng := HOk2.out.1.2.1 _ hmem
        have HWj := Lib.hid (wf_int (x := ids2.getD j 0) (by omega) (by omega))
        have HMj := Lib.hid (decide_eq_true hmem)
        clear hids he2 hmem hrng
        generalize ids2.getD j 0 = z at *
        go_wp2_with (first | (refine wpList_dstT 135 rfl ?_; refine wpList_lookS (by kernel_rfl) (.tmp 133) (.tmp 134) rfl gm _ ids2 rfl HO4.out z rfl HWj.out ?_; rw [HMj.out]))
        go_round
        case rel => exact ⟨j + 1, by omega, by go_num⟩
        case measure => simp [intOf]; omega
      · obtain rfl : j = ids2.length := by omega
        have hjl' : ¬ ((ids2.length : Nat) : Int) < (ids2.length : Nat) := by omega
        go_wp2_with fail
        have hn := HZn.out
        exact HN.out _ _ _ _ _ _ _ _ _ _ _ _ _ _ _ _ _ _ _ _ _ _ _ _ _ _ _ _ _ _ _ _ _ _ _ _ _ _ _ _ _ _ _ _ _ _ _ _ _ _ _ _ _ _ _ _ _ _ _ _ _ _ _ _ _ _ _ _ _ _ _ _ _ _ _ _ _ _ _ _ _ _ _ _ _ _ _ _ _ _ _ _ _ _ _ _ _ _ _ _ _ _ _ _ _ _ _ _ _ _ _ _ _ _ _ _ _ _ _ _ _ _ (by rw [wrap64_mid (by omega) (by omega)]; rfl) ⟨_, _, ids2, ls2, by omega, HOk2.out, HIl2.out, HO4.out.mono (by omega) (by omega), HO2.out, HL.out.cut 1⟩
end Go.Proofs.Ytpnckphfjcnooaa
