/- A round of TreeStays. -/
import Derived.Test.YtpnckphfjcnooaaTStK
namespace Go.Proofs.Ytpnckphfjcnooaa
open Go Go.RowKit
set_option linter.unusedSimpArgs false

set_option maxRecDepth 100000 in
set_option maxHeartbeats 8000000 in
theorem stIthere {Q : Exit → Act → World → Prop} (u2 u7 u8 u9 u10 u12 u25 u26 u27 u28 u29 u30 u31 u32 u33 u34 u35 u36 u37 u38 u39 u40 u41 u42 u43 u44 u45 u46 u47 u48 u49 u50 u51 u52 u53 u54 u55 u56 u57 u58 u59 u60 u61 u62 u63 u64 u65 u66 u67 u68 u69 u70 u71 u72 u73 u74 u75 u76 u77 u78 u79 u80 u81 u82 u83 u84 u85 u86 u87 u88 u89 u90 u91 u92 u93 u94 u95 u96 u97 u98 u99 u100 u101 u102 u103 u104 u105 u106 u107 u108 u109 u110 u111 u112 u113 u114 u115 u116 u117 u118 u119 u120 u121 u122 u123 u124 u125 u126 u127 u128 u129 u130 u131 u132 u133 u134 u135 u136 u137 u138 : Value) (sl1 sl6 sl11 sl13 sl14 sl15 sl16 sl17 sl18 sl19 sl20 sl21 sl139 : Value) (w wr : World) (gs gm g o n cp k : Nat) (id : Int) (a1 b1 : Option Addr) (c1 d1 : Nat) (ids : List Int) (ls : List (List Int)) (hlt' : (k : Int) < (n : Nat)) (hn : n ≤ 120)
    (hL : Led w wr [(gs, .cells (shpL (.slice a1 ids.length c1) (.slice b1 ls.length d1)).toArray 26)]) (hT : Tr wr w.heap.size (.slice a1 ids.length c1) (.slice b1 ls.length d1) ids ls) (hS : SetM wr gm k ids) (hok : OkT ids ls) (hil : ids.length ≤ k) (hgm : w.heap.size ≤ gm)
    (hrg : ∀ wx, Aft wr wx → wx.rangeAt g (o + k * 2) (opR (id, false))) (hwf : (Lit.int .i64 id).wf = true) (hid : ¬ (id < 0 ∨ 1048576 < id)) (hin : id ∈ ids)
    (hnext : ∀ (w2 : World) (u24 : Value) (u2 u7 u8 u9 u10 u12 u25 u26 u27 u28 u29 u30 u31 u32 u33 u34 u35 u36 u37 u38 u39 u40 u41 u42 u43 u44 u45 u46 u47 u48 u49 u50 u51 u52 u53 u54 u55 u56 u57 u58 u59 u60 u61 u62 u63 u64 u65 u66 u67 u68 u69 u70 u71 u72 u73 u74 u75 u76 u77 u78 u79 u80 u81 u82 u83 u84 u85 u86 u87 u88 u89 u90 u91 u92 u93 u94 u95 u96 u97 u98 u99 u100 u101 u102 u103 u104 u105 u106 u107 u108 u109 u110 u111 u112 u113 u114 u115 u116 u117 u118 u119 u120 u121 u122 u123 u124 u125 u126 u127 u128 u129 u130 u131 u132 u133 u134 u135 u136 u137 u138 : Value), u24 = .int .i64 ((k + 1 : Nat) : Int) → StRel w gs gm n (k + 1) w2 → Q .normal ⟨#[(.slice (some ⟨g, o, none⟩) n cp), sl1, u2, (.bool true), (.pointer (some ⟨gs, 0, none⟩)), (.map (some gm)), sl6, u7, u8, u9, u10, sl11, u12, sl13, sl14, sl15, sl16, sl17, sl18, sl19, sl20, sl21, (.slice (some ⟨g, o, none⟩) n cp), (.int .i64 (n : Nat)), u24, u25, u26, u27, u28, u29, u30, u31, u32, u33, u34, u35, u36, u37, u38, u39, u40, u41, u42, u43, u44, u45, u46, u47, u48, u49, u50, u51, u52, u53, u54, u55, u56, u57, u58, u59, u60, u61, u62, u63, u64, u65, u66, u67, u68, u69, u70, u71, u72, u73, u74, u75, u76, u77, u78, u79, u80, u81, u82, u83, u84, u85, u86, u87, u88, u89, u90, u91, u92, u93, u94, u95, u96, u97, u98, u99, u100, u101, u102, u103, u104, u105, u106, u107, u108, u109, u110, u111, u112, u113, u114, u115, u116, u117, u118, u119, u120, u121, u122, u123, u124, u125, u126, u127, u128, u129, u130, u131, u132, u133, u134, u135, u136, u137, u138, sl139], []⟩ w2) :
    Code.wp Try.prog stBody Q ⟨#[(.slice (some ⟨g, o, none⟩) n cp), sl1, u2, (.bool true), (.pointer (some ⟨gs, 0, none⟩)), (.map (some gm)), sl6, u7, u8, u9, u10, sl11, u12, sl13, sl14, sl15, sl16, sl17, sl18, sl19, sl20, sl21, (.slice (some ⟨g, o, none⟩) n cp), (.int .i64 (n : Nat)), (.int .i64 (k : Nat)), u25, u26, u27, u28, u29, u30, u31, u32, u33, u34, u35, u36, u37, u38, u39, u40, u41, u42, u43, u44, u45, u46, u47, u48, u49, u50, u51, u52, u53, u54, u55, u56, u57, u58, u59, u60, u61, u62, u63, u64, u65, u66, u67, u68, u69, u70, u71, u72, u73, u74, u75, u76, u77, u78, u79, u80, u81, u82, u83, u84, u85, u86, u87, u88, u89, u90, u91, u92, u93, u94, u95, u96, u97, u98, u99, u100, u101, u102, u103, u104, u105, u106, u107, u108, u109, u110, u111, u112, u113, u114, u115, u116, u117, u118, u119, u120, u121, u122, u123, u124, u125, u126, u127, u128, u129, u130, u131, u132, u133, u134, u135, u136, u137, u138, sl139], []⟩ wr := by
  have HL := Lib.hid hL
  have HO := Lib.hid hT
  have HO4 := Lib.hid hS
  have HOk := Lib.hid hok
  have HIl := Lib.hid hil
  have HZn := Lib.hid hn
  have HGm := Lib.hid hgm
  have HRg := Lib.hid (hrg wr (Aft.refl wr))
  have HWf := Lib.hid (show (Lit.int .i64 id).wf = true from hwf)
  have HN := Lib.hid hnext
  clear hL hT hS hok hil hn hgm hrg hwf hnext
  have HIn := Lib.hid (fun (wx : World) (h : Tr wx w.heap.size (.slice a1 ids.length c1) (.slice b1 ls.length d1) ids ls) => tinsert_any _ _ ids ls id wx h.ids h.lv (small_of HOk.out))
  conv => arg 2; whnf
  go_wp2_with (first | (refine wpList_dstT 27 rfl ?_; refine wpList_load_mid2 (by kernel_rfl) 59 (.tmp 26) rfl _ _ rfl (opR (id, false)) HRg.out _ Try.underlying59 rfl (op_info2 _) ?_) | (refine wpList_allocO rfl 59 rfl (.cells (opR (0, false)).toArray 59) alloc_op ?_; intro w' aa gg zz; (try replace HO := Lib.hid (HO.out.aft aa)); (try replace HO2 := Lib.hid (HO2.out.aft aa)); (try replace HOK := Lib.hid (HOK.out.aft aa)); (try replace HO3 := Lib.hid (HO3.out.aft aa)); (try replace HO4 := Lib.hid (HO4.out.aft aa)); (try replace HO5 := Lib.hid (HO5.out.aft aa)); replace HL := Lib.hid (HL.out.alloc aa gg.out); clear aa gg zz; try simp only [List.nil_append, List.cons_append, List.set_cons_zero, List.set_cons_succ] at HL) | (refine wpList_store_rowZ rfl 59 (.tmp 7) (.tmp 27) rfl _ (opR (id, false)).toArray rfl rfl _ _ (HL.out.get 1 rfl) (op_info _) ((op_sz _).trans (op_sz _).symm) (all_one (opR_one _)) ?_; intro w' b1 b2 b3; (try replace HO := Lib.hid (HO.out.stored (HL.out.get 1 rfl) (by decide) b2.out)); (try replace HO2 := Lib.hid (HO2.out.stored (HL.out.get 1 rfl) (by decide) b2.out)); (try replace HOK := Lib.hid (HOK.out.stored (HL.out.get 1 rfl) (by decide) b2.out)); (try replace HO3 := Lib.hid (HO3.out.stored (HL.out.get 1 rfl) (by decide) b2.out)); (try replace HO4 := Lib.hid (HO4.out.stored (HL.out.get 1 rfl) (by decide) b2.out)); (try replace HO5 := Lib.hid (HO5.out.stored (HL.out.get 1 rfl) (by decide) b2.out)); replace HL := Lib.hid (HL.out.store 1 rfl b1 b2 b3); clear b1 b2 b3; try simp only [List.nil_append, List.cons_append, List.set_cons_zero, List.set_cons_succ] at HL) | (refine wpList_buildO (by kernel_rfl) 26 #[] rfl #[] (by kernel_rfl) _ (build_shp0) ?_) | (refine wpList_allocO rfl 26 rfl (.cells (shpL (.slice none 0 0) (.slice none 0 0)).toArray 26) alloc_shp ?_; intro w' aa gg zz; (try replace HO := Lib.hid (HO.out.aft aa)); (try replace HO2 := Lib.hid (HO2.out.aft aa)); (try replace HOK := Lib.hid (HOK.out.aft aa)); (try replace HO3 := Lib.hid (HO3.out.aft aa)); (try replace HO4 := Lib.hid (HO4.out.aft aa)); (try replace HO5 := Lib.hid (HO5.out.aft aa)); replace HL := Lib.hid (HL.out.alloc aa gg.out); clear aa gg zz; try simp only [List.nil_append, List.cons_append, List.set_cons_zero, List.set_cons_succ] at HL) | (refine wpList_store_shp rfl (.tmp 8) (.tmp 28) _ _ _ (.slice none 0 0) (.slice none 0 0) rfl rfl rfl rfl rfl (HL.out.get 2 rfl) ?_; intro w' b1 b2 b3; (try replace HO := Lib.hid (HO.out.stored (HL.out.get 2 rfl) (by decide) b2.out)); (try replace HO2 := Lib.hid (HO2.out.stored (HL.out.get 2 rfl) (by decide) b2.out)); (try replace HOK := Lib.hid (HOK.out.stored (HL.out.get 2 rfl) (by decide) b2.out)); (try replace HO3 := Lib.hid (HO3.out.stored (HL.out.get 2 rfl) (by decide) b2.out)); (try replace HO4 := Lib.hid (HO4.out.stored (HL.out.get 2 rfl) (by decide) b2.out)); (try replace HO5 := Lib.hid (HO5.out.stored (HL.out.get 2 rfl) (by decide) b2.out)); replace HL := Lib.hid (HL.out.store 2 rfl b1 b2 b3); clear b1 b2 b3; try simp only [List.nil_append, List.cons_append, List.set_cons_zero, List.set_cons_succ] at HL; have ho1 := op_o (HL.out.get 1 rfl); have ho0 := op_i (HL.out.get 1 rfl); dsimp only at ho1 ho0) | (refine wpList_dstT 39 rfl ?_; (refine wpList_load_rowG (by kernel_rfl) 26 (.tmp 4) rfl _ rfl _ _ _ _ (HL.out.get 0 rfl) Try.underlying26 rfl (shp_info _ _) ?_)))
  clear ho1 ho0
  refine (HIn.out _ HO.out).mono ?_
  rintro e wc ⟨xi, xl, xs, rfl, ho, hc⟩
  obtain ⟨a2, c2, b2, d2, rfl, rfl⟩ := ho.shape
  have HSz := Lib.hid HL.out.aft.size
  (try replace HO := Lib.hid (HO.out.aft hc)); (try replace HO2 := Lib.hid (HO2.out.aft hc)); (try replace HOK := Lib.hid (HOK.out.aft hc)); (try replace HO3 := Lib.hid (HO3.out.aft hc)); (try replace HO4 := Lib.hid (HO4.out.aft hc)); (try replace HO5 := Lib.hid (HO5.out.aft hc)); replace HL := Lib.hid (HL.out.call hc)
  have HO2 := Lib.hid (show Tr wc w.heap.size _ _ _ _ from ⟨_, ho.mono HSz.out⟩)
  clear ho hc HSz
  have hid1 : ¬ id < 0 := fun q => hid (.inl q)
  have hid2 : ¬ 1048576 < id := fun q => hid (.inr q)
  have hEi : insE ids ls id = if id ∈ ids then 7 else if ids.length = 1000 then 8 else 0 := if_neg (by
    rintro (q | q | q)
    · exact q HOk.out
    · exact hid1 q
    · exact hid2 q)
  clear hid
  rw [hEi, if_pos hin]
  have HDc := Lib.hid (decide_eq_true hin)
  clear hEi hin
  generalize insIds ids ls id = ids2 at *
  generalize insLv ids ls id = ls2 at *
  go_upto_region 17 with (first | (refine wpList_store_shp rfl (.tmp 8) (.tmp 43) _ _ _ (.slice a2 ids2.length c2) (.slice b2 ls2.length d2) rfl rfl rfl rfl rfl (HL.out.get 2 rfl) ?_; intro w' b1 b2 b3; (try replace HO := Lib.hid (HO.out.stored (HL.out.get 2 rfl) (by decide) b2.out)); (try replace HO2 := Lib.hid (HO2.out.stored (HL.out.get 2 rfl) (by decide) b2.out)); (try replace HOK := Lib.hid (HOK.out.stored (HL.out.get 2 rfl) (by decide) b2.out)); (try replace HO3 := Lib.hid (HO3.out.stored (HL.out.get 2 rfl) (by decide) b2.out)); (try replace HO4 := Lib.hid (HO4.out.stored (HL.out.get 2 rfl) (by decide) b2.out)); (try replace HO5 := Lib.hid (HO5.out.stored (HL.out.get 2 rfl) (by decide) b2.out)); replace HL := Lib.hid (HL.out.store 2 rfl b1 b2 b3); clear b1 b2 b3; try simp only [List.nil_append, List.cons_append, List.set_cons_zero, List.set_cons_succ] at HL; have ho1 := op_o (HL.out.get 1 rfl); have ho0 := op_i (HL.out.get 1 rfl); dsimp only at ho1 ho0))
  go_upto_region 21 with fail
  go_wp2_with (first | (refine wpList_dstT 77 rfl ?_; refine wpList_lookS (by kernel_rfl) (.tmp 74) (.tmp 76) rfl gm k ids rfl HO4.out id rfl HWf.out ?_; rw [HDc.out]))
  clear ho1 ho0
  have hn := HZn.out
  exact HN.out _ _ _ _ _ _ _ _ _ _ _ _ _ _ _ _ _ _ _ _ _ _ _ _ _ _ _ _ _ _ _ _ _ _ _ _ _ _ _ _ _ _ _ _ _ _ _ _ _ _ _ _ _ _ _ _ _ _ _ _ _ _ _ _ _ _ _ _ _ _ _ _ _ _ _ _ _ _ _ _ _ _ _ _ _ _ _ _ _ _ _ _ _ _ _ _ _ _ _ _ _ _ _ _ _ _ _ _ _ _ _ _ _ _ _ _ _ _ _ _ _ _ (by rw [wrap64_mid (by omega) (by omega)]; rfl) ⟨_, _, ids, ls, by omega, HOk.out, Nat.le_succ_of_le HIl.out, HO4.out.mono (Nat.le_succ k) (by have := HZn.out; omega), HO.out, HL.out.cut 1⟩
end Go.Proofs.Ytpnckphfjcnooaa
