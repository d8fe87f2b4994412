/- ratchet.Next. -/
import Derived.Test.YtanodhagpegbfaaDoorSkips
namespace Go.Proofs.YtanodhagpegbfaaDoor
open Go Go.RowKit
set_option linter.unusedSimpArgs false

section
variable {ops : Array Oper} {rest : List Oper} {o : Oper} {a : Act} {w : World} {Q : Exit → Act → World → Prop} (hgd : o.guard = none) (x y : Operand) (g : Nat) (C : List (BitVec 8)) (G : Nat) (v : Value) (hC : C.length = 32)
include hgd hC
theorem wpList_store_ratV (ho : o.op = .store 69 x y) (v' : Value) (hv' : v'.oneCell' = true) (hc' : v'.cells = #[v']) (hx : a.eval x = .pointer (some ⟨g, 33, none⟩)) (hy : a.eval y = v') (hg : w.heap[g]? = some (.cells (ratL C G v).toArray 71 (0, 0)))
    (h : ∀ w', Hid (w'.heap[g]? = some (.cells (ratL C G v').toArray 71 (0, 0))) → Hid (∀ k, k ≠ g → w'.heap[k]? = w.heap[k]?) → (∀ k w0, k ≤ g → Below k w0 w → Below k w0 w') → wpList Tryd.prog ops Q rest (a.put o.dst undef) w') : wpList Tryd.prog ops Q (o :: rest) a w := by
  have e : ∀ u : Value, ratL C G u = (bv C ++ [.int .u64 (G : Int)]) ++ ([u] ++ []) := fun u => by simp [ratL]
  rw [e] at hg
  refine wpList_store_part hgd _ x y ho g 33 v' hx hy _ (bv C ++ [.int .u64 (G : Int)]) [v] [v'] [] hc' (by simp [bv_length, hC]) hg (by kernel_rfl) rfl (fun u hu => by simp at hu; subst hu; exact hv') ?_
  rw [← e]
  exact h
end
theorem build_keyZ (w : World) : (Instr.build 23 #[]).run Tryd.prog w = .ok (.agg key0) w := by kernel_rfl
theorem OwnS.stored {w w' : World} {base g : Nat} {v : Value} {zs : List Sk} {cs : Array Value} {t : TypeId} {fr : Nat × Nat} (h : OwnS w base v zs) (hg : w.heap[g]? = some (.cells cs t fr)) (ht : t ≠ 73) (hb : ∀ k, k ≠ g → w'.heap[k]? = w.heap[k]?) : OwnS w' base v zs := by
  refine h.keep fun k hk => hb k ?_
  rintro rfl
  rcases h.2 with ⟨rfl, -⟩ | ⟨g, cap, cur, rfl, -, hg', -⟩
  · cases hk
  · cases hk
    rw [hg] at hg'
    cases hg'
    exact ht rfl
def zC : List (BitVec 8) := List.replicate 32 0
theorem zC_length : zC.length = 32 := List.length_replicate
def rnE (G : Nat) (zs : List Sk) : Int := if chkE G zs ≠ 0 then 1 else if G = 4294967296 then 8 else 0
def rnK (C : List (BitVec 8)) (G : Nat) (zs : List Sk) : List (BitVec 8) := if rnE G zs = 0 then drvKey C keyS [] else zC
def rnC (C : List (BitVec 8)) (G : Nat) (zs : List Sk) : List (BitVec 8) := if rnE G zs = 0 then drvKey C chainS [] else zC
def rnG (G : Nat) (zs : List Sk) : Nat := if rnE G zs = 0 then G + 1 else 0
def rnZ (G : Nat) (zs : List Sk) : List Sk := if rnE G zs = 0 then zs else []
theorem rnK_length (C : List (BitVec 8)) (G : Nat) (zs : List Sk) : (rnK C G zs).length = 32 := by
  unfold rnK
  split
  · exact drvKey_length _ _ _
  · rfl
theorem rnC_length (C : List (BitVec 8)) (G : Nat) (zs : List Sk) : (rnC C G zs).length = 32 := by
  unfold rnC
  split
  · exact drvKey_length _ _ _
  · rfl
set_option maxRecDepth 100000 in
set_option maxHeartbeats 4000000 in
theorem rnext_any (C : List (BitVec 8)) (G : Nat) (a : Option Addr) (cap : Nat) (zs : List Sk) (w : World) (hK : TabK K0 2 w) (hC : C.length = 32) (hG : G < 18446744073709551616) (hz : zs.length ≤ 1048576) (hI : Sks w.heap.size w (.slice a zs.length cap) zs) :
    Calls Tryd.prog 56 #[.agg (ratL C G (.slice a zs.length cap)).toArray] w fun r w' => ∃ v, r = .returned (.tuple #[.agg (bv (rnK C G zs)).toArray, .agg (ratL (rnC C G zs) (rnG G zs) v).toArray, .int .i64 (rnE G zs)]) ∧ OwnS w' w.heap.size v (rnZ G zs) ∧ Aft w w' := by
  have HK := Lib.hid hK
  have HC := Lib.hid hC
  have HCk := Lib.hid (fun (wx : World) (h : Aft w wx) => check_any C G a cap zs wx hC hG hz (hI.aft h))
  have HCl := Lib.hid (fun (wx : World) (h : Aft w wx) => cloneS_any a cap zs wx hz (hI.aft h))
  have HL := Lib.hid (Led.start w)
  clear hK hC hI hz
  go_enter Tryd.func56, Tryd.ntmps56
  go_wp2_with (first | (refine wpList_boxO rfl 71 (.tmp 0) rfl (.agg (ratL C G (.slice a zs.length cap)).toArray) rfl (.cells (ratL C G (.slice a zs.length cap)).toArray 71) (box_rat _) ?_; intro w' aa gg zz; (try replace HO := Lib.hid (HO.out.aft aa)); (try replace HO2 := Lib.hid (HO2.out.aft aa)); (try replace HOK := Lib.hid (HOK.out.aft aa)); replace HL := Lib.hid (HL.out.alloc aa gg.out); clear aa gg zz; try simp only [List.nil_append, List.cons_append, List.set_cons_zero, List.set_cons_succ] at HL) | (refine wpList_allocO rfl 23 rfl (.cells key0 23) alloc_key ?_; intro w' aa gg zz; (try replace HO := Lib.hid (HO.out.aft aa)); (try replace HO2 := Lib.hid (HO2.out.aft aa)); (try replace HOK := Lib.hid (HOK.out.aft aa)); replace HL := Lib.hid (HL.out.alloc aa gg.out); clear aa gg zz; try simp only [List.nil_append, List.cons_append, List.set_cons_zero, List.set_cons_succ] at HL) | (refine wpList_allocO rfl 71 rfl (.cells (ratL (List.replicate 32 0) 0 (.slice none 0 0)).toArray 71) alloc_rat ?_; intro w' aa gg zz; (try replace HO := Lib.hid (HO.out.aft aa)); (try replace HO2 := Lib.hid (HO2.out.aft aa)); (try replace HOK := Lib.hid (HOK.out.aft aa)); replace HL := Lib.hid (HL.out.alloc aa gg.out); clear aa gg zz; try simp only [List.nil_append, List.cons_append, List.set_cons_zero, List.set_cons_succ] at HL) | (refine wpList_load_rowG (by kernel_rfl) 71 (.tmp 1) rfl _ rfl _ _ _ _ (HL.out.get 0 rfl) Tryd.underlying71 rfl (rat_info HC.out) ?_))
  refine (HCk.out _ HL.out.aft).mono ?_
  rintro r w2 ⟨rfl, h2⟩
  replace HL := Lib.hid (HL.out.call h2)
  clear h2 HCk
  have hn := rat_n (HL.out.get 0 rfl) HC.out
  have hl := rat_l (HL.out.get 0 rfl) HC.out
  rcases chkE_or G zs with hk | hk
  · obtain ⟨k1, -, -⟩ := chkE_zero hk
    by_cases h8 : (G : Int) = 4294967296
    · have HE := Lib.hid (show rnE G zs = 8 by unfold rnE; rw [if_neg (by rw [hk]; simp), if_pos (by omega)])
      have e1 := Lib.hid (show rnK C G zs = List.replicate 32 0 from if_neg (by rw [HE.out]; decide))
      have e2 := Lib.hid (show rnC C G zs = List.replicate 32 0 from if_neg (by rw [HE.out]; decide))
      have e3 := Lib.hid (show rnG G zs = 0 from if_neg (by rw [HE.out]; decide))
      have e4 := Lib.hid (show rnZ G zs = [] from if_neg (by rw [HE.out]; decide))
      rw [hk]
      clear hk k1
      go_wp2_with (first | (refine wpList_store_keyZ0 rfl (.tmp 2) (.tmp 15) rfl _ rfl rfl _ (HL.out.get 1 rfl) key0_size ?_; intro w' b1 b2 b3; (try replace HO := Lib.hid (HO.out.stored (HL.out.get 1 rfl) (by decide) b2.out)); (try replace HO2 := Lib.hid (HO2.out.stored (HL.out.get 1 rfl) (by decide) b2.out)); (try replace HOK := Lib.hid (HOK.out.stored (HL.out.get 1 rfl) (by decide) b2.out)); replace HL := Lib.hid (HL.out.store 1 rfl b1 b2 b3); clear b1 b2 b3; try simp only [List.nil_append, List.cons_append, List.set_cons_zero, List.set_cons_succ] at HL) | (refine wpList_buildO (by kernel_rfl) 71 #[] rfl #[] (by kernel_rfl) _ (build_rat0) ?_) | (refine wpList_store_ratZ rfl (.tmp 3) (.tmp 16) _ (List.replicate 32 0) (0) (.slice none 0 0) List.length_replicate rfl rfl rfl rfl _ (HL.out.get 2 rfl) (rat_old List.length_replicate) ?_; intro w' b1 b2 b3; (try replace HO := Lib.hid (HO.out.stored (HL.out.get 2 rfl) (by decide) b2.out)); (try replace HO2 := Lib.hid (HO2.out.stored (HL.out.get 2 rfl) (by decide) b2.out)); (try replace HOK := Lib.hid (HOK.out.stored (HL.out.get 2 rfl) (by decide) b2.out)); replace HL := Lib.hid (HL.out.store 2 rfl b1 b2 b3); clear b1 b2 b3; try simp only [List.nil_append, List.cons_append, List.set_cons_zero, List.set_cons_succ] at HL))
      refine bodyPost_ret (results_cell2 rfl _ _ _ _ _ _ _ _ _ _ _ _ rfl rfl (HL.out.get 1 rfl) (HL.out.get 2 rfl) Tryd.underlying23 rfl (key_info List.length_replicate) Tryd.underlying71 rfl (rat_info List.length_replicate)) rfl ?_
      exact ⟨.slice none 0 0, by rw [HE.out, e1.out, e2.out, e3.out]; rfl, by rw [e4.out]; exact OwnS.nil _ _, HL.out.aft⟩
    · have HE := Lib.hid (show rnE G zs = 0 by unfold rnE; rw [if_neg (by rw [hk]; simp), if_neg (by omega)])
      have e1 := Lib.hid (show rnK C G zs = drvKey C keyS [] from if_pos HE.out)
      have e2 := Lib.hid (show rnC C G zs = drvKey C chainS [] from if_pos HE.out)
      have e3 := Lib.hid (show rnG G zs = G + 1 from if_pos HE.out)
      have e4 := Lib.hid (show rnZ G zs = zs from if_pos HE.out)
      have HT := Lib.hid (fun (ao : Option Addr) (n cp : Nat) (wx : World) (h : Aft w wx) => turn_any C G ao n cp wx (TabK_fr HK.out (Fr.of_below (S := fun _ => False) h) (fun h => h)) HC.out (by omega))
      have hb8 : (((G : Nat) : Int) == 4294967296) = false := by simpa using h8
      rw [hk]
      clear hk k1 h8
      go_wp2_with fail
      refine (HCl.out _ HL.out.aft).mono ?_
      rintro r w3 ⟨v, rfl, ho, h3⟩
      obtain ⟨ao, cap', rfl⟩ := ho.shape
      have HO := Lib.hid (ho.mono HL.out.aft.size)
      replace HL := Lib.hid (HL.out.call h3)
      clear h3 ho hl hn HCl
      go_wp2_with (first | (refine wpList_store_ratV rfl (.tmp 20) (.tmp 19) _ (C) (G) (.slice a zs.length cap) HC.out rfl (.slice ao zs.length cap') rfl rfl rfl rfl (HL.out.get 0 rfl) ?_; intro w' b1 b2 b3; (try replace HO := Lib.hid (HO.out.stored (HL.out.get 0 rfl) (by decide) b2.out)); (try replace HO2 := Lib.hid (HO2.out.stored (HL.out.get 0 rfl) (by decide) b2.out)); (try replace HOK := Lib.hid (HOK.out.stored (HL.out.get 0 rfl) (by decide) b2.out)); replace HL := Lib.hid (HL.out.store 0 rfl b1 b2 b3); clear b1 b2 b3; try simp only [List.nil_append, List.cons_append, List.set_cons_zero, List.set_cons_succ] at HL) | (refine wpList_load_rowG (by kernel_rfl) 71 (.tmp 1) rfl _ rfl _ _ _ _ (HL.out.get 0 rfl) Tryd.underlying71 rfl (rat_info HC.out) ?_))
      refine (HT.out ao zs.length cap' _ HL.out.aft).mono ?_
      rintro r w4 ⟨rfl, h4⟩
      replace HO := Lib.hid (HO.out.aft h4)
      replace HL := Lib.hid (HL.out.call h4)
      clear h4 HT
      have HX := Lib.hid (drvKey_length C keyS [])
      have HY := Lib.hid (drvKey_length C chainS [])
      generalize drvKey C keyS [] = X at *
      generalize drvKey C chainS [] = Y at *
      go_wp2_with (first | (refine wpList_store_keyZ rfl (.tmp 2) (.tmp 23) rfl _ X HX.out rfl rfl _ (HL.out.get 1 rfl) key0_size ?_; intro w' b1 b2 b3; (try replace HO := Lib.hid (HO.out.stored (HL.out.get 1 rfl) (by decide) b2.out)); (try replace HO2 := Lib.hid (HO2.out.stored (HL.out.get 1 rfl) (by decide) b2.out)); (try replace HOK := Lib.hid (HOK.out.stored (HL.out.get 1 rfl) (by decide) b2.out)); replace HL := Lib.hid (HL.out.store 1 rfl b1 b2 b3); clear b1 b2 b3; try simp only [List.nil_append, List.cons_append, List.set_cons_zero, List.set_cons_succ] at HL) | (refine wpList_store_ratZ rfl (.tmp 3) (.tmp 24) _ (Y) (G + 1) (.slice ao zs.length cap') HY.out rfl rfl rfl rfl _ (HL.out.get 2 rfl) (rat_old List.length_replicate) ?_; intro w' b1 b2 b3; (try replace HO := Lib.hid (HO.out.stored (HL.out.get 2 rfl) (by decide) b2.out)); (try replace HO2 := Lib.hid (HO2.out.stored (HL.out.get 2 rfl) (by decide) b2.out)); (try replace HOK := Lib.hid (HOK.out.stored (HL.out.get 2 rfl) (by decide) b2.out)); replace HL := Lib.hid (HL.out.store 2 rfl b1 b2 b3); clear b1 b2 b3; try simp only [List.nil_append, List.cons_append, List.set_cons_zero, List.set_cons_succ] at HL))
      refine bodyPost_ret (results_cell2 rfl _ _ _ _ _ _ _ _ _ _ _ _ rfl rfl (HL.out.get 1 rfl) (HL.out.get 2 rfl) Tryd.underlying23 rfl (key_info HX.out) Tryd.underlying71 rfl (rat_info HY.out)) rfl ?_
      exact ⟨_, by rw [HE.out, e1.out, e2.out, e3.out]; rfl, by rw [e4.out]; exact HO.out, HL.out.aft⟩
  · have HE := Lib.hid (show rnE G zs = 1 by unfold rnE; rw [if_pos (by rw [hk]; decide)])
    have e1 := Lib.hid (show rnK C G zs = List.replicate 32 0 from if_neg (by rw [HE.out]; decide))
    have e2 := Lib.hid (show rnC C G zs = List.replicate 32 0 from if_neg (by rw [HE.out]; decide))
    have e3 := Lib.hid (show rnG G zs = 0 from if_neg (by rw [HE.out]; decide))
    have e4 := Lib.hid (show rnZ G zs = [] from if_neg (by rw [HE.out]; decide))
    rw [hk]
    clear hk
    go_wp2_with (first | (refine wpList_store_keyZ0 rfl (.tmp 2) (.tmp 9) rfl _ rfl rfl _ (HL.out.get 1 rfl) key0_size ?_; intro w' b1 b2 b3; (try replace HO := Lib.hid (HO.out.stored (HL.out.get 1 rfl) (by decide) b2.out)); (try replace HO2 := Lib.hid (HO2.out.stored (HL.out.get 1 rfl) (by decide) b2.out)); (try replace HOK := Lib.hid (HOK.out.stored (HL.out.get 1 rfl) (by decide) b2.out)); replace HL := Lib.hid (HL.out.store 1 rfl b1 b2 b3); clear b1 b2 b3; try simp only [List.nil_append, List.cons_append, List.set_cons_zero, List.set_cons_succ] at HL) | (refine wpList_buildO (by kernel_rfl) 71 #[] rfl #[] (by kernel_rfl) _ (build_rat0) ?_) | (refine wpList_store_ratZ rfl (.tmp 3) (.tmp 10) _ (List.replicate 32 0) (0) (.slice none 0 0) List.length_replicate rfl rfl rfl rfl _ (HL.out.get 2 rfl) (rat_old List.length_replicate) ?_; intro w' b1 b2 b3; (try replace HO := Lib.hid (HO.out.stored (HL.out.get 2 rfl) (by decide) b2.out)); (try replace HO2 := Lib.hid (HO2.out.stored (HL.out.get 2 rfl) (by decide) b2.out)); (try replace HOK := Lib.hid (HOK.out.stored (HL.out.get 2 rfl) (by decide) b2.out)); replace HL := Lib.hid (HL.out.store 2 rfl b1 b2 b3); clear b1 b2 b3; try simp only [List.nil_append, List.cons_append, List.set_cons_zero, List.set_cons_succ] at HL))
    refine bodyPost_ret (results_cell2 rfl _ _ _ _ _ _ _ _ _ _ _ _ rfl rfl (HL.out.get 1 rfl) (HL.out.get 2 rfl) Tryd.underlying23 rfl (key_info List.length_replicate) Tryd.underlying71 rfl (rat_info List.length_replicate)) rfl ?_
    exact ⟨.slice none 0 0, by rw [HE.out, e1.out, e2.out, e3.out]; rfl, by rw [e4.out]; exact OwnS.nil _ _, HL.out.aft⟩
end Go.Proofs.YtanodhagpegbfaaDoor
