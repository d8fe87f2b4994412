/- (*plan.maker).step, walked whole. -/
import Derived.Test.YtfgammcefaomeaaP3
namespace Go.Proofs.Ytfgammcefaomeaa
open Go Go.RowKit
set_option linter.unusedSimpArgs false
theorem OwnI.storedP {w w' : World} {base g t : Nat} {v : Value} {xs : List Int} {cs : Array Value} {fr : Nat × Nat} (h : OwnI w base v xs) (hg : w.heap[g]? = some (.cells cs t fr)) (ht : t ≠ 3) (hb : ∀ k, k ≠ g → w'.heap[k]? = w.heap[k]?) : OwnI w' base v xs := by
  refine h.keep fun k hk => hb k fun e => ?_
  subst e
  rcases h.2 with ⟨rfl, -⟩ | ⟨b, cap, cur, rfl, -, hgc, -⟩
  · cases hk
  · cases hk
    rw [show w.heap[Addr.block ⟨b, 0, none⟩]? = _ from hgc] at hg
    cases hg
    exact ht rfl
/-- A step's cells. -/
def stR (at' fr : Int) (sv : Value) : List Value := [.int .i64 at', .int .i64 fr, sv]
theorem st_info (at' fr : Int) (sv : Value) : (Try.prog.info? 40).map (·.size) = some (stR at' fr sv).toArray.size := by kernel_rfl
theorem st_info2 (at' fr : Int) (sv : Value) : (Try.prog.info? 40).map (·.size) = some (stR at' fr sv).length := by kernel_rfl
theorem stR_one {at' fr : Int} {a : Option Addr} {n c : Nat} : ∀ u ∈ stR at' fr (.slice a n c), u.oneCell' = true := by
  intro u hu
  simp only [stR, List.mem_cons, List.not_mem_nil, or_false] at hu
  rcases hu with rfl | rfl | rfl <;> rfl
theorem alloc_st (w : World) : (Instr.alloc 40 true (.tuple #[])).run Try.prog w = .ok (.pointer (some ⟨w.heap.size, 0, none⟩)) (w.alloc (.cells (stR 0 0 (.slice none 0 0)).toArray 40)) := by kernel_rfl
/-- Where the secret comes from, and who is sent to. -/
def stepN (B : List Nd) (ids keep : List Int) (by' : Int) (ks : List Int) : Int × List Int :=
  if 0 ≤ fixI (fun k => ownB B ids keep by' k.toNat) ks then (ks.getD (fixI (fun k => ownB B ids keep by' k.toNat) ks).toNat 0, ks.eraseIdx (fixI (fun k => ownB B ids keep by' k.toNat) ks).toNat) else (-1, ks)
theorem fixI_lt (p : Int → Bool) (xs : List Int) : fixI p xs = -1 ∨ ∃ i : Nat, fixI p xs = (i : Int) ∧ i < xs.length := by
  unfold fixI
  split
  · rename_i i h
    exact .inr ⟨i, rfl, (List.findIdx?_eq_some_iff_getElem.1 h).1⟩
  · exact .inl rfl
set_option maxRecDepth 100000 in
set_option maxHeartbeats 4000000 in
theorem step_any (mb lb : Nat) (va vb vi vk : Value) (by' : Int) (A B : List (Nd × Value)) (ids keep : List Int) (n : Nat) (f : Int → Option Int) (at' : Int) (x : Nd) (kv : Value) (w : World) (hM : MkW w mb lb va vb vi vk by' A B ids keep n f) (hk : Rd w kv (zv x.ks)) (hl : x.ks.length ≤ 3) (ho : ∀ k ∈ x.ks, ∃ j : Nat, k = (j : Int) ∧ OwnOk (B.map Prod.fst) ids keep j) :
    Calls Try.prog 35 #[.pointer (some ⟨mb, 0, none⟩), .int .i64 at', .agg (ndR x kv).toArray] w fun e w' => ∃ sv, e = .returned (.agg (stR at' (stepN (B.map Prod.fst) ids keep by' x.ks).1 sv).toArray) ∧ OwnI w' w.heap.size sv (stepN (B.map Prod.fst) ids keep by' x.ks).2 ∧ Aft w w' := by
  have HX := Lib.hid (fun (wx : World) (ha : Aft w wx) (pb : Nat) (hp : wx.heap[pb]? = some (.cells #[.pointer (some ⟨mb, 0, none⟩)] 70 (0, 0))) => ownX_any pb mb lb va vb vi vk by' A B ids keep n f kv x.ks wx (hM.aft ha) hp (hk.grow ha) hl ho)
  have HK := Lib.hid hk
  obtain ⟨qa, qc, rfl, -, -⟩ := hk.numS
  have HSt := Lib.hid (show stepN (B.map Prod.fst) ids keep by' x.ks = _ from rfl)
  unfold stepN at HSt ⊢
  have HFx := Lib.hid (fixI_lt (fun k => ownB (B.map Prod.fst) ids keep by' k.toNat) x.ks)
  generalize fixI (fun k => ownB (B.map Prod.fst) ids keep by' k.toNat) x.ks = fx at *
  have HLe := Lib.hid hl
  have HL := Lib.hid (Led.start w)
  clear hM hk ho HSt hl
  have hmf : ∀ (fn : Fn) (first cap : Array Value) (w : World), (Instr.makeFunc fn first cap).run Try.prog w = .ok (.func fn first cap) w := fun _ _ _ _ => rfl
  go_enter Try.func35, Try.ntmps35
  go_wp2_with (first | (refine wpList_boxO rfl 70 (.tmp 0) rfl (.pointer (some ⟨mb, 0, none⟩)) rfl (.cells #[.pointer (some ⟨mb, 0, none⟩)] 70) (fun w => rfl) ?_; intro w1 aa gg zz; replace HL := Lib.hid (HL.out.alloc aa gg.out); clear aa gg zz; try simp only [List.nil_append, List.cons_append, List.set_cons_zero, List.set_cons_succ] at HL) | (refine wpList_boxO rfl 38 (.tmp 2) rfl (.agg (ndR x (.slice qa x.ks.length qc)).toArray) rfl (.cells (ndR x (.slice qa x.ks.length qc)).toArray 38) (box_nd _) ?_; intro w2 aa gg zz; replace HL := Lib.hid (HL.out.alloc aa gg.out); clear aa gg zz; try simp only [List.nil_append, List.cons_append, List.set_cons_zero, List.set_cons_succ] at HL) | (refine wpList_dstT 6 rfl ?_; refine wpList_allocO rfl 40 rfl (.cells (stR 0 0 (.slice none 0 0)).toArray 40) alloc_st ?_; intro w3 aa gg zz; replace HL := Lib.hid (HL.out.alloc aa gg.out); clear aa gg zz; try simp only [List.nil_append, List.cons_append, List.set_cons_zero, List.set_cons_succ] at HL; have d5 := cell_part (n := 5) (HL.out.get 1 rfl) rfl))
  refine (cloneI_any _ (zv x.ks) w3 (HK.out.grow HL.out.aft) (fun u hu => by obtain ⟨z, -, rfl⟩ := List.mem_map.1 hu; rfl) (by rw [zv_length]; have := HLe.out; omega)).mono ?_
  rintro e w4 ⟨cv, rfl, hcv, h4⟩
  rw [zv_length] at hcv
  have hcv2 : OwnI w4 w3.heap.size cv x.ks := hcv
  obtain ⟨ca, cc, rfl⟩ := hcv2.shape
  have HO := Lib.hid hcv2
  have HS3 := Lib.hid (Below.size HL.out.aft)
  replace HL := Lib.hid (HL.out.call h4)
  clear hcv hcv2 h4 d5
  go_wp2_with (first | (refine wpList_allocO rfl 40 rfl (.cells (stR 0 0 (.slice none 0 0)).toArray 40) alloc_st ?_; intro w5 aa gg zz; replace HO := Lib.hid (HO.out.aft aa); replace HL := Lib.hid (HL.out.alloc aa gg.out); clear aa gg zz; try simp only [List.nil_append, List.cons_append, List.set_cons_zero, List.set_cons_succ] at HL) | (refine wpList_store_rowZ rfl 40 (.tmp 8) (.tmp 15) rfl _ (stR at' (-1) (.slice ca x.ks.length cc)).toArray rfl rfl _ _ (HL.out.get 3 rfl) (st_info _ _ _) rfl (all_one stR_one) ?_; intro w6 b1 b2 b3; replace HO := Lib.hid (HO.out.storedP (HL.out.get 3 rfl) (by decide) b2.out); replace HL := Lib.hid (HL.out.store 3 rfl b1 b2 b3); clear b1 b2 b3; try simp only [List.nil_append, List.cons_append, List.set_cons_zero, List.set_cons_succ] at HL; have d5 := cell_part (n := 5) (HL.out.get 1 rfl) rfl))
  refine (HX.out w6 HL.out.aft w.heap.size (HL.out.get 0 rfl)).mono ?_
  rintro e w7 ⟨rfl, h7⟩
  replace HO := Lib.hid (HO.out.aft h7)
  replace HL := Lib.hid (HL.out.call h7)
  clear h7 HX d5
  rcases HFx.out with rfl | ⟨i, rfl, hi⟩
  · clear HFx
    go_wp2_with (first | (refine wpList_load_rowG (by kernel_rfl) 40 (.tmp 8) rfl _ rfl _ _ _ _ (HL.out.get 3 rfl) Try.underlying40 rfl (st_info _ _ _) ?_) | (refine wpList_store_rowZ rfl 40 (.tmp 6) (.tmp 35) rfl _ (stR at' (-1) (.slice ca x.ks.length cc)).toArray rfl rfl _ _ (HL.out.get 2 rfl) (st_info _ _ _) rfl (all_one stR_one) ?_; intro w20 b1 b2 b3; replace HO := Lib.hid (HO.out.storedP (HL.out.get 2 rfl) (by decide) b2.out); replace HL := Lib.hid (HL.out.store 2 rfl b1 b2 b3); clear b1 b2 b3; try simp only [List.nil_append, List.cons_append, List.set_cons_zero, List.set_cons_succ] at HL))
    refine bodyPost_ret (results_cell_row rfl _ _ _ 40 (stR at' (-1) (.slice ca x.ks.length cc)).toArray (0, 0) _ rfl (HL.out.get 2 rfl) Try.underlying40 rfl (st_info _ _ _)) rfl ?_
    exact ⟨_, rfl, HO.out.mono HS3.out, HL.out.aft⟩
  · clear HFx
    have hi0 : (0 : Int) ≤ (i : Int) := by omega
    have hi3 : i < 3 := by have := HLe.out; omega
    obtain ⟨b, o, rfl, -, -⟩ := (HK.out.grow HL.out.aft).some_of (by rw [zv_length]; omega)
    have hc := (HK.out.grow HL.out.aft).num_at hi
    have d5 := cell_part (n := 5) (HL.out.get 1 rfl) rfl
    have HGe := Lib.hid (show x.ks.getD i 0 = x.ks[i] by rw [List.getD_eq_getElem?_getD, List.getElem?_eq_getElem hi]; rfl)
    generalize x.ks.getD i 0 = z at *
    go_wp2_with (first | (refine wpList_store_cellJ rfl 3 (.tmp 27) (.tmp 26) rfl _ 1 (.int .i64 z) rfl rfl _ _ (by simp [stR]) (HL.out.get 3 rfl) (by kernel_rfl) rfl rfl ?_; intro w9 b1 b2 b3; replace HO := Lib.hid (HO.out.storedP (HL.out.get 3 rfl) (by decide) b2.out); replace HL := Lib.hid (HL.out.store 3 rfl b1 b2 b3); clear b1 b2 b3 hc d5; try simp only [List.nil_append, List.cons_append, List.set_cons_zero, List.set_cons_succ] at HL; have d2 := cell_part (n := 2) (HL.out.get 3 rfl) rfl))
    refine (cutI_any _ x.ks i w3.heap.size w9 HO.out hi).mono ?_
    rintro e w10 ⟨v', rfl, -, ho', hf'⟩
    replace HL := Lib.hid (HL.out.frO HO.out HS3.out hf' rfl)
    replace HO := Lib.hid ho'
    obtain ⟨va', vc', rfl⟩ := ho'.shape
    clear ho' hf' d2
    go_wp2_with (first | (refine wpList_store_cellJ rfl 22 (.tmp 34) (.tmp 33) rfl _ 2 (.slice va' (x.ks.eraseIdx i).length vc') rfl rfl _ _ (by simp [stR]) (HL.out.get 3 rfl) (by kernel_rfl) rfl rfl ?_; intro w11 b1 b2 b3; replace HO := Lib.hid (HO.out.storedP (HL.out.get 3 rfl) (by decide) b2.out); replace HL := Lib.hid (HL.out.store 3 rfl b1 b2 b3); clear b1 b2 b3; try simp only [List.nil_append, List.cons_append, List.set_cons_zero, List.set_cons_succ] at HL) | (refine wpList_load_rowG (by kernel_rfl) 40 (.tmp 8) rfl _ rfl _ _ _ _ (HL.out.get 3 rfl) Try.underlying40 rfl (st_info _ _ _) ?_) | (refine wpList_store_rowZ rfl 40 (.tmp 6) (.tmp 35) rfl _ (stR at' z (.slice va' (x.ks.eraseIdx i).length vc')).toArray rfl rfl _ _ (HL.out.get 2 rfl) (st_info _ _ _) rfl (all_one stR_one) ?_; intro w20 b1 b2 b3; replace HO := Lib.hid (HO.out.storedP (HL.out.get 2 rfl) (by decide) b2.out); replace HL := Lib.hid (HL.out.store 2 rfl b1 b2 b3); clear b1 b2 b3; try simp only [List.nil_append, List.cons_append, List.set_cons_zero, List.set_cons_succ] at HL))
    refine bodyPost_ret (results_cell_row rfl _ _ _ 40 (stR at' z (.slice va' (x.ks.eraseIdx i).length vc')).toArray (0, 0) _ rfl (HL.out.get 2 rfl) Try.underlying40 rfl (st_info _ _ _)) rfl ?_
    exact ⟨_, by rw [HGe.out], HO.out.mono HS3.out, HL.out.aft⟩
end Go.Proofs.Ytfgammcefaomeaa
