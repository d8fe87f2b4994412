/- ratchet.Take. -/
import Derived.Test.YtanodhagpegbfaaDoorRDelete
namespace Go.Proofs.YtanodhagpegbfaaDoor
open Go Go.RowKit
set_option linter.unusedSimpArgs false

def mkS (g : Nat) (k : List (BitVec 8)) : Sk := if h : g < 18446744073709551616 ∧ k.length = 32 then ⟨(g, k), h⟩ else zSk
theorem mkS_val {g : Nat} {k : List (BitVec 8)} (hg : g < 18446744073709551616) (hk : k.length = 32) : (mkS g k).1 = (g, k) := by
  unfold mkS
  rw [dif_pos ⟨hg, hk⟩]
theorem mkS_L {g : Nat} {k : List (BitVec 8)} (hg : g < 18446744073709551616) (hk : k.length = 32) : skL (mkS g k) = .int .u64 (g : Int) :: bv k := by
  unfold skL
  rw [mkS_val hg hk]
/-- The chain, some turns behind. -/
def chn (C : List (BitVec 8)) : Nat → List (BitVec 8)
  | 0 => C
  | n + 1 => drvKey (chn C n) chainS []
theorem chn_length {C : List (BitVec 8)} (h : C.length = 32) : ∀ n, (chn C n).length = 32
  | 0 => h
  | _ + 1 => drvKey_length _ _ _
/-- The key of a turn that is some turns behind. -/
def kyA (C : List (BitVec 8)) (n : Nat) : List (BitVec 8) := drvKey (chn C n) keyS []
theorem kyA_length (C : List (BitVec 8)) (n : Nat) : (kyA C n).length = 32 := drvKey_length _ _ _
/-- What is passed by. -/
def pasZ (C : List (BitVec 8)) (G n : Nat) : List Sk := (List.range n).map fun i => mkS (G + i) (kyA C i)
theorem pasZ_length (C : List (BitVec 8)) (G n : Nat) : (pasZ C G n).length = n := by simp [pasZ]
theorem pasZ_succ (C : List (BitVec 8)) (G n : Nat) : pasZ C G (n + 1) = pasZ C G n ++ [mkS (G + n) (kyA C n)] := by simp [pasZ, List.range_succ]
def ixN (t : Nat) (zs : List Sk) : Nat := (ixS t zs).toNat
def tkE (G : Nat) (zs : List Sk) (t : Nat) : Int := if ahE G zs t ≠ 0 then ahE G zs t else if t < G ∧ ixS t zs < 0 then 9 else 0
def tkK (C : List (BitVec 8)) (G : Nat) (zs : List Sk) (t : Nat) : List (BitVec 8) := if tkE G zs t ≠ 0 then zC else if t < G then (zs[ixN t zs]?.getD default).1.2 else kyA C (t - G)
def tkC (C : List (BitVec 8)) (G : Nat) (zs : List Sk) (t : Nat) : List (BitVec 8) := if tkE G zs t ≠ 0 then zC else if t < G then C else chn C (t - G + 1)
def tkG (G : Nat) (zs : List Sk) (t : Nat) : Nat := if tkE G zs t ≠ 0 then 0 else if t < G then G else t + 1
def tkZ (C : List (BitVec 8)) (G : Nat) (zs : List Sk) (t : Nat) : List Sk := if tkE G zs t ≠ 0 then [] else if t < G then zs.eraseIdx (ixN t zs) else zs ++ pasZ C G (t - G)
theorem tkK_length (C : List (BitVec 8)) (G : Nat) (zs : List Sk) (t : Nat) : (tkK C G zs t).length = 32 := by
  unfold tkK
  split
  · exact zC_length
  · split
    · exact (zs[ixN t zs]?.getD default).2.2
    · exact kyA_length _ _
theorem tkC_length {C : List (BitVec 8)} (h : C.length = 32) (G : Nat) (zs : List Sk) (t : Nat) : (tkC C G zs t).length = 32 := by
  unfold tkC
  split
  · exact zC_length
  · split
    · exact h
    · exact chn_length h _
/-- What Take answers. -/
def TakeSays (C : List (BitVec 8)) (G : Nat) (zs : List Sk) (t : Nat) (w : World) (r : Ending) (w' : World) : Prop :=
  ∃ v, r = .returned (.tuple #[.agg (bv (tkK C G zs t)).toArray, .agg (ratL (tkC C G zs t) (tkG G zs t) v).toArray, .int .i64 (tkE G zs t)]) ∧ OwnS w' w.heap.size v (tkZ C G zs t) ∧ Aft w w'
theorem TakeSays.bad {C : List (BitVec 8)} {G : Nat} {zs : List Sk} {t : Nat} {w w' : World} {e : Int} (h : tkE G zs t = e) (h0 : e ≠ 0) (ha : Aft w w') :
    TakeSays C G zs t w (.returned (.tuple #[.agg (bv (List.replicate 32 0)).toArray, .agg (ratL (List.replicate 32 0) 0 (.slice none 0 0)).toArray, .int .i64 e])) w' := by
  subst h
  refine ⟨.slice none 0 0, ?_, ?_, ha⟩
  · unfold tkK tkC tkG
    rw [if_pos h0, if_pos h0, if_pos h0]
    rfl
  · unfold tkZ
    rw [if_pos h0]
    exact OwnS.nil _ _
theorem TakeSays.left {C : List (BitVec 8)} {G : Nat} {zs : List Sk} {t : Nat} {w w' : World} {v : Value} (h : tkE G zs t = 0) (hl : t < G) (ho : OwnS w' w.heap.size v (zs.eraseIdx (ixN t zs))) (ha : Aft w w') :
    TakeSays C G zs t w (.returned (.tuple #[.agg (bv (zs[ixN t zs]?.getD default).1.2).toArray, .agg (ratL C G v).toArray, .int .i64 0])) w' := by
  have h0 : ¬ tkE G zs t ≠ 0 := fun q => q h
  refine ⟨v, ?_, ?_, ha⟩
  · unfold tkK tkC tkG
    rw [if_neg h0, if_neg h0, if_neg h0, if_pos hl, if_pos hl, if_pos hl, h]
  · unfold tkZ
    rw [if_neg h0, if_pos hl]
    exact ho
theorem TakeSays.next {C : List (BitVec 8)} {G : Nat} {zs : List Sk} {n : Nat} {w w' : World} {v : Value} (h : tkE G zs (G + n) = 0) (ho : OwnS w' w.heap.size v (zs ++ pasZ C G n)) (ha : Aft w w') :
    TakeSays C G zs (G + n) w (.returned (.tuple #[.agg (bv (kyA C n)).toArray, .agg (ratL (chn C (n + 1)) (G + n + 1) v).toArray, .int .i64 0])) w' := by
  have h0 : ¬ tkE G zs (G + n) ≠ 0 := fun q => q h
  have h1 : ¬ G + n < G := by omega
  refine ⟨v, ?_, ?_, ha⟩
  · unfold tkK tkC tkG
    rw [if_neg h0, if_neg h0, if_neg h0, if_neg h1, if_neg h1, if_neg h1, h, Nat.add_sub_cancel_left]
  · unfold tkZ
    rw [if_neg h0, if_neg h1, Nat.add_sub_cancel_left]
    exact ho
theorem build_sk {X : List (BitVec 8)} {g : Nat} (hg : g < 18446744073709551616) (hX : X.length = 32) (w : World) : (Instr.build 73 #[(0, .int .u64 (g : Int)), (1, .agg (bv X).toArray)]).run Tryd.prog w = .ok (.agg (skL (mkS g X)).toArray) w := by
  rw [mkS_L hg hX, bv_of_len hX]
  generalize (fun i => Value.int .u8 (bn (X.getD i 0))) = f
  generalize (g : Int) = z
  kernel_rfl
theorem OwnS.key {w : World} {base g n cap : Nat} {A Bs : List Sk} {z : Sk} (h : OwnS w base (.slice (some ⟨g, 0, none⟩) n cap) (A ++ z :: Bs)) : Rd w (.slice (some ⟨g, A.length * 33 + 1, none⟩) 32 32) (bv z.1.2) := by
  rcases h.2 with ⟨he, -⟩ | ⟨g', cap', cur, he, hb, hg, -, -, -, ht⟩
  · cases he
  · cases he
    have hsp : cur.toList = (sksL A ++ [.int .u64 (z.1.1 : Int)]) ++ (bv z.1.2 ++ (sksL Bs ++ cur.toList.drop ((A ++ z :: Bs).length * 33))) := by
      have := List.take_append_drop ((A ++ z :: Bs).length * 33) cur.toList
      rw [ht, sksL_append, sksL_cons] at this
      simpa only [skL, List.append_assoc, List.cons_append, List.nil_append] using this.symm
    have hg' : w.heap[g]? = some (.cells ((sksL A ++ [Value.int .u64 (z.1.1 : Int)]) ++ (bv z.1.2 ++ (sksL Bs ++ cur.toList.drop ((A ++ z :: Bs).length * 33)))).toArray 73 (0, 0)) := by rw [hg, ← hsp]
    exact Rd.part _ _ z.1.2 _ hg' (by rw [List.length_append, sksL_length]; rfl) z.2.2 rfl
theorem run_skSlice (s : Sk) (w : World) : (Instr.buildSlice 69 1 #[(0, .agg (skL s).toArray)]).run Tryd.prog w = .ok (.slice (some ⟨w.heap.size, 0, none⟩) 1 1) (w.alloc (.cells (skL s).toArray 73)) := by
  unfold skL
  rw [bv_of_len s.2.2]
  generalize (fun i => Value.int .u8 (bn (s.1.2.getD i 0))) = f
  generalize (s.1.1 : Int) = z
  kernel_rfl
theorem wpList_skSliceO {ops : Array Oper} {rest : List Oper} {o : Oper} {a : Act} {w : World} {Q : Exit → Act → World → Prop} (hw : Region.wanted o (yielded ops a.tmps) = true) (x : Operand) (ho : o.op = .buildSlice 69 1 #[(0, x)]) (s : Sk) (hx : a.eval x = .agg (skL s).toArray)
    (h : ∀ w', Aft w w' → Hid (Sks w'.heap.size w' (.slice (some ⟨w.heap.size, 0, none⟩) 1 1) [s]) → wpList Tryd.prog ops Q rest (a.put o.dst (.slice (some ⟨w.heap.size, 0, none⟩) 1 1)) w') : wpList Tryd.prog ops Q (o :: rest) a w := by
  unfold wpList
  rw [if_pos hw]
  refine .inl (wp_noOut ?_)
  unfold Oper.wp execOp
  simp only [ho, hx, Sem.run_bind, List.map_toArray, List.map_cons, List.map_nil, run_skSlice s w, Result.andThen_ok, Sem.run_pure]
  refine h _ (Aft.alloc w _) ?_
  have hg := heap_alloc_new w (.cells (skL s).toArray 73)
  refine .inr ⟨w.heap.size, 0, 1, rfl, heap_lt hg, fun j hj i v hv => ?_⟩
  have hj0 : j = 0 := by simpa using hj
  subst hj0
  have := cell_part (n := i) hg hv
  simpa using this
theorem box_u64 (z : Int) (w : World) : (Instr.box 37 (.int .u64 z)).run Tryd.prog w = .ok (.pointer (some ⟨w.heap.size, 0, none⟩)) (w.alloc (.cells #[.int .u64 z] 37)) := rfl
set_option maxRecDepth 100000 in
set_option maxHeartbeats 2000000 in
theorem rtake_any (C : List (BitVec 8)) (G t : Nat) (a : Option Addr) (cap : Nat) (zs : List Sk) (w : World) (hK : TabK K0 2 w) (hC : C.length = 32) (hG : G < 18446744073709551616) (ht : t < 18446744073709551616) (hz : zs.length ≤ 1048576) (hI : Sks w.heap.size w (.slice a zs.length cap) zs) :
    Calls Tryd.prog 52 #[.agg (ratL C G (.slice a zs.length cap)).toArray, .int .u64 (t : Int)] w (TakeSays C G zs t w) := by
  have HK := Lib.hid hK
  have HC := Lib.hid hC
  have HZ := Lib.hid hz
  have HAh := Lib.hid (fun (wx : World) (h : Aft w wx) => ahead_any C G t a cap zs wx hC hG ht hz (hI.aft h))
  have HCl := Lib.hid (fun (wx : World) (h : Aft w wx) => cloneS_any a cap zs wx hz (hI.aft h))
  have HT := Lib.hid (fun (D : List (BitVec 8)) (hD : D.length = 32) (M : Nat) (hM : M < 9223372036854775808) (ao : Option Addr) (n cp : Nat) (wx : World) (h : Aft w wx) => turn_any D M ao n cp wx (TabK_fr HK.out (Fr.of_below (S := fun _ => False) h) (fun h => h)) hD hM)
  have HIx := Lib.hid (fun (B : Nat) (v : Value) (wx : World) (base : Nat) (hB : wx.cell? ⟨B, 0, none⟩ = some (.int .u64 (t : Int))) (ho : OwnS wx base v zs) => index_any t B v zs wx base hB hz ho)
  have HL := Lib.hid (Led.start w)
  clear hK hC hI hz hG ht
  go_enter Tryd.func52, Tryd.ntmps52
  go_wp2_with (first | (refine wpList_boxO rfl 71 (.tmp 0) rfl (.agg (ratL C G (.slice a zs.length cap)).toArray) rfl (.cells (ratL C G (.slice a zs.length cap)).toArray 71) (box_rat _) ?_; intro wa aa gg zz; (try replace HO := Lib.hid (HO.out.aft aa)); (try replace HO2 := Lib.hid (HO2.out.aft aa)); (try replace HOK := Lib.hid (HOK.out.aft aa)); replace HL := Lib.hid (HL.out.alloc aa gg.out); clear aa gg zz; try simp only [List.nil_append, List.cons_append, List.set_cons_zero, List.set_cons_succ] at HL) | (refine wpList_boxO rfl 37 (.tmp 1) rfl (.int .u64 (t : Int)) rfl (.cells #[.int .u64 (t : Int)] 37) (box_u64 _) ?_; intro wb aa gg zz; replace HL := Lib.hid (HL.out.alloc aa gg.out); clear aa gg zz; have hB := (one_cell_at (HL.out.get 1 rfl)).1; try simp only [List.nil_append, List.cons_append, List.set_cons_zero, List.set_cons_succ] at HL) | (refine wpList_allocO rfl 23 rfl (.cells key0 23) alloc_key ?_; intro wc aa gg zz; replace HL := Lib.hid (HL.out.alloc aa gg.out); replace hB := (one_cell_at (HL.out.get 1 rfl)).1; clear aa gg zz; try simp only [List.nil_append, List.cons_append, List.set_cons_zero, List.set_cons_succ] at HL) | (refine wpList_allocO rfl 71 rfl (.cells (ratL (List.replicate 32 0) 0 (.slice none 0 0)).toArray 71) alloc_rat ?_; intro wd aa gg zz; replace HL := Lib.hid (HL.out.alloc aa gg.out); replace hB := (one_cell_at (HL.out.get 1 rfl)).1; clear aa gg zz; try simp only [List.nil_append, List.cons_append, List.set_cons_zero, List.set_cons_succ] at HL) | (refine wpList_load_rowG (by kernel_rfl) 71 (.tmp 2) rfl _ rfl _ _ _ _ (HL.out.get 0 rfl) Tryd.underlying71 rfl (rat_info HC.out) ?_))
  refine (HAh.out _ HL.out.aft).mono ?_
  rintro r w2 ⟨rfl, h2⟩
  replace HL := Lib.hid (HL.out.call h2)
  clear h2 HAh hB
  have hB := (one_cell_at (HL.out.get 1 rfl)).1
  have hn := rat_n (HL.out.get 0 rfl) HC.out
  have hl := rat_l (HL.out.get 0 rfl) HC.out
  by_cases hE : ahE G zs t = 0
  rotate_left
  · have HE := Lib.hid (show tkE G zs t = ahE G zs t from if_pos hE)
    have HE0 := Lib.hid hE
    generalize ahE G zs t = e at *
    go_wp2_with (first | (refine wpList_store_keyZ0 rfl (.tmp 4) (.tmp 22) rfl _ rfl rfl _ (HL.out.get 2 rfl) key0_size ?_; intro w' b1 b2 b3; (try replace HO := Lib.hid (HO.out.stored (HL.out.get 2 rfl) (by decide) b2.out)); (try replace HO2 := Lib.hid (HO2.out.stored (HL.out.get 2 rfl) (by decide) b2.out)); (try replace HOK := Lib.hid (HOK.out.stored (HL.out.get 2 rfl) (by decide) b2.out)); replace HL := Lib.hid (HL.out.store 2 rfl b1 b2 b3); clear b1 b2 b3; try simp only [List.nil_append, List.cons_append, List.set_cons_zero, List.set_cons_succ] at HL) | (refine wpList_buildO (by kernel_rfl) 71 #[] rfl #[] (by kernel_rfl) _ (build_rat0) ?_) | (refine wpList_store_ratZ rfl (.tmp 5) (.tmp 23) _ (List.replicate 32 0) (0) (.slice none 0 0) List.length_replicate rfl rfl rfl rfl _ (HL.out.get 3 rfl) (rat_old List.length_replicate) ?_; intro w' b1 b2 b3; (try replace HO := Lib.hid (HO.out.stored (HL.out.get 3 rfl) (by decide) b2.out)); (try replace HO2 := Lib.hid (HO2.out.stored (HL.out.get 3 rfl) (by decide) b2.out)); (try replace HOK := Lib.hid (HOK.out.stored (HL.out.get 3 rfl) (by decide) b2.out)); replace HL := Lib.hid (HL.out.store 3 rfl b1 b2 b3); clear b1 b2 b3; try simp only [List.nil_append, List.cons_append, List.set_cons_zero, List.set_cons_succ] at HL))
    refine bodyPost_ret (results_cell2 rfl _ _ _ _ _ _ _ _ _ _ _ _ rfl rfl (HL.out.get 2 rfl) (HL.out.get 3 rfl) Tryd.underlying23 rfl (key_info List.length_replicate) Tryd.underlying71 rfl (rat_info List.length_replicate)) rfl ?_
    exact TakeSays.bad HE.out HE0.out HL.out.aft
  have HE := Lib.hid hE
  rw [hE]
  clear hE
  go_wp2_with fail
  refine (HCl.out _ HL.out.aft).mono ?_
  rintro r w3 ⟨v, rfl, ho, h3⟩
  obtain ⟨ao, cap', rfl⟩ := ho.shape
  have HO := Lib.hid (ho.mono HL.out.aft.size)
  replace HL := Lib.hid (HL.out.call h3)
  clear h3 ho hl hn HCl hB
  have hB := (one_cell_at (HL.out.get 1 rfl)).1
  have hn := rat_n (HL.out.get 0 rfl) HC.out
  by_cases hlt : (t : Int) < (G : Int)
  · have HLt := Lib.hid (show t < G by omega)
    go_wp2_with (first | (refine wpList_store_ratV rfl (.tmp 28) (.tmp 27) _ (C) (G) (.slice a zs.length cap) HC.out rfl (.slice ao zs.length cap') rfl rfl rfl rfl (HL.out.get 0 rfl) ?_; intro w' b1 b2 b3; (try replace HO := Lib.hid (HO.out.stored (HL.out.get 0 rfl) (by decide) b2.out)); (try replace HO2 := Lib.hid (HO2.out.stored (HL.out.get 0 rfl) (by decide) b2.out)); (try replace HOK := Lib.hid (HOK.out.stored (HL.out.get 0 rfl) (by decide) b2.out)); replace HL := Lib.hid (HL.out.store 0 rfl b1 b2 b3); clear b1 b2 b3; try simp only [List.nil_append, List.cons_append, List.set_cons_zero, List.set_cons_succ] at HL; replace hB := (one_cell_at (HL.out.get 1 rfl)).1; replace hn := rat_n (HL.out.get 0 rfl) HC.out; have hl := rat_l (HL.out.get 0 rfl) HC.out))
    refine (HIx.out _ _ _ _ hB HO.out).mono ?_
    rintro r w5 ⟨rfl, h5⟩
    replace HO := Lib.hid (HO.out.aft h5)
    replace HL := Lib.hid (HL.out.call h5)
    clear h5 HIx hB hl hn HT
    rcases hix : zs.findIdx? (fun x => x.1.1 == t) with _ | i
    · have HX := Lib.hid (show ixS t zs = -1 by unfold ixS; rw [hix])
      have HE9 := Lib.hid (show tkE G zs t = 9 by unfold tkE; rw [if_neg (by rw [HE.out]; simp), if_pos ⟨HLt.out, by rw [HX.out]; decide⟩])
      rw [HX.out]
      clear hix hlt
      go_wp2_with (first | (refine wpList_store_keyZ0 rfl (.tmp 4) (.tmp 39) rfl _ rfl rfl _ (HL.out.get 2 rfl) key0_size ?_; intro w' b1 b2 b3; (try replace HO := Lib.hid (HO.out.stored (HL.out.get 2 rfl) (by decide) b2.out)); (try replace HO2 := Lib.hid (HO2.out.stored (HL.out.get 2 rfl) (by decide) b2.out)); (try replace HOK := Lib.hid (HOK.out.stored (HL.out.get 2 rfl) (by decide) b2.out)); replace HL := Lib.hid (HL.out.store 2 rfl b1 b2 b3); clear b1 b2 b3; try simp only [List.nil_append, List.cons_append, List.set_cons_zero, List.set_cons_succ] at HL) | (refine wpList_buildO (by kernel_rfl) 71 #[] rfl #[] (by kernel_rfl) _ (build_rat0) ?_) | (refine wpList_store_ratZ rfl (.tmp 5) (.tmp 40) _ (List.replicate 32 0) (0) (.slice none 0 0) List.length_replicate rfl rfl rfl rfl _ (HL.out.get 3 rfl) (rat_old List.length_replicate) ?_; intro w' b1 b2 b3; (try replace HO := Lib.hid (HO.out.stored (HL.out.get 3 rfl) (by decide) b2.out)); (try replace HO2 := Lib.hid (HO2.out.stored (HL.out.get 3 rfl) (by decide) b2.out)); (try replace HOK := Lib.hid (HOK.out.stored (HL.out.get 3 rfl) (by decide) b2.out)); replace HL := Lib.hid (HL.out.store 3 rfl b1 b2 b3); clear b1 b2 b3; try simp only [List.nil_append, List.cons_append, List.set_cons_zero, List.set_cons_succ] at HL))
      refine bodyPost_ret (results_cell2 rfl _ _ _ _ _ _ _ _ _ _ _ _ rfl rfl (HL.out.get 2 rfl) (HL.out.get 3 rfl) Tryd.underlying23 rfl (key_info List.length_replicate) Tryd.underlying71 rfl (rat_info List.length_replicate)) rfl ?_
      exact TakeSays.bad HE9.out (by decide) HL.out.aft
    · have hil : i < zs.length := (List.findIdx?_eq_some_iff_getElem.1 hix).1
      have HX := Lib.hid (show ixS t zs = (i : Int) by unfold ixS; rw [hix])
      have HXn := Lib.hid (show ixN t zs = i by unfold ixN; rw [HX.out]; rfl)
      have HE0 := Lib.hid (show tkE G zs t = 0 by unfold tkE; rw [if_neg (by rw [HE.out]; simp), if_neg (by rw [HX.out]; omega)])
      have HD := Lib.hid (fun (wx : World) (base : Nat) (v : Value) (ho : OwnS wx base v zs) => delete_any (zs.take i) zs[i] (zs.drop (i + 1)) v wx base (by rw [List.length_take, List.length_drop]; have := HZ.out; omega) (by rw [← List.drop_eq_getElem_cons hil, List.take_append_drop]; exact ho))
      have HKy := Lib.hid (fun (wx : World) (base g n cp : Nat) (ho : OwnS wx base (.slice (some ⟨g, 0, none⟩) n cp) zs) => OwnS.key (A := zs.take i) (z := zs[i]) (Bs := zs.drop (i + 1)) (by rw [← List.drop_eq_getElem_cons hil, List.take_append_drop]; exact ho))
      rw [← List.eraseIdx_eq_take_drop_succ, List.length_take, Nat.min_eq_left (Nat.le_of_lt hil)] at HD
      rw [List.length_take, Nat.min_eq_left (Nat.le_of_lt hil)] at HKy
      have HKd := Lib.hid (show (zs[ixN t zs]?.getD default).1.2 = zs[i].1.2 by rw [HXn.out, List.getElem?_eq_getElem hil]; rfl)
      have HKl := Lib.hid zs[i].2.2
      generalize zs[i].1.2 = K at *
      rw [HX.out]
      rcases HO.out.2 with ⟨he, hn0⟩ | ⟨g, cap2, cur, he, hbg, -⟩
      · exact absurd hil (by omega)
      injection he with e1 e2 e3
      subst e1 e3
      have HBg := Lib.hid hbg
      clear hix hlt e2 hbg cur
      have hl := rat_l (HL.out.get 0 rfl) HC.out
      have hw : wrap64 ((i : Int) + 1) = (i : Int) + 1 := by have := HZ.out; unfold wrap64; omega
      go_wp2_with (first | (refine wpList_load_keyG (by kernel_rfl) (.tmp 45) rfl _ _ rfl K (HKy.out _ _ _ _ _ HO.out) HKl.out ?_) | (refine wpList_allocO rfl 23 rfl (.cells key0 23) alloc_key ?_; intro w' aa gg zz; (try replace HO := Lib.hid (HO.out.aft aa)); (try replace HO2 := Lib.hid (HO2.out.aft aa)); (try replace HOK := Lib.hid (HOK.out.aft aa)); replace HL := Lib.hid (HL.out.alloc aa gg.out); clear aa gg zz; try simp only [List.nil_append, List.cons_append, List.set_cons_zero, List.set_cons_succ] at HL; have hl := rat_l (HL.out.get 0 rfl) HC.out) | (refine wpList_store_keyZ rfl (.tmp 10) (.tmp 46) rfl _ K HKl.out rfl rfl _ (HL.out.get 4 rfl) key0_size ?_; intro w' b1 b2 b3; (try replace HO := Lib.hid (HO.out.stored (HL.out.get 4 rfl) (by decide) b2.out)); (try replace HO2 := Lib.hid (HO2.out.stored (HL.out.get 4 rfl) (by decide) b2.out)); (try replace HOK := Lib.hid (HOK.out.stored (HL.out.get 4 rfl) (by decide) b2.out)); replace HL := Lib.hid (HL.out.store 4 rfl b1 b2 b3); clear b1 b2 b3; try simp only [List.nil_append, List.cons_append, List.set_cons_zero, List.set_cons_succ] at HL; have hl := rat_l (HL.out.get 0 rfl) HC.out))
      refine (HD.out _ _ _ HO.out).mono ?_
      rintro r w6 ⟨v', g', hvg, rfl, ho', hvg', ⟨cs, hcs⟩, hoth, hbel⟩
      cases hvg
      replace HL := Lib.hid (HL.out.other hcs HBg.out hoth hbel rfl)
      replace HO := Lib.hid ho'
      obtain ⟨ao', cp, rfl⟩ := ho'.shape
      clear hcs hoth hbel ho' hvg' hl HD HKy
      go_wp2_with (first | (refine wpList_store_ratV rfl (.tmp 53) (.tmp 52) _ C G (.slice (some ⟨g, 0, none⟩) zs.length cap') HC.out rfl (.slice ao' (zs.eraseIdx i).length cp) rfl rfl rfl rfl (HL.out.get 0 rfl) ?_; intro w7 b1 b2 b3; (try replace HO := Lib.hid (HO.out.stored (HL.out.get 0 rfl) (by decide) b2.out)); replace HL := Lib.hid (HL.out.store 0 rfl b1 b2 b3); clear b1 b2 b3; try simp only [List.nil_append, List.cons_append, List.set_cons_zero, List.set_cons_succ] at HL))
      refine wp_region_lex (fun w' => w'.heap[w5.heap.size]? = some (.cells (bv K).toArray 23 (0, 0)) ∧ w'.heap[w.heap.size]? = some (.cells (ratL C G (.slice ao' (zs.eraseIdx i).length cp)).toArray 71 (0, 0))) (fun i => ([2] : List Nat).contains i) 3 (by kernel_rfl) (by kernel_rfl) ⟨HL.out.get 4 rfl, HL.out.get 0 rfl⟩ ?_
      change wpLx _ _ _ _ _ _ _ _ _ w7.drew
      replace HL := Lib.hid (HL.out.call (show Aft w7 w7.drew from (Below.refl _ _).drew))
      replace HO := Lib.hid (HO.out.aft (show Aft w7 w7.drew from (Below.refl _ _).drew))
      generalize w7.drew = wx at *
      refine lx_load_agg rfl (by kernel_rfl) 23 (.tmp 10) rfl ⟨w5.heap.size, 0, none⟩ rfl (bv K).toArray (fun w' h => run_loadVar_row w' _ _ _ _ _ _ h.1 Tryd.underlying23 rfl (key_info HKl.out)) ?_
      simp only [Act.put, List.setIfInBounds_toArray, List.set_cons_succ, List.set_cons_zero]
      refine lx_load_agg rfl (by kernel_rfl) 71 (.tmp 2) rfl ⟨w.heap.size, 0, none⟩ rfl (ratL C G (.slice ao' (zs.eraseIdx i).length cp)).toArray (fun w' h => run_loadVar_row w' _ _ _ _ _ _ h.2 Tryd.underlying71 rfl (rat_info HC.out)) ?_
      simp only [Act.put, List.setIfInBounds_toArray, List.set_cons_succ, List.set_cons_zero]
      refine lx_eff rfl (by kernel_rfl) ?_
      intro Kx hKx
      have hi1 := HL.out.inc 0 2 _ _ _ _ (by decide) rfl rfl
      have hi2 := HL.out.inc 2 4 _ _ _ _ (by decide) rfl rfl
      refine wp_of_list (ops := #[]) (wpList_store_keyZ rfl (.tmp 4) (.tmp 54) rfl _ K HKl.out rfl rfl key0 (HL.out.get 2 rfl) key0_size ?_)
      intro w8 b1 b2 b3
      refine ⟨rfl, hKx _ _ ⟨⟨(b2.out w5.heap.size (by omega)).trans (HL.out.get 4 rfl), (b2.out w.heap.size (by omega)).trans (HL.out.get 0 rfl)⟩, ?_⟩⟩
      replace HO := Lib.hid (HO.out.stored (HL.out.get 2 rfl) (by decide) b2.out)
      replace HL := Lib.hid (HL.out.store 2 rfl b1 b2 b3)
      clear b1 b2 b3 hKx hi1 hi2
      try simp only [List.nil_append, List.cons_append, List.set_cons_zero, List.set_cons_succ] at HL
      refine lx_done ?_
      simp only [Act.put]
      go_wp2_with (first | (refine wpList_store_ratZ rfl (.tmp 5) (.tmp 55) _ C G (.slice ao' (zs.eraseIdx i).length cp) HC.out rfl rfl rfl rfl _ (HL.out.get 3 rfl) (rat_old List.length_replicate) ?_; intro w9 b1 b2 b3; replace HO := Lib.hid (HO.out.stored (HL.out.get 3 rfl) (by decide) b2.out); replace HL := Lib.hid (HL.out.store 3 rfl b1 b2 b3); clear b1 b2 b3; try simp only [List.nil_append, List.cons_append, List.set_cons_zero, List.set_cons_succ] at HL))
      refine bodyPost_ret (results_cell2 rfl _ _ _ _ _ _ _ _ _ _ _ _ rfl rfl (HL.out.get 2 rfl) (HL.out.get 3 rfl) Tryd.underlying23 rfl (key_info HKl.out) Tryd.underlying71 rfl (rat_info HC.out)) rfl ?_
      rw [← HKd.out]
      exact TakeSays.left HE0.out HLt.out (by rw [HXn.out]; exact HO.out) HL.out.aft
  · have hGt : G ≤ t := by omega
    obtain ⟨n, rfl⟩ := Nat.exists_eq_add_of_le hGt
    have HN := Lib.hid (show ahN G zs (G + n) = n by unfold ahN; rw [if_pos ⟨HE.out, by omega⟩]; omega)
    have HE0 := Lib.hid (show tkE G zs (G + n) = 0 by unfold tkE; rw [if_neg (by rw [HE.out]; simp), if_neg (by omega)])
    have HNz := Lib.hid (show zs.length + n ≤ 1024 ∧ G + n < 4294967296 by
      have h := HE.out
      unfold ahE at h
      split at h
      · cases h
      · rename_i hc
        rw [if_neg (show ¬ G + n < G by omega)] at h
        split at h
        · cases h
        · split at h
          · cases h
          · have := chkE_zero (show chkE G zs = 0 by simpa using hc)
            omega)
    rw [HN.out]
    clear hGt HIx
    go_wp2_with (first | (refine wpList_store_ratV rfl (.tmp 28) (.tmp 27) _ (C) (G) (.slice a zs.length cap) HC.out rfl (.slice ao zs.length cap') rfl rfl rfl rfl (HL.out.get 0 rfl) ?_; intro w' b1 b2 b3; (try replace HO := Lib.hid (HO.out.stored (HL.out.get 0 rfl) (by decide) b2.out)); (try replace HO2 := Lib.hid (HO2.out.stored (HL.out.get 0 rfl) (by decide) b2.out)); (try replace HOK := Lib.hid (HOK.out.stored (HL.out.get 0 rfl) (by decide) b2.out)); replace HL := Lib.hid (HL.out.store 0 rfl b1 b2 b3); clear b1 b2 b3; try simp only [List.nil_append, List.cons_append, List.set_cons_zero, List.set_cons_succ] at HL; replace hB := (one_cell_at (HL.out.get 1 rfl)).1; replace hn := rat_n (HL.out.get 0 rfl) HC.out))
    clear hn hB hlt
    go_loopw [7] (fun v7 wr => ∃ (j d : Nat) (ao : Option Addr) (m cp : Nat), j + d = n ∧ v7 = .int .i64 (d : Int) ∧ OwnS wr w.heap.size (.slice ao m cp) (zs ++ pasZ C G j) ∧ Led w wr [(w.heap.size, .cells (ratL (chn C j) (G + j) (.slice ao m cp)).toArray 71), (wa.heap.size, .cells #[.int .u64 ((G + n : Nat) : Int)] 37), (wb.heap.size, .cells key0 23), (wc.heap.size, .cells (ratL (List.replicate 32 0) 0 (.slice none 0 0)).toArray 71)]) (fun v _ => (intOf v).toNat)
    case atStart => exact ⟨0, n, ao, zs.length, cap', by omega, rfl, by simpa [pasZ] using HO.out, HL.out⟩
    case round =>
      clear HL HO
      obtain ⟨j, d, ao, m, cp, hjd, rfl, hO, hL⟩ := hrel
      have HL := Lib.hid hL
      have HO := Lib.hid hO
      have HCj := Lib.hid (chn_length HC.out j)
      have HJ := Lib.hid hjd
      clear hL hO
      have htn := HT.out (chn C j) HCj.out (G + j) (by have := HNz.out; omega) ao m cp
      rw [show drvKey (chn C j) keyS [] = kyA C j from rfl, show drvKey (chn C j) chainS [] = chn C (j + 1) from rfl] at htn
      have HTn := Lib.hid htn
      have HX := Lib.hid (kyA_length C j)
      have HY := Lib.hid (chn_length HC.out (j + 1))
      have HZs := Lib.hid (show zs ++ pasZ C G j ++ [mkS (G + j) (kyA C j)] = zs ++ pasZ C G (j + 1) by rw [pasZ_succ, List.append_assoc])
      have hb64 : G + j < 18446744073709551616 := by have := HNz.out; omega
      have HB64 := Lib.hid hb64
      clear htn hb64
      by_cases hd : 0 < d
      · have hd' : (0 : Int) < (d : Int) := by omega
        clear hjd
        generalize kyA C j = X at *
        generalize hYg : chn C (j + 1) = Y at *
        have HYg := Lib.hid hYg
        clear hYg
        go_wp2_with (first | (refine wpList_load_rowG (by kernel_rfl) 71 (.tmp 2) rfl _ rfl _ _ _ _ (HL.out.get 0 rfl) Tryd.underlying71 rfl (rat_info HCj.out) ?_))
        refine (HTn.out _ HL.out.aft).mono ?_
        rintro r w4 ⟨rfl, h4⟩
        replace HO := Lib.hid (HO.out.aft h4)
        replace HL := Lib.hid (HL.out.call h4)
        clear h4 HTn
        go_wp2_with (first | (refine wpList_allocO rfl 23 rfl (.cells key0 23) alloc_key ?_; intro w' aa gg zz; (try replace HO := Lib.hid (HO.out.aft aa)); (try replace HO2 := Lib.hid (HO2.out.aft aa)); (try replace HOK := Lib.hid (HOK.out.aft aa)); replace HL := Lib.hid (HL.out.alloc aa gg.out); clear aa gg zz; try simp only [List.nil_append, List.cons_append, List.set_cons_zero, List.set_cons_succ] at HL) | (refine wpList_allocO rfl 71 rfl (.cells (ratL (List.replicate 32 0) 0 (.slice none 0 0)).toArray 71) alloc_rat ?_; intro w' aa gg zz; (try replace HO := Lib.hid (HO.out.aft aa)); (try replace HO2 := Lib.hid (HO2.out.aft aa)); (try replace HOK := Lib.hid (HOK.out.aft aa)); replace HL := Lib.hid (HL.out.alloc aa gg.out); clear aa gg zz; try simp only [List.nil_append, List.cons_append, List.set_cons_zero, List.set_cons_succ] at HL) | (refine wpList_store_keyZ rfl (.tmp 11) (.tmp 63) rfl _ X HX.out rfl rfl _ (HL.out.get 4 rfl) key0_size ?_; intro w' b1 b2 b3; (try replace HO := Lib.hid (HO.out.stored (HL.out.get 4 rfl) (by decide) b2.out)); (try replace HO2 := Lib.hid (HO2.out.stored (HL.out.get 4 rfl) (by decide) b2.out)); (try replace HOK := Lib.hid (HOK.out.stored (HL.out.get 4 rfl) (by decide) b2.out)); replace HL := Lib.hid (HL.out.store 4 rfl b1 b2 b3); clear b1 b2 b3; try simp only [List.nil_append, List.cons_append, List.set_cons_zero, List.set_cons_succ] at HL) | (refine wpList_store_ratZ rfl (.tmp 12) (.tmp 64) _ (Y) (G + j + 1) (.slice ao m cp) HY.out rfl rfl rfl rfl _ (HL.out.get 5 rfl) (rat_old List.length_replicate) ?_; intro w' b1 b2 b3; (try replace HO := Lib.hid (HO.out.stored (HL.out.get 5 rfl) (by decide) b2.out)); (try replace HO2 := Lib.hid (HO2.out.stored (HL.out.get 5 rfl) (by decide) b2.out)); (try replace HOK := Lib.hid (HOK.out.stored (HL.out.get 5 rfl) (by decide) b2.out)); replace HL := Lib.hid (HL.out.store 5 rfl b1 b2 b3); clear b1 b2 b3; try simp only [List.nil_append, List.cons_append, List.set_cons_zero, List.set_cons_succ] at HL; have hl5 := rat_l (HL.out.get 5 rfl) HY.out; have hn0 := rat_n (HL.out.get 0 rfl) HCj.out) | (refine wpList_load_rowG (by kernel_rfl) 23 (.tmp 11) rfl _ rfl _ _ _ _ (HL.out.get 4 rfl) Tryd.underlying23 rfl (key_info HX.out) ?_) | (refine wpList_buildO (by kernel_rfl) 73 #[(0, .tmp 74), (1, .tmp 75)] rfl #[(0, .int .u64 ((G + j : Nat) : Int)), (1, .agg (bv X).toArray)] (by kernel_rfl) _ (build_sk HB64.out HX.out) ?_) | (refine wpList_skSliceO (by kernel_rfl) (.tmp 76) rfl (mkS (G + j) X) rfl ?_; intro w8 aa gg; have HSk := gg; replace HO := Lib.hid (HO.out.aft aa); replace HL := Lib.hid (HL.out.call aa); clear aa gg) | (at_builtin; refine wpList_append_sks (by kernel_rfl) (.tmp 72) (.tmp 77) rfl w.heap.size _ (zs ++ pasZ C G j) rfl HO.out _ _ [mkS (G + j) X] rfl HSk.out (by rw [List.length_append, pasZ_length]; have := HNz.out; have := HJ.out; simp; omega) HL.out.aft.size ?_; intro v' w9 k1 k2; replace HL := Lib.hid (HL.out.grownS HO.out (Nat.le_refl _) k2 rfl); replace HO := Lib.hid k1; clear k2; obtain ⟨ao', cp', rfl⟩ := k1.shape; clear k1) | (refine wpList_store_ratV rfl (.tmp 79) (.tmp 78) _ (Y) (G + j + 1) (.slice ao m cp) HY.out rfl (.slice ao' _ cp') rfl rfl rfl rfl (HL.out.get 5 rfl) ?_; intro w' b1 b2 b3; (try replace HO := Lib.hid (HO.out.stored (HL.out.get 5 rfl) (by decide) b2.out)); (try replace HO2 := Lib.hid (HO2.out.stored (HL.out.get 5 rfl) (by decide) b2.out)); (try replace HOK := Lib.hid (HOK.out.stored (HL.out.get 5 rfl) (by decide) b2.out)); replace HL := Lib.hid (HL.out.store 5 rfl b1 b2 b3); clear b1 b2 b3; try simp only [List.nil_append, List.cons_append, List.set_cons_zero, List.set_cons_succ] at HL) | (refine wpList_load_rowG (by kernel_rfl) 71 (.tmp 12) rfl _ rfl _ _ _ _ (HL.out.get 5 rfl) Tryd.underlying71 rfl (rat_info HY.out) ?_) | (refine wpList_store_ratZ rfl (.tmp 2) (.tmp 80) _ Y (G + j + 1) (.slice ao' _ cp') HY.out rfl rfl rfl rfl _ (HL.out.get 0 rfl) (rat_old HCj.out) ?_; intro wz b1 b2 b3; replace HO := Lib.hid (HO.out.stored (HL.out.get 0 rfl) (by decide) b2.out); replace HL := Lib.hid (HL.out.store 0 rfl b1 b2 b3); clear b1 b2 b3; try simp only [List.nil_append, List.cons_append, List.set_cons_zero, List.set_cons_succ] at HL))
        have hw : wrap64 ((d : Int) - 1) = ((d - 1 : Nat) : Int) := by unfold wrap64; have := HNz.out; have := HJ.out; omega
        rw [hw]
        refine ⟨⟨j + 1, d - 1, ao', zs.length + ((pasZ C G j).length + 1), cp', by have := HJ.out; omega, rfl, ?_, ?_⟩, ?_⟩
        · have h := HO.out
          rw [HZs.out] at h
          have e : (zs ++ pasZ C G (j + 1)).length = zs.length + ((pasZ C G j).length + 1) := by rw [List.length_append, pasZ_length, pasZ_length]
          try rw [e] at h
          exact h
        · rw [HYg.out]
          exact HL.out.cut 4
        · simp [intOf]
          omega
      · obtain rfl : d = 0 := by omega
        obtain rfl : j = n := by omega
        clear hd hjd
        have hE0 := HE0.out
        go_wp2_with (first | (refine wpList_load_rowG (by kernel_rfl) 71 (.tmp 2) rfl _ rfl _ _ _ _ (HL.out.get 0 rfl) Tryd.underlying71 rfl (rat_info HCj.out) ?_))
        refine (HTn.out _ HL.out.aft).mono ?_
        rintro r w4 ⟨rfl, h4⟩
        replace HO := Lib.hid (HO.out.aft h4)
        replace HL := Lib.hid (HL.out.call h4)
        clear h4 HTn hE0
        generalize hXg : kyA C j = X at *
        generalize hYg : chn C (j + 1) = Y at *
        have HXg := Lib.hid hXg
        have HYg := Lib.hid hYg
        clear hXg hYg
        go_wp2_with (first | (refine wpList_store_keyZ rfl (.tmp 4) (.tmp 83) rfl _ X HX.out rfl rfl _ (HL.out.get 2 rfl) key0_size ?_; intro w' b1 b2 b3; (try replace HO := Lib.hid (HO.out.stored (HL.out.get 2 rfl) (by decide) b2.out)); (try replace HO2 := Lib.hid (HO2.out.stored (HL.out.get 2 rfl) (by decide) b2.out)); (try replace HOK := Lib.hid (HOK.out.stored (HL.out.get 2 rfl) (by decide) b2.out)); replace HL := Lib.hid (HL.out.store 2 rfl b1 b2 b3); clear b1 b2 b3; try simp only [List.nil_append, List.cons_append, List.set_cons_zero, List.set_cons_succ] at HL) | (refine wpList_store_ratZ rfl (.tmp 5) (.tmp 84) _ (Y) (G + j + 1) (.slice ao m cp) HY.out rfl rfl rfl rfl _ (HL.out.get 3 rfl) (rat_old List.length_replicate) ?_; intro w' b1 b2 b3; (try replace HO := Lib.hid (HO.out.stored (HL.out.get 3 rfl) (by decide) b2.out)); (try replace HO2 := Lib.hid (HO2.out.stored (HL.out.get 3 rfl) (by decide) b2.out)); (try replace HOK := Lib.hid (HOK.out.stored (HL.out.get 3 rfl) (by decide) b2.out)); replace HL := Lib.hid (HL.out.store 3 rfl b1 b2 b3); clear b1 b2 b3; try simp only [List.nil_append, List.cons_append, List.set_cons_zero, List.set_cons_succ] at HL))
        refine bodyPost_ret (results_cell2 rfl _ _ _ _ _ _ _ _ _ _ _ _ rfl rfl (HL.out.get 2 rfl) (HL.out.get 3 rfl) Tryd.underlying23 rfl (key_info HX.out) Tryd.underlying71 rfl (rat_info HY.out)) rfl ?_
        rw [← HXg.out, ← HYg.out]
        exact TakeSays.next HE0.out HO.out HL.out.aft
end Go.Proofs.YtanodhagpegbfaaDoor
