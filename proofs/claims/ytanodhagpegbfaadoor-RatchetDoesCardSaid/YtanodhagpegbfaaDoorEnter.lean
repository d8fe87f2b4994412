/- sched.Enter, and the document's: what an epoch is, entered. -/
import Derived.Test.YtanodhagpegbfaaDoorSched0
namespace Go.Proofs.YtanodhagpegbfaaDoor
open Go Go.RowKit
theorem Led.same {w0 w w' : World} {L : List (Nat × Obj)} (h : Led w0 w L) {g : Nat} {o : Obj} (h0 : w0.heap[g]? = some o) (h1 : Hid (w'.heap[g]? = some o)) (h2 : Hid (∀ k, k ≠ g → w'.heap[k]? = w.heap[k]?)) (h3 : ∀ k w0, k ≤ g → Below k w0 w → Below k w0 w') : Led w0 w' L := by
  have hz := h3 0 w0 (Nat.zero_le _) ⟨h.aft.os, h.aft.tape, h.aft.output, h.aft.size, fun k hk => absurd hk (Nat.not_lt_zero _)⟩
  refine ⟨⟨hz.os, hz.tape, hz.output, hz.size, fun k hk => ?_⟩, fun i g' o' hi => ?_, h.inc⟩
  · by_cases e : k = g
    · subst e
      exact h1.out.trans h0.symm
    · exact (h2.out k e).trans (h.aft.block k hk)
  · have hge := (h.has i g' o' hi).2
    have hlt := heap_lt h0
    exact ⟨(h2.out g' (by omega)).trans (h.get i hi), hge⟩
theorem alloc_errno (w : World) : (Instr.alloc 26 true (.tuple #[])).run Tryd.prog w = .ok (.pointer (some ⟨w.heap.size, 0, none⟩)) (w.alloc (.cells #[.int .i64 0] 26)) := by kernel_rfl
theorem wpList_store_errno {ops : Array Oper} {rest : List Oper} {o : Oper} {a : Act} {w : World} {Q : Exit → Act → World → Prop} (hgd : o.guard = none) (x y : Operand) (ho : o.op = .store 26 x y) (g : Nat) (u : Int)
    (hx : a.eval x = .pointer (some ⟨g, 0, none⟩)) (hy : a.eval y = .int .i64 u) (old : Int) (hg : w.heap[g]? = some (.cells #[.int .i64 old] 26 (0, 0)))
    (h : ∀ w', Hid (w'.heap[g]? = some (.cells #[.int .i64 u] 26 (0, 0))) → Hid (∀ k, k ≠ g → w'.heap[k]? = w.heap[k]?) → (∀ k w0, k ≤ g → Below k w0 w → Below k w0 w') → wpList Tryd.prog ops Q rest (a.put o.dst undef) w') : wpList Tryd.prog ops Q (o :: rest) a w :=
  wpList_store_part hgd _ x y ho g 0 (.int .i64 u) hx hy 26 [] [.int .i64 old] [.int .i64 u] [] rfl rfl hg (by kernel_rfl) rfl (fun v hv => by simp at hv; subst hv; rfl) h
theorem wpList_load_keyG {ops : Array Oper} {rest : List Oper} {o : Oper} {a : Act} {w : World} {Q : Exit → Act → World → Prop} (hw : Region.wanted o (yielded ops a.tmps) = true) (x : Operand) (ho : o.op = .load 23 x)
    (g q : Nat) (hx : a.eval x = .pointer (some ⟨g, q, none⟩)) (X : List (BitVec 8)) (hr : Rd w (.slice (some ⟨g, q, none⟩) 32 32) (bv X)) (hX : X.length = 32)
    (h : wpList Tryd.prog ops Q rest (a.put o.dst (.agg (bv X).toArray)) w) : wpList Tryd.prog ops Q (o :: rest) a w := by
  unfold wpList
  rw [if_pos hw]
  refine .inl (wp_noOut ?_)
  unfold Oper.wp execOp
  simp only [ho, hx, Instr.loadAt, Instr.sureAddr, Sem.run_bind, Sem.run_pure, Result.andThen_ok, run_loadVar_key w g q 32 32 X hr hX]
  exact h
theorem key_sz {X : List (BitVec 8)} (h : X.length = 32) : (bv X).toArray.size = 32 := by rw [List.size_toArray, bv_length, h]
def epochS : List (BitVec 8) := [101, 112, 111, 99, 104]
def initS : List (BitVec 8) := [105, 110, 105, 116]
def appS : List (BitVec 8) := [97, 112, 112]
def confirmS : List (BitVec 8) := [99, 111, 110, 102, 105, 114, 109]
def memberS : List (BitVec 8) := [109, 101, 109, 98, 101, 114]
/-- The epoch's own secret. -/
def enK (j : List (BitVec 8)) (n : Nat) (t h : List (BitVec 8)) : List (BitVec 8) := drvKey j epochS [beL 8 n, t, h]
def enE (j : List (BitVec 8)) (n : Nat) (t h : List (BitVec 8)) : Epo :=
  if n ≤ 1099511627776 then ⟨n, drvKey (enK j n t h) initS [], drvKey (enK j n t h) appS [], drvKey (enK j n t h) confirmS [], drvKey (enK j n t h) memberS [], h⟩ else zE
theorem enE_good {j t h : List (BitVec 8)} {n : Nat} (hq : n ≤ 1099511627776) : enE j n t h = ⟨n, drvKey (enK j n t h) initS [], drvKey (enK j n t h) appS [], drvKey (enK j n t h) confirmS [], drvKey (enK j n t h) memberS [], h⟩ := if_pos hq
theorem epo_mk {A B C D h : List (BitVec 8)} {n : Nat} (hn : n < 18446744073709551616) (a : A.length = 32) (b : B.length = 32) (c : C.length = 32) (d : D.length = 32) (hh : h.length = 32) : Epo.Ok ⟨n, A, B, C, D, h⟩ := ⟨hn, a, b, c, d, hh⟩
theorem n_small {n : Nat} (hq : n ≤ 1099511627776) : n < 18446744073709551616 := by omega
theorem enE_ok {j t h : List (BitVec 8)} {n : Nat} (hh : h.length = 32) : (enE j n t h).Ok := by
  by_cases hq : n ≤ 1099511627776
  · rw [enE_good hq]
    exact epo_mk (n_small hq) (drvKey_length _ _ _) (drvKey_length _ _ _) (drvKey_length _ _ _) (drvKey_length _ _ _) hh
  · rw [show enE j n t h = zE from if_neg hq]
    exact zE_ok
theorem epoch_ok {n : Nat} {t h : List (BitVec 8)} (ht : t.length = 32) (hh : h.length = 32) : textOk (drvT epochS [beL 8 n, t, h]) = true := by simp [textOk, drvT, epochS, cot, beL_length, ht, hh]
set_option maxRecDepth 100000 in
set_option maxHeartbeats 2000000 in
theorem sub_any (k : List (BitVec 8)) (s : ByteArray) (vc : Value) (ctx : List (List (BitVec 8))) (g : Nat) (w : World) (hK : TabK K0 2 w) (hk : k.length = 32) (hc : RdAll w vc ctx) (hs : s.size ≤ 1048576) (hl : ctx.length ≤ 8)
    (hok : textOk (drvT (sb s) ctx) = true) (hg : w.heap[g]? = some (.cells #[.int .i64 0] 26 (0, 0))) :
    Calls Tryd.prog 74 #[.agg (bv k).toArray, .string s, vc, .pointer (some ⟨g, 0, none⟩)] w fun r w' => r = .returned (.agg (bv (drvKey k (sb s) ctx)).toArray) ∧ Aft w w' := by
  have HK := Lib.hid hK
  have HKl := Lib.hid hk
  have HG := Lib.hid hg
  have HD := Lib.hid (fun (wx : World) (h : Aft w wx) => derive_any k s vc ctx wx (TabK_fr HK.out (Fr.of_below (S := fun _ => False) h) (fun h => h)) hk (hc.below h) (by omega) (by omega) (fun h => texts_few h (by simp [drvT]; omega)))
  unfold DrvSays at HD
  rw [show textErr (drvT (sb s) ctx) = 0 from if_pos hok] at HD
  have HXl := Lib.hid (drvKey_length k (sb s) ctx)
  generalize drvKey k (sb s) ctx = X at *
  obtain ⟨ac, cc, rfl, -⟩ := hc.shape
  have HL := Lib.hid (Led.start w)
  clear hK hk hc hg hs hl hok
  go_enter Tryd.func74, Tryd.ntmps74
  go_wp2_with (first | (refine wpList_boxO rfl 23 (.tmp 0) rfl (.agg (bv k).toArray) rfl (.cells (bv k).toArray 23) (box_key _) ?_; intro w' aa gg zz; replace HL := Lib.hid (HL.out.alloc aa gg.out); clear aa gg zz) | (refine wpList_allocO rfl 23 rfl (.cells key0 23) alloc_key ?_; intro w' aa gg zz; replace HL := Lib.hid (HL.out.alloc aa gg.out); clear aa gg zz; obtain ⟨c8, f8⟩ := one_cell_at (Aft.get HL.out.aft HG.out)) | (refine wpList_load_rowG (by kernel_rfl) 23 (.tmp 4) rfl _ rfl _ _ _ _ (HL.out.get 0 rfl) Tryd.underlying23 rfl (key_info HKl.out) ?_))
  refine (HD.out _ HL.out.aft).mono ?_
  rintro e w2 ⟨rfl, h2⟩
  replace HL := Lib.hid (HL.out.call h2)
  clear h2 c8 f8
  go_wp2_with (first | (refine wpList_store_keyZ rfl (.tmp 7) (.tmp 15) rfl _ X HXl.out rfl rfl _ (HL.out.get 1 rfl) key0_size ?_; intro w' b1 b2 b3; replace HL := Lib.hid (HL.out.store 1 rfl b1 b2 b3); clear b1 b2 b3) | (refine wpList_store_errno rfl (.tmp 3) (.tmp 16) rfl g 0 rfl rfl 0 (Aft.get HL.out.aft HG.out) ?_; intro w' b1 b2 b3; replace HL := Lib.hid (HL.out.same HG.out b1 b2 b3); clear b1 b2 b3) | (refine wpList_load_rowG (by kernel_rfl) 23 (.tmp 7) rfl _ rfl _ _ _ _ (HL.out.get 1 rfl) Tryd.underlying23 rfl (key_info HXl.out) ?_) | (refine wpList_store_keyZ rfl (.tmp 7) (.tmp 17) rfl _ X HXl.out rfl rfl _ (HL.out.get 1 rfl) (key_sz HXl.out) ?_; intro w' b1 b2 b3; replace HL := Lib.hid (HL.out.store 1 rfl b1 b2 b3); clear b1 b2 b3))
  refine bodyPost_ret (results_cell_row rfl _ _ _ 23 (bv X).toArray (0, 0) _ rfl (HL.out.get 1 rfl) Tryd.underlying23 rfl (key_info HXl.out)) rfl ?_
  exact ⟨rfl, HL.out.aft⟩
set_option maxRecDepth 100000 in
set_option maxHeartbeats 4000000 in
theorem enter_any (j t h : List (BitVec 8)) (n : Nat) (w : World) (hK : TabK K0 2 w) (hj : j.length = 32) (ht : t.length = 32) (hh : h.length = 32) (hn : n < 18446744073709551616) :
    Calls Tryd.prog 39 #[.agg (bv j).toArray, .int .u64 (n : Int), .agg (bv t).toArray, .agg (bv h).toArray] w fun r w' => r = .returned (.tuple #[.agg (epoL (enE j n t h)).toArray, .int .i64 (epChk n)]) ∧ Aft w w' := by
  have HK := Lib.hid hK
  have HJ := Lib.hid hj
  have HT := Lib.hid ht
  have HH := Lib.hid hh
  have HO := Lib.hid (nhE_ok hn hh)
  have HC := Lib.hid (fun wx : World => schedCheck_any (nhE n h) wx)
  have HNum := Lib.hid (fun wx : World => num_eight wx n hn)
  have HS1 := Lib.hid (show ∀ (wx : World) (vc : Value) (g : Nat), Aft w wx → RdAll wx vc [beL 8 n, t, h] → wx.heap[g]? = some (.cells #[.int .i64 0] 26 (0, 0)) → Calls Tryd.prog 74 #[.agg (bv j).toArray, .string ⟨#[101, 112, 111, 99, 104]⟩, vc, .pointer (some ⟨g, 0, none⟩)] wx fun r w' => r = .returned (.agg (bv (enK j n t h)).toArray) ∧ Aft wx w' from fun wx vc g ha hr hg => sub_any j ⟨#[101, 112, 111, 99, 104]⟩ vc [beL 8 n, t, h] g wx (TabK_fr HK.out (Fr.of_below (S := fun _ => False) ha) (fun h => h)) HJ.out hr (by decide) (by simp) (epoch_ok HT.out HH.out) hg)
  have HXl := Lib.hid (show (enK j n t h).length = 32 from drvKey_length _ _ _)
  have HD1 := Lib.hid (show ∀ (wx : World) (g : Nat), Aft w wx → wx.heap[g]? = some (.cells #[.int .i64 0] 26 (0, 0)) → Calls Tryd.prog 74 #[.agg (bv (enK j n t h)).toArray, .string ⟨#[105, 110, 105, 116]⟩, .slice none 0 0, .pointer (some ⟨g, 0, none⟩)] wx fun r w' => r = .returned (.agg (bv (drvKey (enK j n t h) initS [])).toArray) ∧ Aft wx w' from fun wx g ha hg => sub_any (enK j n t h) ⟨#[105, 110, 105, 116]⟩ (.slice none 0 0) [] g wx (TabK_fr HK.out (Fr.of_below (S := fun _ => False) ha) (fun h => h)) HXl.out (RdAll.nil _) (by decide) (by simp) (by decide) hg)
  have HA1 := Lib.hid (drvKey_length (enK j n t h) initS [])
  have HD2 := Lib.hid (show ∀ (wx : World) (g : Nat), Aft w wx → wx.heap[g]? = some (.cells #[.int .i64 0] 26 (0, 0)) → Calls Tryd.prog 74 #[.agg (bv (enK j n t h)).toArray, .string ⟨#[97, 112, 112]⟩, .slice none 0 0, .pointer (some ⟨g, 0, none⟩)] wx fun r w' => r = .returned (.agg (bv (drvKey (enK j n t h) appS [])).toArray) ∧ Aft wx w' from fun wx g ha hg => sub_any (enK j n t h) ⟨#[97, 112, 112]⟩ (.slice none 0 0) [] g wx (TabK_fr HK.out (Fr.of_below (S := fun _ => False) ha) (fun h => h)) HXl.out (RdAll.nil _) (by decide) (by simp) (by decide) hg)
  have HA2 := Lib.hid (drvKey_length (enK j n t h) appS [])
  have HD3 := Lib.hid (show ∀ (wx : World) (g : Nat), Aft w wx → wx.heap[g]? = some (.cells #[.int .i64 0] 26 (0, 0)) → Calls Tryd.prog 74 #[.agg (bv (enK j n t h)).toArray, .string ⟨#[99, 111, 110, 102, 105, 114, 109]⟩, .slice none 0 0, .pointer (some ⟨g, 0, none⟩)] wx fun r w' => r = .returned (.agg (bv (drvKey (enK j n t h) confirmS [])).toArray) ∧ Aft wx w' from fun wx g ha hg => sub_any (enK j n t h) ⟨#[99, 111, 110, 102, 105, 114, 109]⟩ (.slice none 0 0) [] g wx (TabK_fr HK.out (Fr.of_below (S := fun _ => False) ha) (fun h => h)) HXl.out (RdAll.nil _) (by decide) (by simp) (by decide) hg)
  have HA3 := Lib.hid (drvKey_length (enK j n t h) confirmS [])
  have HD4 := Lib.hid (show ∀ (wx : World) (g : Nat), Aft w wx → wx.heap[g]? = some (.cells #[.int .i64 0] 26 (0, 0)) → Calls Tryd.prog 74 #[.agg (bv (enK j n t h)).toArray, .string ⟨#[109, 101, 109, 98, 101, 114]⟩, .slice none 0 0, .pointer (some ⟨g, 0, none⟩)] wx fun r w' => r = .returned (.agg (bv (drvKey (enK j n t h) memberS [])).toArray) ∧ Aft wx w' from fun wx g ha hg => sub_any (enK j n t h) ⟨#[109, 101, 109, 98, 101, 114]⟩ (.slice none 0 0) [] g wx (TabK_fr HK.out (Fr.of_below (S := fun _ => False) ha) (fun h => h)) HXl.out (RdAll.nil _) (by decide) (by simp) (by decide) hg)
  have HA4 := Lib.hid (drvKey_length (enK j n t h) memberS [])
  have HQ := Lib.hid (show n ≤ 1099511627776 → enE j n t h = ⟨n, drvKey (enK j n t h) initS [], drvKey (enK j n t h) appS [], drvKey (enK j n t h) confirmS [], drvKey (enK j n t h) memberS [], h⟩ from fun hq => if_pos hq)
  have HQz := Lib.hid (show ¬ n ≤ 1099511627776 → enE j n t h = zE from fun hq => if_neg hq)
  generalize enE j n t h = E at *
  generalize drvKey (enK j n t h) initS [] = A1 at *
  generalize drvKey (enK j n t h) appS [] = A2 at *
  generalize drvKey (enK j n t h) confirmS [] = A3 at *
  generalize drvKey (enK j n t h) memberS [] = A4 at *
  generalize enK j n t h = X at *
  have HO1 := Lib.hid (show Epo.Ok { nhE n h with I := A1 } from ⟨HO.out.N, HA1.out, HO.out.A, HO.out.C, HO.out.M, HO.out.H⟩)
  have HO2 := Lib.hid (show Epo.Ok { nhE n h with I := A1, A := A2 } from ⟨HO.out.N, HA1.out, HA2.out, HO.out.C, HO.out.M, HO.out.H⟩)
  have HO3 := Lib.hid (show Epo.Ok { nhE n h with I := A1, A := A2, C := A3 } from ⟨HO.out.N, HA1.out, HA2.out, HA3.out, HO.out.M, HO.out.H⟩)
  have HO4 := Lib.hid (show Epo.Ok { nhE n h with I := A1, A := A2, C := A3, M := A4 } from ⟨HO.out.N, HA1.out, HA2.out, HA3.out, HA4.out, HO.out.H⟩)
  have HL := Lib.hid (Led.start w)
  clear hK hj ht hh hn
  go_enter Tryd.func39, Tryd.ntmps39
  go_wp2_with (first | (refine wpList_boxO rfl 23 (.tmp 0) rfl (.agg (bv j).toArray) rfl (.cells (bv j).toArray 23) (box_key _) ?_; intro wa aa gg zz; replace HL := Lib.hid (HL.out.alloc aa gg.out); clear aa gg zz) | (refine wpList_boxO rfl 23 (.tmp 2) rfl (.agg (bv t).toArray) rfl (.cells (bv t).toArray 23) (box_key _) ?_; intro wb aa gg zz; replace HL := Lib.hid (HL.out.alloc aa gg.out); clear aa gg zz) | (refine wpList_boxO rfl 23 (.tmp 3) rfl (.agg (bv h).toArray) rfl (.cells (bv h).toArray 23) (box_key _) ?_; intro wc aa gg zz; replace HL := Lib.hid (HL.out.alloc aa gg.out); clear aa gg zz) | (refine wpList_allocO rfl 55 rfl (.cells (epoL zE).toArray 55) alloc_epoch ?_; intro w' aa gg zz; replace HL := Lib.hid (HL.out.alloc aa gg.out); clear aa gg zz) | (refine wpList_load_rowG (by kernel_rfl) 23 (.tmp 7) rfl _ rfl _ _ _ _ (HL.out.get 2 rfl) Tryd.underlying23 rfl (key_info HH.out) ?_) | (refine wpList_buildO (by kernel_rfl) 55 #[(0, .tmp 16), (5, .tmp 17)] rfl #[(0, .int .u64 (n : Int)), (5, .agg (bv h).toArray)] (by kernel_rfl) _ (build_epoch2 HH.out n) ?_) | (refine wpList_store_epoZ rfl (.tmp 10) (.tmp 18) rfl _ _ HO.out rfl rfl _ (HL.out.get 4 rfl) (zE_ok) ?_; intro w' b1 b2 b3; replace HL := Lib.hid (HL.out.store 4 rfl b1 b2 b3); clear b1 b2 b3) | (refine wpList_load_rowG (by kernel_rfl) 55 (.tmp 10) rfl _ rfl _ _ _ _ (HL.out.get 4 rfl) Tryd.underlying55 rfl (epo_info HO.out) ?_))
  refine (HC.out _).mono ?_
  rintro r w2 ⟨rfl, h2⟩
  replace HL := Lib.hid (HL.out.call h2)
  clear h2
  by_cases hq : n ≤ 1099511627776
  · rw [show epChk (nhE n h).N = 0 from if_pos hq]
    have HQ2 := Lib.hid (show epChk n = 0 from if_pos hq)
    have HQ1 := Lib.hid (HQ.out hq)
    clear hq
    go_wp2_with fail
    refine (HNum.out _).mono ?_
    rintro e w3 ⟨a3, c3, rfl, hr3, hb3⟩
    have HR3 := Lib.hid hr3
    replace HL := Lib.hid (HL.out.call hb3)
    clear hr3 hb3
    have hal := fun (wx : World) (g n : Nat) => run_sliceAt_keyN wx g n
    go_wp2_with (first | (refine wpList_allocO rfl 26 rfl (.cells #[.int .i64 0] 26) alloc_errno ?_; intro w4 aa gg zz; have HAA := Lib.hid aa; replace HL := Lib.hid (HL.out.alloc aa gg.out); clear aa gg zz) | (refine wpList_store_errno rfl (.tmp 13) (.tmp 30) rfl w3.heap.size 0 rfl rfl 0 (HL.out.get 5 rfl) ?_; intro w5 b1 b2 b3; have HA5 := Lib.hid (b3 w3.heap.size w3 (Nat.le_refl _) HAA.out); replace HL := Lib.hid (HL.out.store 5 rfl b1 b2 b3); obtain ⟨c8, f8⟩ := one_cell_at (HL.out.get 5 rfl); clear b1 b2 b3))
    refine wp_region_lexF (fun i => ([0, 0, 0, 0, 0, 1, 2, 1] : List Nat).getD i 0) 8 (by kernel_rfl) (by kernel_rfl) ?_; intro wr hwr
    have HAr := Lib.hid (show Aft w5 wr by rw [hwr]; exact (Below.refl _ _).drew)
    replace HL := Lib.hid (HL.out.call HAr.out)
    clear hwr c8 f8
    have HLr := HL
    repeat (first | (refine lf_skip (by go_big_quiet_skip; exact wpQuiet_nil trivial) (by kernel_rfl) ?_; simp only [Act.put, List.setIfInBounds_toArray, List.set_cons_succ, List.set_cons_zero]) | (refine lf_quiet rfl (by go_big_quiet_want; exact quiet_false (by assumption)) (by kernel_rfl) rfl ?_; intro Kx hKx; go_big_quiet_op; go_big_quiet_on))
    refine lf_load_key rfl (by kernel_rfl) (.tmp 4) rfl _ 0 rfl j (HL.out.key 0 rfl HJ.out) HJ.out ?_
    simp only [Act.put, List.setIfInBounds_toArray, List.set_cons_succ, List.set_cons_zero]
    repeat (first | (refine lf_skip (by go_big_quiet_skip; exact wpQuiet_nil trivial) (by kernel_rfl) ?_; simp only [Act.put, List.setIfInBounds_toArray, List.set_cons_succ, List.set_cons_zero]) | (refine lf_quiet rfl (by go_big_quiet_want; exact quiet_false (by assumption)) (by kernel_rfl) rfl ?_; intro Kx hKx; go_big_quiet_op; go_big_quiet_on))
    refine lf_fresh (.cells #[.slice a3 8 c3, .slice (some ⟨wa.heap.size, 0, none⟩) 32 32, .slice (some ⟨wb.heap.size, 0, none⟩) 32 32] 24) (fun g => .slice (some ⟨g, 0, none⟩) 3 3) rfl (by kernel_rfl) (fun w1 => by kernel_rfl) ?_
    intro wf gf ha1 ha2 ha3
    simp only [Act.put, List.setIfInBounds_toArray, List.set_cons_succ, List.set_cons_zero]
    replace HL := Lib.hid (HL.out.call ha1)
    have HAf := Lib.hid (Aft.trans HA5.out (Aft.trans HAr.out ha1))
    have HRf := Lib.hid ha1
    have HB := Lib.hid ha3
    clear ha1 ha2 ha3
    refine lf_eff rfl (by go_big_quiet_want; exact quiet_false (by assumption)) (by kernel_rfl) ?_
    intro wg hc Kx hKx
    replace HL := Lib.hid (HL.out.call hc)
    go_wp2_with fail
    refine (HS1.out wg _ _ HL.out.aft (RdAll.three (Aft.get hc HB.out) (HR3.out.grow (Aft.trans HAf.out hc)) (HL.out.key 1 rfl HT.out) (HL.out.key 2 rfl HH.out)) (HL.out.get 5 rfl)).mono ?_
    rintro r wd ⟨rfl, hd⟩
    go_wp2_with fail
    refine ⟨hd, ?_⟩
    replace HL := Lib.hid (HL.out.call hd)
    have HRd := Lib.hid (Aft.trans HRf.out (Aft.trans hc hd))
    clear hd hc
    refine lf_fresh (.cells key0 23) (fun g => .pointer (some ⟨g, 0, none⟩)) rfl (by kernel_rfl) (fun w1 => by kernel_rfl) ?_
    intro wk gk hk1 hk2 hk3
    simp only [Act.put, List.setIfInBounds_toArray, List.set_cons_succ, List.set_cons_zero]
    replace HL := Lib.hid (HLr.out.fresh (Aft.trans HRd.out hk1) hk2 hk3)
    clear HLr hk1 hk2 hk3
    refine lf_done ?_
    intro wt ht
    replace HL := Lib.hid (HL.out.call ht)
    clear ht
    go_wp2_with (first | (refine wpList_store_keyZ rfl (.tmp 15) (.tmp 42) rfl _ X HXl.out rfl rfl _ (HL.out.get 6 rfl) key0_size ?_; intro w' b1 b2 b3; replace HL := Lib.hid (HL.out.store 6 rfl b1 b2 b3); clear b1 b2 b3) | (refine wpList_load_rowG (by kernel_rfl) 23 (.tmp 15) rfl _ rfl _ _ _ _ (HL.out.get 6 rfl) Tryd.underlying23 rfl (key_info HXl.out) ?_))
    refine (HD1.out _ _ HL.out.aft (HL.out.get 5 rfl)).mono ?_
    rintro r x1 ⟨rfl, hx⟩
    replace HL := Lib.hid (HL.out.call hx)
    clear hx
    go_wp2_with (first | (refine wpList_store_epoI rfl (.tmp 46) (.tmp 45) rfl _ (nhE n h) (HO.out) A1 HA1.out rfl (HL.out.get 4 rfl) rfl ?_; intro w' b1 b2 b3; replace HL := Lib.hid (HL.out.store 4 rfl b1 b2 b3); clear b1 b2 b3) | (refine wpList_load_rowG (by kernel_rfl) 23 (.tmp 15) rfl _ rfl _ _ _ _ (HL.out.get 6 rfl) Tryd.underlying23 rfl (key_info HXl.out) ?_))
    refine (HD2.out _ _ HL.out.aft (HL.out.get 5 rfl)).mono ?_
    rintro r x2 ⟨rfl, hx⟩
    replace HL := Lib.hid (HL.out.call hx)
    clear hx
    go_wp2_with (first | (refine wpList_store_epoA rfl (.tmp 50) (.tmp 49) rfl _ ({ nhE n h with I := A1 }) (HO1.out) A2 HA2.out rfl (HL.out.get 4 rfl) rfl ?_; intro w' b1 b2 b3; replace HL := Lib.hid (HL.out.store 4 rfl b1 b2 b3); clear b1 b2 b3) | (refine wpList_load_rowG (by kernel_rfl) 23 (.tmp 15) rfl _ rfl _ _ _ _ (HL.out.get 6 rfl) Tryd.underlying23 rfl (key_info HXl.out) ?_))
    refine (HD3.out _ _ HL.out.aft (HL.out.get 5 rfl)).mono ?_
    rintro r x3 ⟨rfl, hx⟩
    replace HL := Lib.hid (HL.out.call hx)
    clear hx
    go_wp2_with (first | (refine wpList_store_epoC rfl (.tmp 54) (.tmp 53) rfl _ ({ nhE n h with I := A1, A := A2 }) (HO2.out) A3 HA3.out rfl (HL.out.get 4 rfl) rfl ?_; intro w' b1 b2 b3; replace HL := Lib.hid (HL.out.store 4 rfl b1 b2 b3); clear b1 b2 b3) | (refine wpList_load_rowG (by kernel_rfl) 23 (.tmp 15) rfl _ rfl _ _ _ _ (HL.out.get 6 rfl) Tryd.underlying23 rfl (key_info HXl.out) ?_))
    refine (HD4.out _ _ HL.out.aft (HL.out.get 5 rfl)).mono ?_
    rintro r x4 ⟨rfl, hx⟩
    replace HL := Lib.hid (HL.out.call hx)
    clear hx
    go_wp2_with (first | (refine wpList_store_epoM rfl (.tmp 58) (.tmp 57) rfl _ ({ nhE n h with I := A1, A := A2, C := A3 }) (HO3.out) A4 HA4.out rfl (HL.out.get 4 rfl) rfl ?_; intro w' b1 b2 b3; replace HL := Lib.hid (HL.out.store 4 rfl b1 b2 b3); clear b1 b2 b3; obtain ⟨c8, f8⟩ := one_cell_at (HL.out.get 5 rfl)) | (refine wpList_load_rowG (by kernel_rfl) 55 (.tmp 10) rfl _ rfl _ _ _ _ (HL.out.get 4 rfl) Tryd.underlying55 rfl (epo_info HO4.out) ?_) | (refine wpList_store_epoZ rfl (.tmp 8) (.tmp 63) rfl _ _ HO4.out rfl rfl _ (HL.out.get 3 rfl) (zE_ok) ?_; intro w' b1 b2 b3; replace HL := Lib.hid (HL.out.store 3 rfl b1 b2 b3); clear b1 b2 b3))
    refine bodyPost_ret (results_cell_tmp rfl _ _ _ 55 _ (0, 0) _ rfl (HL.out.get 3 rfl) Tryd.underlying55 rfl (epo_info HO4.out)) rfl ?_
    exact ⟨by rw [HQ1.out, HQ2.out]; rfl, HL.out.aft⟩
  · rw [show epChk (nhE n h).N = 1 from if_neg hq]
    have HQ2 := Lib.hid (show epChk n = 1 from if_neg hq)
    have HQ1 := Lib.hid (HQz.out hq)
    clear hq
    go_wp2_with (first | (refine wpList_buildO (by kernel_rfl) 55 #[] rfl #[] (by kernel_rfl) _ (build_epoch0) ?_) | (refine wpList_store_epoZ rfl (.tmp 8) (.tmp 23) rfl _ _ zE_ok rfl rfl _ (HL.out.get 3 rfl) (zE_ok) ?_; intro w' b1 b2 b3; replace HL := Lib.hid (HL.out.store 3 rfl b1 b2 b3); clear b1 b2 b3))
    refine bodyPost_ret (results_cell_tmp rfl _ _ _ 55 _ (0, 0) _ rfl (HL.out.get 3 rfl) Tryd.underlying55 rfl (epo_info zE_ok)) rfl ?_
    exact ⟨by rw [HQ1.out, HQ2.out]; rfl, HL.out.aft⟩
end Go.Proofs.YtanodhagpegbfaaDoor
