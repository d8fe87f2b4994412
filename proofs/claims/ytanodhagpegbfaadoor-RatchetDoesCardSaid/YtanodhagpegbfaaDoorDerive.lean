/- mac.Derive, and coterieref03.Derive: a key of a key. -/
import Derived.Test.YtanodhagpegbfaaDoorRefExpand
import Derived.Test.YtanodhagpegbfaaDoorA8
import Derived.Lib.ConvBytes
import Derived.Lib.AtoiErrMem
namespace Go.Proofs.YtanodhagpegbfaaDoor
open Go Go.RowKit
/-- A string's bytes. -/
def sb (s : ByteArray) : List (BitVec 8) := s.data.toList.map UInt8.toBitVec
theorem sb_length (s : ByteArray) : (sb s).length = s.size := by
  unfold sb
  rw [List.length_map]
  rfl
theorem rd_conv (w : World) (s : ByteArray) (hs : s.size ≤ maxLen) : Rd (Lib.bytesWorld w 5 s) (.slice (some ⟨w.heap.size, 0, none⟩) s.size (grownCap w s.size 0 5)) (bv (sb s)) := by
  have h1 := grownCap_ge w s.size 0 5
  have h2 := grownCap_le_maxLen w s.size 0 5 hs
  unfold maxLen at h2
  refine ⟨some ⟨w.heap.size, 0, none⟩, grownCap w s.size 0 5, by rw [bv_length, sb_length], by rw [bv_length, sb_length]; exact h1, by omega, (fun h => by cases h), fun ad ha j u hu => ?_⟩
  cases ha
  rw [Addr.add_lit, Nat.zero_add]
  have hj : j < s.size := by
    have := (List.getElem?_eq_some_iff.1 hu).1
    rwa [bv_length, sb_length] at this
  rw [Lib.bytesWorld_cell w 5 s j hj]
  have hd : j < s.data.toList.length := hj
  rw [← hu, bv_at _ j (by rw [sb_length]; exact hj)]
  unfold sb
  rw [List.getD_eq_getElem?_getD, List.getD_eq_getElem?_getD, List.getElem?_map, List.getElem?_eq_getElem hd]
  rfl
def cot : List (BitVec 8) := [99, 111, 116, 101, 114, 105, 101]
/-- The texts that a key of a key hangs on. -/
def drvT (L : List (BitVec 8)) (ctx : List (List (BitVec 8))) : List (List (BitVec 8)) := cot :: L :: ctx
def drvKey (k L : List (BitVec 8)) (ctx : List (List (BitVec 8))) : List (BitVec 8) := if textOk (drvT L ctx) then okm k (textsB (drvT L ctx)) 32 else List.replicate 32 0
theorem drvKey_length (k L : List (BitVec 8)) (ctx : List (List (BitVec 8))) : (drvKey k L ctx).length = 32 := by
  unfold drvKey
  split
  · exact okm_length _ _ _
  · exact List.length_replicate
def DrvSays (k L : List (BitVec 8)) (ctx : List (List (BitVec 8))) (w : World) (e : Ending) (w' : World) : Prop :=
  e = .returned (.tuple #[.agg (bv (drvKey k L ctx)).toArray, .int .i64 (textErr (drvT L ctx))]) ∧ Below w.heap.size w w'
theorem DrvSays.bad {k L : List (BitVec 8)} {ctx : List (List (BitVec 8))} {w w' : World} (h : textOk (drvT L ctx) = false) (hb : Below w.heap.size w w') : DrvSays k L ctx w (.returned (.tuple #[.agg key0, .int .i64 4])) w' := by
  refine ⟨?_, hb⟩
  unfold drvKey textErr
  rw [h, ← key0_bv]
  rfl
theorem DrvSays.good {k L : List (BitVec 8)} {ctx : List (List (BitVec 8))} {X : List (BitVec 8)} {w w' : World} (h : textOk (drvT L ctx) = true) (hX : okm k (textsB (drvT L ctx)) 32 = X) (hb : Below w.heap.size w w') : DrvSays k L ctx w (.returned (.tuple #[.agg (bv X).toArray, .int .i64 0])) w' := by
  refine ⟨?_, hb⟩
  unfold drvKey textErr
  rw [if_pos h, if_pos h, hX]
/-- Behind a label is laid: the texts' world. -/
def drvW (w : World) (k : List (BitVec 8)) (s : ByteArray) : World := Lib.bytesWorld (((w.alloc (.cells (bv k).toArray 23)).alloc (.cells key0 23)).alloc (.cells #[.int .u8 99, .int .u8 111, .int .u8 116, .int .u8 101, .int .u8 114, .int .u8 105, .int .u8 101] 5 (7, 8))) 5 s
def drvCap (w : World) (k : List (BitVec 8)) (s : ByteArray) : Nat := grownCap (((w.alloc (.cells (bv k).toArray 23)).alloc (.cells key0 23)).alloc (.cells #[.int .u8 99, .int .u8 111, .int .u8 116, .int .u8 101, .int .u8 114, .int .u8 105, .int .u8 101] 5 (7, 8))) s.size 0 5
theorem drvW_size (w : World) (k : List (BitVec 8)) (s : ByteArray) : (drvW w k s).heap.size = w.heap.size + 4 := by
  unfold drvW
  rw [Lib.bytesWorld_size, World.size_alloc, World.size_alloc, World.size_alloc]
theorem drv_start (w : World) (k : List (BitVec 8)) (s : ByteArray) (hs : s.size ≤ maxLen) :
    Aft w (drvW w k s) ∧ (drvW w k s).heap[w.heap.size]? = some (.cells (bv k).toArray 23 (0, 0)) ∧ (drvW w k s).heap[w.heap.size + 1]? = some (.cells key0 23 (0, 0)) ∧
      Rd (drvW w k s) (.slice (some ⟨w.heap.size + 2, 0, none⟩) 7 7) (bv cot) ∧ Rd (drvW w k s) (.slice (some ⟨w.heap.size + 3, 0, none⟩) s.size (drvCap w k s)) (bv (sb s)) := by
  have a1 := Aft.alloc w (.cells (bv k).toArray 23)
  have a2 := Aft.alloc (w.alloc (.cells (bv k).toArray 23)) (.cells key0 23)
  have a3 := Aft.alloc ((w.alloc (.cells (bv k).toArray 23)).alloc (.cells key0 23)) (.cells #[.int .u8 99, .int .u8 111, .int .u8 116, .int .u8 101, .int .u8 114, .int .u8 105, .int .u8 101] 5 (7, 8))
  have a4 : Aft (((w.alloc (.cells (bv k).toArray 23)).alloc (.cells key0 23)).alloc (.cells #[.int .u8 99, .int .u8 111, .int .u8 116, .int .u8 101, .int .u8 114, .int .u8 105, .int .u8 101] 5 (7, 8))) (drvW w k s) := Lib.bytesWorld_below _ _ _
  have c1 := Rd.litF ((w.alloc (.cells (bv k).toArray 23)).alloc (.cells key0 23)) (bv cot) 5 (7, 8) (by decide)
  have c2 := rd_conv (((w.alloc (.cells (bv k).toArray 23)).alloc (.cells key0 23)).alloc (.cells #[.int .u8 99, .int .u8 111, .int .u8 116, .int .u8 101, .int .u8 114, .int .u8 105, .int .u8 101] 5 (7, 8))) s hs
  simp only [World.size_alloc, Nat.add_assoc, Nat.reduceAdd] at c1 c2
  exact ⟨Aft.trans a1 (Aft.trans a2 (Aft.trans a3 a4)), Aft.get (Aft.trans a2 (Aft.trans a3 a4)) (heap_alloc_new w _), Aft.get (Aft.trans a3 a4) (heap_alloc2_new w _ _), Rd.grow c1 a4, c2⟩
theorem key_info {X : List (BitVec 8)} (hX : X.length = 32) : (Tryd.prog.info? 23).map (·.size) = some (bv X).toArray.size := by rw [List.size_toArray, bv_length, hX]; kernel_rfl
theorem run_loadVar_key (w : World) (g o n cap : Nat) (X : List (BitVec 8)) (hr : Rd w (.slice (some ⟨g, o, none⟩) n cap) (bv X)) (hX : X.length = 32) :
    (loadVar 23 ⟨g, o, none⟩).run Tryd.prog w = .ok (.agg (bv X).toArray) w := by
  obtain ⟨ao', cap', hv, h1, h2, h3, h4⟩ := hr
  cases hv
  have hl : (loadCells ⟨g, o, none⟩ (bv X).length).run Tryd.prog w = .ok (bv X).toArray w :=
    run_loadCells_list (P := Tryd.prog) w ⟨g, o, none⟩ (bv X) (fun j v hj => h4 _ rfl j v hj)
  obtain ⟨i, hq, hs⟩ := Option.map_eq_some_iff.1 (key_info hX)
  have hagg : (isAgg 23).run Tryd.prog w = .ok true w := by
    unfold isAgg
    rw [Sem.run_bind, run_underlying Tryd.underlying23 w]
    rfl
  rw [List.size_toArray] at hs
  simp [loadVar, Sem.run_bind, hagg, sizeOf, typeInfo, hq, hs, hl]
theorem wpList_load_rdkey {ops : Array Oper} {rest : List Oper} {o : Oper} {a : Act} {w : World} {Q : Exit → Act → World → Prop} (hgd : o.guard = none) (x : Operand) (ho : o.op = .load 23 x)
    (g q n cap : Nat) (X : List (BitVec 8)) (hx : a.eval x = .pointer (some ⟨g, q, none⟩)) (hr : Rd w (.slice (some ⟨g, q, none⟩) n cap) (bv X)) (hX : X.length = 32)
    (h : wpList Tryd.prog ops Q rest (a.put o.dst (.agg (bv X).toArray)) w) : wpList Tryd.prog ops Q (o :: rest) a w :=
  wpList_plain hgd fun K hK => by
    unfold Oper.wp execOp
    simp only [ho, hx, Instr.loadAt, Instr.sureAddr, Sem.run_bind, Sem.run_pure, Result.andThen_ok, run_loadVar_key w g q n cap X hr hX]
    exact hK _ _ h
theorem run_arrayAt_key (w : World) (ad : Addr) (cap : Nat) : (Instr.arrayAt 23 (.slice (some ad) 32 cap)).run Tryd.prog w = .ok (.pointer (some ad)) w := by
  simp [Instr.arrayAt, run_underlying Tryd.underlying23]
theorem txErr_cases (ts : List (List (BitVec 8))) : (textErr ts = 4 ∧ textOk ts = false) ∨ (textErr ts = 0 ∧ textOk ts = true) := by
  unfold textErr
  cases textOk ts <;> simp
theorem textOk_two (L : List (BitVec 8)) (ctx : List (List (BitVec 8))) : textOk (drvT L ctx) = (textOk [cot, L] && textOk ctx) := by simp [textOk, drvT, Bool.and_assoc]
theorem textsB_two (L : List (BitVec 8)) (ctx : List (List (BitVec 8))) : textsB (drvT L ctx) = textsB [cot, L] ++ textsB ctx := by simp [textsB, drvT, List.append_assoc]
set_option maxRecDepth 100000 in
set_option maxHeartbeats 2000000 in
theorem derive_any (k : List (BitVec 8)) (s : ByteArray) (vc : Value) (ctx : List (List (BitVec 8))) (w : World) (hK : TabK K0 2 w) (hk : k.length = 32) (hc : RdAll w vc ctx) (hs : s.size ≤ 1073741824) (hl : ctx.length ≤ 16777216)
    (hinf : textOk (drvT (sb s) ctx) = true → (textsB (drvT (sb s) ctx)).length ≤ 1048576) :
    Calls Tryd.prog 20 #[.agg (bv k).toArray, .string s, vc] w (DrvSays k (sb s) ctx w) := by
  have HK := Lib.hid hK
  have HC := Lib.hid hc
  have HKl := Lib.hid hk
  have HInf := Lib.hid hinf
  have HLc := Lib.hid hl
  have hbk := box_key k
  obtain ⟨ac, cc, rfl, -⟩ := hc.shape
  obtain ⟨s1, s2, s3, s4, s5⟩ := drv_start w k s (Nat.le_trans hs (by decide))
  have hcv := fun (w : World) (o1 o2 : Obj) (C : Array Value) (n c : Nat) => Lib.run_convert_bytes_const (P := Tryd.prog) ((w.alloc o1).alloc o2) 24 5 C n c Tryd.underlying24 Tryd.underlying5
  have hcs := Lib.run_convert_string_bytes (P := Tryd.prog) (((w.alloc (.cells (bv k).toArray 23)).alloc (.cells key0 23)).alloc (.cells #[.int .u8 99, .int .u8 111, .int .u8 116, .int .u8 101, .int .u8 114, .int .u8 105, .int .u8 101] 5 (7, 8))) 9 24 5 s (u := .string) Tryd.underlying9 Tryd.underlying24 Tryd.underlying5
  change _ = Result.ok (Value.slice _ s.size (drvCap w k s)) (drvW w k s) at hcs
  simp only [World.size_alloc, Nat.add_assoc, Nat.reduceAdd] at hcv hcs
  unfold key0 at hcs
  have hsz := drvW_size w k s
  have hall := RdAll.two (w := (drvW w k s).alloc (.cells #[.slice (some ⟨w.heap.size + 2, 0, none⟩) 7 7, .slice (some ⟨w.heap.size + 3, 0, none⟩) s.size (drvCap w k s)] 24)) (heap_alloc_new (drvW w k s) _) (s4.grow (Aft.alloc _ _)) (s5.grow (Aft.alloc _ _))
  rw [hsz] at hall
  have HT1 := Lib.hid (text_any (.slice none 0 0) _ [] [cot, sb s] _ (Rd.nil _) hall (by simp) (by simp))
  have S1 := Lib.hid s1
  have S2 := Lib.hid s2
  have S3 := Lib.hid s3
  clear hK hk hinf hl s1 s2 s3 s4 s5 hall hs
  go_enter Tryd.func20, Tryd.ntmps20
  go_wp2_with fail
  refine HT1.out.mono ?_
  rintro e w4 ⟨a4, c4, rfl, ho4, hb4⟩
  have HA4 := Lib.hid (show Aft (drvW w k s) w4 from Aft.trans (Aft.alloc (drvW w k s) _) hb4)
  have HR4 := Lib.hid (Rd.of_own ho4)
  have HW4 := Lib.hid (Aft.trans S1.out HA4.out)
  have H24 := Lib.hid (Aft.get HA4.out S2.out)
  have H34 := Lib.hid (Aft.get HA4.out S3.out)
  have HOk := Lib.hid (textOk_two (sb s) ctx)
  have HTx := Lib.hid (textsB_two (sb s) ctx)
  clear ho4 hb4 hcs hcv hsz
  rcases txErr_cases [cot, sb s] with ⟨he, hk⟩ | ⟨he, hk⟩
  · have HQ := Lib.hid (show textOk (drvT (sb s) ctx) = false by rw [HOk.out, hk]; rfl)
    rw [he]
    clear he hk
    go_wp2_with ((refine wpList_store_key0 rfl (.tmp 6) (.tmp 30) rfl (w.heap.size + 1) rfl rfl H34.out ?_; intro w5 q2 q3; have HK5 := Lib.hid q2.out; have HB5 := Lib.hid (q3 w.heap.size w (by omega) HW4.out); clear q2 q3))
    refine bodyPost_ret (results_cell_tmp rfl _ _ (w.heap.size + 1) 23 key0 (0, 0) _ rfl HK5.out Tryd.underlying23 rfl (by kernel_rfl)) rfl ?_
    exact DrvSays.bad HQ.out HB5.out
  · have hY : textB [] [cot, sb s] = textsB [cot, sb s] := by unfold textB; rw [if_pos hk]; rfl
    rw [hY] at HR4 ⊢
    rw [he]
    have hlI : (textsB [cot, sb s]).length ≤ 131085 := by
      have := textsB_le [cot, sb s] 2 (by simp) (fun j hj => by
        have h9 := List.all_eq_true.1 hk ([cot, sb s][j]) (List.getElem_mem hj)
        unfold txt
        rw [List.getD_eq_getElem?_getD, List.getElem?_eq_getElem hj, Option.getD_some]
        exact of_decide_eq_true h9)
      simp only [List.take_succ_cons, List.take_zero] at this
      omega
    have HT2 := Lib.hid (text_any _ _ (textsB [cot, sb s]) ctx w4 HR4.out (HC.out.below HW4.out) (by omega) HLc.out)
    have HOk2 := Lib.hid (show textOk (drvT (sb s) ctx) = textOk ctx by rw [HOk.out, hk]; rfl)
    clear he hk hY hlI
    generalize textsB [cot, sb s] = I1 at *
    go_wp2_with fail
    refine HT2.out.mono ?_
    rintro e w5 ⟨a5, c5, rfl, ho5, hb5⟩
    have HA5 := Lib.hid (show Aft w4 w5 from hb5)
    have HR5 := Lib.hid (Rd.of_own ho5)
    have HW5 := Lib.hid (Aft.trans HW4.out HA5.out)
    have H25 := Lib.hid (Aft.get HA5.out H24.out)
    have H35 := Lib.hid (Aft.get HA5.out H34.out)
    clear ho5 hb5
    rcases txErr_cases ctx with ⟨he, hk⟩ | ⟨he, hk⟩
    · have HQ := Lib.hid (show textOk (drvT (sb s) ctx) = false by rw [HOk2.out, hk])
      rw [he]
      clear he hk
      go_wp2_with ((refine wpList_store_key0 rfl (.tmp 6) (.tmp 30) rfl (w.heap.size + 1) rfl rfl H35.out ?_; intro w6 q2 q3; have HK6 := Lib.hid q2.out; have HB6 := Lib.hid (q3 w.heap.size w (by omega) HW5.out); clear q2 q3))
      refine bodyPost_ret (results_cell_tmp rfl _ _ (w.heap.size + 1) 23 key0 (0, 0) _ rfl HK6.out Tryd.underlying23 rfl (by kernel_rfl)) rfl ?_
      exact DrvSays.bad HQ.out HB6.out
    · have HQ := Lib.hid (show textOk (drvT (sb s) ctx) = true by rw [HOk2.out, hk])
      have hY : textB I1 ctx = textsB (drvT (sb s) ctx) := by unfold textB; rw [if_pos hk, HTx.out]
      rw [hY] at HR5 ⊢
      rw [he]
      have HI := Lib.hid (HInf.out HQ.out)
      have HXl := Lib.hid (okm_length k (textsB (drvT (sb s) ctx)) 32)
      clear he hk hY
      have hE := expand2_any k (textsB (drvT (sb s) ctx)) _ 32 w5 (TabK_fr HK.out (Fr.of_below (S := fun _ => False) HW5.out) (fun h => h)) HKl.out HR5.out HI.out (by omega)
      unfold ExpSays at hE
      have HE := Lib.hid hE
      clear hE
      generalize hXX : okm k (textsB (drvT (sb s) ctx)) 32 = X at *
      have HXX := Lib.hid hXX
      clear hXX
      go_wp2_with ((refine wpList_load_row rfl 23 (.tmp 3) rfl w.heap.size rfl 23 (bv k).toArray (0, 0) _ H25.out Tryd.underlying23 rfl (key_info HKl.out) ?_))
      refine HE.out.mono ?_
      rintro e w6 ⟨a6, c6, rfl, hr6, hb6⟩
      have HA6 := Lib.hid (show Aft w5 w6 from hb6)
      have HW6 := Lib.hid (Aft.trans HW5.out HA6.out)
      have H36 := Lib.hid (Aft.get HA6.out H35.out)
      obtain ⟨g6, o6, rfl, -, -⟩ := hr6.some_of (by rw [bv_length, HXl.out]; omega)
      have HR6 := Lib.hid hr6
      have hap := fun wx : World => run_arrayAt_key wx ⟨g6, o6, none⟩ c6
      clear hr6 hb6
      go_wp2_with (first
        | (refine wpList_load_rdkey rfl (.tmp 43) rfl g6 o6 32 c6 X rfl HR6.out HXl.out ?_)
        | (refine wpList_store_keyX rfl (.tmp 6) (.tmp 44) rfl (w.heap.size + 1) X HXl.out rfl rfl H36.out ?_; intro w7 q2 q3; have HK7 := Lib.hid q2.out; have HB7 := Lib.hid (q3 w.heap.size w (by omega) HW6.out); clear q2 q3))
      refine bodyPost_ret (results_cell_tmp rfl _ _ (w.heap.size + 1) 23 (bv X).toArray (0, 0) _ rfl HK7.out Tryd.underlying23 rfl (key_info HXl.out)) rfl ?_
      exact DrvSays.good HQ.out HXX.out HB7.out
set_option maxRecDepth 100000 in
set_option maxHeartbeats 2000000 in
theorem refDerive_any (k : List (BitVec 8)) (s : ByteArray) (vc : Value) (ctx : List (List (BitVec 8))) (w : World) (hK : TabK K0 0 w) (hk : k.length = 32) (hc : RdAll w vc ctx) (hs : s.size ≤ 1073741824) (hl : ctx.length ≤ 1048576)
    (hinf : textOk (drvT (sb s) ctx) = true → (textsB (drvT (sb s) ctx)).length ≤ 1048576) :
    Calls Tryd.prog 72 #[.agg (bv k).toArray, .string s, vc] w (DrvSays k (sb s) ctx w) := by
  have HK := Lib.hid hK
  have HC := Lib.hid hc
  have HKl := Lib.hid hk
  have HInf := Lib.hid hinf
  have HLc := Lib.hid hl
  have hbk := box_key k
  obtain ⟨ac, cc, rfl, -⟩ := hc.shape
  obtain ⟨s1, s2, s3, s4, s5⟩ := drv_start w k s (Nat.le_trans hs (by decide))
  have hcv := fun (w : World) (o1 o2 : Obj) (C : Array Value) (n c : Nat) => Lib.run_convert_bytes_const (P := Tryd.prog) ((w.alloc o1).alloc o2) 24 5 C n c Tryd.underlying24 Tryd.underlying5
  have hcs := Lib.run_convert_string_bytes (P := Tryd.prog) (((w.alloc (.cells (bv k).toArray 23)).alloc (.cells key0 23)).alloc (.cells #[.int .u8 99, .int .u8 111, .int .u8 116, .int .u8 101, .int .u8 114, .int .u8 105, .int .u8 101] 5 (7, 8))) 9 24 5 s (u := .string) Tryd.underlying9 Tryd.underlying24 Tryd.underlying5
  change _ = Result.ok (Value.slice _ s.size (drvCap w k s)) (drvW w k s) at hcs
  simp only [World.size_alloc, Nat.add_assoc, Nat.reduceAdd] at hcv hcs
  unfold key0 at hcs
  have hsz := drvW_size w k s
  have hown := World.ownsRow_lit (base := w.heap.size + 4) (e := 24) (size := 1) (drvW w k s) #[.slice (some ⟨w.heap.size + 2, 0, none⟩) 7 7, .slice (some ⟨w.heap.size + 3, 0, none⟩) s.size (drvCap w k s)] 2 (by rw [hsz]; exact Nat.le_refl _) (by decide) rfl
  rw [hsz] at hown
  have HOwn := Lib.hid hown
  obtain ⟨vs, hv1, hv2, hv3⟩ := hc
  have HV1 := Lib.hid (hv1.grow (Aft.trans s1 (Aft.alloc (drvW w k s) (.cells #[.slice (some ⟨w.heap.size + 2, 0, none⟩) 7 7, .slice (some ⟨w.heap.size + 3, 0, none⟩) s.size (drvCap w k s)] 24))))
  have HV2 := Lib.hid hv2
  have HV3 := Lib.hid hv3
  have S1 := Lib.hid s1
  have S2 := Lib.hid s2
  have S3 := Lib.hid s3
  have S4 := Lib.hid s4
  have S5 := Lib.hid s5
  have HSz := Lib.hid hsz
  clear hK hk hinf hl s1 s2 s3 s4 s5 hs hown hv1 hv2 hv3
  go_enter Tryd.func72, Tryd.ntmps72
  go_wp2_with ((at_builtin; refine wpList_append_rd rfl _ _ 32 rfl (w.heap.size + 4) 24 (.slice none 0 0) 24 Tryd.underlying32 info_slice rfl (.slice (some ⟨w.heap.size + 4, 0, none⟩) 2 2) (.slice ac ctx.length cc) [.slice (some ⟨w.heap.size + 2, 0, none⟩) 7 7, .slice (some ⟨w.heap.size + 3, 0, none⟩) s.size (drvCap w k s)] vs rfl rfl HOwn.out HV1.out (RdAll.one_cell HV3.out) (by have := HV2.out; have := HLc.out; simp; omega) (by have := HV2.out; have := HLc.out; simp; omega) (by rw [World.size_alloc, HSz.out]; omega) ?_; intro v3 w3 k1 k2 k3; have HA3 := Lib.hid (show Aft (drvW w k s) w3 from (show Below (drvW w k s).heap.size (drvW w k s) ((drvW w k s).alloc (.cells #[.slice (some ⟨w.heap.size + 2, 0, none⟩) 7 7, .slice (some ⟨w.heap.size + 3, 0, none⟩) s.size (drvCap w k s)] 24)) from Aft.alloc _ _).grown k2 (by rw [World.size_alloc]; omega) (fun g hg => by simp [Value.ownBlock] at hg; have := HSz.out; omega)); have HALL := Lib.hid (show RdAll w3 v3 (drvT (sb s) ctx) from RdAll.join (ps := [cot, sb s]) (qs := ctx) (Rd.of_own k1) rfl HV2.out (fun i v hv => by
      match i, hv with
      | 0, hv => cases hv; exact S4.out.grow HA3.out
      | 1, hv => cases hv; exact S5.out.grow HA3.out
      | i + 2, hv => simp at hv) (fun i v hv => (HV3.out i v hv).grow (Aft.trans S1.out HA3.out))); clear k1 k2 k3))
  have HT1 := Lib.hid (refText_any (.slice none 0 0) _ [] (drvT (sb s) ctx) _ (Rd.nil _) HALL.out (by simp) (by have := HLc.out; simp [drvT]; omega))
  refine HT1.out.mono ?_
  rintro e w4 ⟨a4, c4, rfl, ho4, hb4⟩
  have HA4 := Lib.hid (show Aft (drvW w k s) w4 from Aft.trans HA3.out hb4)
  have HR4 := Lib.hid (Rd.of_own ho4)
  have HW4 := Lib.hid (Aft.trans S1.out HA4.out)
  have H24 := Lib.hid (Aft.get HA4.out S2.out)
  have H34 := Lib.hid (Aft.get HA4.out S3.out)
  clear ho4 hb4 hcs hcv hsz
  rcases txErr_cases (drvT (sb s) ctx) with ⟨he, hk⟩ | ⟨he, hk⟩
  · have HQ := Lib.hid hk
    rw [he]
    clear he hk
    go_wp2_with ((refine wpList_store_key0 rfl (.tmp 6) (.tmp 24) rfl (w.heap.size + 1) rfl rfl H34.out ?_; intro w5 q2 q3; have HK5 := Lib.hid q2.out; have HB5 := Lib.hid (q3 w.heap.size w (by omega) HW4.out); clear q2 q3))
    refine bodyPost_ret (results_cell_tmp rfl _ _ (w.heap.size + 1) 23 key0 (0, 0) _ rfl HK5.out Tryd.underlying23 rfl (by kernel_rfl)) rfl ?_
    exact DrvSays.bad HQ.out HB5.out
  · have HQ := Lib.hid hk
    have hY : textB [] (drvT (sb s) ctx) = textsB (drvT (sb s) ctx) := by unfold textB; rw [if_pos hk]; rfl
    rw [hY] at HR4 ⊢
    rw [he]
    have HI := Lib.hid (HInf.out HQ.out)
    have HXl := Lib.hid (okm_length k (textsB (drvT (sb s) ctx)) 32)
    clear he hk hY
    have hE := refExpand_any k (textsB (drvT (sb s) ctx)) _ 32 w4 (TabK_fr HK.out (Fr.of_below (S := fun _ => False) HW4.out) (fun h => h)) HKl.out HR4.out HI.out (by omega)
    unfold ExpSays at hE
    have HE := Lib.hid hE
    clear hE
    generalize hXX : okm k (textsB (drvT (sb s) ctx)) 32 = X at *
    have HXX := Lib.hid hXX
    clear hXX
    go_wp2_with ((refine wpList_load_row rfl 23 (.tmp 3) rfl w.heap.size rfl 23 (bv k).toArray (0, 0) _ H24.out Tryd.underlying23 rfl (key_info HKl.out) ?_))
    refine HE.out.mono ?_
    rintro e w6 ⟨a6, c6, rfl, hr6, hb6⟩
    have HA6 := Lib.hid (show Aft w4 w6 from hb6)
    have HW6 := Lib.hid (Aft.trans HW4.out HA6.out)
    have H36 := Lib.hid (Aft.get HA6.out H34.out)
    have HKy := Lib.hid (key3_any _ X w6 hr6 HXl.out)
    clear hr6 hb6
    go_wp2_with fail
    refine HKy.out.mono ?_
    rintro e w7 ⟨rfl, hb7⟩
    have HA7 := Lib.hid (show Aft w6 w7 from hb7)
    have HW7 := Lib.hid (Aft.trans HW6.out HA7.out)
    have H37 := Lib.hid (Aft.get HA7.out H36.out)
    clear hb7
    go_wp2_with ((refine wpList_store_keyX rfl (.tmp 6) (.tmp 37) rfl (w.heap.size + 1) X HXl.out rfl rfl H37.out ?_; intro w8 q2 q3; have HK8 := Lib.hid q2.out; have HB8 := Lib.hid (q3 w.heap.size w (by omega) HW7.out); clear q2 q3))
    refine bodyPost_ret (results_cell_tmp rfl _ _ (w.heap.size + 1) 23 (bv X).toArray (0, 0) _ rfl HK8.out Tryd.underlying23 rfl (key_info HXl.out)) rfl ?_
    exact DrvSays.good HQ.out HXX.out HB8.out
end Go.Proofs.YtanodhagpegbfaaDoor

