/- law02.ShaParts, walked whole. -/
import Derived.Test.YtifehfcgmodmaaaDoorShaRest
namespace Go.Proofs.YtifehfcgmodmaaaDoor
open Go Go.RowKit
def partsInv (w : World) (bs : Nat) (d : List (BitVec 8)) (wr : World) : Prop :=
  ∃ ao cap, wr.rowIs bs 37 10 (shaCells (shaSt K0 iv d) d.length (.slice ao (bv (restOf d)).length cap)) ∧ Rd wr (.slice ao (bv (restOf d)).length cap) (bv (restOf d)) ∧ Below w.heap.size w wr
theorem sha_whole {w : World} {bs : Nat} {s : St} {N : Nat} {vr : Value} (h : w.rowIs bs 37 10 (shaCells s N vr)) : w.heap[bs]? = some (.cells (shaArr s N vr) 37 (0, 0)) := by
  obtain ⟨cs, h1, h2, h3⟩ := h
  rw [h1]
  have : cs = shaArr s N vr := by
    apply Array.ext_getElem?
    intro i
    by_cases hi : i < 10
    · rw [h3 i hi, shaArr_at s N vr i hi]
    · rw [Array.getElem?_eq_none (by omega), Array.getElem?_eq_none (by show 10 ≤ i; omega)]
  rw [this]
theorem iv_chk_any (d : List (BitVec 8)) (h : d.length ≤ 1099511627776) : chk (shaSt K0 iv d) d.length (bv (restOf d)).length = 0 := by
  have := wrote_chk (K := K0) (s := iv) (N := 0) (rest := []) (b := d) iv_chk (by omega)
  simpa using this
theorem flat_step (ps : List (List (BitVec 8))) (i : Nat) (h : i < ps.length) : (ps.take (i + 1)).flatten = (ps.take i).flatten ++ ps.getD i [] := flatten_take_succ ps i h
section
variable {P : Program} {ops : Array Oper} {w0 : World} {Kd : Nat → Nat} {Q : Exit → Act → World → Prop} {n k : Nat} {o : Oper} {l : List Oper} {a : Act} {w : World}
theorem lf_load_row (hk : Kd k = 0) (hw : Region.wanted o (yielded ops a.tmps) = true) (ty : TypeId) (x : Operand) (ho : o.op = .load ty x)
    (g : Nat) (hx : a.eval x = .pointer (some ⟨g, 0, none⟩)) (t : TypeId) (cs : Array Value) (fr : Nat × Nat) (d : TypeDesc) (hg : w0.heap[g]? = some (.cells cs t fr))
    (hu : P.underlying ty = some d) (hd : (match d with | .struct _ | .array _ _ => true | _ => false) = true) (hi : (P.info? ty).map (·.size) = some cs.size)
    (h : wpFx P ops w0 Kd Q n (k + 1) l (a.put o.dst (.agg cs)) w) : wpFx P ops w0 Kd Q (n + 1) k (o :: l) a w := by
  have hup := wpFx_up (P := P) (ops := ops) (w0 := w0) (Kd := Kd) (Q := Q) n (k + 1) l
  simp only [wpFx_succ, stepF, hw, if_true, hk]
  rw [if_neg (by omega)]
  refine ⟨none, fun _ => .agg cs, fun _ => rfl, fun w1 hw1 _ => .inl ?_, fun w1 g hw1 _ => hup _ _ _ hw1 h⟩
  unfold execOp
  simp only [ho, hx, Instr.loadAt, Instr.sureAddr, Sem.run_bind, Sem.run_pure, Result.andThen_ok, run_loadVar_row w1 g t ty cs fr d (hw1.get hg) hu hd hi]
theorem wp_append_rd {K : Act → World → Prop} (s x : Operand) (t : TypeId)
    (ho : o.op = .call { callee := .builtin .append, args := #[s, x], argTypes := #[t, t] })
    (base : Nat) (e : TypeId) (z : Value) (bytes : Nat) (ht : P.underlying t = some (.slice e)) (hinfo : (P.info? e).map (fun i => (i.zero, i.size, i.bytes)) = some (some z, 1, bytes)) (hzs : z.cells.size = 1)
    (v vx : Value) (xs news : List Value) (hs : a.eval s = v) (hx : a.eval x = vx) (hown : w.ownsRow base e 1 v xs.length xs) (hrd : Rd w vx news) (h1 : ∀ u ∈ news, u.oneCell' = true)
    (hbytes : (xs.length + news.length) * bytes ≤ 140737488355328) (hlen : xs.length + news.length ≤ 140737488355328) (hbase : base ≤ w.heap.size)
    (h : ∀ v' w', w'.ownsRow base e 1 v' (xs ++ news).length (xs ++ news) → w.grownBy w' v.ownBlock → K (a.put o.dst v') w') : o.wp P a w K noOut :=
  wp_of_list (ops := #[]) (wpList_append_rd rfl s x t ho base e z bytes ht hinfo hzs v vx xs news hs hx hown hrd h1 hbytes hlen hbase fun v' w' k1 k2 _ => ⟨rfl, h v' w' k1 k2⟩)
end
theorem info_slice : (Tryd.prog.info? 25).map (fun i => (i.zero, i.size, i.bytes)) = some (some (.slice none 0 0), 1, 24) := by kernel_rfl
theorem RdAll.one_cell {w : World} {vs : List Value} {ps : List (List (BitVec 8))} (h : ∀ i v, vs[i]? = some v → Rd w v (bv (ps.getD i []))) : ∀ u ∈ vs, u.oneCell' = true := by
  intro u hu
  obtain ⟨i, hi⟩ := List.getElem?_of_mem hu
  obtain ⟨ao, cap, rfl, _⟩ := h i u hi
  rfl
theorem RdAll.join {w : World} {v : Value} {vs ws : List Value} {ps qs : List (List (BitVec 8))} (h : Rd w v (vs ++ ws)) (h1 : vs.length = ps.length) (h2 : ws.length = qs.length)
    (e1 : ∀ i v, vs[i]? = some v → Rd w v (bv (ps.getD i []))) (e2 : ∀ i v, ws[i]? = some v → Rd w v (bv (qs.getD i []))) : RdAll w v (ps ++ qs) := by
  refine ⟨vs ++ ws, h, by simp [h1, h2], fun i u hu => ?_⟩
  by_cases hi : i < vs.length
  · rw [List.getElem?_append_left hi] at hu
    have := e1 i u hu
    rw [List.getD_eq_getElem?_getD] at this ⊢
    rwa [List.getElem?_append_left (by omega)]
  · rw [List.getElem?_append_right (by omega)] at hu
    have := e2 _ u hu
    rw [List.getD_eq_getElem?_getD] at this ⊢
    rwa [List.getElem?_append_right (by omega), ← h1]
set_option maxRecDepth 100000 in
theorem wpList_store_keyX {ops : Array Oper} {rest : List Oper} {o : Oper} {a : Act} {w : World} {Q : Exit → Act → World → Prop} (hgd : o.guard = none) (x y : Operand) (ho : o.op = .store 28 x y)
    (g : Nat) (X : List (BitVec 8)) (hX : X.length = 32) (hx : a.eval x = .pointer (some ⟨g, 0, none⟩)) (hy : a.eval y = .agg (bv X).toArray)
    (hg : w.heap[g]? = some (.cells key0 28 (0, 0)))
    (h : ∀ w', Hid (w'.heap[g]? = some (.cells (bv X).toArray 28 (0, 0))) → (∀ k w0, k ≤ g → Below k w0 w → Below k w0 w') → wpList Tryd.prog ops Q rest (a.put o.dst undef) w') : wpList Tryd.prog ops Q (o :: rest) a w := by
  have hxl : (bv X).toArray.size = 32 := by rw [List.size_toArray, bv_length]; exact hX
  exact wpList_store_rowX hgd _ x y ho g (bv X).toArray hx hy _ key0 hg (by rw [hxl]; kernel_rfl) (by rw [hxl]; rfl) (Array.all_eq_true_iff_forall_mem.2 fun u hu => bv_one X u (by simpa using hu)) h
set_option maxRecDepth 100000 in
theorem run_eq_key (X Y : List (BitVec 8)) (hx : X.length = 32) (hy : Y.length = 32) (w : World) : (Op.equalIn 10000 28 (.agg (bv X).toArray) (.agg (bv Y).toArray)).run Tryd.prog w = .ok (decide (X = Y)) w := by
  have h := run_equalIn_ints (P := Tryd.prog) w 10000 9998 (by omega) 28 5 32 .u8 Tryd.underlying28 Tryd.underlying5 (by kernel_rfl) (X.map bn) (Y.map bn) (by simpa using hx) (by simpa using hy)
  have e : ∀ Z : List (BitVec 8), (bv Z) = (Z.map bn).map (Value.int .u8) := fun Z => by simp [bv]
  rw [e, e, h]
  congr 1
  by_cases hXY : X = Y
  · subst hXY; simp
  · simp only [hXY, decide_false, beq_eq_false_iff_ne]
    exact fun e => hXY (List.map_inj_right (fun x y e => bn_inj e) |>.1 e)
theorem parts_start {w w2 : World} (h : Aft w w2) : partsInv w w2.heap.size [] (w2.alloc (.cells (shaArr iv 0 (.slice none 0 0)) 37)) :=
  ⟨none, 0, sha_row (s := iv) (N := 0) (vr := .slice none 0 0) (heap_alloc_new w2 _), Rd.nil _, Aft.trans h (Aft.alloc _ _)⟩
set_option maxRecDepth 100000 in
set_option maxHeartbeats 4000000 in
theorem shaParts_any (va vb : Value) (ps qs : List (List (BitVec 8))) (w : World) (hK : TabK K0 1 w) (hra : RdAll w va ps) (hrb : RdAll w vb qs)
    (h1 : ps.length ≤ 1048576) (h2 : qs.length ≤ 1048576) (h3 : ps.flatten.length ≤ 1048576) (h4 : qs.flatten.length ≤ 1048576) :
    Calls Tryd.prog 9 #[va, vb] w fun e w' => e = .returned (.bool true) ∧ Below w.heap.size w w' := by
  have HK := Lib.hid hK
  have HA := Lib.hid hra
  have HB := Lib.hid hrb
  obtain ⟨aoa, capa, rfl, -⟩ := hra.shape
  obtain ⟨aob, capb, rfl, -⟩ := hrb.shape
  clear hK hra hrb
  have HL := Lib.hid (live2_any w HK.out)
  go_enter Tryd.func9, Tryd.ntmps9
  go_wp2_with fail
  refine HL.out.mono ?_
  rintro e w1 ⟨rfl, hb1⟩
  have HB1 := Lib.hid hb1
  clear hb1
  go_wp2_with fail
  refine (few_any _ ps w1 (HA.out.below HB1.out) (by omega)).mono ?_
  rintro e w1' ⟨rfl, rfl⟩
  by_cases hf1 : few ps
  · by_cases hf2 : few qs
    · have hd1 : decide (few ps) = true := decide_eq_true hf1
      rw [hd1]
      go_wp2_with fail
      refine (few_any _ qs _ (HB.out.below HB1.out) (by omega)).mono ?_
      rintro e w1'' ⟨rfl, rfl⟩
      rw [decide_eq_true hf2]
      go_wp2_with fail
      refine (new_any' _).mono ?_
      rintro e w2 ⟨rfl, hb2⟩
      have HB2 := Lib.hid (Aft.trans HB1.out hb2)
      clear hb2
      go_wp2_with fail
      go_loopw [30] (fun v30 wr => ∃ i : Nat, i ≤ ps.length ∧ v30 = .int .i64 i ∧ partsInv w w2.heap.size (ps.take i).flatten wr) (fun v _ => ps.length - (intOf v).toNat)
      case atStart => exact ⟨0, by omega, rfl, parts_start HB2.out⟩
      case round =>
        obtain ⟨i, hi, rfl, hinv⟩ := hrel
        obtain ⟨a0, c0, hrow, hrd, hbw⟩ := hinv
        have HRow := Lib.hid hrow
        have HRd := Lib.hid hrd
        have HBw := Lib.hid hbw
        clear hrow hrd hbw
        by_cases hlt : i < ps.length
        · obtain ⟨g, o, cap', u, hvv, hcc, hu⟩ := (HA.out.below HBw.out).cell hlt
          cases hvv
          have hlt' : (i : Int) < (ps.length : Nat) := by omega
          have hF := flat_step ps i hlt
          have hfl := flatten_take_le ps i
          have hfl2 := flatten_take_le ps (i + 1)
          rw [hF] at hfl2
          generalize ps.getD i [] = p at hu hF hfl2
          generalize (ps.take i).flatten = d at HRow HRd hF hfl hfl2
          rw [List.length_append] at hfl2
          have HF := Lib.hid hF
          have HU := Lib.hid hu
          have HL1 := Lib.hid hfl
          have HL2 := Lib.hid hfl2
          obtain ⟨au, cu, rfl, -, -, -, -⟩ := hu
          obtain ⟨g0, g1, g2, g3, g4, g5, g6, g7, g8, g9⟩ := sha_all HRow.out
          clear hF hfl hfl2
          go_wp2_with fail
          have hba : Aft wr (wr.alloc (.cells #[.slice au (bv p).length cu] 25)) := Aft.alloc _ _
          have hbb := Aft.trans HBw.out hba
          refine (write_ok K0 (shaSt K0 iv d) d.length _ _ (restOf d) [p] _ (TabK_fr HK.out (Fr.of_below (S := fun _ => False) hbb) (fun h => h)) (HRd.out.grow hba) (RdAll.one wr _ p _ HU.out) (iv_chk_any d (by have := HL1.out; omega)) (by simp; have := HL2.out; omega)).mono ?_
          rintro e w5 ⟨st5, N5, rs5, a5, c5, e1, e2, e3, rfl, ho5, hb5⟩
          have HB5 := Lib.hid (show Below w.heap.size w w5 from Aft.trans hbb hb5)
          have HR5 := Lib.hid (HRow.out.of_block (Below.block (Aft.trans hba hb5) _ HRow.out.lt))
          have HO5 := Lib.hid ho5
          have hl5 : w2.heap.size < w5.heap.size := HR5.out.lt
          have hst : st5 = shaSt K0 iv (d ++ p) ∧ rs5 = restOf (d ++ p) := by
            rw [e1, e3]
            have := sha_step K0 iv d p
            simp only [List.flatten_cons, List.flatten_nil, List.append_nil]
            exact this
          obtain ⟨hs1, hs2⟩ := hst
          have hN5 : N5 = (d ++ p).length := by rw [e2]; simp
          subst hs1 hs2 hN5
          have HS5 := Lib.hid (heap_alloc_new w5 (.cells zero10 37))
          have hlw : w2.heap.size < wr.heap.size := HRow.out.lt
          have HSb := Lib.hid ((Below.heap_alloc w5 (.cells zero10 37) _ hl5).trans (sha_whole HR5.out))
          clear hba hbb hb5 ho5 e1 e2 e3 g0 g1 g2 g3 g4 g5 g6 g7 g8 g9
          generalize d ++ p = D at *
          generalize hS : shaSt K0 iv D = S at *
          go_wp2_with (first
            | (refine wpList_store_sha rfl (.tmp 9) (.tmp 39) rfl w5.heap.size #[.int .u32 (wn S.a), .int .u32 (wn S.b), .int .u32 (wn S.c), .int .u32 (wn S.d), .int .u32 (wn S.e), .int .u32 (wn S.f), .int .u32 (wn S.g), .int .u32 (wn S.h), .int .u64 (D.length : Nat), .slice a5 (bv (restOf D)).length c5] rfl rfl rfl (by kernel_rfl) zero10 rfl HS5.out ?_; intro w6 q2 q3 q4; obtain ⟨g0, g1, g2, g3, g4, g5, g6, g7, g8, g9⟩ := sha_all (sha_row (s := S) (N := D.length) (vr := .slice a5 (bv (restOf D)).length c5) q2.out); have HB6 := Lib.hid (q3 w.heap.size w HB5.out.size (HB5.out.alloc HB5.out.size _)); have HS6 := Lib.hid ((q4.out w2.heap.size (by omega)).trans HSb.out); have HRd6 := Lib.hid ((Rd.of_own HO5.out).keep (w' := w6) fun g _ _ hlt => (q4.out g (by omega)).trans (Below.heap_alloc _ _ _ hlt)); clear q2 q3 q4)
            | (refine wpList_store_sha rfl (.tmp 6) (.tmp 43) rfl w2.heap.size #[.int .u32 (wn S.a), .int .u32 (wn S.b), .int .u32 (wn S.c), .int .u32 (wn S.d), .int .u32 (wn S.e), .int .u32 (wn S.f), .int .u32 (wn S.g), .int .u32 (wn S.h), .int .u64 (D.length : Nat), .slice a5 (bv (restOf D)).length c5] rfl rfl rfl (by kernel_rfl) _ (by rfl) HS6.out ?_; intro w7 q5 q6 q7; have HB7 := Lib.hid (q6 w.heap.size w (by have := Below.size HB2.out; omega) HB6.out); have HR7 := Lib.hid (sha_row (s := S) (N := D.length) (vr := .slice a5 (bv (restOf D)).length c5) q5.out); have HRd7 := Lib.hid (HRd6.out.keep (w' := w7) fun g hg _ _ => q7.out g (by have h6 := (own_lt HO5.out hg).1; rw [World.size_alloc] at h6; omega)); clear q5 q6 q7))
          go_roundw
          case rel =>
            refine ⟨i + 1, by omega, by go_num, a5, c5, ?_, ?_, ?_⟩
            · rw [HF.out, hS]; exact HR7.out
            · rw [HF.out]; exact HRd7.out
            · exact HB7.out
          case measure => simp [intOf]; omega
        · obtain rfl : i = ps.length := by omega
          have hlt' : ¬ ((ps.length : Nat) : Int) < (ps.length : Nat) := by omega
          rw [List.take_length] at HRow HRd
          have HFl := Lib.hid (rfl : ps.flatten = ps.flatten)
          generalize hd : ps.flatten = d at HRow HRd h3
          have HD := Lib.hid hd
          have HL3 := Lib.hid h3
          have HL4 := Lib.hid h4
          have HL1 := Lib.hid h1
          have HL2 := Lib.hid h2
          clear hd h1 h2 h3 h4 HFl
          have hlw : w2.heap.size < wr.heap.size := HRow.out.lt
          have HC := Lib.hid (iv_chk_any d (by have := HL3.out; omega))
          generalize hS : shaSt K0 iv d = S at HRow HC
          have HS := Lib.hid hS
          clear hS
          go_wp2_with fail
          refine (new_any' _).mono ?_
          rintro e w5 ⟨rfl, hb5⟩
          have HB5 := Lib.hid (show Below w.heap.size w w5 from Aft.trans HBw.out hb5)
          have HW5 := Lib.hid (show Aft wr w5 from hb5)
          clear hb5
          go_wp2_with fail
          have hall := all_any _ ps w5 (HA.out.below HB5.out) (by rw [HD.out]; have := HL3.out; omega)
          rw [HD.out] at hall
          refine hall.mono ?_
          rintro e w6 ⟨a6, c6, rfl, ho6, hb6⟩
          have HO6 := Lib.hid ho6
          have HB6 := Lib.hid (show Below w.heap.size w w6 from Aft.trans HB5.out hb6)
          have HW6 := Lib.hid (Aft.trans HW5.out hb6)
          clear hall ho6 hb6
          go_wp2_with fail
          have hba : Aft w6 (w6.alloc (.cells #[.slice a6 (bv d).length c6] 25)) := Aft.alloc _ _
          have hbb := Aft.trans HB6.out hba
          refine (write_ok K0 iv 0 _ _ [] [d] _ (TabK_fr HK.out (Fr.of_below (S := fun _ => False) hbb) (fun h => h)) (Rd.nil _) (RdAll.one w6 _ d _ (Rd.of_own HO6.out)) iv_chk (by simp; have := HL3.out; omega)).mono ?_
          rintro e w7 ⟨st7, N7, rs7, a7, c7, e1, e2, e3, rfl, ho7, hb7⟩
          have HB7 := Lib.hid (show Below w.heap.size w w7 from Aft.trans hbb hb7)
          have HW7 := Lib.hid (Aft.trans HW6.out (Aft.trans hba hb7))
          have HO7 := Lib.hid ho7
          simp only [List.flatten_cons, List.flatten_nil, List.append_nil, List.nil_append, Nat.zero_add] at e1 e2 e3
          rw [HS.out] at e1
          subst e1 e2 e3
          have HS7 := Lib.hid (heap_alloc_new w7 (.cells zero10 37))
          clear hba hbb hb7 ho7
          go_wp2_with ((refine wpList_store_sha rfl (.tmp 11) (.tmp 51) rfl w7.heap.size #[.int .u32 (wn st7.a), .int .u32 (wn st7.b), .int .u32 (wn st7.c), .int .u32 (wn st7.d), .int .u32 (wn st7.e), .int .u32 (wn st7.f), .int .u32 (wn st7.g), .int .u32 (wn st7.h), .int .u64 (d.length : Nat), .slice a7 (bv (restOf d)).length c7] rfl rfl rfl (by kernel_rfl) zero10 rfl HS7.out ?_; intro w8 q2 q3 q4; obtain ⟨g0, g1, g2, g3, g4, g5, g6, g7, g8, g9⟩ := sha_all (sha_row (s := st7) (N := d.length) (vr := .slice a7 (bv (restOf d)).length c7) q2.out); have HB8 := Lib.hid (q3 w.heap.size w HB7.out.size (HB7.out.alloc HB7.out.size _)); have hl7 := Below.size HW7.out; have HW8 := Lib.hid (show Aft wr w8 from q3 wr.heap.size wr hl7 (Below.alloc HW7.out hl7 _)); have HRd8 := Lib.hid ((Rd.of_own HO7.out).keep (w' := w8) fun g _ _ hlt => (q4.out g (by omega)).trans (Below.heap_alloc _ _ _ hlt)); have hR8 := HRow.out.of_block (Below.block HW8.out _ hlw); have HRow8 := Lib.hid hR8; obtain ⟨k0, k1, k2, k3, k4, k5, k6, k7, k8, k9⟩ := sha_all hR8; clear hR8 q2 q3 q4 hl7))
          refine (shaSame_any st7 st7 d.length d.length _ _ (restOf d) (restOf d) w8 (HRd.out.grow HW8.out) HRd8.out).mono ?_
          rintro e w9 ⟨rfl, hb9⟩
          have HW9 := Lib.hid (Aft.trans HW8.out hb9)
          have hR9 := HRow8.out.of_block (Below.block hb9 _ HRow8.out.lt)
          have HRow9 := Lib.hid hR9
          clear g0 g1 g2 g3 g4 g5 g6 g7 g8 g9 k0 k1 k2 k3 k4 k5 k6 k7 k8 k9
          obtain ⟨k0, k1, k2, k3, k4, k5, k6, k7, k8, k9⟩ := sha_all hR9
          clear hR9 hb9
          simp only [and_self, decide_true]
          go_wp2_with fail
          refine (check_any st7 d.length (bv (restOf d)).length c0 a0 w9 (by have := HL3.out; omega) (by rw [bv_length, restOf_length]; omega)).mono ?_
          rintro e wa ⟨rfl, hba⟩
          rw [HC.out]
          have HWa := Lib.hid (Aft.trans HW9.out hba)
          have hRa := HRow9.out.of_block (Below.block hba _ HRow9.out.lt)
          have HRowa := Lib.hid hRa
          clear k0 k1 k2 k3 k4 k5 k6 k7 k8 k9
          obtain ⟨k0, k1, k2, k3, k4, k5, k6, k7, k8, k9⟩ := sha_all hRa
          clear hRa hba
          go_wp2_with fail
          have HBa := Lib.hid (show Below w.heap.size w wa from Aft.trans HBw.out HWa.out)
          refine (write_ok K0 st7 d.length _ _ (restOf d) qs wa (TabK_fr HK.out (Fr.of_below (S := fun _ => False) HBa.out) (fun h => h)) (HRd.out.grow HWa.out) (HB.out.below HBa.out) HC.out (by have := HL3.out; have := HL4.out; omega)).mono ?_
          rintro e wb ⟨stb, Nb, rsb, ab, cb, e1, e2, e3, rfl, hob, hbb⟩
          have HBb := Lib.hid (show Below w.heap.size w wb from Aft.trans HBa.out hbb)
          have HWb := Lib.hid (Aft.trans HWa.out hbb)
          have HOb := Lib.hid hob
          have hfe := sha_step K0 iv d qs.flatten
          rw [HS.out] at hfe
          have E1 := Lib.hid (show stb = shaSt K0 iv (d ++ qs.flatten) by rw [e1]; exact hfe.1)
          have E2 := Lib.hid (show Nb = (d ++ qs.flatten).length by rw [e2, List.length_append])
          have E3 := Lib.hid (show rsb = restOf (d ++ qs.flatten) by rw [e3]; exact hfe.2)
          have HCb := Lib.hid (show chk stb Nb (bv rsb).length = 0 by rw [E1.out, E2.out, E3.out]; exact iv_chk_any _ (by rw [List.length_append]; have := HL3.out; have := HL4.out; omega))
          have hNb : Nb ≤ 2097152 := by rw [E2.out, List.length_append]; have := HL3.out; have := HL4.out; omega
          have HNb := Lib.hid (show Nb = d.length + qs.flatten.length from e2)
          have HSb := Lib.hid (heap_alloc_new wb (.cells zero10 37))
          clear hfe e1 e2 e3 hob hbb k0 k1 k2 k3 k4 k5 k6 k7 k8 k9
          go_wp2_with ((refine wpList_store_sha rfl (.tmp 13) (.tmp 70) rfl wb.heap.size #[.int .u32 (wn stb.a), .int .u32 (wn stb.b), .int .u32 (wn stb.c), .int .u32 (wn stb.d), .int .u32 (wn stb.e), .int .u32 (wn stb.f), .int .u32 (wn stb.g), .int .u32 (wn stb.h), .int .u64 (Nb : Int), .slice ab (bv rsb).length cb] rfl rfl rfl (by kernel_rfl) zero10 rfl HSb.out ?_; intro wc q2 q3 q4; have hRc := sha_row (s := stb) (N := Nb) (vr := .slice ab (bv rsb).length cb) q2.out; have HRowc := Lib.hid hRc; obtain ⟨g0, g1, g2, g3, g4, g5, g6, g7, g8, g9⟩ := sha_all hRc; have HBc := Lib.hid (q3 w.heap.size w HBb.out.size (HBb.out.alloc HBb.out.size _)); have hlb := Below.size HWb.out; have HWc := Lib.hid (show Aft wr wc from q3 wr.heap.size wr hlb (Below.alloc HWb.out hlb _)); have HRdc := Lib.hid ((Rd.of_own HOb.out).keep (w' := wc) fun g _ _ hlt => (q4.out g (by omega)).trans (Below.heap_alloc _ _ _ hlt)); clear hRc q2 q3 q4 hlb))
          refine (done_any K0 stb Nb _ rsb wc (TabK_fr HK.out (Fr.of_below (S := fun _ => False) HBc.out) (fun h => h)) HRdc.out (by omega) (by rw [E3.out, restOf_length]; omega)).mono ?_
          rintro e wd ⟨rfl, hbd⟩
          rw [HCb.out, if_pos rfl]
          have hkey : finKey K0 stb Nb rsb = digest K0 (d ++ qs.flatten) := by rw [E1.out, E2.out, E3.out]; rfl
          rw [hkey]
          have hxl := digest_length K0 (d ++ qs.flatten)
          generalize hX : digest K0 (d ++ qs.flatten) = X at hxl ⊢
          have HX := Lib.hid hX
          have HXL := Lib.hid hxl
          have HBd := Lib.hid (show Below w.heap.size w wd from Aft.trans HBc.out hbd)
          have HWd := Lib.hid (Aft.trans HWc.out hbd)
          have HRowd := Lib.hid (HRowc.out.of_block (Below.block hbd _ HRowc.out.lt))
          have HSd := Lib.hid (heap_alloc_new wd (.cells key0 28))
          clear hkey hxl hX hbd g0 g1 g2 g3 g4 g5 g6 g7 g8 g9
          go_wp2_with ((refine wpList_store_keyX rfl (.tmp 15) (.tmp 75) rfl wd.heap.size X HXL.out rfl rfl HSd.out ?_; intro we q2 q3; have HKe := Lib.hid q2.out; have HBe := Lib.hid (q3 w.heap.size w HBd.out.size (HBd.out.alloc HBd.out.size _)); have HWe := Lib.hid (show Aft wd we from q3 wd.heap.size wd (Nat.le_refl _) (Below.alloc (Below.refl _ _) (Nat.le_refl _) _)); clear q2 q3))
          have HFl := Lib.hid (show (ps ++ qs).flatten = d ++ qs.flatten by rw [List.flatten_append, HD.out])
          have heq := run_eq_key X X HXL.out HXL.out
          simp only [decide_true] at heq
          generalize hf : qs.flatten = f at *
          have HF := Lib.hid hf
          have hNN : (d.length : Int) + ((bv f).length : Nat) = (Nb : Int) := by rw [HNb.out, bv_length]; rfl
          have hd1 := HL3.out
          have hf3 : (bv f).length ≤ 1048576 := by rw [bv_length]; exact HL4.out
          clear hf
          refine wp_region_lexF (fun i => ([0, 0, 0, 0, 0, 0, 0, 0, 0, 0, 0, 0, 2, 0, 3, 2, 0, 0, 0, 0, 0, 0, 0, 0, 2] : List Nat).getD i 0) 31 (by kernel_rfl) (by kernel_rfl) ?_; intro wf hwf
          have HWf := Lib.hid (show Aft we wf by rw [hwf]; exact (Below.refl _ _).drew)
          clear hwf
          have L6 := fun (u : Later wf.heap.size wf) => sha_all (HRow.out.of_block (Below.block (Aft.trans (Aft.trans HWd.out HWe.out) (Aft.trans HWf.out u.h)) _ hlw))
          have L13 := fun (u : Later wf.heap.size wf) => sha_all (HRowd.out.of_block (Below.block (Aft.trans HWe.out (Aft.trans HWf.out u.h)) _ HRowd.out.lt))
          simp only [forall_and] at L6 L13
          obtain ⟨e0, e1, e2, e3, e4, e5, e6, e7, e8, e9⟩ := L6
          obtain ⟨f0, f1, f2, f3, f4, f5, f6, f7, f8, f9⟩ := L13
          clear e0 e1 e2 e3 e4 e5 e6 e7 e9 f0 f1 f2 f3 f4 f5 f6 f7 f9
          iterate 10 (first | (refine lf_quiet rfl (by go_big_quiet_want; exact quiet_false (by assumption)) (by kernel_rfl) rfl ?_; intro Kx hKx; go_big_quiet_op; go_big_quiet_on))
          refine lf_load_row rfl (by kernel_rfl) 28 (.tmp 15) rfl wd.heap.size rfl _ (bv X).toArray _ _ (HWf.out.get HKe.out) Tryd.underlying28 rfl (by rw [List.size_toArray, bv_length, HXL.out]; kernel_rfl) ?_
          simp only [Act.put, List.setIfInBounds_toArray, List.set_cons_succ, List.set_cons_zero]
          repeat (first | (refine lf_skip (by go_big_quiet_skip; exact wpQuiet_nil trivial) (by kernel_rfl) ?_; simp only [Act.put, List.setIfInBounds_toArray, List.set_cons_succ, List.set_cons_zero]) | (refine lf_quiet rfl (by go_big_quiet_want; exact quiet_false (by assumption)) (by kernel_rfl) rfl ?_; intro Kx hKx; go_big_quiet_op; go_big_quiet_on))
          refine lf_eff rfl (by go_big_quiet_want; exact quiet_false (by assumption)) (by kernel_rfl) ?_
          intro wg hg Kx hKx
          have HBg := Lib.hid (show Below w.heap.size w wg from Aft.trans HBe.out (Aft.trans HWf.out hg))
          obtain ⟨vs, hv1, hv2, hv3⟩ := HA.out
          refine wp_append_rd (.const (.slice none 0 0)) (.tmp 88) 22 rfl wg.heap.size 25 (.slice none 0 0) 24 Tryd.underlying22 info_slice rfl (.slice none 0 0) (.slice aoa ps.length capa) [] vs rfl rfl (World.ownsRow_nil _ _ _ _) (hv1.grow HBg.out) (RdAll.one_cell hv3) (by have := HL1.out; simp; omega) (by have := HL1.out; simp; omega) (Nat.le_refl _) ?_
          intro v1 wh k1 k2
          rw [List.nil_append] at k1
          have hgh : Aft wg wh := (Below.refl _ _).grown k2 (Nat.le_refl _) (by simp [Value.ownBlock])
          apply hKx
          refine ⟨hgh, ?_⟩
          simp only [Act.put, List.setIfInBounds_toArray, List.set_cons_succ, List.set_cons_zero]
          have HK1 := Lib.hid k1
          have HFg := Lib.hid hg
          have hgh0 := hgh
          have HGB := Lib.hid (show Below w.heap.size w wh from Aft.trans HBg.out hgh)
          clear k1 k2 hg hgh hKx
          repeat (first | (refine lf_skip (by go_big_quiet_skip; exact wpQuiet_nil trivial) (by kernel_rfl) ?_; simp only [Act.put, List.setIfInBounds_toArray, List.set_cons_succ, List.set_cons_zero]) | (refine lf_quiet rfl (by go_big_quiet_want; exact quiet_false (by assumption)) (by kernel_rfl) rfl ?_; intro Kx hKx; go_big_quiet_op; go_big_quiet_on))
          refine lf_eff3 rfl (by go_big_quiet_want; exact quiet_false (by assumption)) (by kernel_rfl) ?_
          intro wi hi Kx hKx
          have HO1 := Lib.hid (ownsRow_below HK1.out (w' := wi) fun g hg => Below.block hi g (own_lt HK1.out hg).2)
          have HBi := Lib.hid (show Below w.heap.size w wi from Aft.trans HGB.out hi)
          obtain ⟨ws, hx1, hx2, hx3⟩ := HB.out
          refine wp_append_rd (.tmp 89) (.tmp 90) 22 rfl wg.heap.size 25 (.slice none 0 0) 24 Tryd.underlying22 info_slice rfl v1 (.slice aob qs.length capb) vs ws rfl rfl HO1.out (hx1.grow HBi.out) (RdAll.one_cell hx3) (by have := HL1.out; have := HL2.out; omega) (by have := HL1.out; have := HL2.out; omega) (by have := Below.size hgh0; have := Below.size hi; omega) ?_
          intro v2 wj k1 k2
          have hij : Below wg.heap.size wi wj := (Below.refl wg.heap.size wi).grown k2 (by have := Below.size hgh0; have := Below.size hi; omega) (fun g hg => (own_lt HO1.out hg).1)
          have hgj : Aft wg wj := Below.trans (show Aft wg wi from Aft.trans hgh0 hi) hij
          have HFj := Lib.hid (show Aft wf wj from Aft.trans HFg.out hgj)
          have HBj := Lib.hid (show Below w.heap.size w wj from Aft.trans HBe.out (Aft.trans HWf.out HFj.out))
          have hall := RdAll.join (Rd.of_own k1) hv2 hx2 (fun i v hv => (hv3 i v hv).grow HBj.out) (fun i v hv => (hx3 i v hv).grow HBj.out)
          apply hKx
          refine ⟨HFj.out, ?_⟩
          simp only [Act.put, List.setIfInBounds_toArray, List.set_cons_succ, List.set_cons_zero]
          have HALL := Lib.hid hall
          clear hall hij hgj k1 k2 hi hKx hx1 hx2 hx3 hv1 hv2 hv3 hgh0
          refine lf_eff rfl (by go_big_quiet_want; exact quiet_false (by assumption)) (by kernel_rfl) ?_; intro wk hk Kx hKx; go_wp2_with fail
          refine (sum_any K0 _ (ps ++ qs) wk (TabK_fr HK.out (Fr.of_below (S := fun _ => False) (show Below w.heap.size w wk from Aft.trans HBj.out hk)) (fun h => h)) (HALL.out.below hk) (by rw [HFl.out, List.length_append]; have := HL3.out; have := HL4.out; omega)).mono ?_
          rintro e wl ⟨rfl, hl⟩
          rw [HFl.out, HX.out]
          have HBl := Lib.hid (show Aft wj wl from Aft.trans hk hl)
          go_wp2_with fail
          refine ⟨hl, ?_⟩
          clear hk hl
          repeat (first | (refine lf_skip (by go_big_quiet_skip; exact wpQuiet_nil trivial) (by kernel_rfl) ?_; simp only [Act.put, List.setIfInBounds_toArray, List.set_cons_succ, List.set_cons_zero]) | (refine lf_quiet rfl (by go_big_quiet_want; exact quiet_false (by assumption)) (by kernel_rfl) rfl ?_; intro Kx hKx; go_big_quiet_op; go_big_quiet_on))
          refine lf_eff rfl (by go_big_quiet_want; exact quiet_false (by assumption)) (by kernel_rfl) ?_; intro wm hm Kx hKx; go_wp2_with fail
          have HBm := Lib.hid (show Below w.heap.size w wm from Aft.trans HBj.out (Aft.trans HBl.out hm))
          have hall := all_any _ qs wm (HB.out.below HBm.out) (by rw [HF.out]; have := HL4.out; omega)
          rw [HF.out] at hall
          refine hall.mono ?_
          rintro e wn ⟨an, cn, rfl, -, hn⟩
          have HBn := Lib.hid (show Below w.heap.size w wn from Aft.trans HBm.out hn)
          go_wp2_with fail
          refine ⟨hn, ?_⟩
          clear hn hm hall
          repeat (first | (refine lf_skip (by go_big_quiet_skip; exact wpQuiet_nil trivial) (by kernel_rfl) ?_; simp only [Act.put, List.setIfInBounds_toArray, List.set_cons_succ, List.set_cons_zero]) | (refine lf_quiet rfl (by go_big_quiet_want; exact quiet_false (by assumption)) (by kernel_rfl) rfl ?_; intro Kx hKx; go_big_quiet_op; go_big_quiet_on))
          refine lf_done ?_
          intro wo ho
          have HBo := Lib.hid (show Below w.heap.size w wo from Aft.trans HBn.out ho)
          go_wp2_with fail
          go_ret
          exact ⟨rfl, HBo.out⟩
    · rw [decide_eq_true hf1]
      go_wp2_with fail
      refine (few_any _ qs _ (HB.out.below HB1.out) (by omega)).mono ?_
      rintro e w1'' ⟨rfl, rfl⟩
      rw [decide_eq_false hf2]
      go_wp2_with fail
      go_ret
      exact ⟨rfl, HB1.out⟩
  · rw [decide_eq_false hf1]
    go_wp2_with fail
    go_ret
    exact ⟨rfl, HB1.out⟩
end Go.Proofs.YtifehfcgmodmaaaDoor
