/- tag.Sums. -/
import Derived.Test.YtdbhlajajdlmfaaDoorV5
import Derived.Deep.CutRange
import Derived.Deep.CutBlock
namespace Go.Proofs.YtdbhlajajdlmfaaDoor
open Go Go.RowKit
set_option linter.unusedSimpArgs false
def tsums (kind : Int) (ids : List Int) (ls : List (List Int)) (ps : List Byt) : List Byt := if tagOk kind ids ls ps then sumsN hK nb4 (nodesL kind ids ls) ids ps (nodesL kind ids ls).length else []
def TSmSays (kind : Int) (ids : List Int) (ls : List (List Int)) (ps : List Byt) (w : World) (e : Ending) (w' : World) : Prop :=
  ∃ v, e = .returned (.tuple #[v, .int .i64 (tagE kind ids ls ps)]) ∧ OwnK w' w.heap.size v (tsums kind ids ls ps) ∧ Aft w w'
theorem OwnP.lt {w : World} {base : Nat} {v : Value} {ts : List Byt} (h : OwnP w base v ts) {g : Nat} (hg : v.ownBlock = some g) : base ≤ g ∧ g < w.heap.size := by
  obtain ⟨vs, h1, -⟩ := h
  exact own_lt h1 hg
theorem own_keys_blk {w : World} {base g : Nat} {ks : List Byt} (hall : ∀ k ∈ ks, k.length = 32) (hg : w.heap[g]? = some (.cells (ksL ks).toArray 30 (0, 0))) (hb : base ≤ g) (hm : ks.length ≤ maxLen) : OwnK w base (.slice (some ⟨g, 0, none⟩) ks.length ks.length) ks := by
  refine ⟨hall, ?_⟩
  refine ⟨by rw [ksL_length hall], .inr ⟨g, ks.length, _, rfl, hb, hg, Nat.le_refl _, hm, ?_, ?_⟩⟩
  · rw [List.size_toArray, ksL_length hall]
  · rw [List.take_of_length_le]
    show (ksL ks).length ≤ _
    rw [ksL_length hall]
    exact Nat.le_refl _
theorem take_map {f : Int → Byt} {xs : List Int} {j : Nat} (h : j < xs.length) : (xs.take (j + 1)).map f = (xs.take j).map f ++ [f (xs.getD j 0)] := by
  rw [List.take_add_one, List.getElem?_eq_getElem h, List.map_append, List.getD_eq_getElem?_getD, List.getElem?_eq_getElem h]
  rfl
theorem textB_le {ts : List Byt} (h : ∀ t ∈ ts, t.length ≤ 32) : (textB [] ts).length ≤ 34 * ts.length := by
  have hk : textOk ts = true := by
    unfold textOk
    rw [List.all_eq_true]
    exact fun x hx => decide_eq_true (Nat.le_trans (h x hx) (by decide))
  unfold textB
  rw [if_pos hk, List.nil_append]
  clear hk
  unfold textsB
  induction ts with
  | nil => exact Nat.zero_le _
  | cons t ts ih =>
    have h1 := h t (List.mem_cons_self ..)
    have h2 := ih fun x hx => h x (List.mem_cons_of_mem _ hx)
    rw [List.flatMap_cons, List.length_append, List.length_append, beL_length, List.length_cons]
    omega
theorem parts_leaf {nb : Int → Byt} {N : List Nd} {ids : List Int} {ps S : List Byt} {i : Nat} (h : (N.getD i nd0).lv = 0) : partsN nb N ids ps S i = [leafW, nb (ids.getD (N.getD i nd0).ix.toNat 0), ps.getD i []] := if_pos h
theorem parts_node {nb : Int → Byt} {N : List Nd} {ids : List Int} {ps S : List Byt} {i : Nat} (h : ¬ (N.getD i nd0).lv = 0) : partsN nb N ids ps S i = (if (N.getD i nd0).rd then redW else nodeW) :: ps.getD i [] :: (N.getD i nd0).ks.map fun k => S.getD k.toNat [] := if_neg h
theorem sums_set {N : List Nd} {ids : List Int} {ps : List Byt} {n i : Nat} (hi : i < n) : (sumsN hK nb4 N ids ps i ++ List.replicate (n - i) kz32).set i (hK (partsN nb4 N ids ps (sumsN hK nb4 N ids ps i) i)) = sumsN hK nb4 N ids ps (i + 1) ++ List.replicate (n - (i + 1)) kz32 := by
  obtain ⟨m, hm⟩ : ∃ m, n - i = m + 1 := ⟨n - i - 1, by omega⟩
  have hl := sumsN_length hK nb4 N ids ps i
  rw [hm, show n - (i + 1) = m by omega, List.replicate_succ, sumsN, List.append_assoc, List.set_append_right i _ (Nat.le_of_eq hl), hl, Nat.sub_self, List.set_cons_zero]
  rfl
theorem getD_le32 {S : List Byt} (hS : ∀ k ∈ S, k.length = 32) (k : Nat) : (S.getD k []).length ≤ 32 := by
  rw [List.getD_eq_getElem?_getD]
  rcases Nat.lt_or_ge k S.length with h | h
  · rw [List.getElem?_eq_getElem h]
    exact Nat.le_of_eq (hS _ (List.getElem_mem h))
  · rw [List.getElem?_eq_none h]
    exact Nat.zero_le _
theorem parts_len {N : List Nd} {ids : List Int} {ps S : List Byt} {i : Nat} (hS : ∀ k ∈ S, k.length = 32) (hp : (ps.getD i []).length = 32) : ∀ t ∈ partsN nb4 N ids ps S i, t.length ≤ 32 := by
  intro t ht
  unfold partsN at ht
  split at ht
  · simp only [List.mem_cons, List.not_mem_nil, or_false] at ht
    rcases ht with rfl | rfl | rfl
    · decide
    · unfold nb4; rw [beL_length]; decide
    · omega
  · simp only [List.mem_cons, List.mem_map] at ht
    rcases ht with rfl | rfl | ⟨k, -, rfl⟩
    · split <;> decide
    · omega
    · exact getD_le32 hS _
theorem parts_five {nb : Int → Byt} {N : List Nd} {ids : List Int} {ps S : List Byt} {i : Nat} (h : (N.getD i nd0).ks.length ≤ 3) : (partsN nb N ids ps S i).length ≤ 5 := by
  unfold partsN
  split
  · exact Nat.le_of_ble_eq_true rfl
  · simp only [List.length_cons, List.length_map]
    omega
section
variable {P : Program} {ops : Array Oper} {rest : List Oper} {o : Oper} {a : Act} {w : World} {Q : Exit → Act → World → Prop}
theorem wpList_bs4E (hw : Region.wanted o (yielded ops a.tmps) = true) (t : TypeId) (y1 y2 y3 y4 : Operand) (ho : o.op = .buildSlice t 4 #[(0, y1), (1, y2), (2, y3), (3, y4)]) (u1 u2 u3 u4 : Value) (h1 : a.eval y1 = u1) (h2 : a.eval y2 = u2) (h3 : a.eval y3 = u3) (h4 : a.eval y4 = u4) (obj : Obj)
    (hr : ∀ w1, (Instr.buildSlice t 4 #[(0, u1), (1, u2), (2, u3), (3, u4)]).run P w1 = .ok (.slice (some ⟨w1.heap.size, 0, none⟩) 4 4) (w1.alloc obj))
    (h : ∀ w', w' = w.alloc obj → wpList P ops Q rest (a.put o.dst (.slice (some ⟨w.heap.size, 0, none⟩) 4 4)) w') : wpList P ops Q (o :: rest) a w := by
  unfold wpList
  rw [if_pos hw]
  refine .inl (wp_noOut ?_)
  unfold Oper.wp execOp
  simp only [ho, h1, h2, h3, h4, Sem.run_bind, List.map_toArray, List.map_cons, List.map_nil, hr, Result.andThen_ok, Sem.run_pure]
  exact h _ rfl
theorem wpList_bs3E (hw : Region.wanted o (yielded ops a.tmps) = true) (t : TypeId) (y1 y2 y3 : Operand) (ho : o.op = .buildSlice t 3 #[(0, y1), (1, y2), (2, y3)]) (u1 u2 u3 : Value) (h1 : a.eval y1 = u1) (h2 : a.eval y2 = u2) (h3 : a.eval y3 = u3) (obj : Obj)
    (hr : ∀ w1, (Instr.buildSlice t 3 #[(0, u1), (1, u2), (2, u3)]).run P w1 = .ok (.slice (some ⟨w1.heap.size, 0, none⟩) 3 3) (w1.alloc obj))
    (h : ∀ w', w' = w.alloc obj → wpList P ops Q rest (a.put o.dst (.slice (some ⟨w.heap.size, 0, none⟩) 3 3)) w') : wpList P ops Q (o :: rest) a w := by
  unfold wpList
  rw [if_pos hw]
  refine .inl (wp_noOut ?_)
  unfold Oper.wp execOp
  simp only [ho, h1, h2, h3, Sem.run_bind, List.map_toArray, List.map_cons, List.map_nil, hr, Result.andThen_ok, Sem.run_pure]
  exact h _ rfl
end
section
variable {ops : Array Oper} {rest : List Oper} {o : Oper} {a : Act} {w : World} {Q : Exit → Act → World → Prop}
/-- A word's bytes, of a constant. -/
theorem wpList_convK (hw : Region.wanted o (yielded ops a.tmps) = true) (x : Operand) (ho : o.op = .convert 44 44 x) (w0 : World) (C : List Value) (n c : Nat) (hx : a.eval x = .slice (some ⟨w0.heap.size, 0, none⟩) n c) (he : w = w0.alloc (.cells C.toArray 5))
    (h : ∀ w', Aft w0 w' → Hid (w'.heap[w0.heap.size]? = some (.cells C.toArray 5 (C.toArray.size, C.toArray.size + 1))) → w'.heap.size = w0.heap.size + 1 → wpList Tryd.prog ops Q rest (a.put o.dst (.slice (some ⟨w0.heap.size, 0, none⟩) n c)) w') : wpList Tryd.prog ops Q (o :: rest) a w := by
  subst he
  have hr := Lib.run_convert_bytes_const (P := Tryd.prog) w0 44 5 C.toArray n c Tryd.underlying44 Tryd.underlying5
  unfold wpList
  rw [if_pos hw]
  refine .inl (wp_noOut ?_)
  unfold Oper.wp execOp
  simp only [ho, hx, hr, Sem.run_bind, Result.andThen_ok, Sem.run_pure]
  exact h _ (Aft.alloc w0 _) (Lib.hid (heap_alloc_new w0 _)) (World.size_alloc _ _)
end
theorem rd_blkF {w : World} {g : Nat} {l : Byt} {n : Nat} {fr : Nat × Nat} (hn : l.length = n) (hm : l.length ≤ maxLen) (hg : w.heap[g]? = some (.cells (bv l).toArray 5 fr)) : Rd w (.slice (some ⟨g, 0, none⟩) n n) (bv l) := by
  refine ⟨some ⟨g, 0, none⟩, n, by rw [bv_length, hn], by rw [bv_length, hn]; exact Nat.le_refl _, by unfold maxLen at hm; omega, fun e => (by cases e), fun ad ha j u hu => ?_⟩
  cases ha
  rw [Addr.add_lit, Nat.zero_add]
  exact cell_part hg hu
theorem hsum_any (v : Value) (ts : List Byt) (w : World) (hk : TabK K0 1 w) (hv : RdAll w v [textB [] ts]) (hl : (textB [] ts).length ≤ 1099511627776) : Calls Tryd.prog 31 #[v] w fun e w' => e = .returned (.agg (bv (hK ts)).toArray) ∧ Aft w w' := by
  have e : [textB [] ts].flatten = textB [] ts := List.append_nil _
  have h := sum_any K0 v [textB [] ts] w hk hv (by rw [e]; exact hl)
  rw [e] at h
  exact h
/-- What stands ahead of the kids' loop. -/
def CutS (P more : List Byt) (w0 w : World) (s9 kids : Value) : Prop :=
  ∃ (hd : List Byt) (nh gv : Nat), s9 = .slice (some ⟨gv, 0, none⟩) nh nh ∧ hd.length = nh ∧ OwnP w w0.heap.size (.slice (some ⟨gv, 0, none⟩) nh nh) hd ∧ P = hd ++ more ∧ Aft w0 w ∧ w.cell? ⟨w0.heap.size, 5, none⟩ = some kids
set_option maxRecDepth 100000 in
set_option maxHeartbeats 8000000 in
theorem tsums_any (kind : Int) (vi vl vp : Value) (ids : List Int) (ls : List (List Int)) (ps : List Byt) (w : World) (hk : TabK K0 1 w) (h : RdTr w vi vl vp ids ls ps) (hs : Small ids ls) (hp : ps.length ≤ 1048576) :
    Calls Tryd.prog 12 #[.agg (trL kind vi vl vp).toArray] w (TSmSays kind ids ls ps w) := by
  have HNd := Lib.hid (fun (wx : World) (ha : Aft w wx) => tnodes_any kind vi vl vp ids ls ps wx (h.aft ha) hs hp)
  have HNum := Lib.hid (fun (wx : World) (v : Value) (m : Nat) (hv : Rd wx v (nv [m])) (hm : m ≤ 1048576) => num_any (.slice none 0 0) v [] 4 [m] wx (Rd.nil wx) hv (fun x hx => by simp at hx; omega) (by decide) (show (1 : Nat) ≤ 1073741824 by decide))
  have HTx := Lib.hid (fun (wx : World) (v : Value) (ts : List Byt) (hv : RdAll wx v ts) (hl : ts.length ≤ 16777216) => text_any (.slice none 0 0) v [] ts wx (Rd.nil wx) hv (by decide) hl)
  have HSm := Lib.hid (fun (wx : World) (v : Value) (ts : List Byt) (ha : Aft w wx) (hv : RdAll wx v [textB [] ts]) (h2 : (textB [] ts).length ≤ 1099511627776) => hsum_any v ts wx (TabK_fr hk (Fr.of_below (S := fun _ => False) ha) (fun h => h)) hv h2)
  have HRi := Lib.hid (fun (wx : World) (ha : Aft w wx) => h.i.grow ha)
  have HRp := Lib.hid (fun (wx : World) (ha : Aft w wx) => h.p.grow ha)
  obtain ⟨ao, ac, rfl, -, -⟩ := h.i.numS
  obtain ⟨bo, bc, rfl, -⟩ := h.l.shape
  obtain ⟨po, pc, rfl, -, -⟩ := h.p.shape
  have HL := Lib.hid (Led.start w)
  clear h hs hk
  go_enter Tryd.func12, Tryd.ntmps12
  go_wp2_with (first | (refine wpList_dstT 1 rfl ?_; refine wpList_boxO rfl 28 (.tmp 0) rfl (.agg (trL kind (.slice ao ids.length ac) (.slice bo ls.length bc) (.slice po ps.length pc)).toArray) rfl (.cells (trL kind (.slice ao ids.length ac) (.slice bo ls.length bc) (.slice po ps.length pc)).toArray 28) (box_tr _ _ _ _) ?_; intro w1 aa gg zz; replace HL := Lib.hid (HL.out.alloc aa gg.out); clear aa gg zz; (try simp only [List.nil_append, List.cons_append, List.set_cons_zero, List.set_cons_succ] at HL)) | (refine wpList_dstT 17 rfl ?_; refine wpList_load_rowG (by kernel_rfl) 28 (.tmp 1) rfl _ rfl _ _ _ _ (HL.out.get 0 rfl) Tryd.underlying28 rfl (tr_info _ _ _ _) ?_))
  refine (HNd.out _ HL.out.aft).mono ?_
  rintro e w2 ⟨vb, qs, rfl, ho, hf, h2⟩
  have HX := Lib.hid ho.rd
  obtain ⟨qa, qc, rfl⟩ := ho.shape
  replace HL := Lib.hid (HL.out.call h2)
  clear ho h2 HNd
  by_cases hok : tagOk kind ids ls ps
  rotate_left
  · have HE := Lib.hid (show tagE kind ids ls ps = 1 from if_neg hok)
    have HS := Lib.hid (show tsums kind ids ls ps = [] from if_neg hok)
    rw [HE.out]
    clear hok hf
    go_wp2_with fail
    refine bodyPost_ret (results_tmp2 rfl _ _ _) rfl ?_
    exact ⟨_, by rw [HE.out]; rfl, by rw [HS.out]; exact OwnK.nil _ _, HL.out.aft⟩
  have HE := Lib.hid (show tagE kind ids ls ps = 0 from if_pos hok)
  have HS := Lib.hid (show tsums kind ids ls ps = sumsN hK nb4 (nodesL kind ids ls) ids ps (nodesL kind ids ls).length from if_pos hok)
  rw [if_pos hok] at hf
  obtain ⟨-, hT⟩ := mayE_zero.1 hok.1
  have HT := Lib.hid (nodes_trf (kind := kind) hT)
  have HT3 := Lib.hid (fun k => nodes_k3 (kind := kind) hT k)
  have HIdm := Lib.hid (fun (j : Nat) (hj : j < ids.length) => show ∃ m : Nat, ids.getD j 0 = (m : Int) ∧ m ≤ 1048576 from by
    have := hT.1.2.1 (ids.getD j 0) (by rw [List.getD_eq_getElem?_getD, List.getElem?_eq_getElem hj]; exact List.getElem_mem hj)
    exact ⟨(ids.getD j 0).toNat, by omega, by omega⟩)
  have HPl := Lib.hid hok.2.2.1
  have hql : qs.length = ps.length := by rw [← hok.2.2.1, ← hf, List.length_map]
  have HF := Lib.hid hf
  rw [HE.out]
  clear hok hf hT
  generalize nodesL kind ids ls = N at *
  rw [hql] at HX ⊢
  have HQl := Lib.hid hql
  clear hql
  have HSt := Lib.hid (HS.out.trans (congrArg (sumsN hK nb4 N ids ps) HPl.out))
  clear HS
  generalize hn : ps.length = n at *
  have HPn := Lib.hid hn
  have HBox := Lib.hid (fun (wx : World) (ha : Aft w2 wx) => Aft.get ha (HL.out.get 0 rfl))
  clear hn
  go_wp2_with (first | (refine wpList_dstT 26 rfl ?_; refine wpList_makeKeys (by kernel_rfl) _ _ rfl n rfl rfl hp ?_; intro w3 h3 hg; have HMk := Lib.hid h3; have HMg := hg; clear h3 hg))
  obtain ⟨go, hgo⟩ : ∃ g, g = w2.heap.size := ⟨_, rfl⟩
  have HGq := Lib.hid hgo
  rw [← hgo]
  have HO0 := Lib.hid (show OwnK w3 w2.heap.size (.slice (some ⟨go, 0, none⟩) n n) (List.replicate n kz32) by
    have hall : ∀ k ∈ List.replicate n kz32, k.length = 32 := fun k hk => by rw [(List.mem_replicate.1 hk).2]; rfl
    have := own_keys_blk (ks := List.replicate n kz32) hall HMg.out (Nat.le_refl _) (by rw [List.length_replicate]; show n ≤ 9223372036854775807; omega)
    rw [List.length_replicate] at this
    rw [hgo]
    exact this)
  clear hgo HMg
  go_loopw [29] (fun v29 wr => ∃ i : Nat, i ≤ n ∧ v29 = .int .i64 (i : Int) ∧ Aft w2 wr ∧ OwnK wr w2.heap.size (.slice (some ⟨go, 0, none⟩) n n) (sumsN hK nb4 N ids ps i ++ List.replicate (n - i) kz32)) (fun v29 _ => n - (intOf v29).toNat)
  case atStart => exact ⟨0, Nat.zero_le _, rfl, HMk.out, HO0.out⟩
  case round =>
    clear HO0 HMk
    have HA2 := Lib.hid HL.out.aft
    clear HL
    obtain ⟨wo, hwo⟩ : ∃ z, z = wr := ⟨_, rfl⟩
    subst hwo
    obtain ⟨i, hi, rfl, hAo, hO⟩ := hrel
    have HAo := Lib.hid hAo
    have HO := Lib.hid hO
    clear hAo hO
    by_cases hlt : i < n
    · have hlt' : (i : Int) < (n : Nat) := by omega
      obtain ⟨b1, o1, c1, he, hrx⟩ := HX.out.rng (i := i) (by rw [HQl.out]; exact hlt)
      injection he with he1 he2 he3
      subst he1 he3
      have hkx := HX.out.mem (i := i) (by rw [HQl.out]; exact hlt)
      have hxg := fst_getD qs i
      rw [HF.out] at hxg
      obtain ⟨gp, op, cp, hpe, hpl, hpr⟩ := (HRp.out wo (Aft.trans HA2.out HAo.out)).at (i := i) (by rw [HPn.out]; exact hlt)
      rw [HPn.out] at hpe
      injection hpe with hp1 hp2 hp3
      subst hp1
      have HPr := Lib.hid hpr
      have HPw := Lib.hid hpl
      have HRx := Lib.hid (fun (wx : World) (ha : Aft wo wx) => hrx wx (Aft.trans HAo.out ha))
      have HB0 := Lib.hid (fun (wx : World) (ha : Aft wo wx) => HBox.out wx (Aft.trans HAo.out ha))
      have HK3 := Lib.hid (HT3.out i)
      have HKd := Lib.hid (fun k (hk : k ∈ (N.getD i nd0).ks) => show ∃ j : Nat, k = (j : Int) ∧ j < i from by obtain ⟨j, h1, h2, -⟩ := HT.out.kd i (by rw [HPl.out]; exact hlt) k hk; exact ⟨j, h1, h2⟩)
      have HLv := Lib.hid (HT.out.lv i (by rw [HPl.out]; exact hlt))
      obtain ⟨S, hS⟩ : ∃ S, S = sumsN hK nb4 N ids ps i := ⟨_, rfl⟩
      have HSl := Lib.hid (show S.length = i by rw [hS]; exact sumsN_length ..)
      have HSs := Lib.hid (show (S ++ List.replicate (n - i) kz32).set i (hK (partsN nb4 N ids ps S i)) = sumsN hK nb4 N ids ps (i + 1) ++ List.replicate (n - (i + 1)) kz32 by rw [hS]; exact sums_set hlt)
      have HSk := Lib.hid (show ∀ k ∈ S, k.length = 32 by rw [hS]; exact sumsK N ids ps i)
      rw [← hS] at HO
      clear hS
      have HGo := Lib.hid (show go < wo.heap.size from (HO.out.lt go rfl).2)
      have HRS := Lib.hid (fun (wx : World) (ha : Aft wo wx) (jj : Nat) (hj : jj < i) => show Rd wx (.slice (some ⟨go, jj * 32, none⟩) 32 32) (bv (S.getD jj [])) from by
        obtain ⟨g', o', c', e', -, hr⟩ := (HO.out.rd.grow ha).at (i := jj) (by rw [List.length_append, HSl.out]; omega)
        injection e' with e1 e2 e3
        cases e1
        rw [Nat.zero_add, List.getD_eq_getElem?_getD, List.getElem?_append_left (by rw [HSl.out]; exact hj), ← List.getD_eq_getElem?_getD] at hr
        exact hr)
      have HPlf := Lib.hid (fun (q : (N.getD i nd0).lv = 0) => parts_leaf (nb := nb4) (ids := ids) (ps := ps) (S := S) q)
      have HPnd := Lib.hid (fun (q : ¬ (N.getD i nd0).lv = 0) => parts_node (nb := nb4) (ids := ids) (ps := ps) (S := S) q)
      have HLen := Lib.hid (parts_len (N := N) (ids := ids) (ps := ps) (i := i) HSk.out HPw.out)
      have HTl := Lib.hid (parts_five (nb := nb4) (ids := ids) (ps := ps) (S := S) HK3.out)
      rw [hxg] at HK3 HKd HLv HPlf HPnd
      generalize qs.getD i ndP = p at *
      obtain ⟨x, kx⟩ := p
      dsimp only at HRx hkx HK3 HKd HLv HPlf HPnd
      have HKx := Lib.hid hkx
      obtain ⟨ka, kc, rfl, -, -⟩ := hkx.numS
      clear he2 hrx hkx hxg hp2 hp3 hpr hpl
      have HTe := Lib.hid (text_ok fun t ht => Nat.le_trans (HLen.out t ht) (by decide))
      have hal := fun (wx : World) (g n : Nat) => run_sliceAt_keyN wx g n
      have HGp := Lib.hid (show gp < wo.heap.size from HPr.out.lt rfl (fun q => by have := congrArg List.length q; rw [bv_length, HPw.out] at this; cases this))
      have HL := Lib.hid (Led.start wo)
      go_upto_block 2 with (first | (refine wpList_dstT 33 rfl ?_; refine wpList_load_mid2 (by kernel_rfl) 68 (.tmp 32) rfl _ _ rfl (ndR x (.slice ka x.ks.length kc)) (HRx.out _ HL.out.aft) _ Tryd.underlying68 rfl (nd_info2 _ _) ?_) | (refine wpList_dstT 8 rfl ?_; refine wpList_allocO rfl 68 rfl (.cells (ndR nd0 (.slice none 0 0)).toArray 68) alloc_nd ?_; intro wa aa gg zz; replace HL := Lib.hid (HL.out.alloc aa gg.out); clear aa gg zz; try simp only [List.nil_append, List.cons_append, List.set_cons_zero, List.set_cons_succ] at HL) | (refine wpList_store_rowZ rfl 68 (.tmp 8) (.tmp 33) rfl _ (ndR x (.slice ka x.ks.length kc)).toArray rfl rfl _ _ (HL.out.get 0 rfl) (nd_info _ _) rfl (all_one ndR_one) ?_; intro ws b1 b2 b3; replace HL := Lib.hid (HL.out.store 0 rfl b1 b2 b3); clear b1 b2 b3; try simp only [List.nil_append, List.cons_append, List.set_cons_zero, List.set_cons_succ] at HL) | (refine wpList_dstT 34 rfl ?_; refine wpList_bs4E (by kernel_rfl) 44 _ _ _ _ rfl _ _ _ _ rfl rfl rfl rfl (.cells (bv nodeW).toArray 5) run_nodeW ?_; intro wq hq; have HQ := Lib.hid hq; clear hq) | (refine wpList_dstT 35 rfl ?_; refine wpList_convK (by kernel_rfl) (.tmp 34) rfl _ (bv nodeW) 4 4 rfl HQ.out ?_; intro wb aa gg zz; replace HL := Lib.hid (HL.out.alloc aa gg.out); clear aa gg zz HQ; try simp only [List.nil_append, List.cons_append, List.set_cons_zero, List.set_cons_succ] at HL; have k3 := cell_part (n := 3) (HB0.out _ HL.out.aft) rfl) | (refine wpList_dstT 41 rfl ?_; refine wpList_bs2 (by kernel_rfl) 71 _ _ rfl _ _ rfl rfl (.cells #[.slice (some ⟨ws.heap.size, 0, none⟩) 4 4, .slice (some ⟨gp, op + i * 32, none⟩) 32 32] 44) (run_sl2 _ _ _ _ _ _) ?_; intro wc aa gg zz; replace HL := Lib.hid (HL.out.alloc aa gg.out); clear aa gg zz; try simp only [List.nil_append, List.cons_append, List.set_cons_zero, List.set_cons_succ] at HL))
      have x0 := cell_part (n := 0) (HL.out.get 0 rfl) rfl
      go_cut [9, 10, 11] from 42 to 77 (fun s9 s10 s11 wx => CutS (partsN nb4 N ids ps S i) (x.ks.map fun k => S.getD k.toNat []) wo wx s9 (.slice ka x.ks.length kc))
      case first =>
        by_cases hz : x.lv = 0
        · have HPq := Lib.hid (HPlf.out hz)
          have hzb : (x.lv == 0) = true := by simp [hz]
          obtain ⟨-, hk0, jx, hjx, hjl⟩ := HLv.out.resolve_right (fun q => by have := q.1; omega)
          have HK0 := Lib.hid hk0
          obtain ⟨m, hm, hm2⟩ := HIdm.out jx hjl
          have x1 := cell_part (n := 1) (HL.out.get 0 rfl) rfl
          have k1 := cell_part (n := 1) (HB0.out _ HL.out.aft) rfl
          obtain ⟨ga, oa, rfl, -, -⟩ := (HRi.out _ (Aft.trans HA2.out (Aft.trans HAo.out HL.out.aft))).some_of (by rw [zv_length]; omega)
          have ix := (HRi.out _ (Aft.trans HA2.out (Aft.trans HAo.out HL.out.aft))).num_at hjl
          rw [hjx] at x1
          rw [hm] at ix
          have HPq2 := Lib.hid (show partsN nb4 N ids ps S i = [leafW, beL 4 m, ps.getD i []] ++ x.ks.map (fun k => S.getD k.toNat []) by rw [HPq.out, HK0.out, hjx, Int.toNat_natCast, hm]; rfl)
          clear hk0 hjx hz
          go_wp2_with (first | (refine wpList_dstT 55 rfl ?_; refine wpList_bs1 (by kernel_rfl) 104 _ rfl _ rfl (.cells #[.int .u64 (m : Int)] 58) (run_u64s _) ?_; intro wd aa gg zz; replace HL := Lib.hid (HL.out.alloc aa gg.out); clear aa gg zz; try simp only [List.nil_append, List.cons_append, List.set_cons_zero, List.set_cons_succ] at HL))
          refine (HNum.out _ _ m (Rd.of_own (own_blk (xs := nv [m]) (HL.out.get 3 rfl) (Nat.le_refl _) (show 1 ≤ maxLen by decide))) hm2).mono ?_
          rintro e we ⟨na, nc, rfl, hno, hn⟩
          have hl4 : (bv (beL 4 m)).length = 4 := by rw [bv_length, beL_length]
          rw [(num4_ok hm2).1, hl4] at hno
          rw [(num4_ok hm2).1, (num4_ok hm2).2, hl4]
          have HNo := Lib.hid hno
          have HAe := Lib.hid (Aft.refl we)
          replace HL := Lib.hid (HL.out.call hn)
          clear hl4 hno hn
          go_wp2_with (first | (refine wpList_dstT 62 rfl ?_; refine wpList_bs4E (by kernel_rfl) 44 _ _ _ _ rfl _ _ _ _ rfl rfl rfl rfl (.cells (bv leafW).toArray 5) run_leafW ?_; intro wq hq; have HQ := Lib.hid hq; clear hq) | (refine wpList_dstT 63 rfl ?_; refine wpList_convK (by kernel_rfl) (.tmp 62) rfl _ (bv leafW) 4 4 rfl HQ.out ?_; intro wf aa gg zz; replace HAe := Lib.hid (Aft.trans HAe.out aa); replace HL := Lib.hid (HL.out.alloc aa gg.out); clear aa gg zz HQ; try simp only [List.nil_append, List.cons_append, List.set_cons_zero, List.set_cons_succ] at HL; have k3 := cell_part (n := 3) (HB0.out _ HL.out.aft) rfl) | (refine wpList_dstT 70 rfl ?_; refine wpList_bs3 (by kernel_rfl) 71 _ _ _ rfl _ _ _ rfl rfl rfl (.cells #[.slice (some ⟨we.heap.size, 0, none⟩) 4 4, .slice na 4 nc, .slice (some ⟨gp, op + i * 32, none⟩) 32 32] 44) (run_sl3 _ _ _ _ _ _ _ _ _) ?_; intro wg aa gg zz; replace HAe := Lib.hid (Aft.trans HAe.out aa); replace HL := Lib.hid (HL.out.alloc aa gg.out); clear aa gg zz; try simp only [List.nil_append, List.cons_append, List.set_cons_zero, List.set_cons_succ] at HL))
          go_meet
          case rel =>
            refine ⟨[leafW, beL 4 m, ps.getD i []], 3, _, rfl, rfl, OwnP.three (HL.out.get 5 rfl) (HL.out.has 5 _ _ rfl).2 (rd_blkF (l := leafW) rfl (by decide) (HL.out.get 4 rfl)) (fun e => ?_) ((Rd.of_own HNo.out).grow HAe.out) (fun e => ?_) (HPr.out.grow HL.out.aft) (fun e => ?_), HPq2.out, HL.out.aft, cell_part (n := 5) (HL.out.get 0 rfl) rfl⟩
            · have := HL.out.inc 4 5 _ _ _ _ (by decide) rfl rfl
              have e2 := Option.some.inj e
              change we.heap.size = _ at e2
              omega
            · have h1 := HL.out.inc 4 5 _ _ _ _ (by decide) rfl rfl
              have h2 := (own_lt HNo.out e).2
              omega
            · have := (HL.out.has 5 _ _ rfl).2
              have h2 := HGp.out
              have e2 := Option.some.inj e
              change gp = _ at e2
              omega
        · have hzb : (x.lv == 0) = false := by simp [hz]
          have HPq := Lib.hid (HPnd.out hz)
          have x2 := cell_part (n := 2) (HL.out.get 0 rfl) rfl
          clear hz
          cases hr : x.rd with
          | true =>
            rw [hr] at x2
            go_wp2_with (first | (refine wpList_dstT 75 rfl ?_; refine wpList_bs3E (by kernel_rfl) 44 _ _ _ rfl _ _ _ rfl rfl rfl (.cells (bv redW).toArray 5) run_redW ?_; intro wq hq; have HQ := Lib.hid hq; clear hq) | (refine wpList_dstT 76 rfl ?_; refine wpList_convK (by kernel_rfl) (.tmp 75) rfl _ (bv redW) 3 3 rfl HQ.out ?_; intro wd aa gg zz; replace HL := Lib.hid (HL.out.alloc aa gg.out); clear aa gg zz HQ; try simp only [List.nil_append, List.cons_append, List.set_cons_zero, List.set_cons_succ] at HL) | (refine wpList_store_cellJ rfl 44 (.tmp 77) (.tmp 76) rfl wb.heap.size 0 (.slice (some ⟨wc.heap.size, 0, none⟩) 3 3) rfl rfl 44 [.slice (some ⟨ws.heap.size, 0, none⟩) 4 4, .slice (some ⟨gp, op + i * 32, none⟩) 32 32] (Nat.zero_lt_succ _) (HL.out.get 2 rfl) (by kernel_rfl) rfl rfl ?_; intro we b1 b2 b3; replace HL := Lib.hid (HL.out.store 2 rfl b1 b2 b3); clear b1 b2 b3; try simp only [List.nil_append, List.cons_append, List.set_cons_zero, List.set_cons_succ] at HL))
            go_meet
            case rel =>
              refine ⟨[redW, ps.getD i []], 2, _, rfl, rfl, OwnP.two (HL.out.get 2 rfl) (HL.out.has 2 _ _ rfl).2 (rd_blkF (l := redW) rfl (by decide) (HL.out.get 3 rfl)) (fun e => ?_) (HPr.out.grow HL.out.aft) (fun e => ?_), by rw [HPq.out, hr]; rfl, HL.out.aft, cell_part (n := 5) (HL.out.get 0 rfl) rfl⟩
              · have := HL.out.inc 2 3 _ _ _ _ (by decide) rfl rfl
                injection e with e
                exact absurd e (Nat.ne_of_gt this)
              · have := (HL.out.has 2 _ _ rfl).2
                have h2 := HGp.out
                have e2 := Option.some.inj e
                change gp = _ at e2
                omega
          | false =>
            rw [hr] at x2
            go_wp2_with fail
            go_meet
            case rel =>
              refine ⟨[nodeW, ps.getD i []], 2, _, rfl, rfl, OwnP.two (HL.out.get 2 rfl) (HL.out.has 2 _ _ rfl).2 (rd_blkF (l := nodeW) rfl (by decide) (HL.out.get 1 rfl)) (fun e => ?_) (HPr.out.grow HL.out.aft) (fun e => ?_), by rw [HPq.out, hr]; rfl, HL.out.aft, cell_part (n := 5) (HL.out.get 0 rfl) rfl⟩
              · have := HL.out.inc 1 2 _ _ _ _ (by decide) rfl rfl
                injection e with e
                exact absurd e (Nat.ne_of_lt this)
              · have := (HL.out.has 2 _ _ rfl).2
                have h2 := HGp.out
                have e2 := Option.some.inj e
                change gp = _ at e2
                omega
      case rest =>
        clear HL x0
        obtain ⟨hd, nh, gv0, rfl, hnl, hP, hPt, hAx, x5⟩ := hcut
        have HNl := Lib.hid hnl
        have HP := Lib.hid hP
        have HPt := Lib.hid hPt
        have HAx := Lib.hid hAx
        have HPl5 := Lib.hid (show nh + x.ks.length ≤ 5 by
          have := HTl.out
          rw [hPt, List.length_append, List.length_map, hnl] at this
          exact this)
        clear hnl hP hPt hAx
        go_wp2_with fail
        go_loopw [9, 81] (fun v9 v81 wk => ∃ j : Nat, j ≤ x.ks.length ∧ v81 = .int .i64 (j : Int) ∧ Aft wo wk ∧ ∃ gv cv, v9 = .slice (some ⟨gv, 0, none⟩) (nh + j) cv ∧ OwnP wk wo.heap.size (.slice (some ⟨gv, 0, none⟩) (nh + j) cv) (hd ++ (x.ks.take j).map fun k => S.getD k.toNat [])) (fun _ v81 _ => x.ks.length - (intOf v81).toNat)
        case atStart => exact ⟨0, Nat.zero_le _, rfl, HAx.out, _, _, rfl, by rw [List.take_zero, List.map_nil, List.append_nil]; exact HP.out⟩
        case round =>
          clear HP x5
          obtain ⟨j, hj, rfl, hAk, gv, cv, rfl, hP⟩ := hrel
          have HAk := Lib.hid hAk
          have HP := Lib.hid hP
          clear hAk hP
          by_cases hjt : j < x.ks.length
          · have hjt' : (j : Int) < (x.ks.length : Nat) := by omega
            obtain ⟨gk, ok, ck, hke, -⟩ := (HKx.out.grow (Aft.trans HAo.out HAk.out)).at (by rw [zv_length]; omega)
            injection hke with e1 e2 e3
            subst e1
            clear e2 e3
            have kc := (HKx.out.grow (Aft.trans HAo.out HAk.out)).num_at hjt
            obtain ⟨jj, hjj, hji⟩ := HKd.out _ (List.getElem_mem (l := x.ks) hjt)
            have hkg : x.ks.getD j 0 = (jj : Int) := by rw [List.getD_eq_getElem?_getD, List.getElem?_eq_getElem hjt]; exact hjj
            rw [hkg] at kc
            have HRk := Lib.hid (HRS.out wr HAk.out jj hji)
            have HNe := Lib.hid (show go ≠ gv from fun e => by have h1 : wo.heap.size ≤ gv := (HP.out.lt rfl).1; have h2 := HGo.out; omega)
            have HLj := Lib.hid (show (hd ++ (x.ks.take j).map fun k => S.getD k.toNat []).length = nh + j from by rw [List.length_append, List.length_map, List.length_take, HNl.out, Nat.min_eq_left (Nat.le_of_lt hjt)])
            have HLt := Lib.hid (show (hd ++ (x.ks.take j).map fun k => S.getD k.toNat []).length ≤ 1000 from by have := HPl5.out; rw [HLj.out]; omega)
            have HTk := Lib.hid (take_map (f := fun k : Int => S.getD k.toNat []) (xs := x.ks) (j := j) hjt)
            have HKg := Lib.hid hkg
            have hjn : (jj : Int) < (n : Nat) := by omega
            have hk3 := HK3.out
            have hal := fun (wx : World) (g n : Nat) => run_sliceAt_keyN wx g n
            clear hjj hkg
            go_wp2_with (first | (refine wpList_dstT 90 rfl ?_; refine wpList_bs1 (by kernel_rfl) 71 _ rfl _ rfl (.cells #[.slice (some ⟨go, jj * 32, none⟩) 32 32] 44) (run_sl1 _ _ _) ?_; intro wl aa gg zz; have HAl := Lib.hid aa; have HGl := Lib.hid gg.out; clear aa gg zz) | (refine wpList_pushP rfl (.tmp 85) (.tmp 90) rfl wo (.slice (some ⟨gv, 0, none⟩) (nh + j) cv) (hd ++ (x.ks.take j).map fun k => S.getD k.toNat []) rfl (HP.out.aft HAl.out) wr.heap.size (.slice (some ⟨go, jj * 32, none⟩) 32 32) (S.getD jj []) rfl HGl.out (HRk.out.grow HAl.out) (fun g hg e => by cases hg; cases e; exact HNe.out rfl) (Aft.trans HAk.out HAl.out) HLt.out ?_; intro gv2 cv2 wn2 hA2 hP2 _; have HA2 := Lib.hid hA2; have HP2 := hP2; clear hA2 hP2))
            go_roundw
            case rel =>
              refine ⟨j + 1, by omega, by go_num, HA2.out, gv2, cv2, ?_, ?_⟩
              · rw [HNl.out, Nat.add_assoc]
              · rw [← Nat.add_assoc, ← HLj.out, HTk.out, ← List.append_assoc]
                have := HP2.out
                rw [HKg.out, Int.toNat_natCast]
                exact this
            case measure => simp [intOf]; omega
          · obtain rfl : j = x.ks.length := by omega
            have hjt' : ¬ ((x.ks.length : Nat) : Int) < (x.ks.length : Nat) := by omega
            have HP2 := Lib.hid (show OwnP wr wo.heap.size (.slice (some ⟨gv, 0, none⟩) (nh + x.ks.length) cv) (partsN nb4 N ids ps S i) by
              have := HP.out
              rw [List.take_length] at this
              rw [HPt.out]
              exact this)
            clear HP
            go_wp2_with fail
            refine (HTx.out _ _ _ HP2.out.all (Nat.le_trans HTl.out (by decide))).mono ?_
            rintro e wt ⟨ta, tc, rfl, hto, ht⟩
            rw [HTe.out]
            have HTw := Lib.hid hto
            have HTo := Lib.hid (Rd.of_own hto)
            have HAt := Lib.hid (Aft.trans HAk.out ht)
            have HTb := Lib.hid (textB_le HLen.out)
            clear hto ht
            generalize (bv (textB [] (partsN nb4 N ids ps S i))).length = nt at *
            go_wp2_with (first | (refine wpList_dstT 104 rfl ?_; refine wpList_bs1 (by kernel_rfl) 71 _ rfl _ rfl (.cells #[.slice ta nt tc] 44) (run_sl1 _ _ _) ?_; intro wl aa gg zz; have HAl := Lib.hid aa; have HGl := Lib.hid gg.out; clear aa gg zz))
            refine (HSm.out _ _ _ (Aft.trans (Aft.trans HA2.out HAo.out) (Aft.trans HAt.out HAl.out)) (OwnP.one HGl.out (Nat.zero_le _) (HTo.out.grow HAl.out) (fun e => absurd (own_lt HTw.out e).2 (Nat.lt_irrefl _))).all (by have := HTb.out; have := HTl.out; omega)).mono ?_
            rintro e wz0 ⟨rfl, hz⟩
            have HAz := Lib.hid (Aft.trans (Aft.trans HAt.out HAl.out) hz)
            have HOm := Lib.hid (HO.out.aft HAz.out)
            clear hz
            go_wp2_with (first | (refine wpList_store_keyAt rfl (.tmp 106) (.tmp 105) rfl w2.heap.size go n n (S ++ List.replicate (n - i) kz32) i (by rw [List.length_append, HSl.out, List.length_replicate]; omega) (hK (partsN nb4 N ids ps S i)) (hK_length _) HOm.out rfl rfl ?_; intro wz k1 k2; have HO2 := k1; have HF2 := k2; clear k1 k2))
            go_roundw
            case rel =>
              refine ⟨i + 1, by omega, by go_num, aft_frK (Aft.trans HAo.out HAz.out) HOm.out (Nat.le_refl _) HF2.out, ?_⟩
              rw [← HSs.out]
              exact HO2.out
            case measure => simp [intOf]; omega
    · obtain rfl : i = n := by omega
      have hlt' : ¬ ((i : Nat) : Int) < (i : Nat) := by omega
      rw [Nat.sub_self, List.replicate_zero, List.append_nil] at HO
      go_wp2_with fail
      refine bodyPost_ret (results_tmp2 rfl _ _ _) rfl ?_
      exact ⟨_, by rw [HE.out]; rfl, by rw [HSt.out]; exact HO.out.mono (Below.size HA2.out), Aft.trans HA2.out HAo.out⟩
end Go.Proofs.YtdbhlajajdlmfaaDoor
