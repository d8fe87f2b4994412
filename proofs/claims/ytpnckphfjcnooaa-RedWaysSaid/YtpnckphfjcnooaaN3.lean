/- red.nodes: what puts a node above others. -/
import Derived.Test.YtpnckphfjcnooaaN2
namespace Go.Proofs.Ytpnckphfjcnooaa
open Go Go.RowKit
set_option linter.unusedSimpArgs false
def kz (ks : List Nat) : List Int := ks.map fun (k : Nat) => (k : Int)
theorem kz_length (ks : List Nat) : (kz ks).length = ks.length := List.length_map ..
theorem kz_at (ks : List Nat) (i : Nat) : (kz ks).getD i 0 = ((ks.getD i 0 : Nat) : Int) := by
  simp only [kz, List.getD_eq_getElem?_getD, List.getElem?_map]
  cases ks[i]? <;> rfl
def upAll (ps : List (Nd × Value)) (ks : List Nat) (n : Int) : List (Nd × Value) := ks.foldl (fun q k => upS q k n) ps
theorem upAll_length (n : Int) : ∀ (ks : List Nat) (ps : List (Nd × Value)), (upAll ps ks n).length = ps.length
  | [], _ => rfl
  | k :: ks, ps => (upAll_length n ks (upS ps k n)).trans (upS_length ps k n)
theorem upAll_snoc (ps : List (Nd × Value)) (n : Int) (ks : List Nat) (j : Nat) (hj : j < ks.length) : upAll ps (ks.take (j + 1)) n = upS (upAll ps (ks.take j) n) (ks.getD j 0) n := by
  rw [List.take_add_one, List.getD_eq_getElem?_getD, List.getElem?_eq_getElem hj]
  unfold upAll
  rw [List.foldl_append]
  rfl
def nodeOf (x : Nd) (ps : List (Nd × Value)) (ks : List Nat) : Nd := ⟨x.lv, x.ix, x.rd, (ps.getD (ks.getD 0 0) ndP).1.fr, (ps.getD (ks.getD (ks.length - 1) 0) ndP).1.tt, kz ks, -1⟩
def abvP (x : Nd) (kv : Value) (ps : List (Nd × Value)) (ks : List Nat) : List (Nd × Value) := upAll ps ks ps.length ++ [(nodeOf x ps ks, kv)]
theorem abvP_length (x : Nd) (kv : Value) (ps : List (Nd × Value)) (ks : List Nat) : (abvP x kv ps ks).length = ps.length + 1 := by simp [abvP, upAll_length]
def AbvSays (x : Nd) (kv : Value) (ks : List Nat) (ba base : Nat) (va : Value) (ps : List (Nd × Value)) (w : World) (e : Ending) (w' : World) : Prop :=
  ∃ va' : Value, e = .returned (.int .i64 (ps.length : Nat)) ∧ w'.heap[ba]? = some (.cells [va'].toArray 37 (0, 0)) ∧ OwnN w' base va' (abvP x kv ps ks) ∧ Fr (fun b => b = ba ∨ va.ownBlock = some b) w w' ∧ ∀ g, va'.ownBlock = some g → va.ownBlock = some g ∨ w.heap.size ≤ g
theorem OwnN.atA {w : World} {base : Nat} {v : Value} {ps : List (Nd × Value)} (h : OwnN w base v ps) {i : Nat} (hi : i < ps.length) :
    ∃ g cap, v = .slice (some ⟨g, 0, none⟩) ps.length cap ∧ g < w.heap.size ∧ ∀ wx, Aft w wx → ∀ (j : Nat) (u : Value), (ndR (ps.getD i ndP).1 (ps.getD i ndP).2)[j]? = some u → wx.cell? ⟨g, i * 7 + j, none⟩ = some u := by
  obtain ⟨g, cap, rfl, hc⟩ := h.at hi
  have hlt := (h.lt g rfl).2
  exact ⟨g, cap, rfl, hlt, fun wx hx j u hu => (Below.cell hx (p := ⟨g, i * 7 + j, none⟩) hlt).trans (hc j u hu)⟩
/-- A block of another type was turned. -/
theorem OwnN.stored {w w' : World} {base g t : Nat} {v : Value} {ps : List (Nd × Value)} {cs : Array Value} {fr : Nat × Nat} (h : OwnN w base v ps) (hg : w.heap[g]? = some (.cells cs t fr)) (h1 : t ≠ 41) (h2 : t ≠ 3) (hb : ∀ k, k ≠ g → w'.heap[k]? = w.heap[k]?) : OwnN w' base v ps :=
  ⟨h.row.keep fun k hk => hb k (h.row.off hg h1 hk), fun p hp => (h.own p hp).keep fun k hk => hb k (own_off (h.own p hp) hg h2 hk)⟩
theorem fr_store2 {w w' : World} {g : Nat} (hb : ∀ k, k ≠ g → w'.heap[k]? = w.heap[k]?) (h3 : ∀ k w0, k ≤ g → Below k w0 w → Below k w0 w') : Fr (fun b => b = g) w w' :=
  have h := h3 g w (Nat.le_refl _) (Below.refl _ _)
  ⟨h.os, h.tape, h.output, h.size, fun k _ hn => hb k hn⟩
theorem wrapM (m : Nat) (h : m ≤ 1000000) : wrap64 (m : Int) = (m : Int) := wrap64_mid (by omega) (by omega)
theorem wrapS (m : Nat) (h : m ≤ 1000000) : wrap64 ((m : Int) + 1) = ((m + 1 : Nat) : Int) := by
  rw [wrap64_mid (by omega) (by omega)]
  rfl
theorem lt_left {j m : Nat} (h : j < m + 1) : m - j < m + 1 - j := by omega
theorem OwnI.atA {w : World} {base : Nat} {v : Value} {xs : List Int} (h : OwnI w base v xs) (hx : 0 < xs.length) :
    ∃ g cap, v = .slice (some ⟨g, 0, none⟩) xs.length cap ∧ g < w.heap.size ∧ ∀ wx, Aft w wx → ∀ i, i < xs.length → wx.cell? ⟨g, i, none⟩ = some (.int .i64 (xs.getD i 0)) := by
  have hr := h.rd
  rcases h.2 with ⟨rfl, hn⟩ | ⟨g, cap, cur, rfl, -⟩
  · omega
  · refine ⟨g, cap, rfl, (h.lt rfl).2, fun wx hw i hi => ?_⟩
    have := Rd.num_at (h.aft hw).rd hi
    rwa [Nat.zero_add] at this
set_option maxRecDepth 100000 in
set_option maxHeartbeats 1000000 in
theorem above_any (x : Nd) (kv : Value) (ks : List Nat) (m : Nat) (hm : ks.length = m + 1) (ba base : Nat) (va : Value) (ps : List (Nd × Value)) (w : World)
    (hba : w.heap[ba]? = some (.cells [va].toArray 37 (0, 0))) (hO : OwnN w base va ps) (hK : OwnI w base kv (kz ks)) (hks : ∀ k ∈ ks, k < ps.length) (hp : ps.length ≤ 100000) (hb : base ≤ w.heap.size) (hm3 : m ≤ 1000) :
    Calls Try.prog 74 #[.agg (ndR x (.slice none 0 0)).toArray, kv, .pointer (some ⟨ba, 0, none⟩)] w (AbvSays x kv ks ba base va ps w) := by
  have HB := Lib.hid hba
  have HO := Lib.hid hO
  have HK := Lib.hid hK
  have HKs := Lib.hid hks
  have HP := Lib.hid hp
  have HBs := Lib.hid hb
  have HM := Lib.hid hm
  have HM3 := Lib.hid hm3
  have hlast : ks.getD m 0 < ps.length := hks _ (by rw [List.getD_eq_getElem?_getD, List.getElem?_eq_getElem (by omega)]; exact List.getElem_mem _)
  have hfirst : ks.getD 0 0 < ps.length := hks _ (by rw [List.getD_eq_getElem?_getD, List.getElem?_eq_getElem (by omega)]; exact List.getElem_mem _)
  obtain ⟨gk, ck, hkv, -, hkc⟩ := hK.atA (by rw [kz_length]; omega)
  obtain ⟨g, cp, hva, hgl, hc0⟩ := hO.atA hfirst
  obtain ⟨g', cp', hva', -, hc1⟩ := hO.atA hlast
  rw [hva] at hva'
  cases hva'
  have hks0 := fun wx hw => hkc wx hw 0 (by rw [kz_length]; omega)
  have hksm := fun wx hw => hkc wx hw m (by rw [kz_length]; omega)
  rw [kz_length, hm] at hkv
  simp only [kz_at] at hks0 hksm
  subst hkv hva
  have HH0 := Lib.hid (fun wx hw => hc0 wx hw 3 _ rfl)
  have HHm := Lib.hid (fun wx hw => hc1 wx hw 4 _ rfl)
  have HKc := Lib.hid hks0
  have HKm := Lib.hid hksm
  have HF := Lib.hid hfirst
  have HGl := Lib.hid hgl
  have HLt := Lib.hid hlast
  have HL := Lib.hid (Led.start w)
  clear hba hO hK hks hp hb hm hlast hfirst hkc hc0 hc1 hks0 hksm hgl hm3
  go_enter Try.func74, Try.ntmps74
  go_wp2_with (first | (refine wpList_boxO rfl 41 (.tmp 0) rfl (.agg (ndR x (.slice none 0 0)).toArray) rfl (.cells (ndR x (.slice none 0 0)).toArray 41) (box_nd _) ?_; intro w' aa gg zz; replace HL := Lib.hid (HL.out.alloc aa gg.out); clear aa gg zz; try simp only [List.nil_append, List.cons_append, List.set_cons_zero, List.set_cons_succ] at HL))
  have hk0 : ((ks.getD 0 0 : Nat) : Int) < (ps.length : Nat) := by have := HF.out; omega
  have hkm : ((ks.getD m 0 : Nat) : Int) < (ps.length : Nat) := by have := HLt.out; omega
  have hw1 : wrap64 (m : Int) = (m : Int) := wrapM m (by have := HM3.out; omega)
  have f0 := fun u : Later w.heap.size w => cell_part (n := 0) (u := .slice (some ⟨g, 0, none⟩) ps.length cp) (Aft.get u.h HB.out) rfl
  have f1 := fun u : Later w.heap.size w => HKc.out u.w u.h
  have f2 := fun u : Later w.heap.size w => HKm.out u.w u.h
  have f3 := fun u : Later w.heap.size w => HH0.out u.w u.h
  have f4 := fun u : Later w.heap.size w => HHm.out u.w u.h
  generalize hef : (ps.getD (ks.getD 0 0) ndP).1.fr = ef at *
  generalize het : (ps.getD (ks.getD m 0) ndP).1.tt = et at *
  generalize hek0 : ks.getD 0 0 = k0 at *
  generalize hekm : ks.getD m 0 = km at *
  have HEf := Lib.hid hef
  have HEt := Lib.hid het
  have HE0 := Lib.hid hek0
  have HEm := Lib.hid hekm
  clear hek0 hekm hef het
  refine wp_region_lex (fun wz => ∃ u : Later w.heap.size w, wz = u.w) (fun i => ([19, 21, 23, 25] : List Nat).contains i) 26 (by kernel_rfl) (by kernel_rfl) ⟨⟨w'.drew, Below.drew HL.out.aft⟩, rfl⟩ ?_
  change wpLx _ _ _ _ _ _ _ _ _ w'.drew
  replace HL := Lib.hid (HL.out.call (show Aft w' w'.drew from (Below.refl _ _).drew))
  generalize w'.drew = wd at *
  try simp only [Act.put, List.setIfInBounds_toArray, List.set_cons_succ, List.set_cons_zero]
  repeat (first | (refine lx_skipT (by go_big_quiet_skip; exact wpQuiet_nil trivial) (by kernel_rfl) ?_; simp only [Act.put, List.setIfInBounds_toArray, List.set_cons_succ, List.set_cons_zero]) | (refine lx_quietT rfl (by go_big_quiet_want; exact quiet_false (by assumption)) (by kernel_rfl) rfl ?_; intro Kx hKx; go_big_quiet_op; go_big_quiet_on))
  refine lx_eff rfl (by kernel_rfl) ?_
  intro Kx hKx
  refine wp_of_list (ops := #[]) (wpList_store_cellJ rfl 22 (.tmp 26) (.tmp 8) rfl _ 5 _ rfl rfl _ _ (Nat.lt_of_lt_of_eq (show 5 < 7 by decide) rfl) (HL.out.get 0 rfl) (by kernel_rfl) rfl rfl ?_)
  intro w1 b1 b2 b3
  replace HL := Lib.hid (HL.out.store 0 rfl b1 b2 b3)
  clear b1 b2 b3
  try simp only [List.nil_append, List.cons_append, List.set_cons_zero, List.set_cons_succ] at HL
  refine ⟨rfl, hKx _ _ ⟨Later.on HL.out.aft, ?_⟩⟩
  clear hKx
  simp only [Act.put]
  repeat (first | (refine lx_skipT (by go_big_quiet_skip; exact wpQuiet_nil trivial) (by kernel_rfl) ?_; simp only [Act.put, List.setIfInBounds_toArray, List.set_cons_succ, List.set_cons_zero]) | (refine lx_quietT rfl (by go_big_quiet_want; exact quiet_false (by assumption)) (by kernel_rfl) rfl ?_; intro Kx hKx; go_big_quiet_op; go_big_quiet_on))
  refine lx_eff rfl (by kernel_rfl) ?_
  intro Kx hKx
  refine wp_of_list (ops := #[]) (wpList_store_cellJ rfl 3 (.tmp 27) (.tmp 15) rfl _ 3 _ rfl rfl _ _ (Nat.lt_of_lt_of_eq (show 3 < 7 by decide) rfl) (HL.out.get 0 rfl) (by kernel_rfl) rfl rfl ?_)
  intro w2 b1 b2 b3
  replace HL := Lib.hid (HL.out.store 0 rfl b1 b2 b3)
  clear b1 b2 b3
  try simp only [List.nil_append, List.cons_append, List.set_cons_zero, List.set_cons_succ] at HL
  refine ⟨rfl, hKx _ _ ⟨Later.on HL.out.aft, ?_⟩⟩
  clear hKx
  simp only [Act.put]
  repeat (first | (refine lx_skipT (by go_big_quiet_skip; exact wpQuiet_nil trivial) (by kernel_rfl) ?_; simp only [Act.put, List.setIfInBounds_toArray, List.set_cons_succ, List.set_cons_zero]) | (refine lx_quietT rfl (by go_big_quiet_want; exact quiet_false (by assumption)) (by kernel_rfl) rfl ?_; intro Kx hKx; go_big_quiet_op; go_big_quiet_on))
  refine lx_eff rfl (by kernel_rfl) ?_
  intro Kx hKx
  refine wp_of_list (ops := #[]) (wpList_store_cellJ rfl 3 (.tmp 28) (.tmp 25) rfl _ 4 _ rfl rfl _ _ (Nat.lt_of_lt_of_eq (show 4 < 7 by decide) rfl) (HL.out.get 0 rfl) (by kernel_rfl) rfl rfl ?_)
  intro w3 b1 b2 b3
  replace HL := Lib.hid (HL.out.store 0 rfl b1 b2 b3)
  clear b1 b2 b3
  try simp only [List.nil_append, List.cons_append, List.set_cons_zero, List.set_cons_succ] at HL
  refine ⟨rfl, hKx _ _ ⟨Later.on HL.out.aft, ?_⟩⟩
  clear hKx
  simp only [Act.put]
  repeat (first | (refine lx_skipT (by go_big_quiet_skip; exact wpQuiet_nil trivial) (by kernel_rfl) ?_; simp only [Act.put, List.setIfInBounds_toArray, List.set_cons_succ, List.set_cons_zero]) | (refine lx_quietT rfl (by go_big_quiet_want; exact quiet_false (by assumption)) (by kernel_rfl) rfl ?_; intro Kx hKx; go_big_quiet_op; go_big_quiet_on))
  refine lx_eff rfl (by kernel_rfl) ?_
  intro Kx hKx
  refine wp_of_list (ops := #[]) (wpList_store_cellJ rfl 3 (.tmp 29) (.const (.int .i64 (-1))) rfl _ 6 _ rfl rfl _ _ (Nat.lt_of_lt_of_eq (show 6 < 7 by decide) rfl) (HL.out.get 0 rfl) (by kernel_rfl) rfl rfl ?_)
  intro wA b1 b2 b3
  replace HL := Lib.hid (HL.out.store 0 rfl b1 b2 b3)
  clear b1 b2 b3
  try simp only [List.nil_append, List.cons_append, List.set_cons_zero, List.set_cons_succ] at HL
  refine ⟨rfl, hKx _ _ ⟨Later.on HL.out.aft, ?_⟩⟩
  clear hKx
  simp only [Act.put]
  repeat (first | (refine lx_skipT (by go_big_quiet_skip; exact wpQuiet_nil trivial) (by kernel_rfl) ?_; simp only [Act.put, List.setIfInBounds_toArray, List.set_cons_succ, List.set_cons_zero]) | (refine lx_quietT rfl (by go_big_quiet_want; exact quiet_false (by assumption)) (by kernel_rfl) rfl ?_; intro Kx hKx; go_big_quiet_op; go_big_quiet_on))
  refine lx_done ?_
  clear f0 f1 f2 f3 f4
  have HX := Lib.hid (show wA.heap[w.heap.size]? = some (.cells (ndR ⟨x.lv, x.ix, x.rd, ef, et, kz ks, -1⟩ (.slice (some ⟨gk, 0, none⟩) (m + 1) ck)).toArray 41 (0, 0)) from HL.out.get 0 rfl)
  have HA := Lib.hid HL.out.aft
  have HBA := Lib.hid (Aft.get HA.out HB.out)
  replace HO := Lib.hid (HO.out.aft HA.out)
  replace HK := Lib.hid (HK.out.aft HA.out)
  have HN1 := Lib.hid (show g ≠ ba from HO.out.row.off HBA.out (by decide) rfl)
  have HN2 := Lib.hid (show g ≠ w.heap.size by have := HGl.out; omega)
  clear HL HB HH0 HHm HKc HKm
  go_wp2_with fail
  rw [hw1]
  clear hw1
  go_loopw [32] (fun v32 wr => ∃ j : Nat, j ≤ m + 1 ∧ v32 = .int .i64 (j : Int) ∧ OwnN wr base (.slice (some ⟨g, 0, none⟩) ps.length cp) (upAll ps (ks.take j) ps.length) ∧ Fr (fun b => (Value.slice (some ⟨g, 0, none⟩) ps.length cp).ownBlock = some b) wA wr) (fun v _ => m + 1 - (intOf v).toNat)
  case atStart => exact ⟨0, by omega, rfl, HO.out, Fr.refl _ _⟩
  case round =>
    obtain ⟨j, hj, rfl, hOr, hFr⟩ := hrel
    have HOr := Lib.hid hOr
    have HFr := Lib.hid hFr
    have HBr := Lib.hid ((hFr.block ba (heap_lt HBA.out) fun e => HN1.out (Option.some.inj e)).trans HBA.out)
    have HXr := Lib.hid ((hFr.block w.heap.size (heap_lt HX.out) fun e => HN2.out (Option.some.inj e)).trans HX.out)
    have HKr := Lib.hid (HK.out.fr hFr fun q hq e => own_ne2 HO.out.row.2 HK.out (by decide) hq e)
    have hcb := cell_part (n := 0) (u := .slice (some ⟨g, 0, none⟩) ps.length cp) HBr.out rfl
    clear hOr hFr
    by_cases hlt : j < m + 1
    · have hlt' : (j : Int) < ((m + 1 : Nat) : Int) := by omega
      have hlt2 : (j : Int) < (m : Int) + 1 := by omega
      have hm3 := HM3.out
      have hck := Rd.num_at HKr.out.rd (i := j) (by rw [kz_length, HM.out]; exact hlt)
      rw [Nat.zero_add, kz_at] at hck
      have hkj : ks.getD j 0 < ps.length := HKs.out _ (by rw [List.getD_eq_getElem?_getD, List.getElem?_eq_getElem (by rw [HM.out]; exact hlt)]; exact List.getElem_mem _)
      have HSn := Lib.hid (upAll_snoc ps ps.length ks j (by rw [HM.out]; exact hlt))
      have HLn := Lib.hid (upAll_length ps.length (ks.take j) ps)
      generalize ks.getD j 0 = kj at *
      have hkj' : (kj : Int) < (ps.length : Nat) := by omega
      generalize upAll ps (ks.take j) ps.length = qs at *
      go_wp2_with (first | (refine wpList_store_up rfl (.tmp 41) (.tmp 39) rfl base g ps.length cp qs kj (by rw [HLn.out]; exact hkj) (ps.length : Nat) HOr.out rfl rfl ?_; intro w9 q1 q2; have HQ := Lib.hid q1.out; have HQf := Lib.hid q2.out; clear q1 q2 hcb hck))
      go_roundw
      case rel => exact ⟨j + 1, by omega, by go_num, by rw [HSn.out]; exact HQ.out, HFr.out.trans HQf.out⟩
      case measure => simp [intOf]; omega
    · obtain rfl : j = m + 1 := by omega
      have hlt' : ¬ ((m + 1 : Nat) : Int) < ((m + 1 : Nat) : Int) := by omega
      have hlt2 : ¬ (m : Int) + 1 < (m : Int) + 1 := by omega
      rw [List.take_of_length_le (by rw [HM.out]; exact Nat.le_refl _)] at HOr
      have HLn := Lib.hid (upAll_length ps.length ks ps)
      have HQs := Lib.hid (show abvP x (.slice (some ⟨gk, 0, none⟩) (m + 1) ck) ps ks = upAll ps ks ps.length ++ [(⟨x.lv, x.ix, x.rd, ef, et, kz ks, -1⟩, .slice (some ⟨gk, 0, none⟩) (m + 1) ck)] by
        unfold abvP nodeOf
        rw [HM.out, Nat.add_sub_cancel, HE0.out, HEm.out, HEf.out, HEt.out])
      generalize upAll ps ks ps.length = qs at *
      have hw2 : wrap64 (qs.length : Nat) = (qs.length : Nat) := wrapM _ (by rw [HLn.out]; exact Nat.le_trans HP.out (by decide))
      go_wp2_with (first | (refine wpList_load_rowG (by kernel_rfl) 41 (.tmp 3) rfl _ rfl _ _ _ _ HXr.out Try.underlying41 rfl (nd_info _ _) ?_) | (refine wpList_ndSlice (by kernel_rfl) (.tmp 44) ⟨x.lv, x.ix, x.rd, ef, et, kz ks, -1⟩ (.slice (some ⟨gk, 0, none⟩) (m + 1) ck) rfl rfl ?_; intro wS aS gS; have HOs := Lib.hid (HOr.out.aft aS); have HBs2 := Lib.hid (Aft.get aS HBr.out); have HKs2 := Lib.hid (HKr.out.aft aS); have HSz := Lib.hid (show wr.heap.size ≤ wS.heap.size from Below.size aS); have HFs := Lib.hid (HFr.out.trans (Fr.of_below aS)); have hgx := heap_lt HXr.out; clear aS) | (refine wpList_snocN rfl (.tmp 43) (.tmp 45) rfl base _ qs rfl HOs.out wr.heap.size ⟨x.lv, x.ix, x.rd, ef, et, kz ks, -1⟩ (.slice (some ⟨gk, 0, none⟩) (m + 1) ck) rfl gS.out HKs2.out (by have := HLn.out; have := HP.out; omega) (by have := HBs.out; have := HSz.out; omega) ?_; intro g2 c2 wT t1 t2 t3; have HBt := Lib.hid ((t2.out.block ba (heap_lt HBs2.out) fun e => HN1.out (Option.some.inj e)).trans HBs2.out); clear hcb) | (refine wpList_store_cellJ rfl 37 (.tmp 2) (.tmp 46) rfl ba 0 (.slice (some ⟨g2, 0, none⟩) (qs.length + 1) c2) rfl rfl _ [.slice (some ⟨g, 0, none⟩) ps.length cp] (by simp) HBt.out (by kernel_rfl) rfl rfl ?_; intro wU b1 b2 b3; have hb3 := cell_part (n := 0) b1.out rfl; have HB1 := b1; have HB2 := b2; have HB3 := Lib.hid b3; clear b1 b2 b3))
      go_ret
      have HFb := Lib.hid (fr_store2 HB2.out HB3.out)
      refine ⟨_, ?_, HB1.out, ?_, ?_, ?_⟩
      · rw [HLn.out]
        rfl
      · rw [HQs.out]
        exact t1.out.stored HBt.out (by decide) (by decide) HB2.out
      · exact (((Fr.of_below HA.out).trans (HFs.out.mono fun k _ e => .inr e)).trans (t2.out.mono fun k _ e => .inr e)).trans (HFb.out.mono fun k _ e => .inl e)
      · intro q hq
        cases hq
        rcases t3.out with e | e
        · exact .inl e
        · refine .inr ?_
          have h1 := Below.size HA.out
          have h2 := HFs.out.size
          exact Nat.le_trans h1 (Nat.le_trans h2 e)
end Go.Proofs.Ytpnckphfjcnooaa
