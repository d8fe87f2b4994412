/- coterieref11.join. -/
import Derived.Test.YtejdkmfbncedkaaB4
namespace Go.Proofs.Ytejdkmfbncedkaa
open Go Go.RowKit
set_option linter.unusedSimpArgs false
theorem upS_app (ps qs : List (Nd × Value)) (k : Nat) (n : Int) (hk : k < ps.length) : upS (ps ++ qs) k n = upS ps k n ++ qs := by
  unfold upS
  have e : (ps ++ qs).getD k ndP = ps.getD k ndP := by rw [List.getD_eq_getElem?_getD, List.getElem?_append_left hk, ← List.getD_eq_getElem?_getD]
  rw [e, List.set_append_left _ _ hk]
theorem upAll_app (n : Int) (qs : List (Nd × Value)) : ∀ (ks : List Nat) (ps : List (Nd × Value)), (∀ k ∈ ks, k < ps.length) → upAll (ps ++ qs) ks n = upAll ps ks n ++ qs
  | [], _, _ => rfl
  | k :: ks, ps, h => by
    show upAll (upS (ps ++ qs) k n) ks n = upAll (upS ps k n) ks n ++ qs
    rw [upS_app ps qs k n (h k (by simp))]
    exact upAll_app n qs ks (upS ps k n) fun q hq => by rw [upS_length]; exact h q (by simp [hq])
def JoinSays (x : Nd) (kv : Value) (ks : List Nat) (base : Nat) (va : Value) (ps : List (Nd × Value)) (w : World) (e : Ending) (w' : World) : Prop :=
  ∃ va' : Value, e = .returned (.tuple #[va', .int .i64 (ps.length : Nat)]) ∧ OwnN w' base va' (abvP x kv ps ks) ∧ Fr (fun b => va.ownBlock = some b) w w' ∧ ∀ g, va'.ownBlock = some g → va.ownBlock = some g ∨ w.heap.size ≤ g
set_option maxRecDepth 100000 in
set_option maxHeartbeats 1000000 in
theorem join_any (x : Nd) (kv : Value) (ks : List Nat) (m : Nat) (hm : ks.length = m + 1) (base : Nat) (va : Value) (ps : List (Nd × Value)) (w : World)
    (hO : OwnN w base va ps) (hK : OwnI w base kv (kz ks)) (hks : ∀ k ∈ ks, k < ps.length) (hp : ps.length ≤ 100000) (hb : base ≤ w.heap.size) (hm3 : m ≤ 1000) :
    Calls Try.prog 117 #[va, .agg (ndR x (.slice none 0 0)).toArray, kv] w (JoinSays x kv ks base va ps w) := by
  have HO := Lib.hid hO
  have HK := Lib.hid hK
  have HKs := Lib.hid hks
  have HP := Lib.hid hp
  have HBs := Lib.hid hb
  have HM := Lib.hid hm
  have HM3 := Lib.hid hm3
  have hlast : ks.getD m 0 < ps.length := hks _ (by rw [List.getD_eq_getElem?_getD, List.getElem?_eq_getElem (by omega)]; exact List.getElem_mem _)
  have hfirst : ks.getD 0 0 < ps.length := hks _ (by rw [List.getD_eq_getElem?_getD, List.getElem?_eq_getElem (by omega)]; exact List.getElem_mem _)
  obtain ⟨gk, ck, hkv, -, hkc⟩ := hK.atA (by rw [kz_length]; omega)
  obtain ⟨g, cp, hva, hgl, hc0⟩ := hO.atA hfirst
  obtain ⟨g', cp', hva', -, hc1⟩ := hO.atA hlast
  rw [hva] at hva'
  cases hva'
  have hks0 := fun wx hw => hkc wx hw 0 (by rw [kz_length]; omega)
  have hksm := fun wx hw => hkc wx hw m (by rw [kz_length]; omega)
  rw [kz_length, hm] at hkv
  simp only [kz_at] at hks0 hksm
  subst hkv hva
  have HH0 := Lib.hid (fun wx hw => hc0 wx hw 3 _ rfl)
  have HHm := Lib.hid (fun wx hw => hc1 wx hw 4 _ rfl)
  have HKc := Lib.hid hks0
  have HKm := Lib.hid hksm
  have HF := Lib.hid hfirst
  have HGl := Lib.hid hgl
  have HLt := Lib.hid hlast
  have HL := Lib.hid (Led.start w)
  clear hO hK hks hp hb hm hlast hfirst hkc hc0 hc1 hks0 hksm hgl hm3
  have hk0 : ((ks.getD 0 0 : Nat) : Int) < (ps.length : Nat) := by have := HF.out; omega
  have hkm : ((ks.getD m 0 : Nat) : Int) < (ps.length : Nat) := by have := HLt.out; omega
  have hm6 := HM3.out
  generalize hef : (ps.getD (ks.getD 0 0) ndP).1.fr = ef at *
  generalize het : (ps.getD (ks.getD m 0) ndP).1.tt = et at *
  generalize hek0 : ks.getD 0 0 = k0 at *
  generalize hekm : ks.getD m 0 = km at *
  have HEf := Lib.hid hef
  have HEt := Lib.hid het
  have HE0 := Lib.hid hek0
  have HEm := Lib.hid hekm
  clear hek0 hekm hef het
  go_enter Try.func117, Try.ntmps117
  go_wp2_with (first | (refine wpList_boxO rfl 38 (.tmp 1) rfl (.agg (ndR x (.slice none 0 0)).toArray) rfl (.cells (ndR x (.slice none 0 0)).toArray 38) (box_nd _) ?_; intro w' aa gg zz; replace HL := Lib.hid (HL.out.alloc aa gg.out); clear aa gg zz; try simp only [List.nil_append, List.cons_append, List.set_cons_zero, List.set_cons_succ] at HL) | (refine wpList_store_cellJ rfl 22 (.tmp 12) (.tmp 11) rfl _ 5 _ rfl rfl _ _ (Nat.lt_of_lt_of_eq (show 5 < 7 by decide) rfl) (HL.out.get 0 rfl) (by kernel_rfl) rfl rfl ?_; intro w1 b1 b2 b3; replace HL := Lib.hid (HL.out.store 0 rfl b1 b2 b3); clear b1 b2 b3; simp only [List.set_cons_zero] at HL; have q1 := HKc.out _ HL.out.aft; have q2 := HH0.out _ HL.out.aft) | (refine wpList_store_cellJ rfl 3 (.tmp 20) (.tmp 19) rfl _ 3 _ rfl rfl _ _ (Nat.lt_of_lt_of_eq (show 3 < 7 by decide) rfl) (HL.out.get 0 rfl) (by kernel_rfl) rfl rfl ?_; intro w2 b1 b2 b3; replace HL := Lib.hid (HL.out.store 0 rfl b1 b2 b3); clear b1 b2 b3 q1 q2; simp only [List.set_cons_zero] at HL; have q1 := HKm.out _ HL.out.aft; have q2 := HHm.out _ HL.out.aft) | (refine wpList_store_cellJ rfl 3 (.tmp 31) (.tmp 30) rfl _ 4 _ rfl rfl _ _ (Nat.lt_of_lt_of_eq (show 4 < 7 by decide) rfl) (HL.out.get 0 rfl) (by kernel_rfl) rfl rfl ?_; intro w3 b1 b2 b3; replace HL := Lib.hid (HL.out.store 0 rfl b1 b2 b3); clear b1 b2 b3 q1 q2; simp only [List.set_cons_zero] at HL) | (refine wpList_store_cellJ rfl 3 (.tmp 32) (.const (.int .i64 (-1))) rfl _ 6 _ rfl rfl _ _ (Nat.lt_of_lt_of_eq (show 6 < 7 by decide) rfl) (HL.out.get 0 rfl) (by kernel_rfl) rfl rfl ?_; intro wA b1 b2 b3; replace HL := Lib.hid (HL.out.store 0 rfl b1 b2 b3); clear b1 b2 b3; simp only [List.set_cons_zero] at HL; have HX := Lib.hid (show wA.heap[w.heap.size]? = some (.cells (ndR ⟨x.lv, x.ix, x.rd, ef, et, kz ks, -1⟩ (.slice (some ⟨gk, 0, none⟩) (m + 1) ck)).toArray 38 (0, 0)) from HL.out.get 0 rfl); have HA := Lib.hid HL.out.aft; have HOA := Lib.hid (HO.out.aft HA.out); have HKA := Lib.hid (HK.out.aft HA.out)) | (refine wpList_load_rowG (by kernel_rfl) 38 (.tmp 4) rfl _ rfl _ _ _ _ HX.out Try.underlying38 rfl (nd_info _ _) ?_) | (refine wpList_ndSlice (by kernel_rfl) (.tmp 36) ⟨x.lv, x.ix, x.rd, ef, et, kz ks, -1⟩ (.slice (some ⟨gk, 0, none⟩) (m + 1) ck) rfl rfl ?_; intro wS aS gS; have HAS := Lib.hid (Aft.trans HA.out aS); have HOS := Lib.hid (HOA.out.aft aS); have HKS := Lib.hid (HKA.out.aft aS); clear aS) | (refine wpList_snocN rfl (.tmp 35) (.tmp 37) rfl base _ ps rfl HOS.out wA.heap.size ⟨x.lv, x.ix, x.rd, ef, et, kz ks, -1⟩ (.slice (some ⟨gk, 0, none⟩) (m + 1) ck) rfl gS.out HKS.out (by have := HP.out; omega) (by have h1 := HBs.out; have h2 := Below.size HAS.out; omega) ?_; intro g2 c2 wT t1 t2 t3; have HKT := Lib.hid (HKS.out.fr t2.out fun q hq e => own_ne2 HOS.out.row.2 HKS.out (by decide) hq e)))
  go_loopw [41] (fun v41 wr => ∃ j : Nat, j ≤ m + 1 ∧ v41 = .int .i64 (j : Int) ∧ OwnN wr base (.slice (some ⟨g2, 0, none⟩) (ps.length + 1) c2) (upAll (ps ++ [(⟨x.lv, x.ix, x.rd, ef, et, kz ks, -1⟩, .slice (some ⟨gk, 0, none⟩) (m + 1) ck)]) (ks.take j) ps.length) ∧ Fr (fun b => (Value.slice (some ⟨g2, 0, none⟩) (ps.length + 1) c2).ownBlock = some b) wT wr) (fun v _ => m + 1 - (intOf v).toNat)
  case atStart => exact ⟨0, by omega, rfl, t1.out, Fr.refl _ _⟩
  case round =>
    obtain ⟨j, hj, rfl, hOr, hFr⟩ := hrel
    have HOr := Lib.hid hOr
    have HFr := Lib.hid hFr
    have HKr := Lib.hid (HKT.out.fr hFr fun q hq e => own_ne2 t1.out.row.2 HKT.out (by decide) hq e)
    clear hOr hFr
    by_cases hlt : j < m + 1
    · have hlt' : (j : Int) < ((m + 1 : Nat) : Int) := by omega
      have hlt2 : (j : Int) < (m : Int) + 1 := by omega
      have hck := Rd.num_at HKr.out.rd (i := j) (by rw [kz_length, HM.out]; exact hlt)
      rw [Nat.zero_add, kz_at] at hck
      have hkj : ks.getD j 0 < ps.length := HKs.out _ (by rw [List.getD_eq_getElem?_getD, List.getElem?_eq_getElem (by rw [HM.out]; exact hlt)]; exact List.getElem_mem _)
      have HSn := Lib.hid (upAll_snoc (ps ++ [(⟨x.lv, x.ix, x.rd, ef, et, kz ks, -1⟩, .slice (some ⟨gk, 0, none⟩) (m + 1) ck)]) ps.length ks j (by rw [HM.out]; exact hlt))
      have HLn := Lib.hid ((upAll_length ps.length (ks.take j) (ps ++ [(⟨x.lv, x.ix, x.rd, ef, et, kz ks, -1⟩, .slice (some ⟨gk, 0, none⟩) (m + 1) ck)])).trans (List.length_append))
      generalize ks.getD j 0 = kj at *
      have hkj' : (kj : Int) < (ps.length : Int) + 1 := by omega
      generalize upAll (ps ++ [(⟨x.lv, x.ix, x.rd, ef, et, kz ks, -1⟩, .slice (some ⟨gk, 0, none⟩) (m + 1) ck)]) (ks.take j) ps.length = qs at *
      go_wp2_with (first | (refine wpList_store_up rfl (.tmp 49) (.tmp 47) rfl base g2 (ps.length + 1) c2 qs kj (by rw [HLn.out]; exact Nat.lt_succ_of_lt hkj) (ps.length : Nat) HOr.out rfl rfl ?_; intro w9 q1 q2; have HQ := Lib.hid q1.out; have HQf := Lib.hid q2.out; clear q1 q2 hck))
      go_roundw
      case rel => exact ⟨j + 1, by omega, by go_num, by rw [HSn.out]; exact HQ.out, HFr.out.trans HQf.out⟩
      case measure => simp [intOf]; omega
    · obtain rfl : j = m + 1 := by omega
      have hlt' : ¬ ((m + 1 : Nat) : Int) < ((m + 1 : Nat) : Int) := by omega
      have hlt2 : ¬ (m : Int) + 1 < (m : Int) + 1 := by omega
      have HQs := Lib.hid (show abvP x (.slice (some ⟨gk, 0, none⟩) (m + 1) ck) ps ks = upAll (ps ++ [(⟨x.lv, x.ix, x.rd, ef, et, kz ks, -1⟩, .slice (some ⟨gk, 0, none⟩) (m + 1) ck)]) (ks.take (m + 1)) ps.length by
        rw [List.take_of_length_le (by rw [HM.out]; exact Nat.le_refl _), upAll_app _ _ ks ps HKs.out]
        unfold abvP nodeOf
        rw [HM.out, Nat.add_sub_cancel, HE0.out, HEm.out, HEf.out, HEt.out])
      go_wp2_with fail
      go_ret2
      refine ⟨_, rfl, by rw [HQs.out]; exact HOr.out, ?_, ?_⟩
      · have h1 : Fr (fun b => (Value.slice (some ⟨g, 0, none⟩) ps.length cp).ownBlock = some b) w wT := (Fr.of_below HAS.out).trans t2.out
        refine ⟨HFr.out.os.trans h1.os, HFr.out.tape.trans h1.tape, HFr.out.output.trans h1.output, Nat.le_trans h1.size HFr.out.size, fun k hk hn => (HFr.out.block k (Nat.lt_of_lt_of_le hk h1.size) fun e => ?_).trans (h1.block k hk hn)⟩
        cases e
        rcases t3.out with e2 | e2
        · exact hn e2
        · have := Below.size HAS.out
          exact absurd hk (Nat.not_lt.2 (Nat.le_trans this e2))
      · intro q hq
        cases hq
        rcases t3.out with e | e
        · exact .inl e
        · exact .inr (Nat.le_trans (Below.size HAS.out) e)
end Go.Proofs.Ytejdkmfbncedkaa

