/- wire.Text, and coterieref01.Text: texts written. -/
import Derived.Test.YtifehfcgmodmaaaDoorWirePut
import Derived.Test.YtifehfcgmodmaaaDoorWireBuf
namespace Go.Proofs.YtifehfcgmodmaaaDoor
open Go Go.RowKit
/-- A text of a list. -/
def txt (ts : List (List (BitVec 8))) (i : Nat) : List (BitVec 8) := ts.getD i []
def textsB (ts : List (List (BitVec 8))) : List (BitVec 8) := ts.flatMap fun t => beL 2 t.length ++ t
theorem textsB_succ (ts : List (List (BitVec 8))) (i : Nat) (h : i < ts.length) : textsB (ts.take (i + 1)) = textsB (ts.take i) ++ (beL 2 (txt ts i).length ++ txt ts i) := by
  unfold textsB txt
  rw [List.take_add_one, List.getElem?_eq_getElem h, List.flatMap_append, List.getD_eq_getElem?_getD, List.getElem?_eq_getElem h]
  simp
def textOk (ts : List (List (BitVec 8))) : Bool := ts.all fun t => decide (t.length ≤ 65535)
theorem textOk_true {ts : List (List (BitVec 8))} (h : ∀ j, j < ts.length → (txt ts j).length ≤ 65535) : textOk ts = true := by
  unfold textOk
  rw [List.all_eq_true]
  intro x hx
  obtain ⟨i, hi, rfl⟩ := List.mem_iff_getElem.1 hx
  have := h i hi
  simp only [txt, List.getD_eq_getElem?_getD, List.getElem?_eq_getElem hi, Option.getD_some] at this
  exact decide_eq_true this
theorem textOk_false {ts : List (List (BitVec 8))} {j : Nat} (hj : j < ts.length) (h : ¬ (txt ts j).length ≤ 65535) : textOk ts = false := by
  unfold textOk
  rw [List.all_eq_false]
  refine ⟨ts[j], List.getElem_mem hj, ?_⟩
  simp only [txt, List.getD_eq_getElem?_getD, List.getElem?_eq_getElem hj, Option.getD_some] at h
  simpa using h
theorem textsB_le (ts : List (List (BitVec 8))) : ∀ i, i ≤ ts.length → (∀ j, j < i → (txt ts j).length ≤ 65535) → (textsB (ts.take i)).length ≤ 65537 * i
  | 0, _, _ => by simp [textsB]
  | i + 1, hi, h => by
    rw [textsB_succ ts i hi, List.length_append, List.length_append, beL_length]
    have := textsB_le ts i (by omega) (fun j hj => h j (by omega))
    have := h i (by omega)
    omega
def textErr (ts : List (List (BitVec 8))) : Int := if textOk ts then 0 else 4
def textB (d : List (BitVec 8)) (ts : List (List (BitVec 8))) : List (BitVec 8) := if textOk ts then d ++ textsB ts else []
/-- What Text hands back. -/
def TextSays (d : List (BitVec 8)) (ts : List (List (BitVec 8))) (w : World) (e : Ending) (w' : World) : Prop :=
  ∃ ao cap, e = .returned (.tuple #[.slice ao (bv (textB d ts)).length cap, .int .i64 (textErr ts)]) ∧ w'.ownsRow w.heap.size 5 1 (.slice ao (bv (textB d ts)).length cap) (bv (textB d ts)).length (bv (textB d ts)) ∧ Below w.heap.size w w'
theorem TextSays.bad {d : List (BitVec 8)} {ts : List (List (BitVec 8))} {w w' : World} (h : textOk ts = false) (hb : Below w.heap.size w w') : TextSays d ts w (.returned (.tuple #[.slice none 0 0, .int .i64 4])) w' := by
  refine ⟨none, 0, ?_, ?_, hb⟩ <;> simp only [textB, textErr, h] <;> first | rfl | exact World.ownsRow_nil _ _ _ _
theorem TextSays.good {d : List (BitVec 8)} {ts : List (List (BitVec 8))} {w w' : World} {v : Value} (h : textOk ts = true) (ho : w'.ownsRow w.heap.size 5 1 v (bv (d ++ textsB ts)).length (bv (d ++ textsB ts))) (hb : Below w.heap.size w w') :
    TextSays d ts w (.returned (.tuple #[v, .int .i64 0])) w' := by
  have hB : textB d ts = d ++ textsB ts := by unfold textB; rw [if_pos h]
  obtain ⟨a, c, rfl⟩ := own_shape ho
  refine ⟨a, c, ?_, ?_, hb⟩
  · rw [hB]; unfold textErr; rw [if_pos h]
  · rw [hB]; exact ho
set_option maxRecDepth 100000 in
set_option maxHeartbeats 1000000 in
theorem text_any (vb vp : Value) (d : List (BitVec 8)) (ts : List (List (BitVec 8))) (w : World) (hb : Rd w vb (bv d)) (hp : RdAll w vp ts) (hd : d.length ≤ 1073741824) (hl : ts.length ≤ 16777216) :
    Calls Tryd.prog 46 #[vb, vp] w (TextSays d ts w) := by
  have HB := Lib.hid hb
  have HP := Lib.hid hp
  have HL := Lib.hid hl
  have HD := Lib.hid hd
  obtain ⟨ab, cb, rfl, -, -, -, -⟩ := hb
  obtain ⟨ap, cp, rfl, -⟩ := hp.shape
  have HF := Lib.hid (Aft.alloc w (.cells #[.slice none 0 0, .int .i64 0, .int .i8 0] 90))
  have HW1 := Lib.hid (bufWrite_any w.heap.size w.heap.size (.slice ab (bv d).length cb) [] d _ (Buf.fresh w) (by rw [World.size_alloc]; omega) (HB.out.grow HF.out) (fun g hg hx => by have := HB.out.lt hg hx; omega) (by simp; omega))
  clear hd hl hp
  go_enter Tryd.func46, Tryd.ntmps46
  go_wp2_with fail
  refine HW1.out.mono ?_
  rintro e w2 ⟨rfl, hbuf, hb2⟩
  rw [List.nil_append] at hbuf
  have HBuf := Lib.hid hbuf
  have HF2 := Lib.hid (show Below w.heap.size w w2 from Below.trans HF.out hb2)
  clear hbuf hb2
  go_wp2_with fail
  go_loopw [13] (fun v13 wr => ∃ i : Nat, i ≤ ts.length ∧ v13 = .int .i64 i ∧ Buf w.heap.size w.heap.size (d ++ textsB (ts.take i)) wr ∧ Below w.heap.size w wr ∧ ∀ j, j < i → (txt ts j).length ≤ 65535) (fun v _ => ts.length - (intOf v).toNat)
  case atStart => exact ⟨0, by omega, rfl, by simp only [textsB, List.take_zero, List.flatMap_nil, List.append_nil]; exact HBuf.out, HF2.out, fun j hj => by omega⟩
  case round =>
    obtain ⟨i, hi, rfl, hbuf, hbw, hall⟩ := hrel
    have HBf := Lib.hid hbuf
    have HBw := Lib.hid hbw
    have HAll := Lib.hid hall
    clear hbuf hbw hall
    by_cases hlt : i < ts.length
    · obtain ⟨g, o, cap', u, hvv, hcc, hu⟩ := (HP.out.below HBw.out).cell hlt
      cases hvv
      have hu1 : ∀ g, u.ownBlock = some g → bv (ts.getD i []) ≠ [] → g < w.heap.size := fun g hg hx => HP.out.elem_lt HBw.out hlt rfl hcc g hg hx
      have hlt' : (i : Int) < (ts.length : Nat) := by omega
      have hi63 : (i : Int) + 1 ≤ 9223372036854775807 := by have := HL.out; omega
      have HU := Lib.hid hu
      have HU1 := Lib.hid hu1
      have HLe := Lib.hid (textsB_le ts i hi HAll.out)
      have HTS := Lib.hid (textsB_succ ts i hlt)
      have HBad := Lib.hid (@textOk_false ts i hlt)
      have HGood := Lib.hid (fun (h : (txt ts i).length ≤ 65535) => (fun j (hj : j < i + 1) => by
        by_cases hj2 : j < i
        · exact HAll.out j hj2
        · obtain rfl : j = i := by omega
          exact h : ∀ j, j < i + 1 → (txt ts j).length ≤ 65535))
      obtain ⟨au, cu, rfl, -, -, -, -⟩ := hu
      clear hu1
      change Hid (Rd wr (.slice au (bv (txt ts i)).length cu) (bv (txt ts i))) at HU
      change Hid (∀ g, Value.ownBlock (.slice au (bv (txt ts i)).length cu) = some g → bv (txt ts i) ≠ [] → g < w.heap.size) at HU1
      have hbl := bv_length (txt ts i)
      change wr.cell? _ = some (.slice au (bv (txt ts i)).length cu) at hcc
      generalize txt ts i = x at *
      generalize textsB (ts.take i) = T at *
      rw [hbl] at hcc HU HU1
      clear hbl
      by_cases hlong : x.length ≤ 65535
      · have hlong' : ¬ (65535 : Int) < (x.length : Int) := by omega
        have HLo := Lib.hid hlong
        have HBl := Lib.hid (show (d ++ T).length ≤ 1101000000000 by have := HD.out; have := HLe.out; have := HL.out; rw [List.length_append]; omega)
        have HP2 := Lib.hid (put_any (.slice none 0 0) [] 2 x.length wr.heap.size wr (World.ownsRow_nil _ _ _ _) (Nat.le_refl _) (by omega) (by simp))
        have HSz := Lib.hid (Below.size HBw.out)
        have HBlt := Lib.hid (show w.heap.size < wr.heap.size from Lib.IsBuffer.lt HBf.out)
        clear hlong
        go_wp2_with fail
        refine HP2.out.mono ?_
        rintro e w3 ⟨a3, c3, rfl, ho3, hb3⟩
        rw [List.nil_append] at ho3
        have HB3 := Lib.hid (show Below w.heap.size w w3 from HBw.out.trans (Below.mono hb3 HSz.out))
        have HWr := Lib.hid (bufWrite_any w.heap.size w.heap.size (.slice a3 (bv (beL 2 x.length)).length c3) (d ++ T) (beL 2 x.length) w3 (HBf.out.old hb3) (Below.size HB3.out) (Rd.of_own ho3) (fun g hg hx => by have := (own_lt ho3 hg).1; have := HBlt.out; omega) (by rw [beL_length]; have := HBl.out; omega))
        have H33 := Lib.hid hb3
        clear ho3 hb3
        rw [List.nil_append]
        go_wp2_with fail
        refine HWr.out.mono ?_
        rintro e w4 ⟨rfl, hbuf4, hb4⟩
        have HB4 := Lib.hid (HB3.out.trans hb4)
        have hr4 := HU.out.below (Below.trans (Below.mono H33.out HSz.out) hb4) (fun g hg hx => HU1.out g hg hx)
        have HWx := Lib.hid (bufWrite_any w.heap.size w.heap.size (.slice au x.length cu) (d ++ T ++ beL 2 x.length) x w4 hbuf4 (Below.size HB4.out) hr4 (fun g hg hx => by have := HU1.out g hg hx; omega) (by rw [List.length_append, beL_length]; have := HBl.out; have := HLo.out; omega))
        have HTx := Lib.hid (show d ++ T ++ beL 2 x.length ++ x = d ++ (T ++ (beL 2 x.length ++ x)) by simp only [List.append_assoc])
        clear hbuf4 hb4 hr4
        go_wp2_with fail
        refine HWx.out.mono ?_
        rintro e w5 ⟨rfl, hbuf5, hb5⟩
        rw [HTx.out, ← HTS.out] at hbuf5
        have HBf5 := Lib.hid hbuf5
        have HB5 := Lib.hid (HB4.out.trans hb5)
        have HG := Lib.hid (HGood.out HLo.out)
        clear hbuf5 hb5
        go_wp2_with fail
        go_roundw
        case rel => exact ⟨i + 1, by omega, by go_num, HBf5.out, HB5.out, HG.out⟩
        case measure => simp [intOf]; omega
      · have hlong' : (65535 : Int) < (x.length : Int) := by omega
        have HQ := Lib.hid (HBad.out hlong)
        clear hlong
        go_wp2_with fail
        go_ret2
        exact TextSays.bad HQ.out HBw.out
    · obtain rfl : i = ts.length := by omega
      have hlt' : ¬ ((ts.length : Nat) : Int) < (ts.length : Nat) := by omega
      have HQ := Lib.hid (textOk_true HAll.out)
      have hbf := HBf.out
      rw [List.take_length] at hbf
      have HBy := Lib.hid (bufBytes_any w.heap.size w.heap.size (d ++ textsB ts) wr hbf)
      clear hbf
      go_wp2_with fail
      refine HBy.out.mono ?_
      rintro e w3 ⟨a3, c3, rfl, ho3, hb3⟩
      have HO3 := Lib.hid ho3
      have HB3 := Lib.hid (HBw.out.trans (Below.mono hb3 (Below.size HBw.out)))
      clear ho3 hb3
      go_wp2_with fail
      go_ret2
      exact TextSays.good HQ.out HO3.out HB3.out
set_option maxRecDepth 100000 in
set_option maxHeartbeats 1000000 in
theorem refText_any (vb vp : Value) (d : List (BitVec 8)) (ts : List (List (BitVec 8))) (w : World) (hb : Rd w vb (bv d)) (hp : RdAll w vp ts) (hd : d.length ≤ 1073741824) (hl : ts.length ≤ 16777216) :
    Calls Tryd.prog 47 #[vb, vp] w (TextSays d ts w) := by
  have HB := Lib.hid hb
  have HP := Lib.hid hp
  have HL := Lib.hid hl
  have HD := Lib.hid hd
  obtain ⟨ab, cb, rfl, -, -, -, -⟩ := hb
  obtain ⟨ap, cp, rfl, -⟩ := hp.shape
  clear hd hl hp
  go_enter Tryd.func47, Tryd.ntmps47
  go_wp2_with fail
  refine (copy_any _ d w HB.out (by have := HD.out; omega)).mono ?_
  rintro e w2 ⟨a2, c2, rfl, ho2, hb2⟩
  have HO2 := Lib.hid ho2
  have HF2 := Lib.hid (show Below w.heap.size w w2 from hb2)
  clear ho2 hb2
  go_wp2_with fail
  go_loopw [6, 13] (fun v6 v13 wr => ∃ i : Nat, i ≤ ts.length ∧ v13 = .int .i64 i ∧ wr.ownsRow w.heap.size 5 1 v6 (bv (d ++ textsB (ts.take i))).length (bv (d ++ textsB (ts.take i))) ∧ Below w.heap.size w wr ∧ ∀ j, j < i → (txt ts j).length ≤ 65535) (fun _ v _ => ts.length - (intOf v).toNat)
  case atStart => exact ⟨0, by omega, rfl, by simp only [textsB, List.take_zero, List.flatMap_nil, List.append_nil]; exact HO2.out, HF2.out, fun j hj => by omega⟩
  case round =>
    obtain ⟨i, hi, rfl, hown, hbw, hall⟩ := hrel
    have HOw := Lib.hid hown
    have HBw := Lib.hid hbw
    have HAll := Lib.hid hall
    obtain ⟨al, cl, rfl⟩ := own_shape hown
    clear hown hbw hall
    by_cases hlt : i < ts.length
    · obtain ⟨g, o, cap', u, hvv, hcc, hu⟩ := (HP.out.below HBw.out).cell hlt
      cases hvv
      have hlt' : (i : Int) < (ts.length : Nat) := by omega
      have hi63 : (i : Int) + 1 ≤ 9223372036854775807 := by have := HL.out; omega
      have hu1 : ∀ g, u.ownBlock = some g → bv (ts.getD i []) ≠ [] → g < w.heap.size := fun g hg hx => HP.out.elem_lt HBw.out hlt rfl hcc g hg hx
      have HU := Lib.hid hu
      have HU1 := Lib.hid hu1
      have HLe := Lib.hid (textsB_le ts i hi HAll.out)
      have HTS := Lib.hid (textsB_succ ts i hlt)
      have HBad := Lib.hid (@textOk_false ts i hlt)
      have HGood := Lib.hid (fun (h : (txt ts i).length ≤ 65535) => (fun j (hj : j < i + 1) => by
        by_cases hj2 : j < i
        · exact HAll.out j hj2
        · obtain rfl : j = i := by omega
          exact h : ∀ j, j < i + 1 → (txt ts j).length ≤ 65535))
      obtain ⟨au, cu, rfl, -, -, -, -⟩ := hu
      clear hu1
      change Hid (Rd wr (.slice au (bv (txt ts i)).length cu) (bv (txt ts i))) at HU
      change Hid (∀ g, Value.ownBlock (.slice au (bv (txt ts i)).length cu) = some g → bv (txt ts i) ≠ [] → g < w.heap.size) at HU1
      have hbl := bv_length (txt ts i)
      change wr.cell? _ = some (.slice au (bv (txt ts i)).length cu) at hcc
      generalize txt ts i = x at *
      generalize textsB (ts.take i) = T at *
      rw [hbl] at hcc HU HU1
      clear hbl
      by_cases hlong : x.length ≤ 65535
      · have hlong' : ¬ (65535 : Int) < (x.length : Int) := by omega
        have HLo := Lib.hid hlong
        have HBl := Lib.hid (show (bv (d ++ T)).length ≤ 1101000000000 by have := HD.out; have := HLe.out; have := HL.out; rw [bv_length, List.length_append]; omega)
        have HBy := Lib.hid (refBytes_any 2 x.length wr (by omega) (by omega))
        have HSz := Lib.hid (Below.size HBw.out)
        clear hlong
        go_wp2_with fail
        refine HBy.out.mono ?_
        rintro e w3 ⟨a3, c3, rfl, ho3, hb3⟩
        have HO3 := Lib.hid (ownsRow_below HOw.out (w' := w3) fun g hg => Below.block hb3 g (own_lt HOw.out hg).2)
        have HR3 := Lib.hid (Rd.of_own ho3)
        have HB3 := Lib.hid (show Below w.heap.size w w3 from HBw.out.trans (Below.mono hb3 HSz.out))
        have HU3 := Lib.hid (HU.out.grow hb3)
        have H2 := Lib.hid (show (bv (beL 2 x.length)).length = 2 by rw [bv_length, beL_length])
        have HXl := Lib.hid (bv_length x)
        have HTx := Lib.hid (show d ++ (T ++ (beL 2 x.length ++ x)) = (d ++ T) ++ beL 2 x.length ++ x by simp only [List.append_assoc])
        clear ho3 hb3
        go_wp2_with (first
          | (at_builtin; refine wpList_append_rd rfl _ _ 25 rfl w.heap.size 5 (.int .u8 0) 1 Tryd.underlying25 info_byte rfl (.slice al (bv (d ++ T)).length cl) (.slice a3 (bv (beL 2 x.length)).length c3) (bv (d ++ T)) (bv (beL 2 x.length)) rfl rfl HO3.out HR3.out (bv_one _) (by have := HBl.out; have := H2.out; omega) (by have := HBl.out; have := H2.out; omega) (Below.size HB3.out) ?_; intro v4 w4 k1 k2 k3; have HO4 := Lib.hid (show w4.ownsRow w.heap.size 5 1 v4 (bv ((d ++ T) ++ beL 2 x.length)).length (bv ((d ++ T) ++ beL 2 x.length)) by rw [bv_append _ (beL 2 x.length)]; exact k1); have h34 := (show Below w.heap.size w3 w4 from (Below.refl w.heap.size w3).grown k2 (Below.size HB3.out) (fun g hg => (own_lt HO3.out hg).1)); have HB4 := Lib.hid (HB3.out.trans h34); have HU4 := Lib.hid (HU3.out.below h34 (fun g hg hx => HU1.out g hg hx)); clear k1 k2 k3 h34)
          | (at_builtin; refine wpList_append_rd rfl _ _ 25 rfl w.heap.size 5 (.int .u8 0) 1 Tryd.underlying25 info_byte rfl v4 (.slice au x.length cu) (bv ((d ++ T) ++ beL 2 x.length)) (bv x) rfl rfl HO4.out HU4.out (bv_one _) (by have := HBl.out; have := H2.out; have := HXl.out; have := HLo.out; rw [bv_append, List.length_append]; omega) (by have := HBl.out; have := H2.out; have := HXl.out; have := HLo.out; rw [bv_append, List.length_append]; omega) (Below.size HB4.out) ?_; intro v5 w5 k1 k2 k3; have HO5 := Lib.hid (show w5.ownsRow w.heap.size 5 1 v5 (bv (d ++ textsB (ts.take (i + 1)))).length (bv (d ++ textsB (ts.take (i + 1)))) by rw [HTS.out, HTx.out, bv_append _ x]; exact k1); have HB5 := Lib.hid (HB4.out.grown k2 (Below.size HB4.out) (fun g hg => (own_lt HO4.out hg).1)); clear k1 k2 k3))
        have HG := Lib.hid (HGood.out HLo.out)
        go_roundw
        case rel => exact ⟨i + 1, by omega, by go_num, HO5.out, HB5.out, HG.out⟩
        case measure => simp [intOf]; omega
      · have hlong' : (65535 : Int) < (x.length : Int) := by omega
        have HQ := Lib.hid (HBad.out hlong)
        clear hlong
        go_wp2_with fail
        go_ret2
        exact TextSays.bad HQ.out HBw.out
    · obtain rfl : i = ts.length := by omega
      have hlt' : ¬ ((ts.length : Nat) : Int) < (ts.length : Nat) := by omega
      have HQ := Lib.hid (textOk_true HAll.out)
      rw [List.take_length] at HOw ⊢
      go_wp2_with fail
      go_ret2
      exact TextSays.good HQ.out HOw.out HBw.out
end Go.Proofs.YtifehfcgmodmaaaDoor
