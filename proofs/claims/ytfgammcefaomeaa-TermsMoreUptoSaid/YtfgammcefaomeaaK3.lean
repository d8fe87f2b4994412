/- coterieref24.with. -/
import Derived.Test.YtfgammcefaomeaaK2
import Derived.Test.YtfgammcefaomeaaB3
namespace Go.Proofs.Ytfgammcefaomeaa
open Go Go.RowKit
set_option linter.unusedSimpArgs false
theorem filter_take (p : Int → Bool) (l : List Int) {i : Nat} (h : i < l.length) : (l.take (i + 1)).filter p = (l.take i).filter p ++ (if p (l.getD i 0) then [l.getD i 0] else []) := by
  have h4 : l.take (i + 1) = l.take i ++ [l.getD i 0] := by
    rw [List.take_add_one, List.getElem?_eq_getElem h, List.getD_eq_getElem?_getD, List.getElem?_eq_getElem h]
    rfl
  rw [h4, List.filter_append]
  congr 1
  by_cases hp : p (l.getD i 0) = true
  · rw [if_pos hp, List.filter_cons, if_pos hp]
    rfl
  · rw [if_neg hp, List.filter_cons, if_neg hp]
    rfl
def WthSays (l : List Int) (n : Int) (w : World) (e : Ending) (w' : World) : Prop := ∃ v, e = .returned v ∧ Rd w' v (zv (wth l n)) ∧ Aft w w'
set_option maxRecDepth 100000 in
set_option maxHeartbeats 2000000 in
theorem kwith_any (v : Value) (n : Int) (l : List Int) (w : World) (h : Rd w v (zv l)) (hl : l.length ≤ 2097152) :
    Calls Try.prog 59 #[v, .int .i64 n] w (WthSays l n w) := by
  have HR := Lib.hid h
  obtain ⟨ao, cap, rfl, -, -⟩ := h.numS
  have HH := Lib.hid (khas_any _ n l w h (by omega))
  have HF1 := Lib.hid (fun (i : Nat) (hi : i < l.length) => filter_take (fun x => decide (x < n)) l hi)
  have HF2 := Lib.hid (fun (i : Nat) (hi : i < l.length) => filter_take (fun x => decide (n < x)) l hi)
  have HL := Lib.hid (Led.start w)
  clear h
  go_enter Try.func59, Try.ntmps59
  go_wp2_with fail
  refine HH.out.mono ?_
  rintro e w2 ⟨rfl, rfl⟩
  clear HH
  by_cases hm : n ∈ l
  · rw [decide_eq_true hm]
    have HW := Lib.hid (show wth l n = l from if_pos hm)
    clear hm
    go_wp2_with fail
    go_ret
    exact ⟨_, rfl, by rw [HW.out]; exact HR.out, HL.out.aft⟩
  rw [decide_eq_false hm]
  have HW := Lib.hid (show wth l n = l.filter (fun x => decide (x < n)) ++ n :: l.filter (fun x => decide (n < x)) from if_neg hm)
  clear hm
  go_wp2_with fail
  go_loopw [5, 16] (fun v5 v16 wr => ∃ i : Nat, i ≤ l.length ∧ v16 = .int .i64 (i : Int) ∧ OwnI wr w2.heap.size v5 ((l.take i).filter (fun x => decide (x < n))) ∧ Led w2 wr []) (fun _ v _ => l.length - (intOf v).toNat)
  case atStart => exact ⟨0, Nat.zero_le _, rfl, OwnI.nil _ _, HL.out⟩
  case round =>
    clear HL
    obtain ⟨i, hi, rfl, hO, hL⟩ := hrel
    have HL := Lib.hid hL
    have HO := Lib.hid hO
    have HLe := Lib.hid (show ((l.take i).filter (fun x => decide (x < n))).length ≤ 2097152 from Nat.le_trans (List.length_filter_le ..) (by rw [List.length_take]; omega))
    obtain ⟨a5, c5, rfl⟩ := hO.shape
    clear hL hO
    by_cases hlt : i < l.length
    · have hlt' : (i : Int) < (l.length : Nat) := by omega
      obtain ⟨b, o, rfl, -, -⟩ := (HR.out.grow HL.out.aft).some_of (by rw [zv_length]; omega)
      have hc := (HR.out.grow HL.out.aft).num_at hlt
      have HT := Lib.hid (HF1.out i hlt)
      generalize (l.take i).filter (fun x => decide (x < n)) = xs at *
      generalize l.getD i 0 = z at *
      by_cases hz : z < n
      · have HE := Lib.hid (show (l.take (i + 1)).filter (fun x => decide (x < n)) = xs ++ [z] by rw [HT.out, if_pos (by simpa using hz)])
        go_wp2_with (first | (refine wpList_intSlice (by kernel_rfl) (.tmp 24) z rfl rfl ?_; intro wB aB gB; replace HO := Lib.hid (HO.out.aft aB); have HSz := Lib.hid (Below.size HL.out.aft); replace HL := Lib.hid (HL.out.call aB); have HGb := Lib.hid gB.out; clear aB gB) | (at_builtin; refine wpList_snocI rfl (.tmp 23) (.tmp 25) rfl w2.heap.size _ xs rfl HO.out _ z rfl HGb.out (by have := HLe.out; omega) (Below.size HL.out.aft) ?_; intro g6 c6 wC k1 k2 k3; replace HL := Lib.hid (HL.out.frO HO.out (Nat.le_refl _) k2.out rfl); replace HO := Lib.hid k1.out; clear k1 k2 k3))
        go_roundw
        case rel => exact ⟨i + 1, by omega, by go_num, by rw [HE.out]; exact HO.out, HL.out⟩
        case measure => simp [intOf]; omega
      · have HE := Lib.hid (show (l.take (i + 1)).filter (fun x => decide (x < n)) = xs by rw [HT.out, if_neg (by simpa using hz), List.append_nil])
        go_wp2_with fail
        go_roundw
        case rel => exact ⟨i + 1, by omega, by go_num, by rw [HE.out]; exact HO.out, HL.out⟩
        case measure => simp [intOf]; omega
    · obtain rfl : i = l.length := by omega
      have hlt' : ¬ ((l.length : Nat) : Int) < (l.length : Nat) := by omega
      have HE := Lib.hid (show (l.take l.length).filter (fun x => decide (x < n)) = l.filter (fun x => decide (x < n)) by rw [List.take_length])
      generalize (l.take l.length).filter (fun x => decide (x < n)) = ys at *
      go_wp2_with (first | (refine wpList_intSlice (by kernel_rfl) (.tmp 29) n rfl rfl ?_; intro wB aB gB; replace HO := Lib.hid (HO.out.aft aB); have HSz := Lib.hid (Below.size HL.out.aft); replace HL := Lib.hid (HL.out.call aB); have HGb := Lib.hid gB.out; clear aB gB) | (at_builtin; refine wpList_snocI rfl (.tmp 28) (.tmp 30) rfl w2.heap.size _ ys rfl HO.out _ n rfl HGb.out (by have := HLe.out; omega) (Below.size HL.out.aft) ?_; intro g6 c6 wC k1 k2 k3; replace HL := Lib.hid (HL.out.frO HO.out (Nat.le_refl _) k2.out rfl); replace HO := Lib.hid k1.out; clear k1 k2 k3))
      go_loopw [5, 34] (fun v5 v34 wr => ∃ i : Nat, i ≤ l.length ∧ v34 = .int .i64 (i : Int) ∧ OwnI wr w2.heap.size v5 ((ys ++ [n]) ++ (l.take i).filter (fun x => decide (n < x))) ∧ Led w2 wr []) (fun _ v _ => l.length - (intOf v).toNat)
      case atStart => exact ⟨0, Nat.zero_le _, rfl, by rw [List.take_zero, List.filter_nil, List.append_nil]; exact HO.out, HL.out⟩
      case round =>
        clear HL HO
        obtain ⟨i, hi, rfl, hO, hL⟩ := hrel
        have HL := Lib.hid hL
        have HO := Lib.hid hO
        have HLf := Lib.hid (show ((ys ++ [n]) ++ (l.take i).filter (fun x => decide (n < x))).length ≤ 16777216 by
          have h1 : ((l.take i).filter (fun x => decide (n < x))).length ≤ l.length := Nat.le_trans (List.length_filter_le ..) (by rw [List.length_take]; omega)
          have h2 := HLe.out
          simp only [List.length_append, List.length_cons, List.length_nil]
          omega)
        obtain ⟨a5, c5, rfl⟩ := hO.shape
        clear hL hO
        by_cases hlt : i < l.length
        · have hlt' : (i : Int) < (l.length : Nat) := by omega
          obtain ⟨b, o, rfl, -, -⟩ := (HR.out.grow HL.out.aft).some_of (by rw [zv_length]; omega)
          have hc := (HR.out.grow HL.out.aft).num_at hlt
          have HT := Lib.hid (HF2.out i hlt)
          generalize (l.take i).filter (fun x => decide (n < x)) = xs at *
          generalize l.getD i 0 = z at *
          by_cases hz : n < z
          · have HE2 := Lib.hid (show (ys ++ [n]) ++ (l.take (i + 1)).filter (fun x => decide (n < x)) = ((ys ++ [n]) ++ xs) ++ [z] by rw [HT.out, if_pos (by simpa using hz), ← List.append_assoc])
            generalize (ys ++ [n]) ++ xs = zs at *
            go_wp2_with (first | (refine wpList_intSlice (by kernel_rfl) (.tmp 42) z rfl rfl ?_; intro wB aB gB; replace HO := Lib.hid (HO.out.aft aB); have HSz := Lib.hid (Below.size HL.out.aft); replace HL := Lib.hid (HL.out.call aB); have HGb := Lib.hid gB.out; clear aB gB) | (at_builtin; refine wpList_snocI rfl (.tmp 41) (.tmp 43) rfl w2.heap.size _ zs rfl HO.out _ z rfl HGb.out HLf.out (Below.size HL.out.aft) ?_; intro g6 c6 wC k1 k2 k3; replace HL := Lib.hid (HL.out.frO HO.out (Nat.le_refl _) k2.out rfl); replace HO := Lib.hid k1.out; clear k1 k2 k3))
            go_roundw
            case rel => exact ⟨i + 1, by omega, by go_num, by rw [HE2.out]; exact HO.out, HL.out⟩
            case measure => simp [intOf]; omega
          · have HE2 := Lib.hid (show (ys ++ [n]) ++ (l.take (i + 1)).filter (fun x => decide (n < x)) = (ys ++ [n]) ++ xs by rw [HT.out, if_neg (by simpa using hz), List.append_nil])
            generalize (ys ++ [n]) ++ xs = zs at *
            go_wp2_with fail
            go_roundw
            case rel => exact ⟨i + 1, by omega, by go_num, by rw [HE2.out]; exact HO.out, HL.out⟩
            case measure => simp [intOf]; omega
        · obtain rfl : i = l.length := by omega
          have hlt' : ¬ ((l.length : Nat) : Int) < (l.length : Nat) := by omega
          have HE2 := Lib.hid (show (ys ++ [n]) ++ (l.take l.length).filter (fun x => decide (n < x)) = wth l n by rw [HW.out, ← HE.out, List.take_length, List.append_assoc]; rfl)
          generalize (ys ++ [n]) ++ (l.take l.length).filter (fun x => decide (n < x)) = zs at *
          go_wp2_with fail
          go_ret
          exact ⟨_, rfl, by rw [← HE2.out]; exact HO.out.rd, HL.out.aft⟩
end Go.Proofs.Ytfgammcefaomeaa
