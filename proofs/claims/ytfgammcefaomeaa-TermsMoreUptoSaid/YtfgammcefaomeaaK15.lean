/- TermsMore answers true. -/
import Derived.Test.YtfgammcefaomeaaK14
namespace Go.Proofs.Ytfgammcefaomeaa
open Go Go.RowKit
set_option linter.unusedSimpArgs false
theorem len_sub : ∀ {l m : List Int}, l.Nodup → (∀ x ∈ l, x ∈ m) → l.length ≤ m.length
  | [], _, _, _ => Nat.zero_le _
  | x :: l, m, hn, hs => by
    have hp := List.nodup_cons.1 hn
    have hx := hs x (by simp)
    have ih := len_sub (l := l) (m := m.erase x) hp.2 fun y hy => (List.mem_erase_of_ne (fun e => hp.1 (by rw [← e]; exact hy))).2 (hs y (by simp [hy]))
    rw [List.length_erase_of_mem hx] at ih
    have : 0 < m.length := List.length_pos_of_mem hx
    simp only [List.length_cons]
    omega
theorem Rch.from {known : List Int} {rs : List Rl} {x : Int} (h : Rch known rs x) : x ∈ known ++ rs.map (·.to) := by
  cases h with
  | base h => exact List.mem_append.2 (.inl h)
  | step hr _ => exact List.mem_append.2 (.inr (List.mem_map.2 ⟨_, hr, rfl⟩))
theorem Rch.len {known : List Int} {rs : List Rl} {l : List Int} (hr : Rise l) (hl : ∀ x, x ∈ l ↔ Rch known rs x) : l.length ≤ known.length + rs.length := by
  have := len_sub (rise_nodup hr) fun x hx => ((hl x).1 hx).from
  rwa [List.length_append, List.length_map] at this
theorem Rch.again {known : List Int} {rs : List Rl} {l : List Int} (hl : ∀ x, x ∈ l ↔ Rch known rs x) (x : Int) : Rch l rs x ↔ x ∈ l :=
  ⟨fun h => Rch.least (S := fun x => x ∈ l) (fun _ h => h) (fun _ hr ha => (hl _).2 (.step hr fun y hy => (hl y).1 (ha y hy))) h, fun h => .base h⟩
theorem Rch.more {known more : List Int} {rs : List Rl} {x : Int} (h : Rch known rs x) : Rch (known ++ more) rs x :=
  Rch.least (S := Rch (known ++ more) rs) (fun _ hy => .base (List.mem_append.2 (.inl hy))) (Rch.shut _ _) h
theorem wpList_catI {ops : Array Oper} {rest : List Oper} {o : Oper} {a : Act} {w : World} {Q : Exit → Act → World → Prop} (hgd : o.guard = none) (s x : Operand) (ho : o.op = .call { callee := .builtin .append, args := #[s, x], argTypes := #[22, 22] }) (base : Nat) (v u : Value) (xs ys : List Int) (hs : a.eval s = v) (hx : a.eval x = u) (hown : OwnI w base v xs) (hu : Rd w u (zv ys)) (hl : xs.length + ys.length ≤ 16777216) (hb : base ≤ w.heap.size)
    (h : ∀ v' w', Hid (OwnI w' base v' (xs ++ ys)) → Hid (Fr (fun b => v.ownBlock = some b) w w') → wpList Try.prog ops Q rest (a.put o.dst v') w') : wpList Try.prog ops Q (o :: rest) a w := by
  refine wpList_append_rd hgd s x 22 ho base 3 (.int .i64 0) 8 Try.underlying22 info_int rfl v u (zv xs) (zv ys) hs hx (by rw [zv_length]; exact hown) hu (fun q hq => by obtain ⟨z, -, rfl⟩ := List.mem_map.1 hq; rfl) (by rw [zv_length, zv_length]; omega) (by rw [zv_length, zv_length]; omega) hb ?_
  intro v' w' k1 k2 _
  refine h v' w' (Lib.hid ?_) (Lib.hid (Fr.of_grown k2 fun k hk => hk))
  rw [← zv_append, zv_length] at k1
  exact k1
set_option maxRecDepth 100000 in
set_option maxHeartbeats 4000000 in
theorem termsMore_any (v m u : Value) (known more : List Int) (ps : List (Rl × Value)) (w : World) (h : Rd w v (zv known)) (hm : Rd w m (zv more)) (hu : RdRl w u ps) (hf : ∀ p ∈ ps, p.1.frm.length ≤ 17592186044415) :
    Calls Try.prog 8 #[v, m, u] w fun e w' => e = .returned (.bool true) ∧ Aft w w' := by
  have HKn := Lib.hid h
  have HMr := Lib.hid hm
  have HRw := Lib.hid hu
  have HF := Lib.hid hf
  obtain ⟨ao, cap, rfl, hc1, hc2⟩ := h.numS
  obtain ⟨mo, map, rfl, hm1, hm2⟩ := hm.numS
  obtain ⟨bo, dap, rfl, hd1, hd2⟩ := hu.shape
  have HLn := Lib.hid (show (ps.map Prod.fst).length = ps.length from List.length_map ..)
  clear h hu hm hf
  go_enter Try.func8, Try.ntmps8
  go_wp2_with fail
  refine (live24_any w).mono ?_
  rintro e w1 ⟨rfl, h1⟩
  have HA := Lib.hid h1
  clear h1
  by_cases hk : 100 < known.length
  · have hk' : (100 : Int) < (known.length : Nat) := by omega
    go_wp2_with fail
    go_ret
    exact ⟨rfl, HA.out⟩
  have hk' : ¬ (100 : Int) < (known.length : Nat) := by omega
  by_cases hj : 100 < more.length
  · have hj' : (100 : Int) < (more.length : Nat) := by omega
    go_wp2_with fail
    go_ret
    exact ⟨rfl, HA.out⟩
  have hj' : ¬ (100 : Int) < (more.length : Nat) := by omega
  by_cases hn : 200 < ps.length
  · have hn' : (200 : Int) < (ps.length : Nat) := by omega
    go_wp2_with fail
    go_ret
    exact ⟨rfl, HA.out⟩
  have hn' : ¬ (200 : Int) < (ps.length : Nat) := by omega
  go_wp2_with fail
  refine (tclose_any _ _ known ps w1 (HKn.out.grow HA.out) (HRw.out.aft HA.out) (by omega) (.inl (by omega)) (fun _ => HF.out)).mono ?_
  rintro e w2 (⟨hok, v2, l, rfl, hv2, hr, hl, h2⟩ | ⟨-, rfl, h2⟩)
  rotate_left
  · have HA2 := Lib.hid (Aft.trans HA.out h2)
    clear h2
    go_wp2_with fail
    go_ret
    exact ⟨by simp, HA2.out⟩
  have hll := Rch.len hr hl
  rw [HLn.out] at hll
  have HOk := Lib.hid hok
  have HR := Lib.hid hr
  have HL := Lib.hid hl
  have HA2 := Lib.hid (Aft.trans HA.out h2)
  have HV2 := Lib.hid hv2
  have HOkl := Lib.hid (show ClOk l (ps.map Prod.fst) from ⟨hok.1, fun x hx => hok.within ((hl x).1 hx), hok.2.2⟩)
  obtain ⟨a2, c2, rfl, -, -⟩ := hv2.numS
  clear hok hr hl h2 hv2 HA
  go_wp2_with fail
  refine (tclose_any _ _ l ps w2 HV2.out (HRw.out.aft HA2.out) (by omega) (.inl (by omega)) (fun _ => HF.out)).mono ?_
  rintro e w3 (⟨-, v3, l3, rfl, hv3, hr3, hl3, h3⟩ | ⟨hno, -, -⟩)
  rotate_left
  · exact absurd HOkl.out hno
  obtain rfl : l = l3 := rise_eq HR.out hr3 fun z => ((hl3 z).trans (Rch.again HL.out z)).symm
  have HA3 := Lib.hid (Aft.trans HA2.out h3)
  have HV3 := Lib.hid hv3
  have HV23 := Lib.hid (HV2.out.grow h3)
  clear hr3 hl3 h3 hv3 HA2 HV2
  go_wp2_with fail
  refine (sameInts_any _ _ l l w3 HV23.out HV3.out (by omega)).mono ?_
  rintro e w4 ⟨rfl, h4⟩
  rw [decide_eq_true rfl]
  have HA4 := Lib.hid (Aft.trans HA3.out h4)
  have HV4 := Lib.hid (HV23.out.grow h4)
  have HKl := Lib.hid (fun (i : Nat) (hi : i < known.length) => show known.getD i 0 ∈ l from (HL.out _).2 (.base (by rw [List.getD_eq_getElem?_getD, List.getElem?_eq_getElem hi]; exact List.getElem_mem hi)))
  clear h4 HA3 HV23 HV3
  go_wp2_with fail
  go_loopw [69] (fun v69 wr => ∃ i : Nat, i ≤ known.length ∧ v69 = .int .i64 (i : Int) ∧ wr = w4) (fun v _ => known.length - (intOf v).toNat)
  case atStart => exact ⟨0, Nat.zero_le _, rfl, rfl⟩
  case round =>
    obtain ⟨i, hi, rfl, rfl⟩ := hrel
    by_cases hlt : i < known.length
    · have hlt' : (i : Int) < (known.length : Nat) := by omega
      obtain ⟨b, o, rfl, -, -⟩ := (HKn.out.grow HA4.out).some_of (by rw [zv_length]; omega)
      have hc := (HKn.out.grow HA4.out).num_at hlt
      have HZ := Lib.hid (HKl.out i hlt)
      generalize known.getD i 0 = z at *
      go_wp2_with fail
      refine (tinList_any _ z l wr HV4.out (by omega)).mono ?_
      rintro e w5 ⟨rfl, rfl⟩
      rw [decide_eq_true HZ.out]
      go_wp2_with fail
      go_roundw
      case rel => exact ⟨i + 1, by omega, by go_num, by trivial⟩
      case measure => simp [intOf]; omega
    · obtain rfl : i = known.length := by omega
      have hlt' : ¬ ((known.length : Nat) : Int) < (known.length : Nat) := by omega
      have HK4 := Lib.hid (HKn.out.grow HA4.out)
      have HM4 := Lib.hid (HMr.out.grow HA4.out)
      clear HKl
      go_wp2_with (first | (refine wpList_dstT 80 rfl ?_; at_builtin; refine wpList_catI rfl (.const (.slice none 0 0)) (.tmp 79) rfl wr.heap.size (.slice none 0 0) _ [] known rfl rfl (OwnI.nil _ _) HK4.out (by simp; omega) (Nat.le_refl _) ?_; intro v6 w6 t1 t2; have HA6 := Lib.hid (aft_fr (Aft.refl wr) (OwnI.nil _ _) (Nat.le_refl _) t2.out); clear t2) | (refine wpList_dstT 82 rfl ?_; at_builtin; refine wpList_catI rfl (.tmp 80) (.tmp 81) rfl wr.heap.size v6 _ ([] ++ known) more rfl rfl t1.out (HM4.out.grow HA6.out) (by simp; omega) (Below.size HA6.out) ?_; intro v7 w7 t3 t4; have HA7 := Lib.hid (aft_fr HA6.out t1.out (Nat.le_refl _) t4.out); clear t4))
      have HA8 := Lib.hid (Aft.trans HA4.out HA7.out)
      have HV7 := Lib.hid (HV4.out.grow HA7.out)
      refine (tclose_any _ _ ([] ++ known ++ more) ps w7 t3.out.rd (HRw.out.aft HA8.out) (by simp; omega) (.inl (by omega)) (fun _ => HF.out)).mono ?_
      rintro e w8 (⟨hok8, v8, l8, rfl, hv8, hr8, hl8, h8⟩ | ⟨-, rfl, h8⟩)
      rotate_left
      · have HA9 := Lib.hid (Aft.trans HA8.out h8)
        clear h8
        go_wp2_with fail
        go_ret
        exact ⟨by simp, HA9.out⟩
      have hl8l : l8.length ≤ 1000 := by
        have := Rch.len hr8 hl8
        rw [HLn.out] at this
        simp only [List.length_append, List.length_nil] at this
        omega
      have HIn := Lib.hid (fun (i : Nat) (hi : i < l.length) => show l.getD i 0 ∈ l8 from (hl8 _).2 (Rch.more ((HL.out _).1 (by rw [List.getD_eq_getElem?_getD, List.getElem?_eq_getElem hi]; exact List.getElem_mem hi))))
      have HA9 := Lib.hid (Aft.trans HA8.out h8)
      have HV9 := Lib.hid (HV7.out.grow h8)
      have HB9 := Lib.hid hv8
      obtain ⟨a8, c8, rfl, -, -⟩ := hv8.numS
      clear hok8 hr8 hl8 h8 hv8 t1 t3 HA6 HA7 HV7
      go_wp2_with fail
      go_loopw [96] (fun v96 wz => ∃ i : Nat, i ≤ l.length ∧ v96 = .int .i64 (i : Int) ∧ wz = w8) (fun v _ => l.length - (intOf v).toNat)
      case atStart => exact ⟨0, Nat.zero_le _, rfl, rfl⟩
      case round =>
        obtain ⟨i, hi, rfl, rfl⟩ := hrel
        by_cases hlt : i < l.length
        · have hlt' : (i : Int) < (l.length : Nat) := by omega
          obtain ⟨b, o, rfl, -, -⟩ := HV9.out.some_of (by rw [zv_length]; omega)
          have hc := HV9.out.num_at hlt
          have HZ := Lib.hid (HIn.out i hlt)
          generalize l.getD i 0 = z at *
          go_wp2_with fail
          refine (tinList_any _ z l8 _ HB9.out (by omega)).mono ?_
          rintro e w9 ⟨rfl, rfl⟩
          rw [decide_eq_true HZ.out]
          go_wp2_with fail
          go_roundw
          case rel => exact ⟨i + 1, by omega, by go_num, by trivial⟩
          case measure => simp [intOf]; omega
        · obtain rfl : i = l.length := by omega
          have hlt' : ¬ ((l.length : Nat) : Int) < (l.length : Nat) := by omega
          go_wp2_with fail
          go_ret
          exact ⟨rfl, HA9.out⟩
end Go.Proofs.Ytfgammcefaomeaa
