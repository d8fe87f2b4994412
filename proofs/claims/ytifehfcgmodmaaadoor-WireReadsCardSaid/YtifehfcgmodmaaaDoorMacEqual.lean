/- law03.MacEqual, walked whole. -/
import Derived.Test.YtifehfcgmodmaaaDoorEqual
namespace Go.Proofs.YtifehfcgmodmaaaDoor
open Go Go.RowKit
/-- 'append' in an operation that is guarded. -/
theorem wpList_append_rdG {P : Program} {w : World} {ops : Array Oper} {rest : List Oper} {o : Oper} {a : Act} {Q : Exit → Act → World → Prop} (hw : Region.wanted o (yielded ops a.tmps) = true) (s x : Operand) (t : TypeId)
    (ho : o.op = .call { callee := .builtin .append, args := #[s, x], argTypes := #[t, t] })
    (base : Nat) (e : TypeId) (z : Value) (bytes : Nat) (ht : P.underlying t = some (.slice e)) (hinfo : (P.info? e).map (fun i => (i.zero, i.size, i.bytes)) = some (some z, 1, bytes)) (hzs : z.cells.size = 1)
    (v vx : Value) (xs news : List Value) (hs : a.eval s = v) (hx : a.eval x = vx) (hown : w.ownsRow base e 1 v xs.length xs) (hrd : Rd w vx news) (h1 : ∀ u ∈ news, u.oneCell' = true)
    (hbytes : (xs.length + news.length) * bytes ≤ 140737488355328) (hlen : xs.length + news.length ≤ 140737488355328) (hbase : base ≤ w.heap.size)
    (h : ∀ v' w', w'.ownsRow base e 1 v' (xs ++ news).length (xs ++ news) → w.grownBy w' v.ownBlock → wpList P ops Q rest (a.put o.dst v') w') : wpList P ops Q (o :: rest) a w := by
  unfold wpList
  rw [if_pos hw]
  exact .inl (wp_noOut (wp_append_rd s x t ho base e z bytes ht hinfo hzs v vx xs news hs hx hown hrd h1 hbytes hlen hbase h))
theorem idx_of (z : Int) (L : Nat) (h : 0 < L) (h2 : L ≤ 2000) : ∃ k : Nat, k < L ∧ (wrap64 (z.tmod (L : Int) + (L : Int))).tmod (L : Int) = (k : Int) := by
  have hL : (0 : Int) < (L : Int) := by omega
  have h3 := Int.tmod_lt_of_pos z hL
  have h4 := Int.lt_tmod_of_pos z hL
  rw [wrap64_mid (by omega) (by omega)]
  have h5 := Int.tmod_lt_of_pos (z.tmod (L : Int) + (L : Int)) hL
  have h6 := Int.tmod_nonneg (L : Int) (show 0 ≤ z.tmod (L : Int) + (L : Int) by omega)
  exact ⟨((z.tmod (L : Int) + (L : Int)).tmod (L : Int)).toNat, by omega, by omega⟩
theorem set_xor (a : List (BitVec 8)) (k : Nat) (hk : k < a.length) (y : BitVec 8) : a = a.set k (a.getD k 0 ^^^ y) ↔ y = 0 := by
  constructor
  · intro h
    have h2 := congrArg (fun l => l.getD k 0) h
    simp only [List.getD_eq_getElem?_getD, List.getElem?_set_self hk, Option.getD_some, List.getElem?_eq_getElem hk] at h2
    have h3 : a[k] ^^^ y = a[k] ^^^ 0 := by rw [← h2]; simp
    exact BitVec.xor_right_inj a[k] |>.1 h3
  · rintro rfl
    simp [List.getD_eq_getElem?_getD, List.getElem?_eq_getElem hk]
theorem bv_set (a : List (BitVec 8)) (k : Nat) (y : BitVec 8) : (bv a).set k (.int .u8 (bn y)) = bv (a.set k y) := by simp [bv, List.map_set]
theorem bn_zero (y : BitVec 8) : (bn y == 0) = decide (y = 0) := by
  by_cases h : y = 0
  · subst h; rfl
  · have : bn y ≠ 0 := fun e => h (bn_inj (y := 0) (by rw [e]; rfl))
    rw [decide_eq_false h]
    exact beq_eq_false_iff_ne.2 this
attribute [local go_sem] bn_xor
set_option maxRecDepth 100000 in
set_option maxHeartbeats 4000000 in
theorem macEqual_any (va vb : Value) (a b : List (BitVec 8)) (at_ : Int) (by_ : BitVec 8) (w : World) (hK : TabK K0 1 w) (hra : Rd w va (bv a)) (hrb : Rd w vb (bv b)) :
    Calls Tryd.prog 6 #[va, vb, .int .i64 at_, .int .u8 (bn by_)] w fun e w' => e = .returned (.bool true) ∧ Below w.heap.size w w' := by
  have HK := Lib.hid hK
  have HA := Lib.hid hra
  have HB := Lib.hid hrb
  obtain ⟨aoa, capa, rfl, -, -, -, -⟩ := hra
  obtain ⟨aob, capb, rfl, -, -, -, -⟩ := hrb
  clear hK
  have HL := Lib.hid (live3_any w HK.out)
  go_enter Tryd.func6, Tryd.ntmps6
  go_wp2_with fail
  refine HL.out.mono ?_
  rintro e w1 ⟨rfl, hb1⟩
  have HB1 := Lib.hid hb1
  clear hb1
  by_cases h2 : (bv a).length > 2000
  · have h2' : (2000 : Int) < ((bv a).length : Nat) := by omega
    go_wp2_with fail
    go_ret
    exact ⟨rfl, HB1.out⟩
  · have h2' : ¬ (2000 : Int) < ((bv a).length : Nat) := by omega
    by_cases h3 : (bv b).length > 2000
    · have h3' : (2000 : Int) < ((bv b).length : Nat) := by omega
      go_wp2_with fail
      go_ret
      exact ⟨rfl, HB1.out⟩
    · have h3' : ¬ (2000 : Int) < ((bv b).length : Nat) := by omega
      go_wp2_with fail
      refine (macEq_any _ _ a b w1 (HA.out.grow HB1.out) (HB.out.grow HB1.out)).mono ?_
      rintro e w2 ⟨rfl, hb2⟩
      have HB2 := Lib.hid (show Aft w w2 from Aft.trans HB1.out hb2)
      clear hb2
      go_wp2_with fail
      refine (same_any _ _ a b w2 (HA.out.grow HB2.out) (HB.out.grow HB2.out)).mono ?_
      rintro e w3 ⟨rfl, rfl⟩
      have hab : decide (b = a) = decide (a = b) := by by_cases h : a = b <;> simp [h, eq_comm]
      generalize hq : decide (a = b) = q at *
      have hqq : (q != q) = false := by simp
      go_wp2_with fail
      refine (macEq_any _ _ b a w3 (HB.out.grow HB2.out) (HA.out.grow HB2.out)).mono ?_
      rintro e w4 ⟨rfl, hb4⟩
      rw [hab]
      have HB4 := Lib.hid (show Aft w w4 from Aft.trans HB2.out hb4)
      clear hb4
      go_wp2_with fail
      refine (macEq_any _ _ a b w4 (HA.out.grow HB4.out) (HB.out.grow HB4.out)).mono ?_
      rintro e w5 ⟨rfl, hb5⟩
      rw [hq]
      have HB5 := Lib.hid (show Aft w w5 from Aft.trans HB4.out hb5)
      clear hb5
      go_wp2_with fail
      refine (macEq_any _ _ a a w5 (HA.out.grow HB5.out) (HA.out.grow HB5.out)).mono ?_
      rintro e w6 ⟨rfl, hb6⟩
      rw [show decide (a = a) = true by simp]
      have HB6 := Lib.hid (show Aft w w6 from Aft.trans HB5.out hb6)
      clear hb6 hab hq
      by_cases hn : a.length = 0
      · have hn' : (bv a).length = 0 := by rw [bv_length]; exact hn
        go_wp2_with fail
        go_ret
        exact ⟨rfl, HB6.out⟩
      · have hn' : ¬ ((bv a).length : Int) = 0 := by rw [bv_length]; omega
        go_wp2_with fail
        have hla : a.length ≤ 2000 := by rw [bv_length] at h2; omega
        refine (copy_any _ a w6 (HA.out.grow HB6.out) (by omega)).mono ?_
        rintro e w7 ⟨a7, c7, rfl, ho7, hb7⟩
        have hform : ∃ g, a7 = some ⟨g, 0, none⟩ ∧ w6.heap.size ≤ g := by
          rcases ho7.2 with ⟨hv, h0⟩ | ⟨g, cap, cur, hv, hge, _⟩
          · exact absurd h0 (by rw [bv_length]; exact hn)
          · cases hv; exact ⟨g, rfl, hge⟩
        obtain ⟨g, rfl, hge⟩ := hform
        have HO7 := Lib.hid ho7
        have HB7 := Lib.hid (show Aft w w7 from Aft.trans HB6.out hb7)
        clear ho7 hb7
        obtain ⟨k, hk, hke⟩ := idx_of at_ (bv a).length (by rw [bv_length]; omega) (by omega)
        have hk2 : k < a.length := by rw [bv_length] at hk; exact hk
        have hfz := HO7.out.frozenAt k
        have hcl : w7.cell? ⟨g, k, none⟩ = some (.int .u8 (bn (a.getD k 0))) := by rw [HO7.out.cellAt k (by omega)]; simp [bv, List.getD, List.getElem?_eq_getElem hk2]
        have hst := HO7.out.stored k (.int .u8 (bn (a.getD k 0 ^^^ by_)))
        rw [bv_set] at hst
        have hbz := bn_zero by_
        have hsx : decide (a = a.set k (a.getD k 0 ^^^ by_)) = decide (by_ = 0) := decide_eq_decide.2 (set_xor a k hk2 by_)
        have hlen : (a.set k (a.getD k 0 ^^^ by_)).length = a.length := List.length_set ..
        generalize hy : a.getD k 0 = y at *
        generalize ha2 : a.set k (y ^^^ by_) = a2 at *
        generalize decide (by_ = 0) = q2 at *
        have HST := Lib.hid hst
        have HSX := Lib.hid hsx
        have HLen := Lib.hid hlen
        have hq2 : (q2 == q2) = true := by simp
        have hna : decide (a = a2 ++ [0]) = false := decide_eq_false fun h => by have := congrArg List.length h; rw [List.length_append, hlen] at this; simp at this
        have HNA := Lib.hid hna
        clear hst hsx hna hlen hy ha2
        go_wp2_with fail
        have HW8 := Lib.hid (show Aft w (w7.setCell ⟨g, k, none⟩ (.int .u8 (bn (y ^^^ by_)))) from aft_set HB7.out (by have := Below.size HB6.out; show w.heap.size ≤ g; omega) _)
        have HO8 := Lib.hid HST.out.1
        generalize w7.setCell ⟨g, k, none⟩ (.int .u8 (bn (y ^^^ by_))) = w8 at *
        have hl8 : (bv a).length = (bv a2).length := by rw [bv_length, bv_length, HLen.out]
        have HL8 := Lib.hid hl8
        have hRc := Rd.of_own HO8.out
        refine (macEq_any _ _ a a2 w8 (HA.out.grow HW8.out) hRc).mono ?_
        rintro e w9 ⟨rfl, hb9⟩
        rw [HSX.out]
        have HW9 := Lib.hid (Aft.trans HW8.out hb9)
        have HO9 := Lib.hid (ownsRow_below HO8.out (w' := w9) fun g hg => Below.block hb9 g (own_lt HO8.out hg).2)
        have hsz := Below.size hb9
        have hgl := (own_lt HO8.out (g := g) rfl).1
        clear hb9 hRc hl8
        have HOa := Lib.hid (show (w9.alloc (.cells #[.int .u8 0] 5)).ownsRow w6.heap.size 5 1 (.slice (some ⟨g, 0, none⟩) (bv a).length c7) (bv a2).length (bv a2) by rw [← HL8.out]; exact HO9.out.alloc _)
        have HR0 := Lib.hid (Rd.of_own (World.ownsRow_lit (base := w9.heap.size) (e := 5) (size := 1) w9 #[.int .u8 0] 1 (Nat.le_refl _) (by decide) rfl))
        have HLa := Lib.hid (show (bv a2).length ≤ 2000 by rw [← HL8.out]; omega)
        have HW6 := Lib.hid (show w6.heap.size ≤ w9.heap.size by have := own_lt HO9.out (g := g) rfl; omega)
        go_wp2_with ((at_builtin; refine wpList_append_rdG (by kernel_rfl) (.tmp 78) (.tmp 79) 25 rfl w6.heap.size 5 (.int .u8 0) 1 Tryd.underlying25 info_byte rfl (.slice (some ⟨g, 0, none⟩) (bv a).length c7) (.slice (some ⟨w9.heap.size, 0, none⟩) 1 1) (bv a2) [.int .u8 0] rfl rfl HOa.out HR0.out (by intro u hu; simp at hu; subst hu; rfl) (by have := HLa.out; simp; omega) (by have := HLa.out; simp; omega) (by have := HW6.out; rw [World.size_alloc]; omega) ?_; intro v10 w10 k1 k2; have hRe := Lib.hid (show Rd w10 v10 (bv (a2 ++ [0])) by rw [bv_append]; exact Rd.of_own k1); have HW10 := Lib.hid (show Below w.heap.size w w10 from (show Below w.heap.size w (w9.alloc (.cells #[.int .u8 0] 5)) from Aft.trans HW9.out (Aft.alloc _ _)).grown k2 (by rw [World.size_alloc]; have := Below.size HW9.out; omega) (fun g' hg' => by simp [Value.ownBlock] at hg'; have := Below.size HB6.out; omega)); clear k1 k2))
        refine (macEq_any _ _ a (a2 ++ [0]) w10 (HA.out.grow HW10.out) hRe.out).mono ?_
        rintro e w11 ⟨rfl, hb11⟩
        rw [HNA.out]
        have HW11 := Lib.hid (Aft.trans HW10.out hb11)
        clear hb11
        go_wp2_with fail
        go_ret
        exact ⟨rfl, HW11.out⟩
end Go.Proofs.YtifehfcgmodmaaaDoor
