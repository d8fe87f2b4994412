import Derived.Test.YtifehfcgmodmaaaDoorA4
import Derived.Lib.AppendZerosOnto
import Derived.Test.YtifehfcgmodmaaaDoorA3
/- law03.MacEqual, walked whole. -/
namespace Go.Proofs.YtifehfcgmodmaaaDoor
open Go Go.RowKit
/-- 'append' in an operation that is guarded. -/
theorem wpList_append_rdG {P : Program} {w : World} {ops : Array Oper} {rest : List Oper} {o : Oper} {a : Act} {Q : Exit → Act → World → Prop} (hw : Region.wanted o (yielded ops a.tmps) = true) (s x : Operand) (t : TypeId)
    (ho : o.op = .call { callee := .builtin .append, args := #[s, x], argTypes := #[t, t] })
    (base : Nat) (e : TypeId) (z : Value) (bytes : Nat) (ht : P.underlying t = some (.slice e)) (hinfo : (P.info? e).map (fun i => (i.zero, i.size, i.bytes)) = some (some z, 1, bytes)) (hzs : z.cells.size = 1)
    (v vx : Value) (xs news : List Value) (hs : a.eval s = v) (hx : a.eval x = vx) (hown : w.ownsRow base e 1 v xs.length xs) (hrd : Rd w vx news) (h1 : ∀ u ∈ news, u.oneCell' = true)
    (hbytes : (xs.length + news.length) * bytes ≤ 140737488355328) (hlen : xs.length + news.length ≤ 140737488355328) (hbase : base ≤ w.heap.size)
    (h : ∀ v' w', w'.ownsRow base e 1 v' (xs ++ news).length (xs ++ news) → w.grownBy w' v.ownBlock → wpList P ops Q rest (a.put o.dst v') w') : wpList P ops Q (o :: rest) a w := by
  unfold wpList
  rw [if_pos hw]
  exact .inl (wp_noOut (wp_append_rd s x t ho base e z bytes ht hinfo hzs v vx xs news hs hx hown hrd h1 hbytes hlen hbase h))
theorem idx_of (z : Int) (L : Nat) (h : 0 < L) (h2 : L ≤ 2000) : ∃ k : Nat, k < L ∧ (wrap64 (z.tmod (L : Int) + (L : Int))).tmod (L : Int) = (k : Int) := by
  have hL : (0 : Int) < (L : Int) := by omega
  have h3 := Int.tmod_lt_of_pos z hL
  have h4 := Int.lt_tmod_of_pos z hL
  rw [wrap64_mid (by omega) (by omega)]
  have h5 := Int.tmod_lt_of_pos (z.tmod (L : Int) + (L : Int)) hL
  have h6 := Int.tmod_nonneg (L : Int) (show 0 ≤ z.tmod (L : Int) + (L : Int) by omega)
  exact ⟨((z.tmod (L : Int) + (L : Int)).tmod (L : Int)).toNat, by omega, by omega⟩
theorem set_xor (a : List (BitVec 8)) (k : Nat) (hk : k < a.length) (y : BitVec 8) : a = a.set k (a.getD k 0 ^^^ y) ↔ y = 0 := by
  constructor
  · intro h
    have h2 := congrArg (fun l => l.getD k 0) h
    simp only [List.getD_eq_getElem?_getD, List.getElem?_set_self hk, Option.getD_some, List.getElem?_eq_getElem hk] at h2
    have h3 : a[k] ^^^ y = a[k] ^^^ 0 := by rw [← h2]; simp
    exact BitVec.xor_right_inj a[k] |>.1 h3
  · rintro rfl
    simp [List.getD_eq_getElem?_getD, List.getElem?_eq_getElem hk]
theorem bv_set (a : List (BitVec 8)) (k : Nat) (y : BitVec 8) : (bv a).set k (.int .u8 (bn y)) = bv (a.set k y) := by simp [bv, List.map_set]
theorem bn_zero (y : BitVec 8) : (bn y == 0) = decide (y = 0) := by
  by_cases h : y = 0
  · subst h; rfl
  · have : bn y ≠ 0 := fun e => h (bn_inj (y := 0) (by rw [e]; rfl))
    rw [decide_eq_false h]
    exact beq_eq_false_iff_ne.2 this
attribute [local go_sem] bn_xor
set_option maxRecDepth 100000 in
set_option maxHeartbeats 4000000 in
theorem macEqual_any (va vb : Value) (a b : List (BitVec 8)) (at_ : Int) (by_ : BitVec 8) (w : World) (hK : TabK K0 1 w) (hra : Rd w va (bv a)) (hrb : Rd w vb (bv b)) :
    Calls Tryd.prog 6 #[va, vb, .int .i64 at_, .int .u8 (bn by_)] w fun e w' => e = .returned (.bool true) ∧ Below w.heap.size w w' := by
  have HK := Lib.hid hK
  have HA := Lib.hid hra
  have HB := Lib.hid hrb
  obtain ⟨aoa, capa, rfl, -, -, -, -⟩ := hra
  obtain ⟨aob, capb, rfl, -, -, -, -⟩ := hrb
  clear hK
  have HL := Lib.hid (live3_any w HK.out)
  go_enter Tryd.func6, Tryd.ntmps6
  go_wp2_with fail
  refine HL.out.mono ?_
  rintro e w1 ⟨rfl, hb1⟩
  have HB1 := Lib.hid hb1
  clear hb1
  by_cases h2 : (bv a).length > 2000
  · have h2' : (2000 : Int) < ((bv a).length : Nat) := by omega
    go_wp2_with fail
    go_ret
    exact ⟨rfl, HB1.out⟩
  · have h2' : ¬ (2000 : Int) < ((bv a).length : Nat) := by omega
    by_cases h3 : (bv b).length > 2000
    · have h3' : (2000 : Int) < ((bv b).length : Nat) := by omega
      go_wp2_with fail
      go_ret
      exact ⟨rfl, HB1.out⟩
    · have h3' : ¬ (2000 : Int) < ((bv b).length : Nat) := by omega
      go_wp2_with fail
      refine (macEq_any _ _ a b w1 (HA.out.grow HB1.out) (HB.out.grow HB1.out)).mono ?_
      rintro e w2 ⟨rfl, hb2⟩
      have HB2 := Lib.hid (show Aft w w2 from Aft.trans HB1.out hb2)
      clear hb2
      go_wp2_with fail
      refine (same_any _ _ a b w2 (HA.out.grow HB2.out) (HB.out.grow HB2.out)).mono ?_
      rintro e w3 ⟨rfl, rfl⟩
      have hab : decide (b = a) = decide (a = b) := by by_cases h : a = b <;> simp [h, eq_comm]
      generalize hq : decide (a = b) = q at *
      have hqq : (q != q) = false := by simp
      go_wp2_with fail
      refine (macEq_any _ _ b a w3 (HB.out.grow HB2.out) (HA.out.grow HB2.out)).mono ?_
      rintro e w4 ⟨rfl, hb4⟩
      rw [hab]
      have HB4 := Lib.hid (show Aft w w4 from Aft.trans HB2.out hb4)
      clear hb4
      go_wp2_with fail
      refine (macEq_any _ _ a b w4 (HA.out.grow HB4.out) (HB.out.grow HB4.out)).mono ?_
      rintro e w5 ⟨rfl, hb5⟩
      rw [hq]
      have HB5 := Lib.hid (show Aft w w5 from Aft.trans HB4.out hb5)
      clear hb5
      go_wp2_with fail
      refine (macEq_any _ _ a a w5 (HA.out.grow HB5.out) (HA.out.grow HB5.out)).mono ?_
      rintro e w6 ⟨rfl, hb6⟩
      rw [show decide (a = a) = true by simp]
      have HB6 := Lib.hid (show Aft w w6 from Aft.trans HB5.out hb6)
      clear hb6 hab hq
      by_cases hn : a.length = 0
      · have hn' : (bv a).length = 0 := by rw [bv_length]; exact hn
        go_wp2_with fail
        go_ret
        exact ⟨rfl, HB6.out⟩
      · have hn' : ¬ ((bv a).length : Int) = 0 := by rw [bv_length]; omega
        go_wp2_with fail
        have hla : a.length ≤ 2000 := by rw [bv_length] at h2; omega
        refine (copy_any _ a w6 (HA.out.grow HB6.out) (by omega)).mono ?_
        rintro e w7 ⟨a7, c7, rfl, ho7, hb7⟩
        have hform : ∃ g, a7 = some ⟨g, 0, none⟩ ∧ w6.heap.size ≤ g := by
          rcases ho7.2 with ⟨hv, h0⟩ | ⟨g, cap, cur, hv, hge, _⟩
          · exact absurd h0 (by rw [bv_length]; exact hn)
          · cases hv; exact ⟨g, rfl, hge⟩
        obtain ⟨g, rfl, hge⟩ := hform
        have HO7 := Lib.hid ho7
        have HB7 := Lib.hid (show Aft w w7 from Aft.trans HB6.out hb7)
        clear ho7 hb7
        obtain ⟨k, hk, hke⟩ := idx_of at_ (bv a).length (by rw [bv_length]; omega) (by omega)
        have hk2 : k < a.length := by rw [bv_length] at hk; exact hk
        have hfz := HO7.out.frozenAt k
        have hcl : w7.cell? ⟨g, k, none⟩ = some (.int .u8 (bn (a.getD k 0))) := by rw [HO7.out.cellAt k (by omega)]; simp [bv, List.getD, List.getElem?_eq_getElem hk2]
        have hst := HO7.out.stored k (.int .u8 (bn (a.getD k 0 ^^^ by_)))
        rw [bv_set] at hst
        have hbz := bn_zero by_
        have hsx : decide (a = a.set k (a.getD k 0 ^^^ by_)) = decide (by_ = 0) := decide_eq_decide.2 (set_xor a k hk2 by_)
        have hlen : (a.set k (a.getD k 0 ^^^ by_)).length = a.length := List.length_set ..
        generalize hy : a.getD k 0 = y at *
        generalize ha2 : a.set k (y ^^^ by_) = a2 at *
        generalize decide (by_ = 0) = q2 at *
        have HST := Lib.hid hst
        have HSX := Lib.hid hsx
        have HLen := Lib.hid hlen
        have hq2 : (q2 == q2) = true := by simp
        have hna : decide (a = a2 ++ [0]) = false := decide_eq_false fun h => by have := congrArg List.length h; rw [List.length_append, hlen] at this; simp at this
        have HNA := Lib.hid hna
        clear hst hsx hna hlen hy ha2
        go_wp2_with fail
        have HW8 := Lib.hid (show Aft w (w7.setCell ⟨g, k, none⟩ (.int .u8 (bn (y ^^^ by_)))) from aft_set HB7.out (by have := Below.size HB6.out; show w.heap.size ≤ g; omega) _)
        have HO8 := Lib.hid HST.out.1
        generalize w7.setCell ⟨g, k, none⟩ (.int .u8 (bn (y ^^^ by_))) = w8 at *
        have hl8 : (bv a).length = (bv a2).length := by rw [bv_length, bv_length, HLen.out]
        have HL8 := Lib.hid hl8
        have hRc := Rd.of_own HO8.out
        refine (macEq_any _ _ a a2 w8 (HA.out.grow HW8.out) hRc).mono ?_
        rintro e w9 ⟨rfl, hb9⟩
        rw [HSX.out]
        have HW9 := Lib.hid (Aft.trans HW8.out hb9)
        have HO9 := Lib.hid (ownsRow_below HO8.out (w' := w9) fun g hg => Below.block hb9 g (own_lt HO8.out hg).2)
        have hsz := Below.size hb9
        have hgl := (own_lt HO8.out (g := g) rfl).1
        clear hb9 hRc hl8
        have HOa := Lib.hid (show (w9.alloc (.cells #[.int .u8 0] 5)).ownsRow w6.heap.size 5 1 (.slice (some ⟨g, 0, none⟩) (bv a).length c7) (bv a2).length (bv a2) by rw [← HL8.out]; exact HO9.out.alloc _)
        have HR0 := Lib.hid (Rd.of_own (World.ownsRow_lit (base := w9.heap.size) (e := 5) (size := 1) w9 #[.int .u8 0] 1 (Nat.le_refl _) (by decide) rfl))
        have HLa := Lib.hid (show (bv a2).length ≤ 2000 by rw [← HL8.out]; omega)
        have HW6 := Lib.hid (show w6.heap.size ≤ w9.heap.size by have := own_lt HO9.out (g := g) rfl; omega)
        go_wp2_with ((at_builtin; refine wpList_append_rdG (by kernel_rfl) (.tmp 78) (.tmp 79) 25 rfl w6.heap.size 5 (.int .u8 0) 1 Tryd.underlying25 info_byte rfl (.slice (some ⟨g, 0, none⟩) (bv a).length c7) (.slice (some ⟨w9.heap.size, 0, none⟩) 1 1) (bv a2) [.int .u8 0] rfl rfl HOa.out HR0.out (by intro u hu; simp at hu; subst hu; rfl) (by have := HLa.out; simp; omega) (by have := HLa.out; simp; omega) (by have := HW6.out; rw [World.size_alloc]; omega) ?_; intro v10 w10 k1 k2; have hRe := Lib.hid (show Rd w10 v10 (bv (a2 ++ [0])) by rw [bv_append]; exact Rd.of_own k1); have HW10 := Lib.hid (show Below w.heap.size w w10 from (show Below w.heap.size w (w9.alloc (.cells #[.int .u8 0] 5)) from Aft.trans HW9.out (Aft.alloc _ _)).grown k2 (by rw [World.size_alloc]; have := Below.size HW9.out; omega) (fun g' hg' => by simp [Value.ownBlock] at hg'; have := Below.size HB6.out; omega)); clear k1 k2))
        refine (macEq_any _ _ a (a2 ++ [0]) w10 (HA.out.grow HW10.out) hRe.out).mono ?_
        rintro e w11 ⟨rfl, hb11⟩
        rw [HNA.out]
        have HW11 := Lib.hid (Aft.trans HW10.out hb11)
        clear hb11
        go_wp2_with fail
        go_ret
        exact ⟨rfl, HW11.out⟩
end Go.Proofs.YtifehfcgmodmaaaDoor
/- 'append(s, make([]byte, n)...)', s the call's own, as the model has it: with a number in the place of a slice. Of whatever program. -/
namespace Go.Proofs.YtifehfcgmodmaaaDoor
open Go Go.RowKit
theorem zeroCells_byte (n : Nat) : (Builtin.zeroCells #[Value.int .u8 0] n).toList = List.replicate n (Value.int .u8 0) := by
  unfold Builtin.zeroCells
  apply List.ext_getElem?
  intro i
  by_cases hi : i < n
  · simp [hi, Nat.mod_one]
  · simp [hi]
theorem run_append_no_zeros {P : Program} (w : World) (t tn ty e : TypeId) (i : TypeInfo) (kn : IntKind) (ht : P.underlying t = some (.slice e)) (htn : P.underlying tn = some (.int kn)) (hi : P.info? e = some i)
    (b : Option Addr) (sLen sCap : Nat) (h : sLen ≤ sCap) : (Builtin.append_ #[t, tn] ty #[.slice b sLen sCap, .int .i64 0]).run P w = .ok (.slice b sLen sCap) w := by
  have hw : IntKind.i64.wrap (0 : Int) = 0 := by rw [IntKind.wrap_i64]; omega
  cases b <;> simp [Builtin.append_, run_underlying ht, run_underlying htn, sizeOf, typeInfo, hi, asInt, asIntOf, hw, h, storeCells]
theorem run_append_room_zeros {P : Program} (w : World) (t tn ty e : TypeId) (i : TypeInfo) (kn : IntKind) (ht : P.underlying t = some (.slice e)) (htn : P.underlying tn = some (.int kn)) (hi : P.info? e = some i) (hz : i.zero = some (Value.int .u8 0)) (hsize : i.size = 1) (hby : i.bytes = 1)
    (g sLen sCap : Nat) (cur : Array Value) (hg : w.heap[g]? = some (.cells cur e (0, 0))) (k : Nat) (hk : k ≠ 0) (h : sLen + k ≤ sCap) (hcs : cur.size = sCap) (h48 : k ≤ 1000000) :
    (Builtin.append_ #[t, tn] ty #[.slice (some ⟨g, 0, none⟩) sLen sCap, .int .i64 k]).run P w =
      .ok (.slice (some ⟨g, 0, none⟩) (sLen + k) sCap) (w.setRow g (cur.toList.take sLen ++ List.replicate k (Value.int .u8 0) ++ cur.toList.drop (sLen + k)).toArray) := by
  have hw : IntKind.i64.wrap (k : Int) = k := by rw [IntKind.wrap_i64]; omega
  have hneg : ¬ ((k : Int) < 0) := by omega
  have h48i : ¬ (281474976710656 < (k : Int)) := by omega
  have hst := run_storeCells_at P g sLen e (List.replicate k (Value.int .u8 0)) 0 cur w hg (by simp; omega) (by intro v hv; rw [List.mem_replicate] at hv; rw [hv.2]; rfl)
  simp only [Nat.add_zero, List.length_replicate] at hst
  have hcells : (Value.int .u8 0).cells = #[Value.int .u8 0] := rfl
  simp [Builtin.append_, run_underlying ht, run_underlying htn, sizeOf, typeInfo, zeroValue, hi, hz, hsize, hby, asInt, asIntOf, hw, h, hneg, h48i, hk, hcells, zeroCells_byte, Addr.add_lit, hst]
theorem run_append_own_zeros {P : Program} (w : World) (base : Nat) (t tn ty e : TypeId) (i : TypeInfo) (kn : IntKind) (ht : P.underlying t = some (.slice e)) (htn : P.underlying tn = some (.int kn)) (hi : P.info? e = some i) (hz : i.zero = some (Value.int .u8 0)) (hsize : i.size = 1) (hby : i.bytes = 1)
    (v : Value) (xs : List Value) (hown : w.ownsRow base e 1 v xs.length xs) (k : Nat) (hlen : xs.length + k ≤ 1000000) (hbase : base ≤ w.heap.size) :
    ∃ v' w', (Builtin.append_ #[t, tn] ty #[v, .int .i64 k]).run P w = .ok v' w' ∧ w'.ownsRow base e 1 v' (xs ++ List.replicate k (Value.int .u8 0)).length (xs ++ List.replicate k (Value.int .u8 0)) ∧ w.grownBy w' v.ownBlock := by
  by_cases hk : k = 0
  · subst hk
    refine ⟨v, w, ?_, by simpa using hown, ⟨rfl, rfl, rfl, Nat.le_refl _, fun _ _ _ => rfl⟩⟩
    rcases hown.2 with ⟨rfl, h0⟩ | ⟨g, cap, cur, rfl, _, _, hnc, _⟩
    · exact run_append_no_zeros w t tn ty e i kn ht htn hi none 0 0 (Nat.le_refl _)
    · exact run_append_no_zeros w t tn ty e i kn ht htn hi _ _ _ hnc
  · have hl2 : (xs ++ List.replicate k (Value.int .u8 0)).length = xs.length + k := by simp
    rw [hl2]
    have hlen2 : (xs ++ List.replicate k (Value.int .u8 0)).length = (xs.length + k) * 1 := by rw [hl2, Nat.mul_one]
    have grown : ∀ (old : Nat), old < xs.length + k → ∀ (row : Option Nat),
        (w.drew.alloc (.cells (xs.toArray ++ Builtin.zeroCells (Value.int .u8 0).cells k ++ Builtin.zeroCells (Value.int .u8 0).cells (grownCap w (xs.length + k) old e - (xs.length + k))) e)).ownsRow base e 1
          (.slice (some ⟨w.heap.size, 0, none⟩) (xs.length + k) (grownCap w (xs.length + k) old e)) (xs.length + k) (xs ++ List.replicate k (Value.int .u8 0)) ∧
        w.grownBy (w.drew.alloc (.cells (xs.toArray ++ Builtin.zeroCells (Value.int .u8 0).cells k ++ Builtin.zeroCells (Value.int .u8 0).cells (grownCap w (xs.length + k) old e - (xs.length + k))) e)) row := by
      intro old ho row
      have hge := grownCap_ge w (xs.length + k) old e
      have hcm : grownCap w (xs.length + k) old e ≤ maxLen := grownCap_le_maxLen w (xs.length + k) old e (by unfold maxLen; omega)
      have hz1 : (Value.int IntKind.u8 0).cells.size = 1 := rfl
      refine ⟨⟨hlen2, .inr ⟨w.heap.size, _, _, rfl, hbase, heap_alloc_new w.drew _, hge, hcm, ?_, ?_⟩⟩, ⟨rfl, rfl, rfl, by simp, fun j hj _ => Below.heap_alloc w.drew _ j hj⟩⟩
      · simp only [Array.size_append, List.size_toArray, size_zeroCells, hz1]
        omega
      · have hzk : (Builtin.zeroCells (Value.int .u8 0).cells k).toList = List.replicate k (Value.int .u8 0) := zeroCells_byte k
        simp only [Array.toList_append, hzk]
        rw [← hlen2]
        exact List.take_left
    rcases hown.2 with ⟨rfl, h0⟩ | ⟨g, cap, cur, rfl, hbg, hg, hnc, hcm, hcs, htake⟩
    · have hx : xs = [] := List.eq_nil_of_length_eq_zero h0
      subst hx
      have hr := Lib.run_append_nil_zeros (P := P) w t tn ty e i (Value.int .u8 0) .i64 kn ht htn hi hz k (by omega) (by omega) (by simp at hlen; omega) (by rw [hby]; simp at hlen; omega)
      have hgr := grown 0 (by omega) (Value.ownBlock (.slice none 0 0))
      simp only [List.length_nil, Nat.zero_add, List.nil_append, Array.empty_append] at hgr ⊢
      exact ⟨_, _, hr, hgr.1, hgr.2⟩
    · by_cases hroom : xs.length + k ≤ cap
      · have hcs' : cur.size = cap := by simpa using hcs
        have hr := run_append_room_zeros (P := P) w t tn ty e i kn ht htn hi hz hsize hby g xs.length cap cur hg k hk hroom hcs' (by omega)
        refine ⟨_, _, hr, ⟨hlen2, .inr ⟨g, cap, _, rfl, hbg, setRow_heap w g cur _ e _ hg, hroom, hcm, ?_, ?_⟩⟩, ⟨rfl, rfl, rfl, by simp, fun k _ hk => setRow_other w g k _ (fun e => hk (by simp [Value.ownBlock, e]))⟩⟩
        · simp only [List.size_toArray, List.length_append, List.length_take, List.length_drop, Array.length_toList, List.length_replicate]
          omega
        · have ht' : cur.toList.take xs.length = xs := by simpa using htake
          rw [ht', ← hlen2]
          exact List.take_left
      · have holds : ∀ j u, xs[j]? = some u → w.cell? ((⟨g, 0, none⟩ : Addr).add j) = some u := hown.cells (g := g) rfl
        have hf : (Builtin.firstCells i.size xs.length (.slice (some ⟨g, 0, none⟩) xs.length cap)).run P w.drew = .ok xs.toArray w.drew := by
          have hl := run_loadCells_list (P := P) w.drew ⟨g, 0, none⟩ xs (fun j u hu => holds j u hu)
          rw [hsize]
          simpa [Builtin.firstCells] using hl
        have hr := Lib.run_append_grow_zeros (P := P) w t tn ty e i (Value.int .u8 0) .i64 kn ht htn hi hz (some ⟨g, 0, none⟩) xs.length cap xs hf k (by omega) (by omega) (by omega) (by omega) (by rw [hby]; omega) (by rw [hby]; exact growslice_fits (by omega) (by omega))
        have hgr := grown cap (by omega) (Value.ownBlock (.slice (some ⟨g, 0, none⟩) xs.length cap))
        exact ⟨_, _, hr, hgr.1, hgr.2⟩
theorem wpList_append_zeros {P : Program} {w : World} {ops : Array Oper} {rest : List Oper} {o : Oper} {a : Act} {Q : Exit → Act → World → Prop} (hgd : o.guard = none) (s x : Operand) (t tn : TypeId)
    (ho : o.op = .call { callee := .builtin .append, args := #[s, x], argTypes := #[t, tn] })
    (base : Nat) (e : TypeId) (kn : IntKind) (ht : P.underlying t = some (.slice e)) (htn : P.underlying tn = some (.int kn)) (hinfo : (P.info? e).map (fun i => (i.zero, i.size, i.bytes)) = some (some (Value.int .u8 0), 1, 1))
    (v : Value) (xs : List Value) (k : Nat) (hs : a.eval s = v) (hx : a.eval x = .int .i64 (k : Int)) (hown : w.ownsRow base e 1 v xs.length xs) (hlen : xs.length + k ≤ 1000000) (hbase : base ≤ w.heap.size)
    (h : ∀ v' w', w'.ownsRow base e 1 v' (xs ++ List.replicate k (Value.int .u8 0)).length (xs ++ List.replicate k (Value.int .u8 0)) → w.grownBy w' v.ownBlock → wpList P ops Q rest (a.put o.dst v') w') : wpList P ops Q (o :: rest) a w := by
  obtain ⟨i, hi, hz1, hz2, hz3⟩ := info_parts hinfo
  obtain ⟨v', w', hr, h2, h3⟩ := run_append_own_zeros (P := P) w base t tn o.type e i kn ht htn hi hz1 hz2 hz3 v xs hown k hlen hbase
  exact Lib.wpList_append_run w hgd s x t tn ho v _ hs hx v' w' hr (h v' w' h2 h3)
end Go.Proofs.YtifehfcgmodmaaaDoor
/- law03.MacKeys, walked whole. -/
namespace Go.Proofs.YtifehfcgmodmaaaDoor
open Go Go.RowKit
theorem key64_sum (k : List (BitVec 8)) (h : 64 < k.length) : key64 K0 (digest K0 k) = key64 K0 k := by
  unfold key64
  rw [if_pos (by rw [digest_length]; omega), if_neg (by omega)]
theorem macOf_sum (k d : List (BitVec 8)) (h : 64 < k.length) : macOf K0 (digest K0 k) d = macOf K0 k d := by
  unfold macOf
  rw [key64_sum k h]
theorem heldB_zeros (k : List (BitVec 8)) (n : Nat) (b : BitVec 8) : heldB (k ++ List.replicate n 0) b = heldB k b := by
  unfold heldB
  apply List.map_congr_left
  intro j _
  congr 1
  simp only [List.getD_eq_getElem?_getD]
  by_cases hj : j < k.length
  · rw [List.getElem?_append_left hj]
  · rw [List.getElem?_append_right (by omega), List.getElem?_eq_none (l := k) (by omega)]
    by_cases h2 : j - k.length < n
    · rw [List.getElem?_replicate_of_lt h2]; rfl
    · rw [List.getElem?_eq_none (by simp; omega)]
theorem macOf_zeros (k d : List (BitVec 8)) (n : Nat) (h : k.length + n ≤ 64) : macOf K0 (k ++ List.replicate n 0) d = macOf K0 k d := by
  have e1 : key64 K0 (k ++ List.replicate n 0) = k ++ List.replicate n 0 := if_pos (by simp; omega)
  have e2 : key64 K0 k = k := if_pos (by omega)
  unfold macOf
  rw [e1, e2, heldB_zeros, heldB_zeros]
theorem RdAll.twoA (w : World) (v1 v2 : Value) (l1 l2 : List (BitVec 8)) (t : Nat) (h1 : Rd w v1 (bv l1)) (h2 : Rd w v2 (bv l2)) : RdAll (w.alloc (.cells #[v1, v2] t)) (.slice (some ⟨w.heap.size, 0, none⟩) 2 2) [l1, l2] :=
  RdAll.two (heap_alloc_new w _) (h1.grow (Aft.alloc w _)) (h2.grow (Aft.alloc w _))
theorem bv_zeros (n : Nat) : List.replicate n (Value.int .u8 0) = bv (List.replicate n 0) := by simp [bv, bn]
set_option maxRecDepth 100000 in
theorem run_neq_key (X : List (BitVec 8)) (hx : X.length = 32) (w : World) : (Go.binOp .neq 28 (.agg (bv X).toArray) (.agg (bv X).toArray)).run Tryd.prog w = .ok (.bool false) w := by
  have heq := run_eq_key X X hx hx
  simp only [decide_true] at heq
  simp [go_sem, heq]
set_option maxRecDepth 100000 in
theorem run_eql_key (X : List (BitVec 8)) (hx : X.length = 32) (w : World) : (Go.binOp .eql 28 (.agg (bv X).toArray) (.agg (bv X).toArray)).run Tryd.prog w = .ok (.bool true) w := by
  have heq := run_eq_key X X hx hx
  simp only [decide_true] at heq
  simp [go_sem, heq]
theorem guard_key (op : BinOp) (x y : Operand) (cs ds : Array Value) (w : World) : (eqGuard op 28 x y (.agg cs) (.agg ds)).run Tryd.prog w = .ok () w := by
  have hq := Tryd.eqGuardType28
  cases op <;> simp [eqGuard, run_program, hq]
/-- An operation on two values, whose outcome is known. -/
theorem lf_bin {P : Program} {ops : Array Oper} {w0 : World} {Kd : Nat → Nat} {Q : Exit → Act → World → Prop} {n k : Nat} {o : Oper} {l : List Oper} {a : Act} {w : World} (hk : Kd k = 0) (hw : Region.wanted o (yielded ops a.tmps) = true)
    (op : BinOp) (t t2 : TypeId) (x y : Operand) (ho : o.op = .binOp op t x y t2) (vx vy v : Value) (hx : a.eval x = vx) (hy : a.eval y = vy) (hr : ∀ w1, (Go.binOp op t vx vy).run P w1 = .ok v w1) (hg : ∀ w1, (eqGuard op t x y vx vy).run P w1 = .ok () w1)
    (h : wpFx P ops w0 Kd Q n (k + 1) l (a.put o.dst v) w) : wpFx P ops w0 Kd Q (n + 1) k (o :: l) a w := by
  have hup := wpFx_up (P := P) (ops := ops) (w0 := w0) (Kd := Kd) (Q := Q) n (k + 1) l
  simp only [wpFx_succ, stepF, hw, if_true, hk]
  rw [if_neg (by omega)]
  refine ⟨none, fun _ => v, fun _ => rfl, fun w1 hw1 _ => .inl ?_, fun w1 g hw1 _ => hup _ _ _ hw1 h⟩
  unfold execOp
  simp only [ho, hx, hy, Sem.run_bind, hg, hr, Result.andThen_ok, Sem.run_pure]
set_option maxRecDepth 100000 in
set_option maxHeartbeats 4000000 in
theorem macKeys_any (vk va vb : Value) (k a b : List (BitVec 8)) (z : BitVec 8) (w : World) (hK : TabK K0 1 w) (hrk : Rd w vk (bv k)) (hra : Rd w va (bv a)) (hrb : Rd w vb (bv b)) :
    Calls Tryd.prog 4 #[vk, va, vb, .int .u8 (bn z)] w fun e w' => e = .returned (.bool true) ∧ Below w.heap.size w w' := by
  have HK := Lib.hid hK
  have HR := Lib.hid hrk
  have HA := Lib.hid hra
  have HB := Lib.hid hrb
  obtain ⟨aok, capk, rfl, -, -, -, -⟩ := hrk
  obtain ⟨aoa, capa, rfl, -, -, -, -⟩ := hra
  obtain ⟨aob, capb, rfl, -, -, -, -⟩ := hrb
  clear hK
  have HL := Lib.hid (live3_any w HK.out)
  go_enter Tryd.func4, Tryd.ntmps4
  go_wp2_with fail
  refine HL.out.mono ?_
  rintro e w1 ⟨rfl, hb1⟩
  have HB1 := Lib.hid hb1
  clear hb1
  by_cases h1 : (bv k).length > 500
  · have h1' : (500 : Int) < ((bv k).length : Nat) := by omega
    go_wp2_with fail
    go_ret
    exact ⟨rfl, HB1.out⟩
  · have h1' : ¬ (500 : Int) < ((bv k).length : Nat) := by omega
    by_cases h2 : (bv a).length > 2000
    · have h2' : (2000 : Int) < ((bv a).length : Nat) := by omega
      go_wp2_with fail
      go_ret
      exact ⟨rfl, HB1.out⟩
    · have h2' : ¬ (2000 : Int) < ((bv a).length : Nat) := by omega
      by_cases h3 : (bv b).length > 2000
      · have h3' : (2000 : Int) < ((bv b).length : Nat) := by omega
        go_wp2_with fail
        go_ret
        exact ⟨rfl, HB1.out⟩
      · have h3' : ¬ (2000 : Int) < ((bv b).length : Nat) := by omega
        have HLk := Lib.hid (show k.length ≤ 500 by rw [bv_length] at h1; omega)
        have HLa := Lib.hid (show a.length ≤ 2000 by rw [bv_length] at h2; omega)
        have HLb := Lib.hid (show b.length ≤ 2000 by rw [bv_length] at h3; omega)
        go_wp2_with fail
        have hal : Aft w1 (w1.alloc (.cells #[.slice aoa (bv a).length capa, .slice aob (bv b).length capb] 25)) := Aft.alloc _ _
        have hm := mac_any _ _ k [a, b] _ (TabK_fr HK.out (Fr.of_below (S := fun _ => False) (show Below w.heap.size w _ from Aft.trans HB1.out hal)) (fun h => h)) (HR.out.grow (Aft.trans HB1.out hal)) (RdAll.twoA w1 _ _ a b _ (HA.out.grow HB1.out) (HB.out.grow HB1.out)) (by have := HLk.out; omega) (by simp) (by have := HLa.out; have := HLb.out; simp; omega)
        rw [show ([a, b] : List (List (BitVec 8))).flatten = a ++ b by simp] at hm
        have hxl := macOf_length K0 k (a ++ b)
        generalize hX : macOf K0 k (a ++ b) = X at hm hxl
        have HX := Lib.hid hX
        have HXL := Lib.hid hxl
        have HM := Lib.hid hm
        have HAl := Lib.hid hal
        clear hm hxl hX hal
        refine HM.out.mono ?_
        rintro e w2 ⟨rfl, hb2⟩
        have HB2 := Lib.hid (show Below w.heap.size w w2 from Aft.trans HB1.out (Aft.trans HAl.out hb2))
        have HS2 := Lib.hid (heap_alloc_new w2 (.cells key0 28))
        clear hb2
        go_wp2_with ((refine wpList_store_keyX rfl (.tmp 10) (.tmp 34) rfl w2.heap.size X HXL.out rfl rfl HS2.out ?_; intro w3 q2 q3; have HK3 := Lib.hid q2.out; have HB3 := Lib.hid (q3 w.heap.size w HB2.out.size (HB2.out.alloc HB2.out.size _)); clear q2 q3))
        simp only [Act.put]
        have heq := run_eq_key X X HXL.out HXL.out
        simp only [decide_true] at heq
        refine wp_region_lexF (fun i => ([0, 0, 0, 2, 0, 3, 1, 2, 0] : List Nat).getD i 0) 9 (by kernel_rfl) (by kernel_rfl) ?_; intro wf hwf
        have HWf := Lib.hid (show Aft w3 wf by rw [hwf]; exact (Below.refl _ _).drew)
        have HBf := Lib.hid (show Below w.heap.size w wf by rw [hwf]; exact HB3.out.drew)
        clear hwf
        refine lf_load_row rfl (by kernel_rfl) 28 (.tmp 10) rfl w2.heap.size rfl _ (bv X).toArray _ _ (HWf.out.get HK3.out) Tryd.underlying28 rfl (by rw [List.size_toArray, bv_length, HXL.out]; kernel_rfl) ?_
        simp only [Act.put, List.setIfInBounds_toArray, List.set_cons_succ, List.set_cons_zero]
        repeat (first | (refine lf_skip (by go_big_quiet_skip; exact wpQuiet_nil trivial) (by kernel_rfl) ?_; simp only [Act.put, List.setIfInBounds_toArray, List.set_cons_succ, List.set_cons_zero]) | (refine lf_quiet rfl (by go_big_quiet_want; exact quiet_false (by assumption)) (by kernel_rfl) rfl ?_; intro Kx hKx; go_big_quiet_op; go_big_quiet_on))
        refine lf_eff rfl (by go_big_quiet_want; exact quiet_false (by assumption)) (by kernel_rfl) ?_
        intro wg hg Kx hKx
        have HBg := Lib.hid (show Below w.heap.size w wg from Aft.trans HBf.out hg)
        refine wp_append_rd (.const (.slice none 0 0)) (.tmp 37) 25 rfl wg.heap.size 5 (.int .u8 0) 1 Tryd.underlying25 info_byte rfl (.slice none 0 0) (.slice aoa (bv a).length capa) [] (bv a) rfl rfl (World.ownsRow_nil _ _ _ _) (HA.out.grow HBg.out) (bv_one _) (by have := HLa.out; simp [bv_length]; omega) (by have := HLa.out; simp [bv_length]; omega) (Nat.le_refl _) ?_
        intro v1 wh k1 k2
        rw [List.nil_append] at k1
        have hgh : Aft wg wh := (Below.refl _ _).grown k2 (Nat.le_refl _) (by simp [Value.ownBlock])
        apply hKx
        refine ⟨hgh, ?_⟩
        simp only [Act.put, List.setIfInBounds_toArray, List.set_cons_succ, List.set_cons_zero]
        have HK1 := Lib.hid k1
        have HFh := Lib.hid (Aft.trans hg hgh)
        have HFg := Lib.hid hg
        have HGH := Lib.hid hgh
        clear k1 k2 hg hgh hKx
        repeat (first | (refine lf_skip (by go_big_quiet_skip; exact wpQuiet_nil trivial) (by kernel_rfl) ?_; simp only [Act.put, List.setIfInBounds_toArray, List.set_cons_succ, List.set_cons_zero]) | (refine lf_quiet rfl (by go_big_quiet_want; exact quiet_false (by assumption)) (by kernel_rfl) rfl ?_; intro Kx hKx; go_big_quiet_op; go_big_quiet_on))
        refine lf_eff3 rfl (by go_big_quiet_want; exact quiet_false (by assumption)) (by kernel_rfl) ?_
        intro wi hi Kx hKx
        have HO1 := Lib.hid (ownsRow_below HK1.out (w' := wi) fun g hg => Below.block hi g (own_lt HK1.out hg).2)
        have HBi := Lib.hid (show Below w.heap.size w wi from Aft.trans HBf.out (Aft.trans HFh.out hi))
        have hsz : wg.heap.size ≤ wi.heap.size := by have := Below.size HGH.out; have := Below.size hi; omega
        refine wp_append_rd (.tmp 38) (.tmp 39) 25 rfl wg.heap.size 5 (.int .u8 0) 1 Tryd.underlying25 info_byte rfl v1 (.slice aob (bv b).length capb) (bv a) (bv b) rfl rfl HO1.out (HB.out.grow HBi.out) (bv_one _) (by have := HLa.out; have := HLb.out; simp [bv_length]; omega) (by have := HLa.out; have := HLb.out; simp [bv_length]; omega) hsz ?_
        intro v2 wj k1 k2
        have hij : Below wg.heap.size wi wj := (Below.refl wg.heap.size wi).grown k2 hsz (fun g hg => (own_lt HO1.out hg).1)
        have hgj : Aft wg wj := Below.trans (show Aft wg wi from Aft.trans HGH.out hi) hij
        have HFj := Lib.hid (show Aft wf wj from Aft.trans HFg.out hgj)
        have hab : Rd wj v2 (bv (a ++ b)) := by rw [bv_append]; exact Rd.of_own k1
        obtain ⟨av2, nab, cv2, rfl⟩ : ∃ ao n cap, v2 = .slice ao n cap := by obtain ⟨ao, cap, h⟩ := own_shape k1; exact ⟨ao, _, cap, h⟩
        apply hKx
        refine ⟨HFj.out, ?_⟩
        simp only [Act.put, List.setIfInBounds_toArray, List.set_cons_succ, List.set_cons_zero]
        have HAB := Lib.hid hab
        clear hij hgj k1 k2 hi hKx hsz hab
        refine lf_fresh (.cells #[.slice av2 nab cv2] 25) (fun g => .slice (some ⟨g, 0, none⟩) 1 1) rfl (by kernel_rfl) (fun w1 => by kernel_rfl) ?_
        intro wk gk hk1 hk2 hk3
        simp only [Act.put, List.setIfInBounds_toArray, List.set_cons_succ, List.set_cons_zero]
        have HK4 := Lib.hid hk3
        have HJk := Lib.hid hk1
        clear hk1 hk2 hk3
        refine lf_eff rfl (by go_big_quiet_want; exact quiet_false (by assumption)) (by kernel_rfl) ?_
        intro wl hl Kx hKx
        have HJl := Lib.hid (Aft.trans HJk.out hl)
        have HFl := Lib.hid (Aft.trans HFj.out HJl.out)
        have HBl := Lib.hid (show Below w.heap.size w wl from Aft.trans HBf.out HFl.out)
        have hm := mac_any (.slice aok (bv k).length capk) _ k [a ++ b] wl (TabK_fr HK.out (Fr.of_below (S := fun _ => False) HBl.out) (fun h => h)) (HR.out.grow HBl.out) (RdAll.blk (Aft.get hl HK4.out) (HAB.out.grow HJl.out)) (by have := HLk.out; omega) (by simp) (by have := HLa.out; have := HLb.out; simp; omega)
        rw [show ([a ++ b] : List (List (BitVec 8))).flatten = a ++ b by simp, HX.out] at hm
        have HM2 := Lib.hid hm
        clear hm hl
        go_wp2_with fail
        refine HM2.out.mono ?_
        rintro e wm ⟨rfl, hm⟩
        go_wp2_with fail
        refine ⟨hm, ?_⟩
        have HFm := Lib.hid (show Aft wf wm from Aft.trans HFl.out hm)
        clear hm
        refine lf_bin rfl (by kernel_rfl) .neq 28 28 (.tmp 35) (.tmp 42) rfl _ _ _ rfl rfl (run_neq_key X HXL.out) (guard_key _ _ _ _ _) ?_
        simp only [Act.put, List.setIfInBounds_toArray, List.set_cons_succ, List.set_cons_zero]
        refine lf_done ?_
        intro wn hn
        have HFn := Lib.hid (show Aft wf wn from Aft.trans HFm.out hn)
        have HBn := Lib.hid (show Below w.heap.size w wn from Aft.trans HBf.out HFn.out)
        have HKn := Lib.hid (Aft.get (Aft.trans HWf.out HFn.out) HK3.out)
        clear hn
        by_cases h4 : (bv k).length > 64
        · have h4' : (64 : Int) < ((bv k).length : Nat) := by omega
          go_wp2_with fail
          have hal : Aft wn (wn.alloc (.cells #[.slice aok (bv k).length capk] 25)) := Aft.alloc _ _
          have hs := sum_any K0 _ [k] _ (TabK_fr HK.out (Fr.of_below (S := fun _ => False) (show Below w.heap.size w _ from Aft.trans HBn.out hal)) (fun h => h)) (RdAll.one wn _ k _ (HR.out.grow HBn.out)) (by have := HLk.out; simp; omega)
          rw [show ([k] : List (List (BitVec 8))).flatten = k by simp] at hs
          have hsl := digest_length K0 k
          have hms := macOf_sum k (a ++ b) (by rw [bv_length] at h4; exact h4)
          rw [HX.out] at hms
          generalize digest K0 k = S at hs hsl hms
          have HSL := Lib.hid hsl
          have HMS := Lib.hid hms
          have HSum := Lib.hid hs
          have HAl2 := Lib.hid hal
          clear hs hsl hms hal
          refine HSum.out.mono ?_
          rintro e wo ⟨rfl, ho⟩
          have HBo := Lib.hid (show Below w.heap.size w wo from Aft.trans HBn.out (Aft.trans HAl2.out ho))
          have HKo := Lib.hid (Aft.get (Aft.trans HAl2.out ho) HKn.out)
          have HSo := Lib.hid (heap_alloc_new wo (.cells key0 28))
          clear ho
          have hal := fun wx : World => run_sliceAt_key wx wo.heap.size
          go_wp2_with ((refine wpList_store_keyX rfl (.tmp 11) (.tmp 49) rfl wo.heap.size S HSL.out rfl rfl HSo.out ?_; intro wp q2 q3; have HKp := Lib.hid q2.out; have HBp := Lib.hid (q3 w.heap.size w HBo.out.size (HBo.out.alloc HBo.out.size _)); have HK2p := Lib.hid ((Below.block (show Aft wo wp from q3 wo.heap.size wo (Nat.le_refl _) (Below.alloc (Below.refl _ _) (Nat.le_refl _) _)) w2.heap.size (heap_lt HKo.out)).trans HKo.out); clear q2 q3))
          simp only [Act.put]
          refine wp_region_lexF (fun i => ([0, 0, 0, 0, 0, 0, 1, 2, 0, 0, 0] : List Nat).getD i 0) 11 (by kernel_rfl) (by kernel_rfl) ?_; intro wq hwq
          have HWq := Lib.hid (show Aft wp wq by rw [hwq]; exact (Below.refl _ _).drew)
          have HBq := Lib.hid (show Below w.heap.size w wq by rw [hwq]; exact HBp.out.drew)
          clear hwq
          iterate 2 (refine lf_quiet rfl (by go_big_quiet_want; exact quiet_false (by assumption)) (by kernel_rfl) rfl ?_; intro Kx hKx; go_big_quiet_op; go_big_quiet_on)
          refine lf_load_row rfl (by kernel_rfl) 28 (.tmp 10) rfl w2.heap.size rfl _ (bv X).toArray _ _ (HWq.out.get HK2p.out) Tryd.underlying28 rfl (by rw [List.size_toArray, bv_length, HXL.out]; kernel_rfl) ?_
          simp only [Act.put, List.setIfInBounds_toArray, List.set_cons_succ, List.set_cons_zero]
          repeat (first | (refine lf_skip (by go_big_quiet_skip; exact wpQuiet_nil trivial) (by kernel_rfl) ?_; simp only [Act.put, List.setIfInBounds_toArray, List.set_cons_succ, List.set_cons_zero]) | (refine lf_quiet rfl (by go_big_quiet_want; exact quiet_false (by assumption)) (by kernel_rfl) rfl ?_; intro Kx hKx; go_big_quiet_op; go_big_quiet_on))
          refine lf_fresh (.cells #[.slice aoa (bv a).length capa, .slice aob (bv b).length capb] 25) (fun g => .slice (some ⟨g, 0, none⟩) 2 2) rfl (by kernel_rfl) (fun w1 => by kernel_rfl) ?_
          intro wr gr hr1 hr2 hr3
          simp only [Act.put, List.setIfInBounds_toArray, List.set_cons_succ, List.set_cons_zero]
          have HR3 := Lib.hid hr3
          have HQr := Lib.hid hr1
          clear hr1 hr2 hr3
          refine lf_eff rfl (by go_big_quiet_want; exact quiet_false (by assumption)) (by kernel_rfl) ?_
          intro ws hs Kx hKx
          have HQs := Lib.hid (Aft.trans HQr.out hs)
          have HBs := Lib.hid (show Below w.heap.size w ws from Aft.trans HBq.out HQs.out)
          have hm := mac_any (.slice (some ⟨wo.heap.size, 0, none⟩) 32 32) _ S [a, b] ws (TabK_fr HK.out (Fr.of_below (S := fun _ => False) HBs.out) (fun h => h)) (Rd.of_key (Aft.get (Aft.trans HWq.out HQs.out) HKp.out) HSL.out) (RdAll.two (Aft.get hs HR3.out) (HA.out.grow HBs.out) (HB.out.grow HBs.out)) (by have := HSL.out; omega) (by simp) (by have := HLa.out; have := HLb.out; simp; omega)
          rw [show ([a, b] : List (List (BitVec 8))).flatten = a ++ b by simp, HMS.out] at hm
          have HM3 := Lib.hid hm
          clear hm hs
          go_wp2_with fail
          refine HM3.out.mono ?_
          rintro e wt ⟨rfl, ht⟩
          go_wp2_with fail
          refine ⟨ht, ?_⟩
          have HBt := Lib.hid (show Below w.heap.size w wt from Aft.trans HBs.out ht)
          clear ht
          refine lf_bin rfl (by kernel_rfl) .eql 28 28 (.tmp 52) (.tmp 57) rfl _ _ _ rfl rfl (run_eql_key X HXL.out) (guard_key _ _ _ _ _) ?_
          simp only [Act.put, List.setIfInBounds_toArray, List.set_cons_succ, List.set_cons_zero]
          repeat (first | (refine lf_skip (by go_big_quiet_skip; exact wpQuiet_nil trivial) (by kernel_rfl) ?_; simp only [Act.put, List.setIfInBounds_toArray, List.set_cons_succ, List.set_cons_zero]) | (refine lf_quiet rfl (by go_big_quiet_want; exact quiet_false (by assumption)) (by kernel_rfl) rfl ?_; intro Kx hKx; go_big_quiet_op; go_big_quiet_on))
          refine lf_done ?_
          intro wu hu
          have HBu := Lib.hid (show Below w.heap.size w wu from Aft.trans HBt.out hu)
          clear hu
          go_wp2_with fail
          go_ret
          exact ⟨rfl, HBu.out⟩
        · have h4' : ¬ (64 : Int) < ((bv k).length : Nat) := by omega
          have HLk2 := Lib.hid (show k.length ≤ 64 by rw [bv_length] at h4; omega)
          obtain ⟨n, hn, hif⟩ : ∃ n : Nat, k.length + n ≤ 64 ∧ (if 64 - ((bv k).length : Int) < wrap64 (bn z) then 64 - ((bv k).length : Int) else wrap64 (bn z)) = (n : Int) := by
            have hz := z.isLt
            have hkl := HLk2.out
            have hwz : wrap64 (bn z) = (z.toNat : Int) := wrap64_mid (bn_nonneg z) (by have := bn_lt z; omega)
            rw [hwz, bv_length]
            refine ⟨min z.toNat (64 - k.length), by omega, ?_⟩
            split <;> omega
          have HNn := Lib.hid hn
          have HIF := Lib.hid hif
          have hif2 := hif
          have hmz := macOf_zeros k (a ++ b) n hn
          rw [HX.out] at hmz
          have HMZ := Lib.hid hmz
          clear hif hmz hn
          have HOn := Lib.hid (World.ownsRow_nil wn wn.heap.size 5 1)
          have HRn := Lib.hid (HR.out.grow HBn.out)
          go_wp2_with (first
            | (at_builtin; refine wpList_append_rd rfl _ _ 25 rfl wn.heap.size 5 (.int .u8 0) 1 Tryd.underlying25 info_byte rfl (.slice none 0 0) (.slice aok (bv k).length capk) [] (bv k) rfl rfl HOn.out HRn.out (bv_one _) (by have := HLk.out; simp [bv_length]; omega) (by have := HLk.out; simp [bv_length]; omega) (Nat.le_refl _) ?_; intro v7 w7 k1 k2 k3; have HN7 := Lib.hid (show Aft wn w7 from (Below.refl _ _).grown k2 (Nat.le_refl _) (by simp [Value.ownBlock])); have HO7 := Lib.hid (show w7.ownsRow wn.heap.size 5 1 v7 (bv k).length (bv k) from k1); clear k1 k2 k3)
            | (at_builtin; refine wpList_append_zeros rfl (.tmp 61) (.tmp 67) 25 3 rfl wn.heap.size 5 .i64 Tryd.underlying25 Tryd.underlying3 info_byte v7 (bv k) n rfl (by first | rfl | exact congrArg (Value.int .i64) HIF.out) HO7.out (by have := HNn.out; rw [bv_length]; omega) (Below.size HN7.out) ?_; intro v8 w8 k1 k2; have HN8 := Lib.hid (show Aft wn w8 from Below.trans (show Below wn.heap.size wn w7 from HN7.out) ((Below.refl wn.heap.size w7).grown k2 (Below.size HN7.out) (fun g hg => (own_lt HO7.out hg).1))); have HR8 := Lib.hid (show Rd w8 v8 (bv (k ++ List.replicate n 0)) by rw [bv_append, ← bv_zeros]; exact Rd.of_own k1); clear k1 k2))
          refine wp_region_lexF (fun i => ([0, 0, 0, 0, 0, 0, 1, 2, 0, 0, 0] : List Nat).getD i 0) 11 (by kernel_rfl) (by kernel_rfl) ?_; intro wq hwq
          have HWq := Lib.hid (show Aft w8 wq by rw [hwq]; exact (Below.refl _ _).drew)
          have HNq := Lib.hid (Aft.trans HN8.out HWq.out)
          have HBq := Lib.hid (show Below w.heap.size w wq from Aft.trans HBn.out HNq.out)
          clear hwq
          iterate 2 (refine lf_quiet rfl (by go_big_quiet_want; exact quiet_false (by assumption)) (by kernel_rfl) rfl ?_; intro Kx hKx; go_big_quiet_op; go_big_quiet_on)
          refine lf_load_row rfl (by kernel_rfl) 28 (.tmp 10) rfl w2.heap.size rfl _ (bv X).toArray _ _ (HNq.out.get HKn.out) Tryd.underlying28 rfl (by rw [List.size_toArray, bv_length, HXL.out]; kernel_rfl) ?_
          simp only [Act.put, List.setIfInBounds_toArray, List.set_cons_succ, List.set_cons_zero]
          repeat (first | (refine lf_skip (by go_big_quiet_skip; exact wpQuiet_nil trivial) (by kernel_rfl) ?_; simp only [Act.put, List.setIfInBounds_toArray, List.set_cons_succ, List.set_cons_zero]) | (refine lf_quiet rfl (by go_big_quiet_want; exact quiet_false (by assumption)) (by kernel_rfl) rfl ?_; intro Kx hKx; go_big_quiet_op; go_big_quiet_on))
          refine lf_fresh (.cells #[.slice aoa (bv a).length capa, .slice aob (bv b).length capb] 25) (fun g => .slice (some ⟨g, 0, none⟩) 2 2) rfl (by kernel_rfl) (fun w1 => by kernel_rfl) ?_
          intro wr gr hr1 hr2 hr3
          simp only [Act.put, List.setIfInBounds_toArray, List.set_cons_succ, List.set_cons_zero]
          have HR3 := Lib.hid hr3
          have HQr := Lib.hid hr1
          clear hr1 hr2 hr3
          refine lf_eff rfl (by go_big_quiet_want; exact quiet_false (by assumption)) (by kernel_rfl) ?_
          intro ws hs Kx hKx
          have HQs := Lib.hid (Aft.trans HQr.out hs)
          have HBs := Lib.hid (show Below w.heap.size w ws from Aft.trans HBq.out HQs.out)
          have hm := mac_any v8 _ (k ++ List.replicate n 0) [a, b] ws (TabK_fr HK.out (Fr.of_below (S := fun _ => False) HBs.out) (fun h => h)) (HR8.out.grow (Aft.trans HWq.out HQs.out)) (RdAll.two (Aft.get hs HR3.out) (HA.out.grow HBs.out) (HB.out.grow HBs.out)) (by have := HNn.out; simp; omega) (by simp) (by have := HLa.out; have := HLb.out; simp; omega)
          rw [show ([a, b] : List (List (BitVec 8))).flatten = a ++ b by simp, HMZ.out] at hm
          have HM3 := Lib.hid hm
          clear hm hs
          go_wp2_with fail
          refine HM3.out.mono ?_
          rintro e wt ⟨rfl, ht⟩
          go_wp2_with fail
          refine ⟨ht, ?_⟩
          have HBt := Lib.hid (show Below w.heap.size w wt from Aft.trans HBs.out ht)
          clear ht
          refine lf_bin rfl (by kernel_rfl) .eql 28 28 (.tmp 71) (.tmp 76) rfl _ _ _ rfl rfl (run_eql_key X HXL.out) (guard_key _ _ _ _ _) ?_
          simp only [Act.put, List.setIfInBounds_toArray, List.set_cons_succ, List.set_cons_zero]
          repeat (first | (refine lf_skip (by go_big_quiet_skip; exact wpQuiet_nil trivial) (by kernel_rfl) ?_; simp only [Act.put, List.setIfInBounds_toArray, List.set_cons_succ, List.set_cons_zero]) | (refine lf_quiet rfl (by go_big_quiet_want; exact quiet_false (by assumption)) (by kernel_rfl) rfl ?_; intro Kx hKx; go_big_quiet_op; go_big_quiet_on))
          refine lf_done ?_
          intro wu hu
          have HBu := Lib.hid (show Below w.heap.size w wu from Aft.trans HBt.out hu)
          clear hu
          go_wp2_with fail
          go_ret
          exact ⟨rfl, HBu.out⟩
end Go.Proofs.YtifehfcgmodmaaaDoor
/- mac.Expand's own function: the next bytes. -/
namespace Go.Proofs.YtifehfcgmodmaaaDoor
open Go Go.RowKit
theorem bn_succ (t : BitVec 8) : IntKind.u8.wrap (bn t + 1) = bn (t + 1) := by
  have := t.isLt
  have h1 : (1 : BitVec 8).toNat = 1 := rfl
  unfold bn
  rw [IntKind.wrap_u8, BitVec.toNat_add, h1]
  omega
theorem RdAll.three {w : World} {v1 v2 v3 : Value} {g : Nat} {t : TypeId} {fr : Nat × Nat} {l1 l2 l3 : List (BitVec 8)} (hg : w.heap[g]? = some (.cells #[v1, v2, v3] t fr)) (h1 : Rd w v1 (bv l1)) (h2 : Rd w v2 (bv l2)) (h3 : Rd w v3 (bv l3)) : RdAll w (.slice (some ⟨g, 0, none⟩) 3 3) [l1, l2, l3] := by
  refine ⟨[v1, v2, v3], ⟨some ⟨g, 0, none⟩, 3, rfl, Nat.le_refl _, by omega, (fun h => by cases h), fun ad ha j u hu => ?_⟩, rfl, fun i u hu => ?_⟩
  · cases ha
    match j with
    | 0 => cases hu; simp [World.cell?, hg, Addr.add]
    | 1 => cases hu; simp [World.cell?, hg, Addr.add]
    | 2 => cases hu; simp [World.cell?, hg, Addr.add]
    | j + 3 => simp at hu
  · match i with
    | 0 => cases hu; exact h1
    | 1 => cases hu; exact h2
    | 2 => cases hu; exact h3
    | i + 3 => simp at hu
theorem one_cell_at {w : World} {g t : Nat} {v : Value} (h : w.heap[g]? = some (.cells #[v] t (0, 0))) : w.cell? ⟨g, 0, none⟩ = some v ∧ w.frozen? ⟨g, 0, none⟩ = false :=
  ⟨by rw [cell_of_row w g 0 _ _ _ h]; rfl, frozen_of_row w g 0 _ _ h⟩
theorem one_cell_set {w : World} {g t : Nat} {v : Value} (u : Value) (h : w.heap[g]? = some (.cells #[v] t (0, 0))) : (w.setCell ⟨g, 0, none⟩ u).heap[g]? = some (.cells #[u] t (0, 0)) := by
  rw [heap_setCell_same w g 0 _ _ u h]
  rfl
theorem rd_byte {w : World} {g t : Nat} {x : BitVec 8} {fr : Nat × Nat} (h : w.heap[g]? = some (.cells #[.int .u8 (bn x)] t fr)) : Rd w (.slice (some ⟨g, 0, none⟩) 1 1) (bv [x]) := by
  refine ⟨some ⟨g, 0, none⟩, 1, rfl, Nat.le_refl _, by omega, (fun h => by cases h), fun ad ha j u hu => ?_⟩
  cases ha
  match j with
  | 0 => cases hu; simp [World.cell?, h, Addr.add]
  | j + 1 => simp [bv] at hu
def moreS (B : Nat) (j : Nat) : Prop := j = B + 2 ∨ j = B + 3
attribute [local go_sem] bn_succ
set_option maxRecDepth 100000 in
set_option maxHeartbeats 2000000 in
theorem more_any (B : Nat) (k info T : List (BitVec 8)) (t : BitVec 8) (vi vl : Value) (w : World) (hK : TabK K0 1 w) (hB : 1 < B) (hk : k.length = 32)
    (h1 : w.heap[B]? = some (.cells (bv k).toArray 28 (0, 0))) (h2 : w.heap[B + 1]? = some (.cells #[vi] 25 (0, 0))) (h3 : w.heap[B + 2]? = some (.cells #[vl] 25 (0, 0))) (h4 : w.heap[B + 3]? = some (.cells #[.int .u8 (bn t)] 5 (0, 0)))
    (hi : Rd w vi (bv info)) (hl : Rd w vl (bv T)) (hvi : ∀ g, vi.ownBlock = some g → bv info ≠ [] → ¬ moreS B g) (hvl : ∀ g, vl.ownBlock = some g → ¬ moreS B g) (hil : info.length ≤ 1000000000) (hTl : T.length ≤ 32) :
    Calls Tryd.prog 71 #[.pointer (some ⟨B + 3, 0, none⟩), .pointer (some ⟨B, 0, none⟩), .pointer (some ⟨B + 2, 0, none⟩), .pointer (some ⟨B + 1, 0, none⟩)] w fun e w' =>
      ∃ g, e = .returned (.slice (some ⟨g, 0, none⟩) 32 32) ∧ w.heap.size ≤ g ∧ w'.heap[g]? = some (.cells (bv (macOf K0 k (T ++ (info ++ [t + 1])))).toArray 28 (0, 0)) ∧
        w'.heap[B + 2]? = some (.cells #[.slice (some ⟨g, 0, none⟩) 32 32] 25 (0, 0)) ∧ w'.heap[B + 3]? = some (.cells #[.int .u8 (bn (t + 1))] 5 (0, 0)) ∧ Fr (moreS B) w w' := by
  have HK := Lib.hid hK
  have H1 := Lib.hid h1
  have H2 := Lib.hid h2
  have H3 := Lib.hid h3
  have H4 := Lib.hid h4
  have HI := Lib.hid hi
  have HL := Lib.hid hl
  clear hK
  obtain ⟨c4, f4⟩ := one_cell_at h4
  obtain ⟨al, cl, rfl, -, -, -, -⟩ := hl
  obtain ⟨ai, ci, rfl, -, -, -, -⟩ := hi
  have HVI := Lib.hid hvi
  have HVL := Lib.hid hvl
  clear h1 h2 h3 h4 hvi hvl
  go_enter Tryd.func71, Tryd.ntmps71
  go_wp2_with fail
  have hb3 : ∀ j, j ≠ B + 3 → (w.setCell ⟨B + 3, 0, none⟩ (.int .u8 (bn (t + 1)))).heap[j]? = w.heap[j]? := fun j hj => Below.heap_setCell _ _ _ _ hj
  have H4a := Lib.hid (one_cell_set (.int .u8 (bn (t + 1))) H4.out)
  have H1a := Lib.hid ((hb3 B (by omega)).trans H1.out)
  have H2a := Lib.hid ((hb3 (B + 1) (by omega)).trans H2.out)
  have H3a := Lib.hid ((hb3 (B + 2) (by omega)).trans H3.out)
  have HIa := Lib.hid (HI.out.setCell (p := ⟨B + 3, 0, none⟩) (fun g hg hx => fun e => HVI.out g hg hx (.inr e)) (.int .u8 (bn (t + 1))))
  have HLa := Lib.hid (HL.out.setCell (p := ⟨B + 3, 0, none⟩) (fun g hg _ => fun e => HVL.out g hg (.inr e)) (.int .u8 (bn (t + 1))))
  have HFa := Lib.hid ((Fr.refl (moreS B) w).setCell (p := ⟨B + 3, 0, none⟩) (.inr rfl) (.int .u8 (bn (t + 1))))
  clear hb3
  show Code.wp _ _ _ _ (w.setCell ⟨B + 3, 0, none⟩ (.int .u8 (bn (t + 1))))
  generalize w.setCell ⟨B + 3, 0, none⟩ (.int .u8 (bn (t + 1))) = w1 at *
  have ht1 : t + 1#8 = t + 1 := rfl
  rw [ht1]
  generalize hT1 : t + 1 = t1 at *
  have HT1 := Lib.hid hT1
  clear hT1
  have hal := fun wx : World => run_sliceAt_key wx B
  have HKlen := Lib.hid hk
  have HIl := Lib.hid hil
  have HTl := Lib.hid hTl
  clear c4 f4 ht1 hk hil hTl
  refine wp_region_lexF (fun i => ([0, 0, 0, 0, 1, 1, 2, 1, 3] : List Nat).getD i 0) 9 (by kernel_rfl) (by kernel_rfl) ?_; intro wr hwr
  have HWr := Lib.hid (show Aft w1 wr by rw [hwr]; exact (Below.refl _ _).drew)
  clear hwr
  have L2 := fun u : Later wr.heap.size wr => (one_cell_at (Aft.get (Aft.trans HWr.out u.h) H3a.out)).1
  have L1 := fun u : Later wr.heap.size wr => (one_cell_at (Aft.get (Aft.trans HWr.out u.h) H2a.out)).1
  have L0 := fun u : Later wr.heap.size wr => (one_cell_at (Aft.get (Aft.trans HWr.out u.h) H4a.out)).1
  repeat (first | (refine lf_skip (by go_big_quiet_skip; exact wpQuiet_nil trivial) (by kernel_rfl) ?_; simp only [Act.put, List.setIfInBounds_toArray, List.set_cons_succ, List.set_cons_zero]) | (refine lf_quiet rfl (by go_big_quiet_want; exact quiet_false (by assumption)) (by kernel_rfl) rfl ?_; intro Kx hKx; go_big_quiet_op; go_big_quiet_on))
  refine lf_fresh (.cells #[.int .u8 (bn t1)] 5) (fun g => .slice (some ⟨g, 0, none⟩) 1 1) rfl (by kernel_rfl) (fun w1 => by kernel_rfl) ?_
  intro wa ga ha1 ha2 ha3
  simp only [Act.put, List.setIfInBounds_toArray, List.set_cons_succ, List.set_cons_zero]
  have HA3 := Lib.hid ha3
  have HRa := Lib.hid ha1
  clear ha1 ha2 ha3
  refine lf_fresh (.cells #[.slice al (bv T).length cl, .slice ai (bv info).length ci, .slice (some ⟨ga, 0, none⟩) 1 1] 25) (fun g => .slice (some ⟨g, 0, none⟩) 3 3) rfl (by kernel_rfl) (fun w1 => by kernel_rfl) ?_
  intro wb gb hb1 hb2 hb3
  simp only [Act.put, List.setIfInBounds_toArray, List.set_cons_succ, List.set_cons_zero]
  have HB3 := Lib.hid hb3
  have HAb := Lib.hid hb1
  clear hb1 hb2 hb3
  refine lf_eff rfl (by go_big_quiet_want; exact quiet_false (by assumption)) (by kernel_rfl) ?_
  intro wc hc Kx hKx
  have HAc := Lib.hid (Aft.trans HAb.out hc)
  have HRc := Lib.hid (Aft.trans HRa.out HAc.out)
  have H1c := Lib.hid (Aft.trans HWr.out HRc.out)
  have hm := mac_any (.slice (some ⟨B, 0, none⟩) 32 32) _ k [T, info, [t1]] wc (TabK_fr HK.out (HFa.out.trans (Fr.of_below H1c.out)) (fun h => by rcases h with h | h <;> omega)) (Rd.of_key (Aft.get H1c.out H1a.out) HKlen.out)
    (RdAll.three (Aft.get hc HB3.out) (HLa.out.grow H1c.out) (HIa.out.grow H1c.out) (rd_byte (Aft.get HAc.out HA3.out))) (by have := HKlen.out; omega) (by simp) (by have := HIl.out; have := HTl.out; simp; omega)
  rw [show ([T, info, [t1]] : List (List (BitVec 8))).flatten = T ++ (info ++ [t1]) by simp] at hm
  have hxl := macOf_length K0 k (T ++ (info ++ [t1]))
  generalize hX : macOf K0 k (T ++ (info ++ [t1])) = X at *
  have HX := Lib.hid hX
  clear hX
  have HM := Lib.hid hm
  have HXL := Lib.hid hxl
  clear hm hxl hc
  go_wp2_with fail
  refine HM.out.mono ?_
  rintro e wd ⟨rfl, hd⟩
  go_wp2_with fail
  refine ⟨hd, ?_⟩
  have HRd := Lib.hid (Aft.trans HRc.out hd)
  clear hd
  refine lf_fresh (.cells key0 28) (fun g => .pointer (some ⟨g, 0, none⟩)) rfl (by kernel_rfl) (fun w1 => by kernel_rfl) ?_
  intro we ge he1 he2 he3
  simp only [Act.put, List.setIfInBounds_toArray, List.set_cons_succ, List.set_cons_zero]
  have HRe := Lib.hid (Aft.trans HRd.out he1)
  have hxs : (bv X).toArray.size = 32 := by rw [List.size_toArray, bv_length, HXL.out]
  refine lf_store rfl (by kernel_rfl) 28 (.tmp 5) (.tmp 14) rfl ge (bv X).toArray rfl rfl _ key0 HRe.out he2 he3 (by rw [hxs]; kernel_rfl) (by rw [hxs]; rfl) (Array.all_eq_true_iff_forall_mem.2 fun u hu => bv_one X u (by simpa using hu)) ?_
  intro wf hf1 hf2 hf3
  simp only [Act.put]
  refine lf_done ?_
  intro wg hg
  have HRg := Lib.hid (Aft.trans hf2 hg)
  have HKg := Lib.hid (Aft.get hg hf1.out)
  have H1g := Lib.hid (Aft.trans HWr.out HRg.out)
  have H3g := Lib.hid (Aft.get H1g.out H3a.out)
  have H4g := Lib.hid (Aft.get H1g.out H4a.out)
  obtain ⟨c3, f3⟩ := one_cell_at H3g.out
  have hal2 := fun wx : World => run_sliceAt_key wx ge
  have HE2 := Lib.hid (show w1.heap.size ≤ ge by have := Below.size HWr.out; omega)
  clear hf1 hf2 hf3 hg he1 he2 he3 hxs
  go_wp2_with fail
  have hl3 := heap_lt H3a.out
  have hE := HE2.out
  go_ret
  refine ⟨ge, rfl, Nat.le_trans HFa.out.size hE, ?_, one_cell_set _ H3g.out, ?_, ?_⟩
  · rw [HT1.out, HX.out]; exact (Below.heap_setCell _ _ _ _ (show ge ≠ B + 2 by omega)).trans HKg.out
  · rw [HT1.out]; exact (Below.heap_setCell _ _ _ _ (show B + 3 ≠ B + 2 by omega)).trans H4g.out
  · exact (HFa.out.trans (Fr.of_below H1g.out)).setCell (p := ⟨B + 2, 0, none⟩) (.inl rfl) _
end Go.Proofs.YtifehfcgmodmaaaDoor
/- mac.Expand: bytes of a key. -/
namespace Go.Proofs.YtifehfcgmodmaaaDoor
open Go Go.RowKit
def expT (K : Nat → BitVec 32) (k info : List (BitVec 8)) : Nat → List (BitVec 8)
  | 0 => []
  | i + 1 => macOf K k (expT K k info i ++ (info ++ [BitVec.ofNat 8 (i + 1)]))
def expOut (K : Nat → BitVec 32) (k info : List (BitVec 8)) : Nat → List (BitVec 8)
  | 0 => []
  | i + 1 => expOut K k info i ++ expT K k info (i + 1)
theorem expT_length (K : Nat → BitVec 32) (k info : List (BitVec 8)) : ∀ i, (expT K k info i).length ≤ 32
  | 0 => by simp [expT]
  | i + 1 => by rw [expT, macOf_length]; omega
theorem expOut_length (K : Nat → BitVec 32) (k info : List (BitVec 8)) : ∀ i, (expOut K k info i).length = 32 * i
  | 0 => rfl
  | i + 1 => by rw [expOut, List.length_append, expOut_length K k info i, expT, macOf_length]; omega
structure expInv (w : World) (B : Nat) (k inf : List (BitVec 8)) (vi : Value) (m : Nat) (v : Value) (wr : World) : Prop where
  key : wr.heap[B]? = some (.cells (bv k).toArray 28 (0, 0))
  info : wr.heap[B + 1]? = some (.cells #[vi] 25 (0, 0))
  last : ∃ vl, wr.heap[B + 2]? = some (.cells #[vl] 25 (0, 0)) ∧ Rd wr vl (bv (expT K0 k inf m)) ∧ ∀ g, vl.ownBlock = some g → ¬ moreS B g
  turn : wr.heap[B + 3]? = some (.cells #[.int .u8 (bn (BitVec.ofNat 8 m))] 5 (0, 0))
  own : wr.ownsRow (B + 4) 5 1 v (bv (expOut K0 k inf m)).length (bv (expOut K0 k inf m))
  aft : Aft w wr
def mkRow (n : Nat) : Array Value := madeCells #[.int .u8 0] n
theorem mkRow_size (n : Nat) : (mkRow n).size = n := by rw [mkRow, size_madeCells]
theorem exp_start (w : World) (k inf : List (BitVec 8)) (vi : Value) (c : Nat) (hc : c ≤ maxLen) :
    expInv w w.heap.size k inf vi 0 (.slice (some ⟨w.heap.size + 4, 0, none⟩) 0 c) (((((w.alloc (.cells (bv k).toArray 28)).alloc (.cells #[vi] 25)).alloc (.cells #[.slice none 0 0] 25)).alloc (.cells #[.int .u8 0] 5)).alloc (.cells (mkRow c) 5)) := by
  have a0 := heap_alloc_new w (.cells (bv k).toArray 28)
  have a1 := heap_alloc_new (w.alloc (.cells (bv k).toArray 28)) (.cells #[vi] 25)
  have a2 := heap_alloc_new ((w.alloc (.cells (bv k).toArray 28)).alloc (.cells #[vi] 25)) (.cells #[.slice none 0 0] 25)
  have a3 := heap_alloc_new (((w.alloc (.cells (bv k).toArray 28)).alloc (.cells #[vi] 25)).alloc (.cells #[.slice none 0 0] 25)) (.cells #[.int .u8 0] 5)
  have b0 := Aft.alloc w (.cells (bv k).toArray 28)
  have b1 := Aft.alloc (w.alloc (.cells (bv k).toArray 28)) (.cells #[vi] 25)
  have b2 := Aft.alloc ((w.alloc (.cells (bv k).toArray 28)).alloc (.cells #[vi] 25)) (.cells #[.slice none 0 0] 25)
  have b3 := Aft.alloc (((w.alloc (.cells (bv k).toArray 28)).alloc (.cells #[vi] 25)).alloc (.cells #[.slice none 0 0] 25)) (.cells #[.int .u8 0] 5)
  have b4 := Aft.alloc ((((w.alloc (.cells (bv k).toArray 28)).alloc (.cells #[vi] 25)).alloc (.cells #[.slice none 0 0] 25)).alloc (.cells #[.int .u8 0] 5)) (.cells (mkRow c) 5)
  have hm := World.ownsRow_made (base := w.heap.size + 4) (e := 5) (size := 1) ((((w.alloc (.cells (bv k).toArray 28)).alloc (.cells #[vi] 25)).alloc (.cells #[.slice none 0 0] 25)).alloc (.cells #[.int .u8 0] 5)) (mkRow c) c (by simp only [World.size_alloc]; omega) hc (by rw [mkRow_size, Nat.mul_one])
  simp only [World.size_alloc, Nat.add_assoc, Nat.reduceAdd] at a1 a2 a3 hm
  exact ⟨Aft.get (Aft.trans b1 (Aft.trans b2 (Aft.trans b3 b4))) a0, Aft.get (Aft.trans b2 (Aft.trans b3 b4)) a1, ⟨_, Aft.get (Aft.trans b3 b4) a2, Rd.nil _, fun g hg => by simp [Value.ownBlock] at hg⟩, Aft.get b4 a3, hm, Aft.trans b0 (Aft.trans b1 (Aft.trans b2 (Aft.trans b3 b4)))⟩
theorem ofNat_succ (m : Nat) : BitVec.ofNat 8 m + 1 = BitVec.ofNat 8 (m + 1) := by
  apply BitVec.eq_of_toNat_eq
  rw [BitVec.toNat_add, BitVec.toNat_ofNat, BitVec.toNat_ofNat]
  have h1 : (1 : BitVec 8).toNat = 1 := rfl
  rw [h1]
  omega
theorem cut_whole {P : Program} {t e : TypeId} (ht : P.underlying t = some (.slice e)) {ao : Option Addr} {len cap n : Nat} (hn : n ≤ cap) (w : World) {i : TypeInfo} (hi : P.info? e = some i) :
    (Instr.slice t (.slice ao len cap) none (some (.int .i64 (n : Int))) (some (.int .i64 (n : Int)))).run P w = .ok (.slice ao n n) w := by
  have he : P.elem t = e := by simp [Program.elem, ht]
  rw [run_slice_hm w t ao len cap (by rw [he]; exact ht) .i64 .i64 (n : Int) (n : Int) (by omega) (by omega) (by omega), he, run_sizeOf w hi]
  simp only [Result.andThen, sliced, Int.toNat_natCast, Nat.zero_mul, Nat.sub_zero]
  cases ao <;> simp [Addr.add]
theorem Rd.whole {w : World} {ao : Option Addr} {cap len : Nat} {xs : List Value} (h : Rd w (.slice ao len cap) xs) {n : Nat} (hn : n ≤ xs.length) : Rd w (.slice ao n n) (xs.take n) := by
  obtain ⟨ao', cap', hv, h1, h2, h3, h4⟩ := h
  cases hv
  refine ⟨ao, n, by rw [List.length_take, Nat.min_eq_left hn], by rw [List.length_take]; omega, by omega, fun e => (by have := h3 e; omega), fun ad ha j u hu => h4 ad ha j u ?_⟩
  rw [List.getElem?_take] at hu
  split at hu
  · exact hu
  · cases hu
theorem exp_step {w wr w2 w3 : World} {k inf : List (BitVec 8)} {vi v v3 : Value} {m g : Nat} (h : expInv w w.heap.size k inf vi m v wr) (hg : wr.heap.size ≤ g)
    (h1 : w2.heap[g]? = some (.cells (bv (expT K0 k inf (m + 1))).toArray 28 (0, 0))) (h2 : w2.heap[w.heap.size + 2]? = some (.cells #[.slice (some ⟨g, 0, none⟩) 32 32] 25 (0, 0)))
    (h3 : w2.heap[w.heap.size + 3]? = some (.cells #[.int .u8 (bn (BitVec.ofNat 8 m + 1))] 5 (0, 0))) (hf : Fr (moreS w.heap.size) wr w2)
    (k1 : w3.ownsRow (w.heap.size + 4) 5 1 v3 (bv (expOut K0 k inf m) ++ bv (expT K0 k inf (m + 1))).length (bv (expOut K0 k inf m) ++ bv (expT K0 k inf (m + 1)))) (k2 : w2.grownBy w3 v.ownBlock) : expInv w w.heap.size k inf vi (m + 1) v3 w3 := by
  have hsz := hf.size
  have hl4 := heap_lt h.turn
  have own : ∀ b, v.ownBlock = some b → w.heap.size + 4 ≤ b ∧ b < wr.heap.size := fun b hb => own_lt h.own hb
  have keep : ∀ b, b < w2.heap.size → v.ownBlock ≠ some b → w3.heap[b]? = w2.heap[b]? := fun b hb hne => k2.block b hb (fun e => hne e.symm)
  have low : ∀ b, b < w.heap.size + 4 → v.ownBlock ≠ some b := fun b hb e => by have := (own b e).1; omega
  have hgn : v.ownBlock ≠ some g := fun e => by have := (own g e).2; omega
  have hg2 := heap_lt h1
  have hkg := (keep g hg2 hgn).trans h1
  have hXl : (expT K0 k inf (m + 1)).length = 32 := by rw [expT, macOf_length]
  refine ⟨(keep _ (by omega) (low _ (by omega))).trans ((hf.block _ (by omega) (by unfold moreS; omega)).trans h.key), (keep _ (by omega) (low _ (by omega))).trans ((hf.block _ (by omega) (by unfold moreS; omega)).trans h.info), ⟨_, (keep _ (by omega) (low _ (by omega))).trans h2, Rd.of_key hkg hXl, fun b hb => ?_⟩, ?_, ?_, ?_⟩
  · simp only [Value.ownBlock, Option.some.injEq] at hb
    subst hb
    unfold moreS; omega
  · rw [← ofNat_succ]; exact (keep _ (by omega) (low _ (by omega))).trans h3
  · rw [expOut, bv_append]; exact k1
  · have ha := h.aft
    exact ⟨k2.os.trans (hf.os.trans ha.os), k2.tape.trans (hf.tape.trans ha.tape), k2.output.trans (hf.output.trans ha.output), by have := Below.size ha; have := k2.size; omega, fun b hb => (keep b (by have := Below.size ha; omega) (low b (by omega))).trans ((hf.block b (by have := Below.size ha; omega) (by unfold moreS; omega)).trans (Below.block ha b hb))⟩
theorem box_key (k : List (BitVec 8)) (w : World) : (Instr.box 28 (.agg (bv k).toArray)).run Tryd.prog w = .ok (.pointer (some ⟨w.heap.size, 0, none⟩)) (w.alloc (.cells (bv k).toArray 28)) := rfl
set_option maxRecDepth 100000 in
set_option maxHeartbeats 2000000 in
theorem expand_any (k info : List (BitVec 8)) (vi : Value) (n : Nat) (w : World) (hK : TabK K0 1 w) (hk : k.length = 32) (hi : Rd w vi (bv info)) (hil : info.length ≤ 1048576) (hn : n ≤ 8160) :
    Calls Tryd.prog 42 #[.agg (bv k).toArray, vi, .int .i64 (n : Int)] w fun e w' =>
      ∃ ao, e = .returned (.tuple #[.slice ao n n, .int .i64 0]) ∧ ∃ m, n ≤ 32 * m ∧ Rd w' (.slice ao n n) (bv ((expOut K0 k info m).take n)) ∧ Below w.heap.size w w' := by
  have HK := Lib.hid hK
  have HI := Lib.hid hi
  have HKl := Lib.hid hk
  have hbk := box_key k
  obtain ⟨ai, ci, rfl, -, -, -, -⟩ := hi
  obtain ⟨iB, hiB, hz1, hz2, hz3⟩ := info_parts info_byte
  have hmk : ∀ w, (Instr.makeSlice 25 (.int .i64 0) (.int .i64 ((n : Int) + 64))).run Tryd.prog w = .ok (.slice (some ⟨w.heap.size, 0, none⟩) 0 (n + 64)) (w.alloc (.cells (mkRow (n + 64)) 5)) := fun w => by
    have := run_make (P := Tryd.prog) w 25 5 iB (.int .u8 0) Tryd.underlying25 hiB hz1 .i64 .i64 0 ((n : Int) + 64) (by omega) (by omega) (by rw [hz3]; omega) (by omega)
    rw [this, hz2, show ((n : Int) + 64).toNat = n + 64 by omega, Nat.mul_one]
    rfl
  clear hz1 hz2 hz3 hiB
  have hil' : ¬ (1048576 : Int) < ((bv info).length : Nat) := by rw [bv_length]; omega
  have HIl := Lib.hid hil
  have hn0 : ¬ (n : Int) < 0 := by omega
  have hn1 : ¬ (8160 : Int) < (n : Int) := by omega
  clear hK hk hil
  go_enter Tryd.func42, Tryd.ntmps42
  go_wp2_with fail
  go_loopw [11] (fun v11 wr => ∃ m : Nat, 32 * m < n + 32 ∧ expInv w w.heap.size k info (.slice ai (bv info).length ci) m v11 wr) (fun v _ => n - lenV v)
  case atStart => exact ⟨0, by omega, exp_start w k info _ (n + 64) (by unfold maxLen; omega)⟩
  case round =>
    obtain ⟨m, hm, hinv⟩ := hrel
    obtain ⟨ao, co, rfl⟩ := own_shape hinv.own
    have hol := expOut_length K0 k info m
    have HInv := Lib.hid hinv
    have HOL := Lib.hid (show (bv (expOut K0 k info m)).length = 32 * m by rw [bv_length, hol])
    clear hinv hol
    by_cases hlt : 32 * m < n
    · have hlt' : ((bv (expOut K0 k info m)).length : Int) < (n : Int) := by rw [HOL.out]; omega
      have hgl : 1 < w.heap.size := by obtain ⟨_, cs, fr, h1, _⟩ := HK.out; exact heap_lt h1
      obtain ⟨vl, hl1, hl2, hl3⟩ := HInv.out.last
      have hmore := more_any w.heap.size k info (expT K0 k info m) (BitVec.ofNat 8 m) (.slice ai (bv info).length ci) vl wr (TabK_fr HK.out (Fr.of_below (S := fun _ => False) HInv.out.aft) (fun h => h)) hgl HKl.out HInv.out.key HInv.out.info hl1 HInv.out.turn (HI.out.grow HInv.out.aft) hl2 (fun g hg hx => by have := HI.out.lt hg hx; unfold moreS; omega) hl3 (by have := HIl.out; omega) (expT_length K0 k info m)
      have HM := Lib.hid hmore
      clear hmore hl1 hl2 hl3
      go_wp2_with fail
      refine HM.out.mono ?_
      rintro e w2 ⟨g, rfl, hge, h1, h2, h3, hfr⟩
      rw [ofNat_succ] at h1
      have HXl := Lib.hid (show (expT K0 k info (m + 1)).length = 32 by rw [expT, macOf_length])
      have HX := Lib.hid (show w2.heap[g]? = some (.cells (bv (expT K0 k info (m + 1))).toArray 28 (0, 0)) from h1)
      have HO2 := Lib.hid (ownsRow_fr HInv.out.own hfr (fun b hb => by have := (own_lt HInv.out.own hb).1; unfold moreS; omega))
      have HRk := Lib.hid (Rd.of_key HX.out HXl.out)
      have HE := Lib.hid (fun (v3 : Value) (w3 : World) k1 k2 => exp_step (v3 := v3) (w3 := w3) HInv.out hge HX.out h2 h3 hfr k1 k2)
      have HZ := Lib.hid (show w.heap.size + 4 ≤ w2.heap.size by have := heap_lt HInv.out.turn; have := hfr.size; have := heap_lt h1; omega)
      clear h1 h2 h3 hfr hge
      go_wp2_with ((at_builtin; refine wpList_append_rd rfl _ _ 25 rfl (w.heap.size + 4) 5 (.int .u8 0) 1 Tryd.underlying25 info_byte rfl (.slice ao (bv (expOut K0 k info m)).length co) (.slice (some ⟨g, 0, none⟩) 32 32) (bv (expOut K0 k info m)) (bv (expT K0 k info (m + 1))) rfl rfl HO2.out HRk.out (bv_one _) (by have := HOL.out; have := HXl.out; rw [bv_length (expT K0 k info (m + 1))]; omega) (by have := HOL.out; have := HXl.out; rw [bv_length (expT K0 k info (m + 1))]; omega) HZ.out ?_; intro v3 w3 k1 k2 k3; have hinv3 := HE.out v3 w3 k1 k2; clear k1 k2 k3))
      go_roundw
      case rel => exact ⟨m + 1, by omega, hinv3⟩
      case measure =>
        have hh := hinv3.own
        obtain ⟨a3, c3, rfl⟩ := own_shape hh
        have := expOut_length K0 k info (m + 1)
        have := HOL.out
        simp only [lenV, bv_length] at *
        omega
    · have hlt' : ¬ ((bv (expOut K0 k info m)).length : Int) < (n : Int) := by rw [HOL.out]; omega
      obtain ⟨iB, hiB, -, -, -⟩ := info_parts info_byte
      have hRd := Rd.of_own HInv.out.own
      have hsl := hRd.sl
      have hcut := fun wx => cut_whole (P := Tryd.prog) (ao := ao) (len := (bv (expOut K0 k info m)).length) (cap := co) (n := n) Tryd.underlying25 (by rw [HOL.out] at hsl; omega) wx hiB
      have HRd := Lib.hid (hRd.whole (n := n) (by rw [HOL.out]; omega))
      clear hRd hsl hiB
      go_wp2_with fail
      go_returns
      exact ⟨ao, rfl, m, by omega, by rw [bv_take]; exact HRd.out, HInv.out.aft⟩
end Go.Proofs.YtifehfcgmodmaaaDoor
/- law03.MacPrefix, walked whole. -/
namespace Go.Proofs.YtifehfcgmodmaaaDoor
open Go Go.RowKit
theorem expOut_prefix (K : Nat → BitVec 32) (k inf : List (BitVec 8)) (m : Nat) : ∀ j n, n ≤ 32 * m → (expOut K k inf (m + j)).take n = (expOut K k inf m).take n
  | 0, _, _ => rfl
  | j + 1, n, h => by
    rw [← Nat.add_assoc, expOut, List.take_append_of_le_length (by rw [expOut_length]; omega)]
    exact expOut_prefix K k inf m j n h
theorem expOut_same (K : Nat → BitVec 32) (k inf : List (BitVec 8)) {m m' n : Nat} (h : n ≤ 32 * m) (h' : n ≤ 32 * m') : (expOut K k inf m').take n = (expOut K k inf m).take n := by
  rcases Nat.le_total m m' with hm | hm
  · obtain ⟨j, rfl⟩ := Nat.exists_eq_add_of_le hm
    exact expOut_prefix K k inf m j n h
  · obtain ⟨j, rfl⟩ := Nat.exists_eq_add_of_le hm
    exact (expOut_prefix K k inf m' j n h').symm
set_option maxRecDepth 100000 in
set_option maxHeartbeats 4000000 in
theorem macPrefix_any (k info : List (BitVec 8)) (vi : Value) (f m : Nat) (w : World) (hK : TabK K0 1 w) (hk : k.length = 32) (hi : Rd w vi (bv info)) (hf : f < 65536) (hm : m < 65536) :
    Calls Tryd.prog 11 #[.agg (bv k).toArray, vi, .int .u16 (f : Int), .int .u16 (m : Int)] w fun e w' => e = .returned (.bool true) ∧ Below w.heap.size w w' := by
  have HK := Lib.hid hK
  have HI := Lib.hid hi
  have HKl := Lib.hid hk
  have hbk := box_key k
  obtain ⟨ai, ci, rfl, -, -, -, -⟩ := hi
  clear hK hk
  have hb0 := Aft.alloc w (.cells (bv k).toArray 28)
  have HL := Lib.hid (live3_any (w.alloc (.cells (bv k).toArray 28)) (TabK_fr HK.out (Fr.of_below (S := fun _ => False) hb0) (fun h => h)))
  have HB0 := Lib.hid hb0
  have HKb := Lib.hid (heap_alloc_new w (.cells (bv k).toArray 28))
  clear hb0
  go_enter Tryd.func11, Tryd.ntmps11
  go_wp2_with fail
  refine HL.out.mono ?_
  rintro e w1 ⟨rfl, hb1⟩
  have HB1 := Lib.hid (show Below w.heap.size w w1 from Aft.trans HB0.out hb1)
  have HK1 := Lib.hid (Aft.get hb1 HKb.out)
  clear hb1
  by_cases h2 : (bv info).length > 2000
  · have h2' : (2000 : Int) < ((bv info).length : Nat) := by omega
    go_wp2_with fail
    go_ret
    exact ⟨rfl, HB1.out⟩
  · have h2' : ¬ (2000 : Int) < ((bv info).length : Nat) := by omega
    have HIl := Lib.hid (show info.length ≤ 2000 by rw [bv_length] at h2; omega)
    have hksz : (Tryd.prog.info? 28).map (·.size) = some (bv k).toArray.size := by rw [List.size_toArray, bv_length, HKl.out]; kernel_rfl
    have HKsz := Lib.hid hksz
    clear hksz
    go_wp2_with (refine wpList_load_row rfl 28 (.tmp 4) rfl w.heap.size rfl 28 (bv k).toArray (0, 0) _ HK1.out Tryd.underlying28 rfl HKsz.out ?_)
    rw [show ((f : Int) % 300) = ((f % 300 : Nat) : Int) from rfl, show ((m : Int) % 300) = ((m % 300 : Nat) : Int) from rfl, ← Int.natCast_add]
    have hn1 : f % 300 < 300 := Nat.mod_lt _ (by omega)
    have hn2 : f % 300 + m % 300 < 600 := by omega
    have hn3 : f % 300 ≤ f % 300 + m % 300 := by omega
    generalize f % 300 + m % 300 = n2 at *
    generalize f % 300 = n1 at *
    have HN := Lib.hid (And.intro hn1 (And.intro hn2 hn3))
    clear hn1 hn2 hn3
    refine (expand_any k info _ n1 w1 (TabK_fr HK.out (Fr.of_below (S := fun _ => False) HB1.out) (fun h => h)) HKl.out (HI.out.grow HB1.out) (by have := HIl.out; omega) (by have := HN.out; omega)).mono ?_
    rintro e w2 ⟨a2, rfl, m2, hm2, hr2, hb2⟩
    have HB2 := Lib.hid (show Below w.heap.size w w2 from Aft.trans HB1.out hb2)
    have HK2 := Lib.hid (Aft.get hb2 HK1.out)
    have HR2 := Lib.hid hr2
    have HM2 := Lib.hid hm2
    clear hb2 hr2 hm2
    go_wp2_with (refine wpList_load_row rfl 28 (.tmp 4) rfl w.heap.size rfl 28 (bv k).toArray (0, 0) _ HK2.out Tryd.underlying28 rfl HKsz.out ?_)
    refine (expand_any k info _ n2 w2 (TabK_fr HK.out (Fr.of_below (S := fun _ => False) HB2.out) (fun h => h)) HKl.out (HI.out.grow HB2.out) (by have := HIl.out; omega) (by have := HN.out; omega)).mono ?_
    rintro e w3 ⟨a3, rfl, m3, hm3, hr3, hb3⟩
    have HB3 := Lib.hid (show Below w.heap.size w w3 from Aft.trans HB2.out hb3)
    have HR3 := Lib.hid (HR2.out.grow hb3)
    obtain ⟨iB, hiB, -, -, -⟩ := info_parts info_byte
    have hle := HN.out.2.2
    have hcut := fun wx => cut_to (P := Tryd.prog) (ao := a3) (len := n2) (cap := n2) (n := n1) Tryd.underlying25 hle wx hiB
    have hto := hr3.to (n := n1) (by rw [bv_length, List.length_take, expOut_length]; omega)
    rw [← bv_take, List.take_take, Nat.min_eq_left hle, expOut_same K0 k info (m := m2) (m' := m3) HM2.out (by omega)] at hto
    have HTo := Lib.hid hto
    clear hb3 hr3 hm3 hto hiB
    go_wp2_with fail
    refine (same_any _ _ _ _ w3 HTo.out HR3.out).mono ?_
    rintro e w4 ⟨rfl, rfl⟩
    go_wp2_with fail
    go_ret
    exact ⟨by simp, HB3.out⟩
end Go.Proofs.YtifehfcgmodmaaaDoor
/- A key as an argument, opened. -/
namespace Go.Proofs.YtifehfcgmodmaaaDoor
open Go Go.RowKit Go.ChangeShapes Go.WideShapes
set_option maxRecDepth 100000
theorem okWide_array {P : Program} {w : World} {r : Reach} {base : Nat} {t : TypeId} {v : Value} {n : Nat} {e : TypeId} (ht : P.underlying t = some (.array n e)) (h : Value.okWide P w r base t v) : ∃ cs, v = .agg cs ∧ cs.size = P.cellsOf t := by
  simp only [Value.okWide, ht] at h
  obtain ⟨cs, h1, h2, _⟩ := h
  exact ⟨cs, h1, h2⟩
theorem open_keyV {H : Type} {enc : TypeId × Value → H} {w : World} {base : Nat} {spare : Nat → Bool} {held : Bool} {v : Value} {d : DataW H} {ps : List MemPlace} {W2 : World} {r : Reach} (hok : Value.okWide Tryd.prog W2 r base 28 v) (h : DataW.Trod enc Tryd.prog w 0 spare held 28 v d ps) :
    ∃ k : List (BitVec 8), v = .agg (bv k).toArray ∧ k.length = 32 := by
  obtain ⟨cs, rfl, hcs⟩ := okWide_array Tryd.underlying28 hok
  obtain ⟨fuel, hf⟩ := h
  have hsz : cs.size = 32 := by rw [hcs]; kernel_rfl
  have g := ints_of_array Tryd.underlying28 Tryd.underlying5 (by kernel_rfl) hf
  obtain ⟨Z, hZ⟩ := Deep.choose_lt (α := Int) (n := 32) (p := fun i z => cs[i]? = some (.int .u8 z) ∧ (Lit.int .u8 z).wf = true) (fun i hi => by
    obtain ⟨z, h1, h2⟩ := g i hi
    exact ⟨z, by simpa [Value.cells] using h1, h2⟩)
  refine ⟨(List.range 32).map fun i => BitVec.ofInt 8 (Z i), ?_, by simp⟩
  congr 1
  apply Array.ext_getElem?
  intro i
  by_cases hi : i < 32
  · rw [(hZ i hi).1]
    simp only [bv, List.map_map, List.getElem?_toArray, List.getElem?_map, List.getElem?_range hi, Option.map_some, Function.comp]
    rw [← bn_of (hZ i hi).2]
  · rw [Array.getElem?_eq_none (by omega), Array.getElem?_eq_none (by simp [bv]; omega)]
end Go.Proofs.YtifehfcgmodmaaaDoor
