/- The law of a node of a node. -/
import Derived.Test.YtcacgbdnegmfnaaGrownR
import Derived.Test.YtcacgbdnegmfnaaSmI
namespace Go.Proofs.Ytcacgbdnegmfnaa.Tr
open Go Go.RowKit
mutual
/-- The trees in a tree, by their numbers. -/
def trT : Nd → List Nd | .mk k n s al ks => .mk k n s al ks :: trL ks
def trL : List Nd → List Nd | [] => [] | t :: ts => trT t ++ trL ts
end
mutual
theorem preT_tr (id : Nat) (par dep pl : Int) : ∀ t, (preT id par dep pl t).map (·.t) = trT t
  | .mk k n s al ks => by unfold preT trT; rw [List.map_cons, preL_tr]
theorem preL_tr (id : Nat) (par dep pl : Int) : ∀ ts, (preL id par dep pl ts).map (·.t) = trL ts
  | [] => by unfold preL trL; rfl
  | t :: ts => by unfold preL trL; rw [List.map_append, preT_tr, preL_tr]
end
mutual
theorem trT_sub : ∀ (t : Nd) (i k : Nat) (s y : Nd), (trT t)[i]? = some s → (trT s)[k]? = some y → (trT t)[i + k]? = some y
  | .mk kd n tx al ks, 0, k, s, y, h1, h2 => by
    unfold trT at h1
    simp at h1
    subst h1
    rwa [Nat.zero_add]
  | .mk kd n tx al ks, i + 1, k, s, y, h1, h2 => by
    unfold trT at h1 ⊢
    rw [List.getElem?_cons_succ] at h1
    rw [show i + 1 + k = i + k + 1 by omega, List.getElem?_cons_succ]
    exact trL_sub ks i k s y h1 h2
theorem trL_sub : ∀ (ts : List Nd) (i k : Nat) (s y : Nd), (trL ts)[i]? = some s → (trT s)[k]? = some y → (trL ts)[i + k]? = some y
  | [], i, k, s, y, h1, h2 => by unfold trL at h1; simp at h1
  | t :: ts, i, k, s, y, h1, h2 => by
    unfold trL at h1 ⊢
    rcases Nat.lt_or_ge i (trT t).length with hi | hi
    · rw [List.getElem?_append_left hi] at h1
      have h3 := trT_sub t i k s y h1 h2
      rw [List.getElem?_append_left (List.getElem?_eq_some_iff.1 h3).1]
      exact h3
    · rw [List.getElem?_append_right hi] at h1
      rw [List.getElem?_append_right (by omega), show i + k - (trT t).length = i - (trT t).length + k by omega]
      exact trL_sub ts _ k s y h1 h2
end
theorem allP_tr (t : Nd) : (allP t).map (·.t) = trT t := preT_tr _ _ _ _ _
theorem sub_sub {t : Nd} {i k : Nat} {x y : Pn} (hx : (allP t)[i]? = some x) (hy : (allP x.t)[k]? = some y) : ∃ z, (allP t)[i + k]? = some z ∧ z.t = y.t := by
  have h1 : (trT t)[i]? = some x.t := by rw [← allP_tr, List.getElem?_map, hx]; rfl
  have h2 : (trT x.t)[k]? = some y.t := by rw [← allP_tr, List.getElem?_map, hy]; rfl
  have h3 := trT_sub t i k x.t y.t h1 h2
  rw [← allP_tr, List.getElem?_map] at h3
  cases hz : (allP t)[i + k]? with
  | none => rw [hz] at h3; cases h3
  | some z => rw [hz] at h3; injection h3 with h3; exact ⟨z, rfl, h3⟩
end Go.Proofs.Ytcacgbdnegmfnaa.Tr
namespace Go.Proofs.Ytcacgbdnegmfnaa.Wk
open Go Go.RowKit Go.Proofs.Ytcacgbdnegmfnaa.Tr Go.Proofs.Ytcacgbdnegmfnaa.Gn
set_option linter.unusedVariables false
set_option maxHeartbeats 8000000 in
set_option maxRecDepth 100000 in
theorem walkSubs0 (A : Option Addr) (len cap : Nat) (a b : Int) (w : World) (hl : LRow w w.heap.size A len) :
    Calls Try.prog 4 #[.slice A len cap, .int .i64 a, .int .i64 b] w fun e w' => e = .returned (.bool true) ∧ Below w.heap.size w w' := by
  go_enter Try.func4, Try.ntmps4
  go_wp2_with fail
  refine (grownRoot_calls A len cap w hl).mono ?_
  rintro e w1 ⟨ks, x4, rfl, hti, hok, hcn, hb1⟩
  clear hl
  obtain ⟨t, ht⟩ : ∃ t, t = Nd.mk 1 ⟨#[]⟩ ⟨#[]⟩ [] ks := ⟨_, rfl⟩
  have hc40 : cntT t ≤ 41 := by rw [ht]; unfold cntT; omega
  have HAT : Hid (attT t) := Lib.hid (by
    have : okT 0 t := by rw [ht]; unfold okT; exact ⟨by omega, Nat.zero_le _, Nat.zero_le _, Nat.zero_le _, by simp, hok⟩
    exact okT_att 0 _ this)
  rw [← ht] at hti
  have hpos := cntT_pos t
  have hxt := hti.is (fun c h => h.2)
  obtain ⟨_, _, _, _, _, _, K, kc, e0, e1, e2, e3, e4, _⟩ := tree_shape hxt
  subst e4
  have HB1 := Lib.hid hb1
  have FT : Hid (∀ W', Below w1.heap.size w1 W' → IsTree W' W'.heap.size t (.int .i64 1) (.string ⟨#[]⟩) (.string ⟨#[]⟩) (.slice none 0 0) (.slice K t.kids.length kc)) := Lib.hid fun W' hb => hxt.keep (fun p hp => hb.cell hp) hb.size
  have HB2 : Hid (Below w1.heap.size w1 (w1.alloc (.cells #[.int .i64 1, .string ⟨#[]⟩, .string ⟨#[]⟩, .slice none 0 0, .slice K t.kids.length kc] 25))) := Lib.hid ((Below.refl _ w1).alloc (Nat.le_refl _) _)
  have HX2 := Lib.hid (alloc_new w1 (.cells #[.int .i64 1, .string ⟨#[]⟩, .string ⟨#[]⟩, .slice none 0 0, .slice K t.kids.length kc] 25))
  clear ht hti hok hcn hxt hb1 e0 e1 e2 e3
  go_wp2_with fail
  generalize w1.alloc (.cells #[.int .i64 1, .string ⟨#[]⟩, .string ⟨#[]⟩, .slice none 0 0, .slice K t.kids.length kc] 25) = w2 at HB2 HX2 ⊢
  refine (flat_calls t _ _ _ _ _ w2 (FT.out _ HB2.out) (by omega) HAT.out).mono ?_
  rintro e w3 ⟨g, gcap, rfl, hc1, hc2, hg, hrow, hb3⟩
  have HB3 : Hid (Below w1.heap.size w1 w3) := Lib.hid (HB2.out.trans (hb3.mono HB2.out.size))
  have HX3 := Lib.hid ((hb3.block _ (lt_of_block HX2.out)).trans HX2.out)
  have HR3 := Lib.hid hrow
  clear hrow hb3 hg
  have hne : ((cntT t : Int) == 0) = false := by rw [beq_eq_false_iff_ne]; omega
  go_wp2_with fail
  refine (Gn.place_any a (cntT t) (by omega) (by omega) w3).mono ?_
  rintro e _ ⟨⟨i, hi, rfl⟩, rfl⟩
  have hi2 : i < cntT t := by omega
  obtain ⟨x, hx⟩ : ∃ x, (allP t)[i]? = some x := ⟨_, List.getElem?_eq_getElem (by rw [allP_length]; omega)⟩
  obtain ⟨b0, b1, b2, b3, b4⟩ := box5 HX3.out
  go_wp2_with fail
  refine (sub_calls t _ _ _ _ _ (i : Int) w3 (FT.out _ HB3.out) (by omega)).mono ?_
  rintro e w4 ⟨s0, s1, s2, s3, s4, rfl, hb4, hs⟩
  rw [if_pos ⟨by omega, hi⟩] at hs
  rw [decide_eq_true (show (0 : Int) ≤ i ∧ (i : Int) < cntT t from ⟨by omega, hi⟩)]
  obtain ⟨x', hx', hst⟩ := hs
  rw [show (i : Int).toNat = i by omega, hx] at hx'
  injection hx' with hx'
  subst hx'
  obtain ⟨sk, sn, ss, sA, sla, sac, sK, skc, rfl, rfl, rfl, rfl, rfl, _, _, _⟩ := tree_shape hst
  have HB4 : Hid (Below w1.heap.size w1 w4) := Lib.hid (HB3.out.trans (hb4.mono HB3.out.size))
  have FS : Hid (∀ W', Below w4.heap.size w4 W' → IsTree W' W'.heap.size x.t (.int .i64 sk) (.string sn) (.string ss) (.slice sA sla sac) (.slice sK x.t.kids.length skc)) := Lib.hid fun W' hb => hst.keep (fun p hp => hb.cell (by have := hb4.size; omega)) (by have := hb4.size; have := hb.size; omega)
  have HX4 := Lib.hid ((hb4.block _ (lt_of_block HX3.out)).trans HX3.out)
  have HR4 := Lib.hid (HR3.out.keep hb4 (Nat.le_refl _))
  have HXX := Lib.hid hx
  clear hb4 hst b0 b1 b2 b3 b4 hx
  have HB5 : Hid (Below w4.heap.size w4 (w4.alloc (.cells #[.int .i64 sk, .string sn, .string ss, .slice sA sla sac, .slice sK x.t.kids.length skc] 25))) := Lib.hid ((Below.refl _ w4).alloc (Nat.le_refl _) _)
  have HS5 := Lib.hid (alloc_new w4 (.cells #[.int .i64 sk, .string sn, .string ss, .slice sA sla sac, .slice sK x.t.kids.length skc] 25))
  go_upto_region 7 with fail
  generalize w4.alloc (.cells #[.int .i64 sk, .string sn, .string ss, .slice sA sla sac, .slice sK x.t.kids.length skc] 25) = w5 at HB5 HS5 ⊢
  have HX5 := Lib.hid ((HB5.out.block _ (lt_of_block HX4.out)).trans HX4.out)
  have HR5 := Lib.hid (HR4.out.keep HB5.out (Nat.le_refl _))
  obtain ⟨av, _, _, _, q1, _⟩ := HR5.out.at_ i x HXX.out
  have hfin : (finOf (allP t) i).1 = cntT x.t := by unfold finOf; rw [HXX.out]
  rw [hfin] at q1
  have hcx : cntT x.t ≤ cntT t := preT_cnt 0 (-1) 0 0 t x (List.mem_of_getElem? HXX.out)
  have hxp := cntT_pos x.t
  have hmax : max (cntT x.t : Int) 1 = (cntT x.t : Int) := by omega
  have HFIN := Lib.hid hfin
  have hil : (i : Int) < (cntT t : Int) := by omega
  clear hfin
  go_wp2_with fail
  refine (Gn.place_any b (cntT x.t) (by omega) (by omega) w5).mono ?_
  rintro e _ ⟨⟨k, hk, rfl⟩, rfl⟩
  have hk2 : k < cntT x.t := by omega
  obtain ⟨y, hy⟩ : ∃ y, (allP x.t)[k]? = some y := ⟨_, List.getElem?_eq_getElem (by rw [allP_length]; omega)⟩
  obtain ⟨z, hz, hzy⟩ := sub_sub HXX.out hy
  have hik : i + k < cntT t := by have := (List.getElem?_eq_some_iff.1 hz).1; rwa [allP_length] at this
  have HY := Lib.hid hy
  have HZ := Lib.hid hz
  have HZY := Lib.hid hzy
  clear hy hz hzy q1
  obtain ⟨c0, c1, c2, c3, c4⟩ := box5 HS5.out
  go_wp2_with fail
  refine (sub_calls x.t _ _ _ _ _ (k : Int) w5 (FS.out _ HB5.out) (by omega)).mono ?_
  rintro e w6 ⟨s0, s1, s2, s3, s4, rfl, hb6, hs⟩
  rw [if_pos ⟨by omega, hk⟩] at hs
  rw [decide_eq_true (show (0 : Int) ≤ k ∧ (k : Int) < cntT x.t from ⟨by omega, hk⟩)]
  obtain ⟨y', hy', hut⟩ := hs
  rw [show (k : Int).toNat = k by omega, HY.out] at hy'
  injection hy' with hy'
  subst hy'
  obtain ⟨uk, un_, us, uA, ula, uac, uK, ukc, rfl, rfl, rfl, rfl, rfl, _, _, _⟩ := tree_shape hut
  have HB6 : Hid (Below w4.heap.size w4 w6) := Lib.hid (HB5.out.trans (hb6.mono HB5.out.size))
  have FU : Hid (∀ W', Below w6.heap.size w6 W' → IsTree W' W'.heap.size y.t (.int .i64 uk) (.string un_) (.string us) (.slice uA ula uac) (.slice uK y.t.kids.length ukc)) := Lib.hid fun W' hb => hut.keep (fun p hp => hb.cell (by have := hb6.size; omega)) (by have := hb6.size; have := hb.size; omega)
  clear hut hb6 c0 c1 c2 c3 c4
  have HB7 : Hid (Below w6.heap.size w6 (w6.alloc (.cells #[.int .i64 uk, .string un_, .string us, .slice uA ula uac, .slice uK y.t.kids.length ukc] 25))) := Lib.hid ((Below.refl _ w6).alloc (Nat.le_refl _) _)
  have HU7 := Lib.hid (alloc_new w6 (.cells #[.int .i64 uk, .string un_, .string us, .slice uA ula uac, .slice uK y.t.kids.length ukc] 25))
  go_upto_region 9 with fail
  generalize w6.alloc (.cells #[.int .i64 uk, .string un_, .string us, .slice uA ula uac, .slice uK y.t.kids.length ukc] 25) = w7 at HB7 HU7 ⊢
  have HB47 : Hid (Below w4.heap.size w4 w7) := Lib.hid (HB6.out.trans (HB7.out.mono HB6.out.size))
  have HX7 := Lib.hid ((HB47.out.block _ (lt_of_block HX4.out)).trans HX4.out)
  have HB17 : Hid (Below w1.heap.size w1 w7) := Lib.hid (HB4.out.trans (HB47.out.mono HB4.out.size))
  obtain ⟨b0, b1, b2, b3, b4⟩ := box5 HX7.out
  go_wp2_with fail
  refine (sub_calls t _ _ _ _ _ ((i : Int) + (k : Int)) w7 (FT.out _ HB17.out) (by omega)).mono ?_
  rintro e w8 ⟨s0, s1, s2, s3, s4, rfl, hb8, hs⟩
  have hikI : (0 : Int) ≤ (i : Int) + (k : Int) ∧ (i : Int) + (k : Int) < cntT t := by omega
  rw [if_pos hikI] at hs
  rw [decide_eq_true hikI]
  obtain ⟨z', hz', hvt⟩ := hs
  rw [show ((i : Int) + (k : Int)).toNat = i + k by omega, HZ.out] at hz'
  injection hz' with hz'
  subst hz'
  rw [HZY.out] at hvt
  obtain ⟨vk, vn, vs, vA, vla, vac, vK, vkc, rfl, rfl, rfl, rfl, rfl, _, _, _⟩ := tree_shape hvt
  have HB8 : Hid (Below w7.heap.size w7 w8) := Lib.hid hb8
  have FV : Hid (∀ W', Below w8.heap.size w8 W' → IsTree W' W'.heap.size y.t (.int .i64 vk) (.string vn) (.string vs) (.slice vA vla vac) (.slice vK y.t.kids.length vkc)) := Lib.hid fun W' hb => hvt.keep (fun p hp => hb.cell (by have := hb8.size; omega)) (by have := hb8.size; have := hb.size; omega)
  clear hvt hb8 b0 b1 b2 b3 b4 hikI
  have HB9 : Hid (Below w8.heap.size w8 (w8.alloc (.cells #[.int .i64 vk, .string vn, .string vs, .slice vA vla vac, .slice vK y.t.kids.length vkc] 25))) := Lib.hid ((Below.refl _ w8).alloc (Nat.le_refl _) _)
  have HV9 := Lib.hid (alloc_new w8 (.cells #[.int .i64 vk, .string vn, .string vs, .slice vA vla vac, .slice vK y.t.kids.length vkc] 25))
  go_upto_region 10 with fail
  generalize w8.alloc (.cells #[.int .i64 vk, .string vn, .string vs, .slice vA vla vac, .slice vK y.t.kids.length vkc] 25) = w9 at HB9 HV9 ⊢
  have HB79 : Hid (Below w7.heap.size w7 w9) := Lib.hid (HB8.out.trans (HB9.out.mono HB8.out.size))
  have HX9 := Lib.hid ((HB79.out.block _ (lt_of_block HX7.out)).trans HX7.out)
  have HB19 : Hid (Below w1.heap.size w1 w9) := Lib.hid (HB17.out.trans (HB79.out.mono HB17.out.size))
  obtain ⟨b0, b1, b2, b3, b4⟩ := box5 HX9.out
  go_wp2_with fail
  refine (sub_calls t _ _ _ _ _ (cntT t : Int) w9 (FT.out _ HB19.out) (by omega)).mono ?_
  rintro e w10 ⟨s0, s1, s2, s3, s4, rfl, hb10, hs⟩
  have hno : ¬ ((0 : Int) ≤ (cntT t : Int) ∧ (cntT t : Int) < cntT t) := by omega
  rw [if_neg hno] at hs
  rw [decide_eq_false hno]
  obtain ⟨rfl, rfl, rfl, rfl, rfl⟩ := hs
  have HB10 : Hid (Below w9.heap.size w9 w10) := Lib.hid hb10
  clear hb10 b0 b1 b2 b3 b4 hno
  have HB11 : Hid (Below w10.heap.size w10 (w10.alloc (.cells #[.int .i64 0, .string ⟨#[]⟩, .string ⟨#[]⟩, .slice none 0 0, .slice none 0 0] 25))) := Lib.hid ((Below.refl _ w10).alloc (Nat.le_refl _) _)
  go_upto_region 11 with fail
  generalize w10.alloc (.cells #[.int .i64 0, .string ⟨#[]⟩, .string ⟨#[]⟩, .slice none 0 0, .slice none 0 0] 25) = w11 at HB11 ⊢
  have HB9b : Hid (Below w9.heap.size w9 w11) := Lib.hid (HB10.out.trans (HB11.out.mono HB10.out.size))
  have HB7b : Hid (Below w7.heap.size w7 w11) := Lib.hid (HB79.out.trans (HB9b.out.mono HB79.out.size))
  have HB8b : Hid (Below w8.heap.size w8 w11) := Lib.hid (HB9.out.trans (HB9b.out.mono HB9.out.size))
  have HB6b : Hid (Below w6.heap.size w6 w11) := Lib.hid (HB7.out.trans (HB7b.out.mono HB7.out.size))
  have HB4b : Hid (Below w4.heap.size w4 w11) := Lib.hid (HB47.out.trans (HB7b.out.mono HB47.out.size))
  have HB1b : Hid (Below w1.heap.size w1 w11) := Lib.hid (HB4.out.trans (HB4b.out.mono HB4.out.size))
  have HBW : Hid (Below w.heap.size w w11) := Lib.hid (HB1.out.trans (HB1b.out.mono HB1.out.size))
  have HUB := Lib.hid ((HB7b.out.block _ (lt_of_block HU7.out)).trans HU7.out)
  have HVB := Lib.hid ((HB9b.out.block _ (lt_of_block HV9.out)).trans HV9.out)
  have HRB := Lib.hid (HR4.out.keep HB4b.out (Nat.le_refl _))
  obtain ⟨c0, c1, c2, c3, c4⟩ := box5 HUB.out
  obtain ⟨d0, d1, d2, d3, d4⟩ := box5 HVB.out
  have HSA : Hid (Calls Try.prog 21 #[.agg #[.int .i64 uk, .string un_, .string us, .slice uA ula uac, .slice uK y.t.kids.length ukc], .agg #[.int .i64 vk, .string vn, .string vs, .slice vA vla vac, .slice vK y.t.kids.length vkc]] w11 fun e w' => e = .returned (.bool true) ∧ Below w11.heap.size w11 w') := Lib.hid ((same_calls y.t y.t _ _ _ _ _ _ _ _ _ _ w11 (FU.out _ HB6b.out) (FV.out _ HB8b.out)).mono fun e w' ⟨s', h1, h2, h3⟩ => ⟨by rw [h1, h3.2 rfl], h2⟩)
  go_wp2_with fail
  refine HSA.out.mono ?_
  rintro e w12 ⟨rfl, hb12⟩
  have HRC := Lib.hid (HRB.out.keep hb12 (Nat.le_refl _))
  have HBX : Hid (Below w.heap.size w w12) := Lib.hid (HBW.out.trans (hb12.mono HBW.out.size))
  have HWI : Hid (withinB t ((i : Int) + (k : Int)) (i : Int) = true) := Lib.hid (by unfold withinB; rw [Int.toNat_natCast, HFIN.out]; exact decide_eq_true (by omega))
  clear hb12 c0 c1 c2 c3 c4 d0 d1 d2 d3 d4
  go_wp2_with fail
  refine (within_calls t g gcap ((i : Int) + (k : Int)) (i : Int) w12 HRC.out (by omega)).mono ?_
  rintro e _ ⟨rfl, rfl⟩
  rw [HWI.out]
  go_wp2_with fail
  refine (awake_calls _).mono ?_
  rintro e w13 ⟨rfl, hb13⟩
  have HBY : Hid (Below w.heap.size w w13) := Lib.hid (HBX.out.trans (hb13.mono HBX.out.size))
  clear hb13
  go_wp2_with fail
  go_ret
  exact ⟨rfl, HBY.out⟩
/-- A row of numbers that came in. -/
def IsRow (k : IntKind) (w : World) (a : Option Addr) (len cap : Nat) (zs : List Int) : Prop :=
  (a = none ∧ len = 0 ∧ cap = 0 ∧ zs = []) ∨
    ∃ x, a = some x ∧ len ≤ cap ∧ cap ≤ maxLen ∧ zs.length = cap ∧ (∀ i, i < zs.length → w.cell? (x.add i) = some (.int k (zs.getD i 0))) ∧ ∀ n ∈ zs, (Lit.int k n).wf = true
theorem cell_flat {w : World} {a : Addr} {v : Value} (h : w.cell? a = some v) : a.spot = none := by
  unfold World.cell? at h
  cases hb : w.heap[a.block]? with
  | none => rw [hb] at h; cases h
  | some o => rw [hb] at h; cases o <;> simp at h; exact h.1
theorem lrow_of {w : World} {a : Option Addr} {len cap : Nat} {zs : List Int} (h : IsRow .i64 w a len cap zs) : LRow w w.heap.size a len := by
  rcases h with ⟨rfl, rfl, rfl, rfl⟩ | ⟨x, rfl, h1, h2, h3, h4, _⟩
  · exact ⟨Nat.zero_le _, fun i hi => absurd hi (Nat.not_lt_zero _)⟩
  · refine ⟨Nat.le_trans h1 h2, fun i hi => ?_⟩
    have hc := h4 i (by omega)
    have hs : x.spot = none := by
      have hc0 := h4 0 (by omega)
      have e : x.add 0 = x := by unfold Addr.add; rw [if_pos rfl]
      rw [e] at hc0
      exact cell_flat hc0
    obtain ⟨b, off, sp⟩ := x
    simp only at hs
    subst hs
    rw [add_flat] at hc
    exact ⟨b, off, _, rfl, (cell_lt hc).1, hc⟩
theorem walkSubs (A : Option Addr) (len cap : Nat) (zs : List Int) (a b : Int) (w : World) (h : IsRow .i64 w A len cap zs) :
    Calls Try.prog 4 #[.slice A len cap, .int .i64 a, .int .i64 b] w fun e w' => e = .returned (.bool true) ∧ Below w.heap.size w w' := walkSubs0 A len cap a b w (lrow_of h)
end Go.Proofs.Ytcacgbdnegmfnaa.Wk
