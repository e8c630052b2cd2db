/- The law of ways. -/
import Derived.Test.YtcacgbdnegmfnaaLawO
import Derived.Test.YtcacgbdnegmfnaaPath
import Derived.Test.YtcacgbdnegmfnaaSub
import Derived.Test.YtcacgbdnegmfnaaCmpT
import Derived.Test.YtcacgbdnegmfnaaPlace
import Derived.Test.YtcacgbdnegmfnaaKr
import Derived.Maps.RangeWalk
namespace Go.Proofs.Ytcacgbdnegmfnaa.Tr
open Go Go.RowKit
set_option linter.unusedVariables false
/-- Kid by kid. -/
def wayT : Nd → List Nat → Option Nd
  | t, [] => some t
  | t, p :: ps => match t.kids[p]? with | some u => wayT u ps | none => none
theorem follow_snoc : ∀ (ps : List Nat) (t : Nd) (p : Nat), wayT t (ps ++ [p]) = match wayT t ps with | some u => u.kids[p]? | none => none
  | [], t, p => by
    show (match t.kids[p]? with | some u => wayT u [] | none => none) = t.kids[p]?
    cases t.kids[p]? <;> rfl
  | q :: ps, t, p => by
    show (match t.kids[q]? with | some u => wayT u (ps ++ [p]) | none => none) = match (match t.kids[q]? with | some u => wayT u ps | none => none) with | some u => u.kids[p]? | none => none
    cases t.kids[q]? with
    | none => rfl
    | some u => exact follow_snoc ps u p
theorem follow_path {t : Nd} {j : Nat} {l : List Nat} (h : IsPath t j l) : ∀ x, (allP t)[j]? = some x → wayT t l = some x.t := by
  induction h with
  | top => intro x hx; rw [allP_zero] at hx; injection hx with hx; subst hx; rfl
  | kid hx hy hk hp hpl hq ih =>
    intro x' hx'
    rw [hx] at hx'; injection hx' with hx'; subst hx'
    rw [follow_snoc, ih _ hy]
    obtain ⟨i, hi, hki⟩ := hk.kid
    rw [hpl] at hi
    have : i = _ := (Int.ofNat_inj.1 hi).symm
    subst this
    exact hki
theorem follow_step {t : Nd} {l : List Nat} {i : Nat} {x y : Nd} (h : wayT t l = some x) (hi : i < l.length) (hy : wayT t (l.take i) = some y) : ∃ u, y.kids[l[i]]? = some u ∧ wayT t (l.take (i + 1)) = some u := by
  have e : l.take (i + 1) = l.take i ++ [l[i]] := by rw [List.take_add_one, List.getElem?_eq_getElem hi]; rfl
  have h2 : wayT t (l.take (i + 1)) = y.kids[l[i]]? := by rw [e, follow_snoc, hy]
  have h3 : ∃ u, wayT t (l.take (i + 1)) = some u := by
    rcases hu : wayT t (l.take (i + 1)) with _ | u
    · exfalso
      have : ∀ (r : List Nat) (a : List Nat), wayT t a = none → wayT t (a ++ r) = none := by
        intro r
        induction r with
        | nil => intro a ha; rw [List.append_nil]; exact ha
        | cons p r ih =>
          intro a ha
          rw [show a ++ p :: r = (a ++ [p]) ++ r by simp]
          exact ih _ (by rw [follow_snoc, ha])
      have h4 := this (l.drop (i + 1)) _ hu
      rw [List.take_append_drop, h] at h4; cases h4
    · exact ⟨u, rfl⟩
  obtain ⟨u, hu⟩ := h3
  exact ⟨u, by rw [← h2, hu], hu⟩
end Go.Proofs.Ytcacgbdnegmfnaa.Tr
namespace Go.Proofs.Ytcacgbdnegmfnaa.Wk
open Go Go.RowKit Tr
set_option linter.unusedVariables false
/-- A tree's five cells, what they are. -/
theorem tree_shape {w : World} {B : Nat} {t : Nd} {v0 v1 v2 v3 v4 : Value} (h : IsTree w B t v0 v1 v2 v3 v4) : ∃ k n s A la ac K kc, v0 = .int .i64 k ∧ v1 = .string n ∧ v2 = .string s ∧ v3 = .slice A la ac ∧ v4 = .slice K t.kids.length kc ∧ t.kids.length ≤ kc ∧ kc ≤ maxLen ∧ (t.kids ≠ [] → ∃ b off, K = some ⟨b, off, none⟩ ∧ b < B ∧ IsKids w B t.kids b off) := by
  cases t
  unfold IsTree at h
  obtain ⟨rfl, rfl, rfl, _, _, _, A, ac, K, kc, rfl, rfl, _, h1, h2, h3⟩ := h
  exact ⟨_, _, _, _, _, _, _, _, rfl, rfl, rfl, rfl, rfl, h1, h2, h3⟩
/-- Two things made, one behind the other. -/
structure Made2 (w : World) (a b : Obj) (w2 : World) : Prop where
  o0 : w2.heap[w.heap.size]? = some a
  o1 : w2.heap[w.heap.size + 1]? = some b
  size : w2.heap.size = w.heap.size + 2
  bel : Below w.heap.size w w2
theorem made2 (w : World) (a b : Obj) : Made2 w a b ((w.alloc a).alloc b) := by
  have n1 : (w.alloc a).heap.size = w.heap.size + 1 := by simp
  have h1 := alloc_new (w.alloc a) b
  rw [n1] at h1
  exact ⟨alloc_old (alloc_new w a) b, h1, by simp, ((Below.refl _ w).alloc (Nat.le_refl _) a).alloc (by omega) b⟩
/-- What Path hands back for a node that is there. -/
theorem path_in {t : Nd} {k : Nat} {w w' : World} {e : Ending} (h : PathEnd t (k : Int) w e w') (hk : k < cntT t) : ∃ (A : Option Addr) (l : List Nat), e = .returned (.slice A (l.length : Nat) (l.length : Nat)) ∧ Below w.heap.size w w' ∧ IsPath t k l ∧ (∀ x, (allP t)[k]? = some x → x.dep = l.length) ∧
    ∀ (i x : Nat), l[i]? = some x → ∃ gp, A = some ⟨gp, 0, none⟩ ∧ w.heap.size ≤ gp ∧ gp < w'.heap.size ∧ w'.cell? ⟨gp, i, none⟩ = some (.int .i64 (x : Int)) := by
  obtain ⟨hb, h | ⟨_, _, l, hl, hd, h⟩⟩ := h
  · exact absurd ⟨by omega, by omega⟩ h.1
  · rw [Int.toNat_natCast] at hl hd
    rcases h with ⟨rfl, rfl⟩ | ⟨_, g, rfl, h1, h2, h3⟩
    · exact ⟨none, [], rfl, hb, hl, hd, fun i x hx => by simp at hx⟩
    · exact ⟨_, l, rfl, hb, hl, hd, fun i x hx => ⟨g, rfl, h1, h2, h3 i x hx⟩⟩
/-- A tree, the kid of one that is read. -/
theorem kid_of {w : World} {t u : Nd} {j : Nat} {v0 v1 v2 v3 v4 : Value} (h : IsTree w w.heap.size t v0 v1 v2 v3 v4) (hj : t.kids[j]? = some u) : ∃ kb ko kc u0 u1 u2 u3 u4, v4 = .slice (some ⟨kb, ko, none⟩) t.kids.length kc ∧ kb < w.heap.size ∧ w.cell? ⟨kb, ko + j * 5, none⟩ = some u0 ∧ w.cell? ⟨kb, ko + j * 5 + 1, none⟩ = some u1 ∧ w.cell? ⟨kb, ko + j * 5 + 2, none⟩ = some u2 ∧ w.cell? ⟨kb, ko + j * 5 + 3, none⟩ = some u3 ∧ w.cell? ⟨kb, ko + j * 5 + 4, none⟩ = some u4 ∧
    IsTree w w.heap.size u u0 u1 u2 u3 u4 := by
  obtain ⟨k, n, s, A, la, ac, K, kc, rfl, rfl, rfl, rfl, rfl, _, _, h3⟩ := tree_shape h
  obtain ⟨kb, ko, rfl, hb, hks⟩ := h3 (by intro e; rw [e] at hj; simp at hj)
  obtain ⟨u0, u1, u2, u3, u4, d0, d1, d2, d3, d4, hu⟩ := hks.at_ hj
  exact ⟨kb, ko, kc, u0, u1, u2, u3, u4, rfl, hb, d0, d1, d2, d3, d4, hu⟩
set_option maxHeartbeats 64000000 in
set_option maxRecDepth 100000 in
theorem walkWays (t : Nd) (v0 v1 v2 v3 v4 : Value) (id : Int) (w : World) (h : IsTree w w.heap.size t v0 v1 v2 v3 v4) :
    Calls Try.prog 6 #[.agg #[v0, v1, v2, v3, v4], .int .i64 id] w fun e w' => e = .returned (.bool true) ∧ Below w.heap.size w w' := by
  have H := Lib.hid h
  have HB : Hid (Below w.heap.size w (w.alloc (.cells #[v0, v1, v2, v3, v4] 25))) := Lib.hid ((Below.refl _ w).alloc (Nat.le_refl _) _)
  have HNW := Lib.hid (alloc_new w (.cells #[v0, v1, v2, v3, v4] 25))
  have FL : Hid (∀ W', Below w.heap.size w W' → IsTree W' W'.heap.size t v0 v1 v2 v3 v4) := Lib.hid fun W' hb => h.keep (fun p hp => hb.cell hp) hb.size
  obtain ⟨tk, tn, ts, tA, tla, tac, tK, tkc, rfl, rfl, rfl, rfl, rfl, _, _, hkt⟩ := tree_shape h
  clear h
  go_enter Try.func6, Try.ntmps6
  go_wp2_with fail
  refine (small0_calls _ _ _ _ _ _ _ (FL.out _ HB.out)).mono ?_
  rintro e w1 ⟨ok, rfl, hok, hb1⟩
  have hbox : w1.heap[w.heap.size]? = some (.cells #[.int .i64 tk, .string tn, .string ts, .slice tA tla tac, .slice tK t.kids.length tkc] 25 (0, 0)) := (hb1.block _ (by simp)).trans HNW.out
  have HB1 : Hid (Below w.heap.size w w1) := Lib.hid (HB.out.trans (hb1.mono HB.out.size))
  clear hb1 HNW HB
  cases ok with
  | false =>
    clear hbox
    go_wp2_with fail
    refine (awake_calls _).mono ?_
    rintro e w2 ⟨rfl, hb2⟩
    have HB2 : Hid (Below w.heap.size w w2) := Lib.hid (HB1.out.trans (hb2.mono HB1.out.size))
    clear hb2
    go_wp2_with fail
    go_ret
    exact ⟨rfl, HB2.out⟩
  | true =>
    obtain ⟨hok1, hok2⟩ := hok rfl
    have HAT := Lib.hid (okT_att 0 _ hok1)
    obtain ⟨b0, b1, b2, b3, b4⟩ := box5 hbox
    have HBX := Lib.hid hbox
    clear hok hok1 hbox
    have hpos := cntT_pos t
    go_wp2_with fail
    refine (flat_at FL.out (by omega) HAT.out _ HB1.out).mono ?_
    rintro e w2 ⟨g, cap, rfl, hc1, hc2, hg, hrow, hbel⟩
    have HB2 : Hid (Below w.heap.size w w2) := Lib.hid (HB1.out.trans (hbel.mono HB1.out.size))
    have HX2 : Hid (w2.heap[w.heap.size]? = some (.cells #[.int .i64 tk, .string tn, .string ts, .slice tA tla tac, .slice tK t.kids.length tkc] 25 (0, 0))) := Lib.hid ((hbel.block _ (lt_of_block HBX.out)).trans HBX.out)
    have HR := Lib.hid hrow
    have hgl := irow_lt hrow
    clear hrow hbel b0 b1 b2 b3 b4
    obtain ⟨b0, b1, b2, b3, b4⟩ := box5 HX2.out
    have hmax : max (cntT t : Int) 1 = (cntT t : Int) := by omega
    go_wp2_with fail
    refine (Ct.place_calls id (cntT t) (by omega) (by omega) w2).mono ?_
    rintro e _ ⟨⟨k, hk, rfl⟩, rfl⟩
    have hk2 : k < cntT t := by omega
    obtain ⟨xk, hxk⟩ : ∃ x, (allP t)[k]? = some x := ⟨_, List.getElem?_eq_getElem (by rw [allP_length]; omega)⟩
    go_wp2_with fail
    refine (sub_calls t _ _ _ _ _ (k : Int) w2 (FL.out _ HB2.out) (by omega)).mono ?_
    rintro e w3 ⟨s0, s1, s2, s3, s4, rfl, hb3, hs⟩
    rw [if_pos ⟨by omega, hk⟩] at hs
    rw [decide_eq_true (show (0 : Int) ≤ k ∧ (k : Int) < cntT t from ⟨by omega, hk⟩)]
    obtain ⟨xk', hxk', hst⟩ := hs
    rw [show (k : Int).toNat = k by omega, hxk] at hxk'
    injection hxk' with hxk'
    subst hxk'
    obtain ⟨sk, sn, ss, sA, sla, sac, sK, skc, rfl, rfl, rfl, rfl, rfl, _, _, _⟩ := tree_shape hst
    have HST : Hid (∀ W', Below w3.heap.size w3 W' → IsTree W' W'.heap.size xk.t (.int .i64 sk) (.string sn) (.string ss) (.slice sA sla sac) (.slice sK xk.t.kids.length skc)) := Lib.hid fun W' hb => hst.keep (fun p hp => hb.cell (by have := hb3.size; omega)) (by have := hb3.size; have := hb.size; omega)
    have HB3 : Hid (Below w.heap.size w w3) := Lib.hid (HB2.out.trans (hb3.mono HB2.out.size))
    have HX3 : Hid (w3.heap[w.heap.size]? = some (.cells #[.int .i64 tk, .string tn, .string ts, .slice tA tla tac, .slice tK t.kids.length tkc] 25 (0, 0))) := Lib.hid ((hb3.block _ (lt_of_block HX2.out)).trans HX2.out)
    have HR3 := Lib.hid (HR.out.keep hb3 (Nat.le_refl _))
    clear hb3 hst b0 b1 b2 b3 b4
    obtain ⟨b0, b1, b2, b3, b4⟩ := box5 HX3.out
    have hxl := lt_of_block HX3.out
    go_wp2_with fail
    have hW := made2 w3 (.cells #[.int .i64 sk, .string sn, .string ss, .slice sA sla sac, .slice sK xk.t.kids.length skc] 25) (.cells #[.int .i64 tk, .string tn, .string ts, .slice tA tla tac, .slice tK t.kids.length tkc] 25)
    generalize (w3.alloc (.cells #[.int .i64 sk, .string sn, .string ss, .slice sA sla sac, .slice sK xk.t.kids.length skc] 25)).alloc (.cells #[.int .i64 tk, .string tn, .string ts, .slice tA tla tac, .slice tK t.kids.length tkc] 25) = w5 at hW ⊢
    have HW := Lib.hid hW
    have HB5 : Hid (Below w.heap.size w w5) := Lib.hid (HB3.out.trans (hW.bel.mono HB3.out.size))
    clear hW b0 b1 b2 b3 b4
    refine (path_calls t _ _ _ _ _ (k : Int) w5 (FL.out _ HB5.out) (by omega) HAT.out).mono ?_
    rintro e wb hpe
    obtain ⟨A, l, rfl, hbb, hl, hdep, hcl⟩ := path_in hpe hk2
    have hfol := follow_path hl xk hxk
    have hdk := hdep xk hxk
    have HBB := Lib.hid hbb
    have HCL := Lib.hid hcl
    have HDEP := Lib.hid hdep
    have HFOL := Lib.hid hfol
    have hll : l.length ≤ 400 := by
      obtain ⟨dd, e1, e2, _⟩ := idx_T 0 (-1) 0 0 t k xk hxk
      omega
    clear hpe hbb hl hdep hcl hfol
    have hs5 := HW.out.size
    have hsb := HBB.out.size
    have hxb : w3.heap.size + 1 < wb.heap.size := by omega
    have HXB : Hid (wb.heap[w3.heap.size + 1]? = some (.cells #[.int .i64 tk, .string tn, .string ts, .slice tA tla tac, .slice tK t.kids.length tkc] 25 (0, 0))) := Lib.hid ((HBB.out.block _ (by omega)).trans HW.out.o1)
    have HWB : Hid (Below w.heap.size w wb) := Lib.hid (HB5.out.trans (HBB.out.mono HB5.out.size))
    go_wp2_with fail
    go_loopw [34] (fun i wr => ∃ (n : Nat) (y : Nd) (yk : Int) (yn ys : ByteArray) (yA : Option Addr) (yla yac : Nat) (yK : Option Addr) (ykc : Nat), n ≤ l.length ∧ i = .int .i64 (n : Int) ∧ wayT t (l.take n) = some y ∧
      wr.heap[w3.heap.size + 1]? = some (.cells #[.int .i64 yk, .string yn, .string ys, .slice yA yla yac, .slice yK y.kids.length ykc] 25 (0, 0)) ∧ IsTree w w.heap.size y (.int .i64 yk) (.string yn) (.string ys) (.slice yA yla yac) (.slice yK y.kids.length ykc) ∧ Fr (· = w3.heap.size + 1) wb.heap.size wb wr) (fun i _ => l.length - (intOf i).toNat)
    case atStart => exact ⟨0, t, tk, tn, ts, tA, tla, tac, tK, tkc, Nat.zero_le _, rfl, rfl, HXB.out, H.out, Fr.refl _ _ _⟩
    case round =>
      obtain ⟨n, y, yk, yn, ys, yA, yla, yac, yK, ykc, hn, rfl, hfy, hyb, hyt, hfr⟩ := hrel
      obtain ⟨y0, y1, y2, y3, y4⟩ := box5 hyb
      have HYB := Lib.hid hyb
      have HYT := Lib.hid hyt
      have HFR := Lib.hid hfr
      have HFY := Lib.hid hfy
      clear hyb hfy hfr
      rcases Nat.lt_or_ge n l.length with hnl | hnl
      · obtain ⟨u, hu1, hu2⟩ := follow_step HFOL.out hnl HFY.out
        obtain ⟨gp, rfl, hgp1, hgp2, hgp3⟩ := HCL.out n _ (List.getElem?_eq_getElem hnl)
        obtain ⟨kb, ko, kc, u0, u1, u2, u3, u4, hyK, hkb, d0, d1, d2, d3, d4, hut⟩ := kid_of hyt hu1
        obtain ⟨uk, un, us, uA, ula, uac, uK, ukc, rfl, rfl, rfl, rfl, rfl, _, _, _⟩ := tree_shape hut
        have HUT := Lib.hid hut
        injection hyK with hyK1 hyK2 hyK3
        subst hyK1 hyK3
        have hpl : l[n] < y.kids.length := (List.getElem?_eq_some_iff.1 hu1).1
        have HU2 := Lib.hid hu2
        have kc : ∀ o, wr.cell? ⟨kb, o, none⟩ = w.cell? ⟨kb, o, none⟩ := fun o => (HFR.out.cell (by show kb < _; have := HWB.out.size; omega) (by show kb ≠ _; have := HB3.out.size; omega)).trans (HWB.out.cell hkb)
        rw [← kc] at d0 d1 d2 d3 d4
        have g0 : wr.cell? ⟨gp, n, none⟩ = some (.int .i64 (l[n] : Int)) := (HFR.out.cell (by show gp < _; omega) (by show gp ≠ _; have := HW.out.size; omega)).trans hgp3
        generalize l[n] = pl at hpl d0 d1 d2 d3 d4 g0
        have hpl2 : (pl : Int) < (y.kids.length : Int) := by omega
        have hnl2 : (n : Int) < (l.length : Int) := by omega
        have f0 : wr.frozen? ⟨w3.heap.size + 1, 0, none⟩ = false := Lib.frozen_of_heap HYB.out 0
        have f1 : wr.frozen? ⟨w3.heap.size + 1, 1, none⟩ = false := Lib.frozen_of_heap HYB.out 1
        have f2 : wr.frozen? ⟨w3.heap.size + 1, 2, none⟩ = false := Lib.frozen_of_heap HYB.out 2
        have f3 : wr.frozen? ⟨w3.heap.size + 1, 3, none⟩ = false := Lib.frozen_of_heap HYB.out 3
        have f4 : wr.frozen? ⟨w3.heap.size + 1, 4, none⟩ = false := Lib.frozen_of_heap HYB.out 4
        have HS5 := Lib.hid (set5 HYB.out (.int .i64 uk) (.string un) (.string us) (.slice uA ula uac) (.slice uK u.kids.length ukc))
        clear hu1 hu2 hut kc hyt
        go_wp2_with fail
        go_roundw
        case rel =>
          exact ⟨n + 1, u, uk, un, us, uA, ula, uac, uK, ukc, by omega, by go_num, HU2.out, HS5.out.blk, HUT.out, (HFR.out.trans (HS5.out.fr.mono (by have := HFR.out.size; omega) (fun _ _ h => h)))⟩
        case measure => simp [intOf]; omega
      · obtain rfl : n = l.length := by omega
        rw [List.take_length, HFOL.out] at HFY
        have hyx : xk.t = y := by have := HFY.out; injection this
        subst hyx
        -- the world behind the loop
        have HBE : Hid (Below w.heap.size w wr) := Lib.hid (HWB.out.trans (HFR.out.below (fun k hk e => by have := HB3.out.size; omega) (by have := HWB.out.size; omega)))
        have hxb2 : wr.heap[w.heap.size]? = some (.cells #[.int .i64 tk, .string tn, .string ts, .slice tA tla tac, .slice tK t.kids.length tkc] 25 (0, 0)) :=
          ((HFR.out.block _ (by omega) (by omega)).trans (HBB.out.block _ (by omega))).trans ((HW.out.bel.block _ hxl).trans HX3.out)
        have hsb2 : wr.heap[w3.heap.size]? = some (.cells #[.int .i64 sk, .string sn, .string ss, .slice sA sla sac, .slice sK xk.t.kids.length skc] 25 (0, 0)) :=
          ((HFR.out.block _ (by omega) (by omega)).trans (HBB.out.block _ (by omega))).trans HW.out.o0
        have HIT : Hid (IRow g (allP t) (finOf (allP t)) wr) := by
          have h1 := (HR3.out.keep HW.out.bel (Nat.le_refl _)).keep HBB.out (Nat.le_refl _)
          have hg3 := irow_lt HR3.out
          obtain ⟨cur, hc⟩ := h1.blk
          exact Lib.hid ⟨⟨cur, (HFR.out.block _ (by omega) (by omega)).trans hc⟩, fun i x hx => by
            obtain ⟨av, z0, z1, c0, c1, c2, c3, c4, c5, c6, c7, c8, c9⟩ := HR3.out.at_ i x hx
            have kc : ∀ o, wr.cell? ⟨g, o, none⟩ = w3.cell? ⟨g, o, none⟩ := fun o => (HFR.out.cell (by show g < _; omega) (by show g ≠ _; omega)).trans ((HBB.out.cell (by show g < _; omega)).trans (HW.out.bel.cell hg3))
            refine ⟨av, ?_, z1, (kc _).trans c0, (kc _).trans c1, (kc _).trans c2, (kc _).trans c3, (kc _).trans c4, (kc _).trans c5, (kc _).trans c6, (kc _).trans c7, (kc _).trans c8, (kc _).trans c9⟩
            obtain ⟨A', ac', rfl, hat⟩ := z0
            exact ⟨A', ac', rfl, hat.keep (fun p hp => (HFR.out.cell (by omega) (by omega)).trans ((HBB.out.cell (by omega)).trans (HW.out.bel.cell hp))) (by have := HFR.out.size; omega)⟩⟩
        have hyb := HYB.out
        have HB3r : Hid (Below w3.heap.size w3 wr) := Lib.hid ((HW.out.bel.trans (HBB.out.mono (by omega))).trans (HFR.out.below (fun k hk e => by omega) (by omega)))
        obtain ⟨av, z0, z1, z2, i1, i2, z3⟩ := HIT.out.at_ k xk hxk
        clear z0 z1 z2 z3
        have hfin : (finOf (allP t) k).1 = cntT xk.t := by unfold finOf; rw [hxk]
        rw [hfin] at i1
        rw [hdk] at i2
        have hcx : cntT xk.t ≤ cntT t := preT_cnt 0 (-1) 0 0 t xk (List.mem_of_getElem? hxk)
        have hatx : attT xk.t := preT_att 0 (-1) 0 0 t HAT.out xk (List.mem_of_getElem? hxk)
        have XS : Hid (∀ W', Below wr.heap.size wr W' → Calls Try.prog 21 #[.agg #[.int .i64 yk, .string yn, .string ys, .slice yA yla yac, .slice yK xk.t.kids.length ykc], .agg #[.int .i64 sk, .string sn, .string ss, .slice sA sla sac, .slice sK xk.t.kids.length skc]] W' fun e w' => e = .returned (.bool true) ∧ Below W'.heap.size W' w') := Lib.hid fun W' hb => by
          have hb1 : Below w.heap.size w W' := HBE.out.trans (hb.mono HBE.out.size)
          have hb2 : Below w3.heap.size w3 W' := HB3r.out.trans (hb.mono HB3r.out.size)
          refine (same_calls xk.t xk.t _ _ _ _ _ _ _ _ _ _ W' (HYT.out.keep (fun p hp => hb1.cell hp) hb1.size) (HST.out W' hb2)).mono ?_
          rintro e w' ⟨sb, rfl, h1, h2⟩
          obtain rfl := h2.2 rfl
          exact ⟨rfl, h1⟩
        have XF : Hid (∀ W', Below wr.heap.size wr W' → Calls Try.prog 16 #[.agg #[.int .i64 sk, .string sn, .string ss, .slice sA sla sac, .slice sK xk.t.kids.length skc]] W' fun e w' => ∃ g cap, e = .returned (.slice (some ⟨g, 0, none⟩) (cntT xk.t : Nat) cap) ∧ Below W'.heap.size W' w') := Lib.hid fun W' hb => by
          refine (flat_calls xk.t _ _ _ _ _ W' (HST.out W' (HB3r.out.trans (hb.mono HB3r.out.size))) (by omega) hatx).mono ?_
          rintro e w' ⟨g, cap, rfl, _, _, _, _, h⟩
          exact ⟨g, cap, rfl, h⟩
        have XP : Hid (∀ W', Below wr.heap.size wr W' → Calls Try.prog 23 #[.agg #[.int .i64 tk, .string tn, .string ts, .slice tA tla tac, .slice tK t.kids.length tkc], .int .i64 (k : Int)] W' fun e w' => ∃ A, e = .returned (.slice A (l.length : Nat) (l.length : Nat)) ∧ Below W'.heap.size W' w') := Lib.hid fun W' hb => by
          refine (path_calls t _ _ _ _ _ (k : Int) W' (FL.out _ (HBE.out.trans (hb.mono HBE.out.size))) (by omega) HAT.out).mono ?_
          rintro e w' hpe
          obtain ⟨A, l', rfl, h1, _, h2, _⟩ := path_in hpe hk2
          have h3 := h2 xk hxk
          rw [hdk] at h3
          have : l.length = l'.length := Int.ofNat_inj.1 h3
          exact ⟨A, by rw [this], h1⟩
        obtain ⟨a0, a1, a2, a3, a4⟩ := box5 hxb2
        obtain ⟨b0, b1, b2, b3, b4⟩ := box5 hsb2
        clear hyt hyb hxb2 hsb2 hatx
        clear HST HYT HFR HYB HFY HIT HB3r HWB HXB HCL HDEP HFOL HBB HW HB5 HR3 HX3 HB3 HX2 HR HB2 HBX HAT HB1 FL H
        clear hs5 hsb hxb hxl hgl hg hc1 hc2 hmax hkt hn hnl hll hdk hok2 hcx hfin hxk
        go_wp2_with fail
        have ra0 := cell_regrown a0
        have ra1 := cell_regrown a1
        have ra2 := cell_regrown a2
        have ra3 := cell_regrown a3
        have ra4 := cell_regrown a4
        have rb0 := cell_regrown b0
        have rb1 := cell_regrown b1
        have rb2 := cell_regrown b2
        have rb3 := cell_regrown b3
        have rb4 := cell_regrown b4
        have ry0 := cell_regrown y0
        have ry1 := cell_regrown y1
        have ry2 := cell_regrown y2
        have ry3 := cell_regrown y3
        have ry4 := cell_regrown y4
        have ri1 := cell_regrown i1
        have ri2 := cell_regrown i2
        clear a0 a1 a2 a3 a4 b0 b1 b2 b3 b4 y0 y1 y2 y3 y4 i1 i2
        refine Kr.wp_region_R [(4, fun v _ => v = .bool true), (8, fun v _ => ∃ g cap, v = .slice (some ⟨g, 0, none⟩) (cntT xk.t : Nat) cap), (20, fun v _ => ∃ A, v = .slice A (l.length : Nat) (l.length : Nat)), (30, fun v _ => v = .bool true)] (by kernel_rfl) (by kernel_rfl) ?_
        repeat (refine Kr.wpR_one rfl rfl ?_; go_big_quiet_step (fail); refine wpQuiet_nil ?_)
        refine Kr.wpR_call _ rfl rfl rfl ?_ ?_
        · intro W hW hk
          go_simp
          refine Kr.upMany_enter ((XS.out W (Kr.later_iff.1 hW)).mono ?_)
          rintro e w' ⟨rfl, hbb⟩
          exact ⟨_, rfl, rfl, hbb⟩
        rintro v ⟨_, _, _, _, hS, _⟩
        obtain rfl := hS
        go_frame
        repeat (refine Kr.wpR_one rfl rfl ?_; go_big_quiet_step (fail); refine wpQuiet_nil ?_)
        refine Kr.wpR_call _ rfl rfl rfl ?_ ?_
        · intro W hW hk
          go_simp
          refine Kr.upMany_enter ((XF.out W (Kr.later_iff.1 hW)).mono ?_)
          rintro e w' ⟨gF, capF, rfl, hbb⟩
          exact ⟨_, rfl, ⟨_, _, rfl⟩, hbb⟩
        rintro v ⟨_, _, _, _, hS, _⟩
        obtain ⟨gF, capF, rfl⟩ := hS
        go_frame
        repeat (refine Kr.wpR_one rfl rfl ?_; go_big_quiet_step (fail); refine wpQuiet_nil ?_)
        refine Kr.wpR_call _ rfl rfl rfl ?_ ?_
        · intro W hW hk
          go_simp
          refine Kr.upMany_enter ((XP.out W (Kr.later_iff.1 hW)).mono ?_)
          rintro e w' ⟨AP, rfl, hbb⟩
          exact ⟨_, rfl, ⟨_, rfl⟩, hbb⟩
        rintro v ⟨_, _, _, _, hS, _⟩
        obtain ⟨AP, rfl⟩ := hS
        go_frame
        repeat (refine Kr.wpR_one rfl rfl ?_; go_big_quiet_step (fail); refine wpQuiet_nil ?_)
        refine Kr.wpR_call _ rfl rfl rfl ?_ ?_
        · intro W hW hk
          go_simp
          refine Kr.upMany_enter ((awake_calls W).mono ?_)
          rintro e w' ⟨rfl, hbb⟩
          exact ⟨_, rfl, rfl, hbb⟩
        rintro v ⟨_, _, _, _, hS, _⟩
        obtain rfl := hS
        go_frame
        repeat (refine Kr.wpR_one rfl rfl ?_; go_big_quiet_step (fail); refine wpQuiet_nil ?_)
        refine Kr.wpR_nil ?_
        intro w' hb _
        have HBZ : Hid (Below w.heap.size w w') := Lib.hid (HBE.out.trans (hb.mono HBE.out.size))
        clear hb
        go_wp2_with fail
        go_ret
        exact ⟨rfl, HBZ.out⟩
end Go.Proofs.Ytcacgbdnegmfnaa.Wk
