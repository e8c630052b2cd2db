/- The document's Flat. -/
import Derived.Test.YtcacgbdnegmfnaaRFl
import Derived.Test.YtcacgbdnegmfnaaSize
namespace Go.Proofs.Ytcacgbdnegmfnaa.Tr
open Go Go.RowKit Wk Ha
set_option linter.unusedVariables false
theorem i_info : (Try.prog.info? 64).map (fun i => (i.zero, i.size, i.bytes)) = some (some (.agg #[.int .i64 0, .int .i64 0, .int .i64 0, .int .i64 0, .int .i64 0, .int .i64 0, .string ByteArray.empty, .string ByteArray.empty, .slice none 0 0, .slice none 0 0, .int .i64 0, .string ByteArray.empty, .string ByteArray.empty, .slice none 0 0, .slice none 0 0]), 15, 216) := by kernel_rfl
theorem row_shape {w : World} {base size n : Nat} {e : TypeId} {v : Value} {xs : List Value} (h : w.ownsRow base e size v n xs) : ∃ A cap, v = .slice A n cap := by
  rcases h.2 with ⟨h1, h2⟩ | ⟨g, cap, cur, h1, _⟩
  · exact ⟨none, 0, by rw [h1, h2]⟩
  · exact ⟨_, cap, h1⟩
theorem below_frG {w0 w w' : World} {B : Nat} {v v' : Value} (h : Below B w0 w) (hF : FrG w v w' v') (hv : ∀ g, v.ownBlock = some g → B ≤ g) (hB : B ≤ w.heap.size) : Below B w0 w' := h.grown hF.g hB hv
def SpBare (B : Nat) (k : Int) (n s : ByteArray) (al : List (ByteArray × ByteArray)) (v : Value) (W : World) : Prop := ∃ A ac, v = .agg #[.int .i64 k, .string n, .string s, .slice A al.length ac, .slice none 0 0] ∧ AttrCp B al (.slice A al.length ac) W
def SpI (B : Nat) (par dep pl : Int) (k : Int) (n s : ByteArray) (al : List (ByteArray × ByteArray)) (t3 t4 : Value) (v : Value) (W : World) : Prop :=
  ∃ g A ac, v = .slice (some ⟨g, 0, none⟩) 1 1 ∧ W.heap[g]? = some (.cells #[.int .i64 par, .int .i64 0, .int .i64 dep, .int .i64 0, .int .i64 pl, .int .i64 k, .string n, .string s, .slice A al.length ac, .slice none 0 0, .int .i64 k, .string n, .string s, t3, t4] 64 (0, 0)) ∧ AttrCp B al (.slice A al.length ac) W
theorem attrCp_below {B : Nat} {al : List (ByteArray × ByteArray)} {v : Value} {w w' : World} (h : AttrCp B al v w) (hb : Below w.heap.size w w') : AttrCp B al v w' := attrCp_keep h (fun c hc _ => hb.block c hc) hb.size
/-- A copy of attributes lies in blocks from B on. -/
theorem attrCp_in {B : Nat} {al : List (ByteArray × ByteArray)} {A : Option Addr} {ac : Nat} {w : World} (h : AttrCp B al (.slice A al.length ac) w) {S : Nat → Prop} (hS : ∀ c, B ≤ c → c < w.heap.size → S c) : AttrsIn w S al A ac := by
  obtain ⟨A', ac', e, h1, h2⟩ := h
  injection e with e1 e2 e3
  subst e1 e3
  refine isAttrs_in h1 fun b off hb => ?_
  rcases h2 with ⟨hn, _⟩ | ⟨g, cur, hg, hle, hcur⟩
  · rw [hn] at hb; cases hb
  · rw [hg] at hb
    injection hb with hb
    injection hb with hb _ _
    subst hb
    exact hS _ hle (lt_of_block hcur)
def FlEnd (w0 : World) (B : Nat) (l : List Pn) (t : Nd) (par dep pl : Int) (st : Nat → Nat × Nat) (w : World) (v : Value) (e : Ending) (w' : World) : Prop :=
  ∃ v' st', e = .returned v' ∧ RRow w0 w' B v' (l ++ preT l.length par dep pl t) st' ∧ (∀ i, i < l.length → st' i = st i) ∧ (∀ (i : Nat) (x : Pn), (preT l.length par dep pl t)[i]? = some x → st' (l.length + i) = (cntT x.t, hT x.t)) ∧ FrG w v w' v'
/-- The list so far: l, the node, its first j kids with all in them. -/
def flL (l : List Pn) (t : Nd) (par dep pl : Int) (j : Nat) : List Pn := l ++ (⟨t, par, dep, pl⟩ :: preL (l.length + 1) l.length (dep + 1) 0 (t.kids.take j))
theorem flL_length (l : List Pn) (t : Nd) (par dep pl : Int) (j : Nat) : (flL l t par dep pl j).length = l.length + 1 + cntL (t.kids.take j) := by
  unfold flL; rw [List.length_append, List.length_cons, preL_length]; omega
theorem flL_zero (l : List Pn) (t : Nd) (par dep pl : Int) : flL l t par dep pl 0 = l ++ [⟨t, par, dep, pl⟩] := by
  unfold flL; rw [List.take_zero]; unfold preL; rfl
theorem flL_succ (l : List Pn) (t : Nd) (par dep pl : Int) {j : Nat} {u : Nd} (hu : t.kids[j]? = some u) : flL l t par dep pl (j + 1) = flL l t par dep pl j ++ preT (l.length + 1 + cntL (t.kids.take j)) l.length (dep + 1) (j : Nat) u := by
  unfold flL
  rw [preL_snoc _ _ _ _ _ _ _ hu, show (0 : Int) + (j : Int) = (j : Int) by omega]
  simp
theorem flL_all (l : List Pn) (t : Nd) (par dep pl : Int) : flL l t par dep pl t.kids.length = l ++ preT l.length par dep pl t := by
  unfold flL
  rw [List.take_length]
  cases t
  rw [preT]; rfl
structure FlRel (w0 : World) (B : Nat) (l : List Pn) (t : Nd) (par dep pl : Int) (st : Nat → Nat × Nat) (w1 : World) (v : Value) (j : Nat) (v' : Value) (wr : World) (st' : Nat → Nat × Nat) : Prop where
  row : RRow w0 wr B v' (flL l t par dep pl j) st'
  old : ∀ i, i < l.length → st' i = st i
  new : ∀ (i : Nat) (x : Pn), (flL l t par dep pl j)[i]? = some x → l.length + 1 ≤ i → st' i = (cntT x.t, hT x.t)
  fr : FrG w1 v wr v'
theorem fl_step {w0 : World} {B : Nat} {l : List Pn} {t u : Nd} {par dep pl : Int} {st st' st2 : Nat → Nat × Nat} {w1 wr w2 : World} {v v' v2 : Value} {j : Nat} (h : FlRel w0 B l t par dep pl st w1 v j v' wr st') (hu : t.kids[j]? = some u)
    (hR : RRow w0 w2 B v2 (flL l t par dep pl j ++ preT (flL l t par dep pl j).length l.length (dep + 1) (j : Nat) u) st2) (h1 : ∀ i, i < (flL l t par dep pl j).length → st2 i = st' i)
    (h2 : ∀ (i : Nat) (x : Pn), (preT (flL l t par dep pl j).length l.length (dep + 1) (j : Nat) u)[i]? = some x → st2 ((flL l t par dep pl j).length + i) = (cntT x.t, hT x.t)) (hF : FrG wr v' w2 v2) :
    FlRel w0 B l t par dep pl st w1 v (j + 1) v2 w2 st2 := by
  have hlen := flL_length l t par dep pl j
  have hs := flL_succ l t par dep pl hu
  rw [← hlen] at hs
  refine ⟨by rw [hs]; exact hR, fun i hi => (h1 i (by omega)).trans (h.old i hi), fun i x hx hi => ?_, h.fr.trans hF⟩
  rw [hs] at hx
  rcases Nat.lt_or_ge i (flL l t par dep pl j).length with hl | hl
  · rw [List.getElem?_append_left hl] at hx
    exact (h1 i hl).trans (h.new i x hx hi)
  · rw [List.getElem?_append_right hl] at hx
    have := h2 _ x hx
    rwa [Nat.add_sub_cancel' hl] at this
theorem attL_at : ∀ {ks : List Nd} {j : Nat} {u : Nd}, ks[j]? = some u → attL ks → attT u := attL_mem
theorem preT_zero (id : Nat) (par dep pl : Int) (t : Nd) : (preT id par dep pl t)[0]? = some ⟨t, par, dep, pl⟩ := by cases t; unfold preT; rfl
set_option maxHeartbeats 16000000 in
set_option maxRecDepth 100000 in
theorem rflat_calls (w0 : World) (B : Nat) (hB0 : B = w0.heap.size) (mm : Nat) : ∀ (t : Nd) (v0 v1 v2 v3 v4 : Value) (l : List Pn) (par dep pl : Int) (st : Nat → Nat × Nat) (v : Value) (w : World), cntT t ≤ mm → attT t → IsTree w0 w0.heap.size t v0 v1 v2 v3 v4 →
    Below B w0 w → RRow w0 w B v l st → l.length + cntT t ≤ 1000000 → 0 ≤ dep → dep + cntT t ≤ 1000000 → 0 ≤ pl → pl ≤ 1000000 →
    Calls Try.prog 59 #[v, .agg #[v0, v1, v2, v3, v4], .int .i64 par, .int .i64 dep, .int .i64 pl] w (FlEnd w0 B l t par dep pl st w v) := by
  induction mm with
  | zero => intro t _ _ _ _ _ _ _ _ _ _ _ _ h; have := cntT_pos t; omega
  | succ mm IH =>
  intro t v0 v1 v2 v3 v4 l par dep pl st v w hm hatt ht hbw hrow hlen hd0 hd1 hp0 hp1
  have HTT := Lib.hid ht
  have HB0 := Lib.hid hB0
  match t with
  | .mk k n s al ks =>
  unfold IsTree at ht
  obtain ⟨rfl, rfl, rfl, wk, bn, bs, A, ac, K, kc, rfl, rfl, hat, p1, p2, hkk⟩ := ht
  unfold attT at hatt
  obtain ⟨hal, hatk⟩ := hatt
  have HATK := Lib.hid hatk
  unfold maxLen at p2
  have HK := Lib.hid hkk
  have HIH := Lib.hid IH
  have hcn : cntT (.mk k n s al ks) = cntL ks + 1 := by unfold cntT; rfl
  rw [hcn] at hm hlen hd1
  have HCN := Lib.hid hcn
  have HHT : Hid (hT (.mk k n s al ks) = hL ks + 1) := Lib.hid (by unfold hT; rfl)
  -- beyond the list nothing is told
  have HRW : Hid (RRow w0 w B v l (fun i => if i < l.length then st i else (0, 0))) := Lib.hid (hrow.congr fun i hi => by rw [if_pos hi])
  have HBW := Lib.hid hbw
  have hBs : B ≤ w.heap.size := by rw [hB0]; exact hbw.size
  clear hB0
  obtain ⟨xs, hx1, hx2⟩ := HRW.out.ex
  have HX1 := Lib.hid hx1
  have HX2 := Lib.hid hx2
  obtain ⟨VA, vc, rfl⟩ := row_shape hx1
  have hvl : ∀ g, (Value.slice VA l.length vc).ownBlock = some g → B ≤ g ∧ g < w.heap.size := fun g hg => hx1.lt g hg
  have HVL := Lib.hid hvl
  clear hatk hkk IH hcn hrow hbw hx1 hx2 hvl bn bs wk
  have HBX := Lib.hid (alloc_new w (.cells #[.int .i64 k, .string n, .string s, .slice A al.length ac, .slice K ks.length kc] 25))
  have HBE : Hid (Below w.heap.size w (w.alloc (.cells #[.int .i64 k, .string n, .string s, .slice A al.length ac, .slice K ks.length kc] 25))) := Lib.hid ((Below.refl _ w).alloc (Nat.le_refl _) _)
  go_enter Try.func59, Try.ntmps59
  go_wp2_with fail
  generalize w.alloc (.cells #[.int .i64 k, .string n, .string s, .slice A al.length ac, .slice K ks.length kc] 25) = w1 at HBE HBX ⊢
  have hs1 := HBE.out.size
  have hbl1 := lt_of_block HBX.out
  obtain ⟨wd, hwd⟩ : ∃ wd, wd = w1.drew := ⟨_, rfl⟩
  have HBD : Hid (Below w1.heap.size w1 wd) := Lib.hid (hwd ▸ (Below.refl _ w1).drew)
  have HSD : Hid (wd.heap.size = w1.heap.size) := Lib.hid (by rw [hwd]; rfl)
  have hbd := (HBD.out.block _ hbl1).trans HBX.out
  obtain ⟨b0, b1, b2, b3, b4⟩ := box5 hbd
  have r0 := cell_regrown b0
  have r1 := cell_regrown b1
  have r2 := cell_regrown b2
  have r3 := cell_regrown b3
  have r4 := cell_regrown b4
  clear b0 b1 b2 b3 b4 hbd
  refine Kr.wp_region_T 9 [9, 10] [(5, SpBare w1.heap.size k n s al), (8, SpI w1.heap.size par dep pl k n s al (.slice A al.length ac) (.slice K ks.length kc))]
    (by simp only [List.take_succ_cons, List.take_zero] <;> rfl) (by simp only [Kr.takeI, List.getElem?_cons_succ, List.getElem?_cons_zero] <;> rfl) mixed2 (by kernel_rfl) ?_
  rw [← hwd]
  clear hwd
  repeat (refine Kr.wpR_one rfl rfl ?_; go_big_quiet_step (fail); refine wpQuiet_nil ?_)
  refine Kr.wpR_call _ rfl rfl rfl ?_ ?_
  · intro W hW hk
    have hbw1 : Below w1.heap.size w1 W := HBD.out.trans ((Kr.later_iff.1 hW).mono (Nat.le_of_eq HSD.out.symm))
    have HTW : Hid (IsTree W W.heap.size (.mk k n s al ks) (.int .i64 k) (.string n) (.string s) (.slice A al.length ac) (.slice K ks.length kc)) := Lib.hid (by
      have hb : Below B w0 W := (HBW.out.trans (HBE.out.mono hBs)).trans (hbw1.mono (by omega))
      have hB0 := HB0.out
      subst hB0
      exact HTT.out.keep (fun p hp => hb.cell hp) hb.size)
    have HSZ := Lib.hid hbw1.size
    clear hbw1
    go_simp
    refine Kr.upMany_enter ((bare_calls (.mk k n s al ks) _ _ _ _ _ W HTW.out hal).mono ?_)
    rintro e w' ⟨av, rfl, h1, h2⟩
    obtain ⟨A', ac', rfl, _, _⟩ := id h1
    exact ⟨_, rfl, ⟨A', ac', rfl, h1.mono HSZ.out⟩, h2⟩
  rintro v ⟨_, _, _, _, hS, _⟩
  obtain ⟨A', ac', rfl, _⟩ := hS
  go_frame
  refine Kr.wpR_one rfl rfl ?_
  go_big_quiet_step (fail)
  refine wpQuiet_nil ?_
  refine Kr.wpR_fact rfl rfl (.agg #[.int .i64 par, .int .i64 0, .int .i64 dep, .int .i64 0, .int .i64 pl, .int .i64 k, .string n, .string s, .slice A' al.length ac', .slice none 0 0, .int .i64 k, .string n, .string s, .slice A al.length ac, .slice K ks.length kc]) ?_ ?_
  · intro W hW hk
    go_simp
    exact ⟨rfl, rfl⟩
  go_frame
  refine Kr.wpR_call _ rfl rfl rfl ?_ ?_
  · intro W hW hk
    have HCP : Hid (AttrCp w1.heap.size al (.slice A' al.length ac') W) := Lib.hid (by
      obtain ⟨W0, ⟨A2, ac2, e, h1⟩, hb⟩ := hk 24 _ (.inl ⟨rfl, rfl⟩) (by decide) 22 _ (.inl ⟨rfl, rfl⟩) (by decide)
      injection e with e
      injection e with e
      simp only [List.cons.injEq, and_true, true_and, Value.slice.injEq] at e
      obtain ⟨rfl, rfl⟩ := e
      exact attrCp_below h1 hb)
    clear hk
    go_simp
    have hal2 := alloc_new W (.cells #[.int .i64 par, .int .i64 0, .int .i64 dep, .int .i64 0, .int .i64 pl, .int .i64 k, .string n, .string s, .slice A' al.length ac', .slice none 0 0, .int .i64 k, .string n, .string s, .slice A al.length ac, .slice K ks.length kc] 64)
    exact upMany_value ⟨W.heap.size, A', ac', rfl, hal2, attrCp_below HCP.out ((Below.refl _ W).alloc (Nat.le_refl _) _)⟩ ((Below.refl _ W).alloc (Nat.le_refl _) _)
  rintro v ⟨_, _, _, _, hS, _⟩
  obtain ⟨g, _, _, rfl, _⟩ := hS
  go_frame
  refine Kr.wpR_nil ?_
  intro w3 hb3 hH
  obtain ⟨W0, ⟨g', A3, ac3, e, hg1, hg2⟩, hbel⟩ := hH _ _ (.inl ⟨rfl, rfl⟩)
  injection e with e
  injection e with e
  injection e with e _ _
  subst e
  have HG1 := Lib.hid ((hbel.block _ (lt_of_block hg1)).trans hg1)
  have HG2 := Lib.hid (attrCp_below hg2 hbel)
  have HB3 : Hid (Below w1.heap.size w1 w3) := Lib.hid (HBD.out.trans (hb3.mono (Nat.le_of_eq HSD.out.symm)))
  clear hH hb3 hg1 hg2 hbel r0 r1 r2 r3 r4
  obtain ⟨i0, ii, hz0, hz1, hz2⟩ := info_parts i_info
  have HW3 : Hid (Below w.heap.size w w3) := Lib.hid (HBE.out.trans (HB3.out.mono hs1))
  have HROW : Hid (w3.ownsRow B 64 15 (.slice VA l.length vc) l.length xs) := Lib.hid (row_of_heap HX1.out fun c hc => HW3.out.block c (HVL.out c hc).2)
  have HNEWS : Hid (∀ (j : Nat) u, [Value.int .i64 par, .int .i64 0, .int .i64 dep, .int .i64 0, .int .i64 pl, .int .i64 k, .string n, .string s, .slice A3 al.length ac3, .slice none 0 0, .int .i64 k, .string n, .string s, .slice A al.length ac, .slice K ks.length kc][j]? = some u → w3.cell? ((⟨g, 0, none⟩ : Addr).add j) = some u) := Lib.hid fun j u hj => by
    rw [add_flat, Nat.zero_add, block_cell HG1.out]; rw [← List.getElem?_toArray] at hj; exact hj
  have HONE : Hid (∀ u ∈ [Value.int .i64 par, .int .i64 0, .int .i64 dep, .int .i64 0, .int .i64 pl, .int .i64 k, .string n, .string s, .slice A3 al.length ac3, .slice none 0 0, .int .i64 k, .string n, .string s, .slice A al.length ac, .slice K ks.length kc], u.oneCell' = true) := Lib.hid (by simp [Value.oneCell'])
  have HBS : Hid (B ≤ w3.heap.size) := Lib.hid (Nat.le_trans hBs HW3.out.size)
  go_wp2_with (at_builtin; refine wpList_append_own_at _ rfl (.tmp 17) (.tmp 25) 60 rfl B 64 i0 _ 15 216 Try.underlying60 ii hz0 hz1 hz2 rfl (by decide) (.slice VA l.length vc) l.length xs rfl HROW.out ⟨g, 0, none⟩ 1 1 [.int .i64 par, .int .i64 0, .int .i64 dep, .int .i64 0, .int .i64 pl, .int .i64 k, .string n, .string s, .slice A3 al.length ac3, .slice none 0 0, .int .i64 k, .string n, .string s, .slice A al.length ac, .slice K ks.length kc] rfl rfl HNEWS.out HONE.out (by unfold maxLen; omega) (by omega) HBS.out ?_)
  intro v' w5 h1 h2 h3 h4
  have hF5 : FrG w (.slice VA l.length vc) w5 v' := (FrG.of_below _ HW3.out).trans ⟨h2, h4.imp id fun e => ⟨_, e, Nat.le_refl _⟩⟩
  have hF5' : FrG w1 (.slice VA l.length vc) w5 v' := (FrG.of_below _ HB3.out).trans ⟨h2, h4.imp id fun e => ⟨_, e, Nat.le_refl _⟩⟩
  have hR5 : RRow w0 w5 B v' (l ++ [⟨.mk k n s al ks, par, dep, pl⟩]) (fun i => if i < l.length then st i else (0, 0)) := by
    refine RRow.snoc (x := ⟨.mk k n s al ks, par, dep, pl⟩) (HX2.out.move (FrG.of_below _ HW3.out)) HX1.out.1 (attrCp_in HG2.out fun c h5 h6 => ?_) HTT.out (by simp) ⟨h2, h4.imp id fun e => ⟨_, e, Nat.le_refl _⟩⟩ h1
    exact ⟨by omega, h6, fun e => by have := (HVL.out c e).2; omega⟩
  have HF5 := Lib.hid hF5
  have HF5' := Lib.hid hF5'
  have HR5 := Lib.hid hR5
  obtain ⟨gv, cv, rfl⟩ := row_form h1 (by omega)
  clear h1 h2 h3 h4 hF5 hF5' hR5
  go_wp2_with fail
  have HR6 : Hid (FlRel w0 B l (.mk k n s al ks) par dep pl st w1 (.slice VA l.length vc) 0 (.slice (some ⟨gv, 0, none⟩) (l.length + 1) cv) w5 (fun i => if i < l.length then st i else (0, 0))) := Lib.hid ⟨by rw [flL_zero]; exact HR5.out, fun i hi => by rw [if_pos hi], fun i x hx hi => by
    rw [flL_zero] at hx
    have := (List.getElem?_eq_some_iff.1 hx).1
    rw [List.length_append, List.length_singleton] at this
    omega, HF5'.out⟩
  have HB1 : Hid (Below B w0 w1) := Lib.hid (HBW.out.trans (HBE.out.mono hBs))
  have hB1 : B ≤ w1.heap.size := Nat.le_trans hBs hs1
  have HV1 : Hid (∀ g, (Value.slice VA l.length vc).ownBlock = some g → B ≤ g) := Lib.hid fun g hg => (HVL.out g hg).1
  have HVX : Hid ((Value.slice VA l.length vc).ownBlock ≠ some w.heap.size) := Lib.hid fun e => by have := (HVL.out _ e).2; omega
  clear HF5 HF5' HR5 HROW HNEWS HONE HBS HG1 HG2 HB3 HW3 HBD HSD HX1 HX2 hz0 hz1 hz2 ii
  go_loopw [0, 12, 13] (fun v h i wr => ∃ (j : Nat) (gv cv : Nat) (st' : Nat → Nat × Nat), j ≤ ks.length ∧ v = .slice (some ⟨gv, 0, none⟩) (l.length + 1 + cntL (ks.take j)) cv ∧ h = .int .i64 ((hL (ks.take j) : Nat) : Int) ∧ i = .int .i64 (j : Int) ∧ FlRel w0 B l (.mk k n s al ks) par dep pl st w1 (.slice VA l.length vc) j v wr st') (fun _ _ i _ => ks.length - (intOf i).toNat)
  case atStart => exact ⟨0, gv, cv, _, Nat.zero_le _, by rw [List.take_zero, show cntL [] = 0 by unfold cntL; rfl], by rw [List.take_zero, show hL [] = 0 by unfold hL; rfl]; rfl, rfl, HR6.out⟩
  case round =>
    obtain ⟨j, gj, cj, st', hj, rfl, rfl, rfl, hR⟩ := hrel
    have HR := Lib.hid hR
    clear hR
    have HBR : Hid (Below B w0 wr) := Lib.hid (below_frG HB1.out HR.out.fr HV1.out hB1)
    have HXR := Lib.hid ((HR.out.fr.block hbl1 HVX.out).trans HBX.out)
    obtain ⟨b0, b1, b2, b3, b4⟩ := box5 HXR.out
    have hcl := cntL_take_le ks j
    have hhl : hL (ks.take j) ≤ cntL (ks.take j) := hL_le _
    rcases Nat.lt_or_ge j ks.length with hl | hl
    · obtain ⟨u, hu⟩ : ∃ u, ks[j]? = some u := ⟨_, List.getElem?_eq_getElem hl⟩
      have hB0' := HB0.out
      obtain ⟨kb, ko, u0, u1, u2, u3, u4, rfl, hkb, e0, e1, e2, e3, e4, hut⟩ := kid_cells HK.out hu wr (hB0' ▸ HBR.out)
      clear hB0'
      have hut0 : IsTree w0 w0.heap.size u u0 u1 u2 u3 u4 := hut w0 (Below.refl _ _)
      have HUT := Lib.hid hut0
      have hjl : (j : Int) < (ks.length : Int) := by omega
      have hcm : cntT u ≤ mm := by have := cntL_mem hu; omega
      have HAU : Hid (attT u) := Lib.hid (attL_mem hu HATK.out)
      have HU := Lib.hid hu
      have hks : ks.length ≤ 1000000 := by have := cntL_ge ks; omega
      have HNX : Hid (cntL (ks.take (j + 1)) = cntL (ks.take j) + cntT u) := Lib.hid (cntL_take_succ hu)
      have HNH : Hid (hL (ks.take (j + 1)) = max (hL (ks.take j)) (hT u)) := Lib.hid (hL_take ks j u hu)
      have hcu : cntL (ks.take j) + cntT u ≤ cntL ks := by have := cntL_take_le ks (j + 1); rw [HNX.out] at this; exact this
      have hLL := flL_length l (.mk k n s al ks) par dep pl j
      have hLL2 : (flL l (.mk k n s al ks) par dep pl j).length = l.length + 1 + cntL (ks.take j) := hLL
      have HLL := Lib.hid hLL2
      have hw1 : IntKind.i64.wrap (dep + 1) = dep + 1 := IntWalk.i64_in _ (by omega)
      have HCALL := Lib.hid (HIH.out u u0 u1 u2 u3 u4 (flL l (.mk k n s al ks) par dep pl j) (l.length : Nat) (dep + 1) (j : Nat) st' (.slice (some ⟨gj, 0, none⟩) (l.length + 1 + cntL (ks.take j)) cj) wr hcm HAU.out HUT.out HBR.out HR.out.row (by omega) (by omega) (by omega) (by omega) (by omega))
      clear hut hut0 hu hLL hLL2
      generalize hcj : l.length + 1 + cntL (ks.take j) = nj at *
      go_wp2_with fail
      refine HCALL.out.mono ?_
      rintro e w2 ⟨v2, st2, rfl, q1, q2, q3, q4⟩
      have HST : Hid (FlRel w0 B l (.mk k n s al ks) par dep pl st w1 (.slice VA l.length vc) (j + 1) v2 w2 st2) := Lib.hid (fl_step HR.out HU.out q1 q2 q3 q4)
      have hlen2 : (flL l (.mk k n s al ks) par dep pl (j + 1)).length = nj + cntT u := by
        rw [flL_length]; show l.length + 1 + cntL (ks.take (j + 1)) = _; rw [HNX.out]; omega
      have hget : (flL l (.mk k n s al ks) par dep pl (j + 1))[nj]? = some ⟨u, (l.length : Nat), dep + 1, (j : Nat)⟩ := by
        rw [flL_succ _ _ _ _ _ HU.out, List.getElem?_append_right (by rw [HLL.out]; exact Nat.le_refl _), HLL.out, Nat.sub_self]
        exact preT_zero _ _ _ _ u
      obtain ⟨g2, c2, A2, ac2, y0, y1, y2, y3, y4, hv2, hgl, _, _, _, _, d3, _⟩ := HST.out.row.at_ hget
      rw [HST.out.new nj _ hget (by omega)] at d3
      rw [hlen2] at hv2
      subst hv2
      dsimp only at d3
      have hpu := cntT_pos u
      clear q1 q2 q3 q4 b0 b1 b2 b3 b4 e0 e1 e2 e3 e4 hget hlen2
      have hnk : (nj : Int) < ((nj + cntT u : Nat) : Int) := by omega
      go_wp2_with fail
      go_roundw
      case rel => exact ⟨j + 1, _, _, st2, by omega, by rw [HNX.out, ← Nat.add_assoc, hcj], by rw [HNH.out]; exact congrArg (Value.int .i64) (by omega), by go_num, HST.out⟩
      case measure => simp [intOf]; omega
    · obtain rfl : j = ks.length := by omega
      have hrow := HR.out.row
      have hold := HR.out.old
      have hnew := HR.out.new
      have hfr := HR.out.fr
      rw [show flL l (.mk k n s al ks) par dep pl ks.length = l ++ preT l.length par dep pl (.mk k n s al ks) from flL_all l (.mk k n s al ks) par dep pl] at hrow hnew
      have hll : (l ++ preT l.length par dep pl (.mk k n s al ks)).length = l.length + cntT (.mk k n s al ks) := by rw [List.length_append, preT_length]
      have hnl : l.length + 1 + cntL (ks.take ks.length) = (l ++ preT l.length par dep pl (.mk k n s al ks)).length := by rw [hll, HCN.out, List.take_length]; omega
      rw [hnl] at hrow hfr ⊢
      rw [List.take_length]
      have hid : l.length < (l ++ preT l.length par dep pl (.mk k n s al ks)).length := by rw [hll]; have := cntT_pos (.mk k n s al ks); omega
      -- the size, then the height
      obtain ⟨s1, F1⟩ := hrow.set1 hid (cntT (.mk k n s al ks))
      obtain ⟨s3, F3⟩ := s1.set3 hid (hT (.mk k n s al ks))
      have hsub : (((l ++ preT l.length par dep pl (.mk k n s al ks)).length : Nat) : Int) - (l.length : Nat) = ((cntT (.mk k n s al ks) : Nat) : Int) := by rw [hll]; omega
      have hadd : ((hL ks : Nat) : Int) + 1 = ((hT (.mk k n s al ks) : Nat) : Int) := by rw [HHT.out]; omega
      have hget : (l ++ preT l.length par dep pl (.mk k n s al ks))[l.length]? = some ⟨.mk k n s al ks, par, dep, pl⟩ := by
        rw [List.getElem?_append_right (Nat.le_refl _), Nat.sub_self]; exact preT_zero _ _ _ _ _
      obtain ⟨g2, c2, A2, ac2, y0, y1, y2, y3, y4, hv2, hgl, _, _, d1, _, d3, _⟩ := hrow.at_ hget
      injection hv2 with hv2 _ hc2
      subst hc2
      injection hv2 with hv2
      injection hv2 with hv2 _ _
      subst hv2
      have HFIN : Hid (FlEnd w0 B l (.mk k n s al ks) par dep pl st w (.slice VA l.length vc) (.returned (.slice (some ⟨gj, 0, none⟩) (l ++ preT l.length par dep pl (.mk k n s al ks)).length cj))
          ((wr.setCell ⟨gj, l.length * 15 + 1, none⟩ (.int .i64 ((cntT (.mk k n s al ks) : Nat) : Int))).setCell ⟨gj, l.length * 15 + 3, none⟩ (.int .i64 ((hT (.mk k n s al ks) : Nat) : Int)))) := Lib.hid (by
        refine ⟨_, _, rfl, s3, fun i hi => ?_, fun i x hx => ?_, (FrG.of_below _ HBE.out).trans ((hfr.trans F1).trans F3)⟩
        · unfold setSt; rw [if_neg (by omega), if_neg (by omega)]; exact hold i hi
        · by_cases hi : i = 0
          · subst hi
            rw [preT_zero] at hx
            injection hx with hx
            subst hx
            unfold setSt
            rw [if_pos (by omega), if_pos rfl]
          · unfold setSt
            rw [if_neg (by omega), if_neg (by omega)]
            exact hnew (l.length + i) x (by rw [List.getElem?_append_right (by omega), Nat.add_sub_cancel_left]; exact hx) (by omega))
      obtain ⟨xs', hx1, _⟩ := hrow.ex
      have z1 := hx1.frozenAt (l.length * 15 + 1)
      have z3 := hx1.frozenAt (l.length * 15 + 3)
      have HHID := Lib.hid hid
      clear s1 s3 F1 F3 hold hnew hfr hx1 hget hrow hnl
      have hLm : (l ++ preT l.length par dep pl (.mk k n s al ks)).length ≤ 1000000 := by rw [hll, HCN.out]; omega
      have hhm : hT (.mk k n s al ks) ≤ 1000000 := by have := hT_le (.mk k n s al ks); rw [hll] at hLm; omega
      clear hll
      generalize (l ++ preT l.length par dep pl (.mk k n s al ks)).length = LL at *
      generalize cntT (.mk k n s al ks) = cc at *
      generalize hT (.mk k n s al ks) = hh at *
      have hidl : (l.length : Int) < (LL : Int) := by omega
      go_wp2_with fail
      go_ret
      exact HFIN.out
/-- The document's Flat of a tree. -/
def RFlatEnd (t : Nd) (w : World) (e : Ending) (w' : World) : Prop := ∃ g cap B w0, e = .returned (.slice (some ⟨g, 0, none⟩) (cntT t : Nat) cap) ∧ RRow w0 w' B (.slice (some ⟨g, 0, none⟩) (cntT t : Nat) cap) (allP t) (finOf (allP t)) ∧ Below w.heap.size w w' ∧ Below w.heap.size w w0 ∧ Below w0.heap.size w0 w' ∧ w.heap.size ≤ B
set_option maxHeartbeats 2000000 in
set_option maxRecDepth 100000 in
theorem rFlat_calls (t : Nd) (v0 v1 v2 v3 v4 : Value) (w : World) (h : IsTree w w.heap.size t v0 v1 v2 v3 v4) (hN : cntT t ≤ 400000) (ht : attT t) :
    Calls Try.prog 36 #[.agg #[v0, v1, v2, v3, v4]] w (RFlatEnd t w) := by
  have HT : Hid (∀ W', Below w.heap.size w W' → IsTree W' W'.heap.size t v0 v1 v2 v3 v4) := Lib.hid fun W' hb => h.keep (fun p hp => hb.cell hp) hb.size
  have HB0 : Hid (Below w.heap.size w (w.alloc (.cells #[v0, v1, v2, v3, v4] 25))) := Lib.hid ((Below.refl _ w).alloc (Nat.le_refl _) _)
  have HTT := Lib.hid ht
  clear h ht
  go_enter Try.func36, Try.ntmps36
  go_wp2_with fail
  generalize w.alloc (.cells #[v0, v1, v2, v3, v4] 25) = w1 at HB0 ⊢
  refine (rflat_calls w1 w1.heap.size rfl _ t v0 v1 v2 v3 v4 [] (-1) 0 0 (fun _ => (0, 0)) (.slice none 0 0) w1 (Nat.le_refl _) HTT.out (HT.out _ HB0.out) (Below.refl _ _) ⟨[], World.ownsRow_nil _ _ _ _, fun i x hx => by simp at hx⟩ (by simp; omega) (by omega) (by omega) (by omega) (by omega)).mono ?_
  rintro e w2 ⟨v', st', rfl, h1, _, h3, h4⟩
  rw [List.nil_append] at h1
  have h5 : RRow w1 w2 w1.heap.size v' (allP t) (finOf (allP t)) := RRow.congr (st := st') h1 fun i hi => by
    obtain ⟨x, hx⟩ : ∃ x, (allP t)[i]? = some x := ⟨_, List.getElem?_eq_getElem hi⟩
    have := h3 i x hx
    rw [List.length_nil, Nat.zero_add] at this
    rw [this]
    unfold finOf
    rw [hx]
  have hb : Below w1.heap.size w1 w2 := (Below.refl _ w1).grown h4.g (Nat.le_refl _) fun k hk => by cases hk
  obtain ⟨g, cap, _, _, _, _, _, _, _, rfl, _⟩ := h5.at_ (allP_zero t)
  rw [allP_length] at h5
  have HR := Lib.hid h5
  have HBZ : Hid (Below w.heap.size w w2) := Lib.hid (HB0.out.trans (hb.mono HB0.out.size))
  have HB2 := Lib.hid hb
  have hl := allP_length t
  clear h1 h3 h4 h5 hb
  rw [hl]
  clear hl
  go_wp2_with fail
  go_ret
  exact ⟨g, cap, w1.heap.size, w1, rfl, HR.out, HBZ.out, HB0.out, HB2.out, HB0.out.size⟩
end Go.Proofs.Ytcacgbdnegmfnaa.Tr
