/- serial.element: an element's pieces, if its kids' come. -/
import Derived.Test.YtbjcahhijfommaaGreatDoorKids
namespace Go.Proofs.YtbjcahhijfommaaGreatDoor.Tr
open Go Go.RowKit
set_option linter.unusedVariables false

section
variable {l : Nat} {T : TypeId → Bool} {B N Bw : Nat} {J Jx : List Pc → World → Prop}
theorem all2 (Y : Yd l T B N Bw J Jx) (a b : ByteArray) (ha : a.size ≤ 40000) (hb : b.size ≤ 40000) (pre : List Pc) (w : World) (sb : Nat) (hsb : w.heap.size = sb) (hJ : J pre w) (hB : B ≤ w.heap.size) (hN : pre.length + 2 ≤ N) :
    Calls Tryz.prog 34 #[.func (.yield l) #[] #[], .slice (some ⟨sb, 0, none⟩) 2 2] (w.alloc (.cells #[.string a, .string b] 9)) (YEnd T B J Jx (pre ++ [cut a, cut b]) (w.alloc (.cells #[.string a, .string b] 9))) :=
  all_calls Y [cut a, cut b] pre _ sb (Y.alloc hJ _) (by rw [World.size_alloc]; omega) (by rw [← hsb, alloc_new]; simp only [List.map_cons, List.map_nil, cut_val ha, cut_val hb]) hN (by simp)
theorem all3 (Y : Yd l T B N Bw J Jx) (a b c : ByteArray) (ha : a.size ≤ 40000) (hb : b.size ≤ 40000) (hc : c.size ≤ 40000) (pre : List Pc) (w : World) (sb : Nat) (hsb : w.heap.size = sb) (hJ : J pre w) (hB : B ≤ w.heap.size) (hN : pre.length + 3 ≤ N) :
    Calls Tryz.prog 34 #[.func (.yield l) #[] #[], .slice (some ⟨sb, 0, none⟩) 3 3] (w.alloc (.cells #[.string a, .string b, .string c] 9)) (YEnd T B J Jx (pre ++ [cut a, cut b, cut c]) (w.alloc (.cells #[.string a, .string b, .string c] 9))) :=
  all_calls Y [cut a, cut b, cut c] pre _ sb (Y.alloc hJ _) (by rw [World.size_alloc]; omega) (by rw [← hsb, alloc_new]; simp only [List.map_cons, List.map_nil, cut_val ha, cut_val hb, cut_val hc]) hN (by simp)
theorem all5 (Y : Yd l T B N Bw J Jx) (a b c d f : ByteArray) (ha : a.size ≤ 40000) (hb : b.size ≤ 40000) (hc : c.size ≤ 40000) (hd : d.size ≤ 40000) (hf : f.size ≤ 40000) (pre : List Pc) (w : World) (sb : Nat) (hJ : J pre w) (hB : B ≤ w.heap.size) (hN : pre.length + 5 ≤ N)
    (hs : w.heap[sb]? = some (.cells #[.string a, .string b, .string c, .string d, .string f] 9 (0, 0))) :
    Calls Tryz.prog 34 #[.func (.yield l) #[] #[], .slice (some ⟨sb, 0, none⟩) 5 5] w (YEnd T B J Jx (pre ++ [cut a, cut b, cut c, cut d, cut f]) w) :=
  all_calls Y [cut a, cut b, cut c, cut d, cut f] pre _ sb hJ hB (by rw [hs]; simp only [List.map_cons, List.map_nil, cut_val ha, cut_val hb, cut_val hc, cut_val hd, cut_val hf]) hN (by simp)
theorem Yd.yldB (Y : Yd l T B N Bw J Jx) (m : Nat) (x : ByteArray) (hx : x.size ≤ 40000) (pre : List Pc) (w : World) (h : J pre w) (hl : pre.length < N) : YieldAt Fence.wide m Tryz.prog l #[.string x] w (YEnd T B J Jx (pre ++ [cut x]) w) := by
  have := Y.yld m pre (cut x) w h hl
  rwa [cut_val hx] at this
theorem mixedY : Tryz.prog.follows .mixedOrders = true := by kernel_rfl
theorem upv {P : Program} {S : Kr.Spec} {W W' : World} {v : Value} (h : S v W') (hb : Below W.heap.size W W') : Kr.upMany P S W (.ok (.value v) W') := ⟨h, hb⟩
/-- Attributes where they lie. -/
def AtsAt (w : World) (B : Nat) (A : Option Addr) (al : List (ByteArray × ByteArray)) : Prop :=
  ∀ (j : Nat) (x : ByteArray × ByteArray), al[j]? = some x → ∃ b off, A = some ⟨b, off, none⟩ ∧ b < B ∧ w.cell? ⟨b, off + j * 2, none⟩ = some (.string x.1) ∧ w.cell? ⟨b, off + j * 2 + 1, none⟩ = some (.string x.2)
theorem AtsAt.below {w w' : World} {B : Nat} {A : Option Addr} {al : List (ByteArray × ByteArray)} (h : AtsAt w B A al) (hb : Below B w w') : AtsAt w' B A al := by
  intro j x hj
  obtain ⟨b, off, e, hlt, c0, c1⟩ := h j x hj
  exact ⟨b, off, e, hlt, (hb.cell (p := ⟨b, _, none⟩) hlt).trans c0, (hb.cell (p := ⟨b, _, none⟩) hlt).trans c1⟩
theorem atsAt_of {w : World} {B : Nat} {A : Option Addr} {ac : Nat} {al : List (ByteArray × ByteArray)} (h : IsAttrs w B al A ac) : AtsAt w B A al := by
  intro j x hj
  obtain ⟨b, off, e, hlt, hc⟩ := h.2.2.2 (by rintro rfl; simp at hj)
  exact ⟨b, off, e, hlt, (hc j x hj).1, (hc j x hj).2⟩
def elP (n : ByteArray) (al : List (ByteArray × ByteArray)) (ks : List Nd) : List Pc :=
  [cut ⟨#[60]⟩, cut n] ++ asP al ++ [cut ⟨#[62]⟩] ++ (if voidB n then [] else sayQ (rawB n) ks ++ [cut ⟨#[60, 47]⟩, cut n, cut ⟨#[62]⟩])
theorem el_room {pre : List Pc} {n : ByteArray} {al : List (ByteArray × ByteArray)} {j N : Nat} (hj : j < al.length) (hlen : pre.length + (2 + 5 * al.length + 1) ≤ N) : (pre ++ [cut ⟨#[60]⟩, cut n] ++ asP (al.take j)).length + 5 ≤ N := by
  have e1 := List.length_take (i := j) (l := al)
  have e2 := asP_len (al.take j)
  rw [List.length_append, List.length_append, e2, e1]
  show pre.length + 2 + 5 * min j al.length + 5 ≤ N
  omega
theorem el_room2 {pre : List Pc} {n : ByteArray} {al : List (ByteArray × ByteArray)} {N : Nat} (hlen : pre.length + (2 + 5 * al.length + 1) ≤ N) : (pre ++ [cut ⟨#[60]⟩, cut n] ++ asP al).length < N := by
  have e2 := asP_len al
  rw [List.length_append, List.length_append, e2]
  show pre.length + 2 + 5 * al.length < N
  omega
theorem elP_void {pre : List Pc} {n : ByteArray} {al : List (ByteArray × ByteArray)} {ks : List Nd} (h : voidB n = true) : pre ++ elP n al ks = pre ++ [cut ⟨#[60]⟩, cut n] ++ asP al ++ [cut ⟨#[62]⟩] := by
  unfold elP; rw [if_pos h]; simp
theorem elP_full {pre : List Pc} {n : ByteArray} {al : List (ByteArray × ByteArray)} {ks : List Nd} (h : voidB n = false) : pre ++ elP n al ks = pre ++ [cut ⟨#[60]⟩, cut n] ++ asP al ++ [cut ⟨#[62]⟩] ++ sayQ (rawB n) ks ++ [cut ⟨#[60, 47]⟩, cut n, cut ⟨#[62]⟩] := by
  unfold elP; rw [if_neg (by rw [h]; decide)]; simp
theorem elP_room {pre : List Pc} {n : ByteArray} {al : List (ByteArray × ByteArray)} {ks : List Nd} {N : Nat} (h : voidB n = false) (hN : pre.length + (elP n al ks).length ≤ N) :
    (pre ++ [cut ⟨#[60]⟩, cut n] ++ asP al ++ [cut ⟨#[62]⟩]).length + (sayQ (rawB n) ks).length ≤ N ∧ (pre ++ [cut ⟨#[60]⟩, cut n] ++ asP al ++ [cut ⟨#[62]⟩] ++ sayQ (rawB n) ks).length + 3 ≤ N := by
  have e := congrArg List.length (elP_full (pre := pre) (al := al) (ks := ks) h)
  simp only [List.length_append, List.length_cons, List.length_nil] at e ⊢
  omega
theorem meas_lt {j n : Nat} (h : j < n) : n - (j + 1) < n - j := by omega
theorem le4 {m : Nat} (h : m ≤ 6000) : m ≤ 40000 := by omega
/-- A slice of five strings, new. -/
def Sp5 (a b c d f : ByteArray) (v : Value) (w : World) : Prop := ∃ sb, v = .slice (some ⟨sb, 0, none⟩) 5 5 ∧ w.heap[sb]? = some (.cells #[.string a, .string b, .string c, .string d, .string f] 9 (0, 0))
set_option maxHeartbeats 4000000 in
set_option maxRecDepth 100000 in
theorem element_calls (Y : Yd l T B N Bw J Jx) (hG : 0 < B) (k : Int) (n s : ByteArray) (al : List (ByteArray × ByteArray)) (ks : List Nd) (hS : ∀ t ∈ ks, SayC l T B N J Jx t) (pre : List Pc) (w : World) (v0 v1 v2 v3 v4 : Value)
    (hJ : J pre w) (hB : B ≤ w.heap.size) (hT : SpTab w) (h : IsTree w B (.mk k n s al ks) v0 v1 v2 v3 v4) (hf : fitT (.mk k n s al ks)) (hN : pre.length + (elP n al ks).length ≤ N) :
    Calls Tryz.prog 37 #[.agg #[v0, v1, v2, v3, v4], .func (.yield l) #[] #[]] w (YEnd T B J Jx (pre ++ elP n al ks) w) := by
  have HTR := Lib.hid h
  unfold IsTree at h
  obtain ⟨rfl, rfl, rfl, _, _, _, A, ac, K, kc, rfl, rfl, hA, h1, h2, h3⟩ := h
  unfold fitT at hf
  obtain ⟨f1, f2, f3, f4, f5⟩ := hf
  have HA := Lib.hid (atsAt_of hA)
  have HS := Lib.hid hS
  have HF4 := Lib.hid f4
  have HF5 := Lib.hid f5
  have HT := Lib.hid hT
  have hac := hA.1
  have hac2 := hA.2.1
  have hlen : pre.length + (2 + 5 * al.length + 1) ≤ N := by
    unfold elP at hN
    simp only [List.length_append, List.length_cons, List.length_nil, asP_len] at hN
    omega
  have HN := Lib.hid hN
  have HST := Lib.hid (YRel.start (T := T) hJ hB)
  have hn : n.size ≤ 40000 := by omega
  have HC1 := Lib.hid (fun (w1 : World) (sb : Nat) (hsb : w1.heap.size = sb) hj hb => all2 Y ⟨#[60]⟩ n (by decide) hn pre w1 sb hsb hj hb (by omega))
  have HBXR := Lib.hid (HST.out.alloc Y (.cells #[.int .i64 k, .string n, .string s, .slice A al.length ac, .slice K ks.length kc] 25))
  have HBXB : Hid ((w.alloc (.cells #[.int .i64 k, .string n, .string s, .slice A al.length ac, .slice K ks.length kc] 25)).heap[w.heap.size]? = _) := Lib.hid (alloc_new w _)
  have HSZ1 : Hid ((w.alloc (.cells #[.int .i64 k, .string n, .string s, .slice A al.length ac, .slice K ks.length kc] 25)).heap.size = w.heap.size + 1) := Lib.hid (World.size_alloc _ _)
  have HGT : Hid (B ≤ w.heap.size) := Lib.hid hB
  clear hA h3 hS f4 f5 hN hT hJ h1 h2
  go_enter Tryz.func37, Tryz.ntmps37
  go_wp2_with fail
  generalize w.alloc (.cells #[.int .i64 k, .string n, .string s, .slice A al.length ac, .slice K ks.length kc] 25) = w1 at HBXR HBXB HSZ1 ⊢
  refine (HC1.out _ _ HSZ1.out HBXR.out.j HBXR.out.sizeB).mono ?_
  rintro e w2 (⟨rfl, hJ2, hk2⟩ | ⟨rfl, q, hq⟩)
  case inr =>
    go_wp2_with fail
    go_ret
    exact .inr ⟨rfl, q, hq⟩
  have hbx := hk2.cells _ _ _ _ ((alloc_old HBXB.out _)) Y.t2
  have HR2 := Lib.hid ((HBXR.out.alloc Y _).next hJ2 hk2)
  clear hJ2 hk2 HC1 HSZ1 HBXB HBXR
  have HBX := Lib.hid hbx
  have e3 : w2.cell? ⟨w.heap.size, 3, none⟩ = some (.slice A al.length ac) := by rw [block_cell hbx]; rfl
  clear hbx
  generalize heb : w.heap.size = eb at HBX e3 ⊢
  have HEB := Lib.hid heb
  clear heb
  go_wp2_with fail
  go_loopw [16] (fun i wr => ∃ j : Nat, j ≤ al.length ∧ i = .int .i64 j ∧ wr.heap[eb]? = some (.cells #[.int .i64 k, .string n, .string s, .slice A al.length ac, .slice K ks.length kc] 25 (0, 0)) ∧ YRel T B J (pre ++ [cut ⟨#[60]⟩, cut n] ++ asP (al.take j)) w wr) (fun i _ => al.length - (intOf i).toNat)
  case atStart => exact ⟨0, Nat.zero_le _, rfl, HBX.out, by rw [List.take_zero, show asP [] = [] from rfl, List.append_nil]; exact HR2.out⟩
  case round =>
    obtain ⟨j, hj, rfl, hbx, hR⟩ := hrel
    by_cases hjl : j < al.length
    · obtain ⟨x, hx⟩ : ∃ x, al[j]? = some x := ⟨_, List.getElem?_eq_getElem hjl⟩
      obtain ⟨b, off, rfl, hb, c0, c1⟩ := HA.out.below hR.k.below j x hx
      have hjz : (j : Int) < (al.length : Int) := by omega
      have hw : wrap64 ((j : Int) + 1) = ((j + 1 : Nat) : Int) := by unfold maxLen at hac2; unfold wrap64; omega
      have HBX2 := Lib.hid hbx
      have HR := Lib.hid hR
      have HTK := Lib.hid (asP_take hx)
      have hxs := HF4.out x (List.mem_of_getElem? hx)
      have HXS := Lib.hid hxs
      clear hR hx hxs hbx
      obtain ⟨xn, xv⟩ := x
      go_wp2_with fail
      have HBA := Lib.hid (alloc_new wr (.cells #[.string xn, .string xv] 50))
      have HR3 := Lib.hid (HR.out.alloc Y (.cells #[.string xn, .string xv] 50))
      have HBX3 : Hid ((wr.alloc (.cells #[.string xn, .string xv] 50)).heap[eb]? = _) := Lib.hid (alloc_old HBX2.out _)
      generalize wr.heap.size = ab at HBA ⊢
      generalize wr.alloc (.cells #[.string xn, .string xv] 50) = w3 at HBA HR3 HBX3 ⊢
      obtain ⟨wd, hwd⟩ : ∃ wd, wd = w3.drew := ⟨_, rfl⟩
      have HBD : Hid (Below w3.heap.size w3 wd) := Lib.hid (hwd ▸ (Below.refl _ w3).drew)
      have hbd := (HBD.out.block _ (lt_of_block HBA.out)).trans HBA.out
      have b0 : wd.cell? ⟨ab, 0, none⟩ = some (.string xn) := by rw [block_cell hbd]; rfl
      have b1 : wd.cell? ⟨ab, 1, none⟩ = some (.string xv) := by rw [block_cell hbd]; rfl
      have r0 := cell_regrown b0
      have r1 := cell_regrown b1
      clear b0 b1 hbd
      refine Kr.wp_region_T 7 [7, 8] [(5, fun v _ => v = .string (Gr.escB true xv)), (6, Sp5 ⟨#[32]⟩ xn ⟨#[61, 34]⟩ (Gr.escB true xv) ⟨#[34]⟩)]
        (by simp only [List.take_succ_cons, List.take_zero] <;> rfl) (by simp only [Kr.takeI, List.getElem?_cons_succ, List.getElem?_cons_zero] <;> rfl) mixedY (by kernel_rfl) ?_
      rw [← hwd]
      clear hwd
      repeat (refine Kr.wpR_one rfl rfl ?_; go_big_quiet_step (fail); refine wpQuiet_nil ?_)
      refine Kr.wpR_call _ rfl rfl rfl ?_ ?_
      · intro W hW hk
        go_simp
        refine Kr.upMany_enter ((Gr.escape_calls xv true (by have := HXS.out.2; show xv.size ≤ _; exact Nat.le_trans this (by decide)) W).mono ?_)
        rintro e w' ⟨rfl, hbb⟩
        exact ⟨_, rfl, rfl, hbb⟩
      rintro v ⟨_, _, _, _, hS, _⟩
      obtain rfl := hS
      go_frame
      repeat (refine Kr.wpR_one rfl rfl ?_; go_big_quiet_step (fail); refine wpQuiet_nil ?_)
      refine Kr.wpR_call _ rfl rfl rfl ?_ ?_
      · intro W hW hk
        go_simp
        exact upv ⟨_, rfl, alloc_new W _⟩ ((Below.refl _ W).alloc (Nat.le_refl _) _)
      rintro v ⟨_, _, _, _, hS, _⟩
      obtain ⟨sb, rfl, _⟩ := hS
      go_frame
      refine Kr.wpR_nil ?_
      intro w4 hb4 hH
      have hsl : w4.heap[sb]? = some (.cells #[.string ⟨#[32]⟩, .string xn, .string ⟨#[61, 34]⟩, .string (Gr.escB true xv), .string ⟨#[34]⟩] 9 (0, 0)) := by
        obtain ⟨W0, ⟨sb', e, h2⟩, hbel⟩ := hH _ _ (.inl ⟨rfl, rfl⟩)
        injection e with e
        injection e with e
        injection e with e
        subst e
        exact (hbel.block _ (lt_of_block h2)).trans h2
      have hb34 : Below w3.heap.size w3 w4 := HBD.out.trans (hb4.mono HBD.out.size)
      have HR4 := Lib.hid (HR3.out.below Y hb34)
      have HBX4 := Lib.hid ((hb34.block _ (lt_of_block HBX3.out)).trans HBX3.out)
      have hx1 : xn.size ≤ 6000 := HXS.out.1
      have hx2 : xv.size ≤ 6000 := HXS.out.2
      have hx3 := le4 hx1
      have hx4 := esc_cut true hx2
      have hNj := el_room (n := n) hjl hlen
      have hj4 := HR4.out.j
      have hB4 := HR4.out.sizeB
      have HC5 := Lib.hid (all5 Y ⟨#[32]⟩ xn ⟨#[61, 34]⟩ (Gr.escB true xv) ⟨#[34]⟩ (by decide) hx3 (by decide) hx4 (by decide) _ w4 sb hj4 hB4 hNj hsl)
      clear hH hb4 hb34 hsl r0 r1 hx1 hx2 hx3 hx4 hNj hj4 hB4
      go_wp2_with fail
      refine HC5.out.mono ?_
      rintro e w5 (⟨rfl, hJ5, hk5⟩ | ⟨rfl, q, hq⟩)
      · have hR5 := HR4.out.next hJ5 hk5
        have HBX5 := Lib.hid (hk5.cells _ _ _ _ HBX4.out Y.t2)
        rw [List.append_assoc, show [cut ⟨#[32]⟩, cut xn, cut ⟨#[61, 34]⟩, cut (Gr.escB true xv), cut ⟨#[34]⟩] = atP (xn, xv) from rfl, ← HTK.out] at hR5
        have HR5 := Lib.hid hR5
        have HW := Lib.hid hw
        have HJL := Lib.hid hjl
        clear hR5 hJ5 hk5 f1 f2 f3 hlen hac hac2 hn hw e3
        go_wp2_with fail
        go_roundw
        case rel => exact ⟨j + 1, HJL.out, by rw [HW.out], HBX5.out, HR5.out⟩
        case measure => simp only [HW.out]; exact meas_lt HJL.out
      · go_wp2_with fail
        go_ret
        exact .inr ⟨rfl, q, hq⟩
    · obtain rfl : j = al.length := by omega
      have hjz : ¬ ((al.length : Int) < (al.length : Int)) := by omega
      rw [List.take_length] at hR
      have HR := Lib.hid hR
      have HBX2 := Lib.hid hbx
      have e0 : wr.cell? ⟨eb, 1, none⟩ = some (.string n) := by rw [block_cell hbx]; rfl
      clear hR hbx
      go_upto_region 9 with (fail)
      obtain ⟨fn, tmps, assign, body, hy, hyR⟩ := Y.yldB 2 ⟨#[62]⟩ (by decide) _ wr HR.out.j (el_room2 hlen)
      clear hlen f1 f2 f3 hac hac2
      refine (wpIn_wide (n := 3)).1 ?_
      gi_wp2
      refine hyR.mono ?_
      rintro e w3 (⟨rfl, hJ3, hk3⟩ | ⟨rfl, q, hq⟩)
      · have HBX3 := Lib.hid (hk3.cells _ _ _ _ HBX2.out Y.t2)
        have HR3 := Lib.hid (HR.out.next hJ3 hk3)
        clear hJ3 hk3
        gi_wp2
        have HT3 := HT.out.below HR3.out.k.below hG
        have e1 : w3.cell? ⟨eb, 1, none⟩ = some (.string n) := by rw [block_cell HBX3.out]; rfl
        have hic := is_calls n w3 HT3
        cases hv : voidB n with
        | true =>
          rw [hv] at hic
          have HI := Lib.hid hic
          have HV := Lib.hid hv
          clear hv HT3 hic
          go_wp2_with fail
          refine HI.out.mono ?_
          rintro e w4 ⟨rfl, hb4⟩
          have HR4 := Lib.hid (HR3.out.below Y hb4)
          clear hb4
          go_wp2_with fail
          go_ret
          rw [elP_void HV.out]
          exact HR4.out.end_
        | false =>
          rw [hv] at hic
          have HI := Lib.hid hic
          have HV := Lib.hid hv
          obtain ⟨m1, m2⟩ := elP_room hv HN.out
          have HM1 := Lib.hid m1
          have HM2 := Lib.hid m2
          clear hv HT3 hic m1 m2
          go_wp2_with fail
          refine HI.out.mono ?_
          rintro e w4 ⟨rfl, hb4⟩
          have HR4 := Lib.hid (HR3.out.below Y hb4)
          have HBX4 := Lib.hid ((hb4.block _ (lt_of_block HBX3.out)).trans HBX3.out)
          have d0 : w4.cell? ⟨eb, 0, none⟩ = some (.int .i64 k) := by rw [block_cell HBX4.out]; rfl
          have d1 : w4.cell? ⟨eb, 1, none⟩ = some (.string n) := by rw [block_cell HBX4.out]; rfl
          have d2 : w4.cell? ⟨eb, 2, none⟩ = some (.string s) := by rw [block_cell HBX4.out]; rfl
          have d3 : w4.cell? ⟨eb, 3, none⟩ = some (.slice A al.length ac) := by rw [block_cell HBX4.out]; rfl
          have d4 : w4.cell? ⟨eb, 4, none⟩ = some (.slice K ks.length kc) := by rw [block_cell HBX4.out]; rfl
          have HKC := Lib.hid (kids_calls Y hG k n s al ks HS.out n _ w4 _ _ _ _ _ HR4.out.j HR4.out.sizeB (HT.out.below HR4.out.k.below hG) (HTR.out.keep (fun p hp => HR4.out.k.below.cell hp) (Nat.le_refl _)) HF5.out HM1.out)
          clear hb4
          go_wp2_with fail
          refine HKC.out.mono ?_
          rintro e w5 (⟨rfl, hJ5, hk5⟩ | ⟨rfl, q, hq⟩)
          · have HR5 := Lib.hid (HR4.out.next hJ5 hk5)
            have g1 : w5.cell? ⟨eb, 1, none⟩ = some (.string n) := by rw [block_cell (hk5.cells _ _ _ _ HBX4.out Y.t2)]; rfl
            have HC3 := Lib.hid (all3 Y ⟨#[60, 47]⟩ n ⟨#[62]⟩ (by decide) hn (by decide) _ w5 _ rfl HR5.out.j HR5.out.sizeB HM2.out)
            clear hJ5 hk5
            go_wp2_with fail
            refine HC3.out.mono ?_
            rintro e w6 (⟨rfl, hJ6, hk6⟩ | ⟨rfl, q, hq⟩)
            · have HR6 := Lib.hid ((HR5.out.alloc Y _).next hJ6 hk6)
              clear hJ6 hk6
              go_wp2_with fail
              go_ret
              rw [elP_full HV.out]
              exact HR6.out.end_
            · go_wp2_with fail
              go_ret
              exact .inr ⟨rfl, q, hq⟩
          · go_wp2_with fail
            go_ret
            exact .inr ⟨rfl, q, hq⟩
      · gi_wp2
        go_wp2_with fail
        go_ret
        exact .inr ⟨rfl, q, hq⟩
end
end Go.Proofs.YtbjcahhijfommaaGreatDoor.Tr
