/- The law SerialAll: for every input the call returns true, and each argument reads behind the call as it read before. Its row lists unicode.White_Space and strings.asciiSpace, tied to the program's text by the given tie. No other condition. -/
import Derived.Test.YtbjcahhijfommaaGreatDoorSerT
import Derived.Test.YtbjcahhijfommaaGreatDoorPk
import Derived.Test.YtbjcahhijfommaaGreatDoorJnW
import Derived.Test.YtbjcahhijfommaaGreatDoorR16W
import Derived.Test.YtbjcahhijfommaaGreatDoorRjW
import Derived.WalkLawsBesides
import Derived.Lib.LaidTab
import Derived.Lib.LaidU8
import Derived.Test.YtbjcahhijfommaaGreatDoorStk
import Derived.Test.YtbjcahhijfommaaGreatDoorRows
import Derived.Test.YtbjcahhijfommaaGreatDoorTie
import Derived.Test.YtbjcahhijfommaaGreatDoorCards
import Derived.WalkKit
import Derived.ProofKit
import Derived.OpenShut
import Derived.ShutString
import Derived.ChangeOld
import Derived.Below
import Derived.Lib.LaidIn
import Derived.Lib.LaidU8T
import Derived.PinnedBridge
import Derived.Deep.DeepHandedRow
import Derived.Deep.DeepWitnessRowRef
import Derived.SizedLaws
import Derived.SevenTiedAt
namespace Go.Proofs.YtbjcahhijfommaaGreatDoor.Tr
open Go Go.RowKit Go.Shelf
attribute [local go_sem] Oper.semAt_some
set_option linter.unusedVariables false

def TI (t : TypeId) : Bool := t == 3
/-- A number with the sum of all that has come. -/
structure NumI (b : Nat) (w : World) (pre : List Pc) (W : World) : Prop where
  num : W.heap[b]? = some (.cells #[.int .i64 ((catP pre).length : Nat)] 3 (0, 0))
  bel : Below w.heap.size w W
theorem numI_own (b : Nat) (w : World) (D : Nat) (hD : w.heap.size ≤ D) : OwnFrom D (NumI b w) := by
  rintro s W W' row ⟨hb, h2⟩ hg hr
  refine ⟨(hg.block b (lt_of_block hb) ?_).trans hb, h2.grown hg h2.size fun k e => Nat.le_trans hD (hr k e).1⟩
  rintro rfl
  obtain ⟨_, o, ho, hc⟩ := hr b rfl
  rw [hb] at ho; injection ho with ho; subst ho; cases hc
theorem num_set {W : World} {b : Nat} {x : Value} (h : W.heap[b]? = some (.cells #[x] 3 (0, 0))) (y : Value) : (W.setCell ⟨b, 0, none⟩ y).heap[b]? = some (.cells #[y] 3 (0, 0)) := by
  simp only [World.setCell, Array.getElem?_modify, ↓reduceIte, h, Option.map_some]
  rfl
theorem num_kpT {W : World} {b n : Nat} {x : Value} (h : W.heap[b]? = some (.cells #[x] 3 (0, 0))) (hn : n ≤ b) (y : Value) : KpT TI n W (W.setCell ⟨b, 0, none⟩ y) := by
  refine ⟨(Below.refl _ _).setCell (p := ⟨b, 0, none⟩) hn _, fun k cs t f hk ht => ?_⟩
  refine setCell_old hk ?_ _
  rintro rfl
  rw [h] at hk; injection hk with hk; injection hk with _ hk _; subst hk; cases ht
theorem numI_next {b : Nat} {w W : World} {pre : List Pc} {x : Pc} (h : W.heap[b]? = some (.cells #[.int .i64 ((catP pre).length : Nat)] 3 (0, 0))) (h2 : Below w.heap.size w W) (hn : w.heap.size ≤ b) :
    NumI b w (pre ++ [x]) (W.setCell ⟨b, 0, none⟩ (.int .i64 ((catP pre).length + x.1.size))) := by
  refine ⟨?_, h2.setCell (p := ⟨b, 0, none⟩) hn _⟩
  rw [num_set h, catP_append, catP_cons, catP_nil, List.append_nil, List.length_append, ← Lib.size_eq]
  simp
set_option maxHeartbeats 4000000 in
set_option maxRecDepth 100000 in
theorem len_calls (t : Nd) (hf : fitT t) (hc : cntT t ≤ 1000000) (v0 v1 v2 v3 v4 : Value) (w : World) (hG : 0 < w.heap.size) (hT : SpTab w) (h : IsTree w w.heap.size t v0 v1 v2 v3 v4) :
    Calls Tryz.prog 13 #[.agg #[v0, v1, v2, v3, v4]] w fun e w' => e = .returned (.int .i64 ((sayT false t).length : Nat)) ∧ Below w.heap.size w w' := by
  obtain ⟨W0, hW0⟩ : ∃ W0, (((w.alloc (.cells #[v0, v1, v2, v3, v4] 25)).alloc (.cells #[.int .i64 0] 3)).alloc (.cells #[v0, v1, v2, v3, v4] 25)).alloc (.cells #[.string ⟨#[]⟩] 9) = W0 := ⟨_, rfl⟩
  have hsz : W0.heap.size = w.heap.size + 4 := by rw [← hW0]; simp
  have hbel : Below w.heap.size w W0 := by
    rw [← hW0]
    exact ((((Below.refl _ w).alloc (Nat.le_refl _) _).alloc (by simp) _).alloc (by simp; omega) _).alloc (by simp; omega) _
  have hbb : W0.heap[w.heap.size + 1]? = some (.cells #[.int .i64 0] 3 (0, 0)) := by
    have h1 := alloc_new (w.alloc (.cells #[v0, v1, v2, v3, v4] 25)) (.cells #[.int .i64 0] 3)
    rw [World.size_alloc] at h1
    rw [← hW0]
    exact alloc_old (alloc_old h1 _) _
  have htb : W0.heap[w.heap.size + 1 + 1]? = some (.cells #[v0, v1, v2, v3, v4] 25 (0, 0)) := by
    rw [← hW0]
    refine alloc_old ?_ _
    have := alloc_new ((w.alloc (.cells #[v0, v1, v2, v3, v4] 25)).alloc (.cells #[.int .i64 0] 3)) (.cells #[v0, v1, v2, v3, v4] 25)
    simpa using this
  have hnb : W0.heap[w.heap.size + 1 + 1 + 1]? = some (.cells #[.string ⟨#[]⟩] 9 (0, 0)) := by
    rw [← hW0]
    have := alloc_new (((w.alloc (.cells #[v0, v1, v2, v3, v4] 25)).alloc (.cells #[.int .i64 0] 3)).alloc (.cells #[v0, v1, v2, v3, v4] 25)) (.cells #[.string ⟨#[]⟩] 9)
    simpa using this
  have HSEQ := Lib.hid (fun n => pieces_stops TI rfl rfl rfl w.heap.size hG t ⟨#[]⟩ v0 v1 v2 v3 v4 W0 (w.heap.size + 1 + 1) (w.heap.size + 1 + 1 + 1) n (by omega) (hT.below hbel hG) (h.keep (fun p hp => hbel.cell hp) (Nat.le_refl _)) hf htb hnb)
  rw [rawB_nil] at HSEQ
  have HB0 : Hid (NumI (w.heap.size + 1) w [] W0) := Lib.hid ⟨hbb, hbel⟩
  have HCAT := Lib.hid (cat_say false t hf)
  have HROOM := Lib.hid (fun (pre : List Pc) (hl : pre.length < (sayP false t).length) (x : Pc) => say_room hf hc hl x)
  clear hbb htb hnb hbel hT hf hc
  cases t with
  | mk k' n' s' al' ks' =>
  unfold IsTree at h
  obtain ⟨rfl, rfl, rfl, _, _, _, A', ac', K', kc', rfl, rfl, _, _, _, _⟩ := h
  refine (callsIn_wide (n := 9)).1 ?_
  refine callsIn_of_wp_marks Tryz.func13 rfl trivial ?_ rfl
  simp only [Tryz.ntmps13, List.size_toArray, List.length_cons, List.length_nil, Nat.reduceAdd, Nat.reduceSub, Array.replicate_succ, Array.replicate_zero, List.push_toArray, List.append_toArray, List.nil_append, List.cons_append]
  gi_wp2_with (refine ⟨trivial, ?_⟩; gi_at_call 19; refine (callsIn_wide.2 (pieces_calls _ _ _ _ _ _ _ _ _ _ _)).mono ?_; rintro e w' ⟨rfl, rfl⟩)
  clear hW0
  have HW := Lib.hid hsz
  refine wpIn_rangeFunc_ownF (w0 := W0) rfl (by decide) (gf := 28) (lb := #[.pointer (some ⟨w.heap.size + 1 + 1, 0, none⟩), .pointer (some ⟨w.heap.size + 1 + 1 + 1, 0, none⟩)]) rfl trivial (enters_of Tryz.func28 (by kernel_rfl) rfl)
    (HSEQ.out _) (fun h k => h.trans k) (kpT_b (by omega)) (Below.refl _ _) (fun _ => rfl)
    (NumI (w.heap.size + 1) w) (fun _ _ _ => False) (numI_own _ _ _ (by omega)) (fun _ _ _ _ _ hs _ _ => hs) HB0.out
    (fun x => { tmps := #[.agg #[.int .i64 k', .string n', .string s', .slice A' al'.length ac', .slice K' ks'.length kc'], .pointer (some ⟨w.heap.size, 0, none⟩), .int .i64 0, .pointer (some ⟨w.heap.size + 1, 0, none⟩), .string x.1,
      .agg #[.int .i64 k', .string n', .string s', .slice A' al'.length ac', .slice K' ks'.length kc'], .func (.func 28) #[] #[.pointer (some ⟨w.heap.size + 1 + 1, 0, none⟩), .pointer (some ⟨w.heap.size + 1 + 1 + 1, 0, none⟩)], .string x.1, undef, undef, undef, undef, undef], defers := [] }) ?assign ?body ?done ?stop
  case assign =>
    intro l x W K hK
    gi_wp2
    exact hK
  case body =>
    rintro l pre x W ⟨hb, h2⟩ hl
    have HB := Lib.hid hb
    have H2 := Lib.hid h2
    have hlt := lt_of_block hb
    have hr := HROOM.out pre hl x
    have c0 : W.cell? ⟨w.heap.size + 1, 0, none⟩ = some (.int .i64 ((catP pre).length : Nat)) := by rw [block_cell hb]; rfl
    have f0 : W.frozen? ⟨w.heap.size + 1, 0, none⟩ = false := Lib.frozen_of_heap hb 0
    have hw : IntKind.i64.wrap (((catP pre).length : Int) + (x.1.size : Int)) = ((catP pre).length : Int) + (x.1.size : Int) := IntWalk.i64_in _ (by omega)
    clear hb h2 hl HSEQ HROOM HCAT
    gi_wp2
    exact ⟨KeepsOthers.setCell _ _ _, num_kpT HB.out (Nat.le_succ _) _, numI_next HB.out H2.out (Nat.le_succ _)⟩
  case done =>
    rintro D ys W hD rfl ⟨hb, h2⟩ hK
    have c0 : W.cell? ⟨w.heap.size + 1, 0, none⟩ = some (.int .i64 ((catP (sayP false (.mk k' n' s' al' ks'))).length : Nat)) := by rw [block_cell hb]; rfl
    rw [HCAT.out] at c0
    have H2 := Lib.hid h2
    have HKD := Lib.hid hK
    clear hb h2 hK HSEQ HROOM HCAT
    gi_wp2
    refine ⟨by simp, .inl ⟨_, _, rfl, run_takeDeferred HKD.out, ?_⟩⟩
    exact ⟨_, results_tmp rfl _ _ _, rfl, H2.out.trans (belowK_b (w := w) (Nat.le_refl _) W D _ _ (by have := HW.out; omega) HKD.out rfl rfl)⟩
  case stop =>
    rintro D c pre W _ _ h _
    exact h.elim
end Go.Proofs.YtbjcahhijfommaaGreatDoor.Tr
namespace Go.Proofs.YtbjcahhijfommaaGreatDoor.Tr
open Go Go.RowKit
set_option linter.unusedVariables false
def brT : Nd := .mk 2 ⟨#[98, 114]⟩ ⟨#[]⟩ [] []
def ltT : Nd := .mk 3 ⟨#[]⟩ ⟨#[60]⟩ [] []
theorem br_say : (⟨(sayT false brT).toArray⟩ : ByteArray) = ⟨#[60, 98, 114, 62]⟩ := by kernel_rfl
theorem lt_say : (⟨(sayT false ltT).toArray⟩ : ByteArray) = ⟨#[38, 108, 116, 59]⟩ := by kernel_rfl
theorem br_fit : fitT brT := by unfold brT fitT; simp [fitL]; decide
theorem lt_fit : fitT ltT := by unfold ltT fitT; simp [fitL]; decide
/-- serial.Text, wherever the table of blanks lies below. -/
theorem textB (t : Nd) (hf : fitT t) (hc : cntT t ≤ 1000000) (v0 v1 v2 v3 v4 : Value) (w W : World) (hT : SpTab w) (hb : Below w.heap.size w W) (h : IsTree W W.heap.size t v0 v1 v2 v3 v4) :
    Calls Tryz.prog 12 #[.agg #[v0, v1, v2, v3, v4]] W fun e w' => e = .returned (.string ⟨(sayT false t).toArray⟩) ∧ Below W.heap.size W w' :=
  text_calls t hf hc _ _ _ _ _ W (Nat.lt_of_lt_of_le hT.lt hb.size) (hT.below hb hT.lt) h
theorem awake16 (w : World) (hT : SpTab w) : Calls Tryz.prog 7 #[] w fun e w' => e = .returned (.bool true) ∧ Below w.heap.size w w' := by
  have H1 : Hid (∀ W, Below w.heap.size w W → Calls Tryz.prog 12 #[.agg #[.int .i64 2, .string ⟨#[98, 114]⟩, .string ⟨#[]⟩, .slice none 0 0, .slice none 0 0]] W fun e w' => e = .returned (.string ⟨#[60, 98, 114, 62]⟩) ∧ Below W.heap.size W w') := Lib.hid fun W hb => by
    have := textB brT br_fit (by decide) _ _ _ _ _ w W hT hb (isTree_leaf (by decide) (by decide) (by decide))
    rwa [br_say] at this
  have H2 : Hid (∀ W, Below w.heap.size w W → Calls Tryz.prog 12 #[.agg #[.int .i64 3, .string ⟨#[]⟩, .string ⟨#[60]⟩, .slice none 0 0, .slice none 0 0]] W fun e w' => e = .returned (.string ⟨#[38, 108, 116, 59]⟩) ∧ Below W.heap.size W w') := Lib.hid fun W hb => by
    have := textB ltT lt_fit (by decide) _ _ _ _ _ w W hT hb (isTree_leaf (by decide) (by decide) (by decide))
    rwa [lt_say] at this
  clear hT
  go_enter Tryz.func7, Tryz.ntmps7
  go_wp2_with fail
  refine (H1.out w (Below.refl _ _)).mono ?_
  rintro e w2 ⟨rfl, hb2⟩
  have HB2 := Lib.hid hb2
  clear hb2
  go_wp2_with fail
  refine (H2.out w2 HB2.out).mono ?_
  rintro e w3 ⟨rfl, hb3⟩
  have HB3 := Lib.hid (HB2.out.trans (hb3.mono HB2.out.size))
  clear hb3
  go_wp2_with fail
  go_ret
  exact ⟨rfl, HB3.out⟩
end Go.Proofs.YtbjcahhijfommaaGreatDoor.Tr
namespace Go.Proofs.YtbjcahhijfommaaGreatDoor.Tr
open Go Go.RowKit
def SpAny (u : Nd) (v : Value) (W : World) : Prop := ∃ x0 x1 x2 x3 x4, v = .agg #[x0, x1, x2, x3, x4] ∧ TreeIn W (fun c => c < W.heap.size) u x0 x1 x2 x3 x4
theorem spAny_later {u : Nd} {x0 x1 x2 x3 x4 : Value} {W W0 : World} (h : SpAny u (.agg #[x0, x1, x2, x3, x4]) W0) (hb : Below W0.heap.size W0 W) : IsTree W W.heap.size u x0 x1 x2 x3 x4 := by
  obtain ⟨y0, y1, y2, y3, y4, e, h1⟩ := h
  injection e with e
  injection e with e
  simp only [List.cons.injEq, and_true] at e
  obtain ⟨rfl, rfl, rfl, rfl, rfl⟩ := e
  exact (h1.is (fun c h => h)).keep (fun p hp => hb.cell hp) hb.size
end Go.Proofs.YtbjcahhijfommaaGreatDoor.Tr
namespace Go.Proofs.YtbjcahhijfommaaGreatDoor.Wk
open Go Go.RowKit Go.Proofs.YtbjcahhijfommaaGreatDoor.Tr
set_option linter.unusedVariables false
set_option maxHeartbeats 8000000 in
set_option maxRecDepth 100000 in
theorem serialAll (t : Nd) (v0 v1 v2 v3 v4 : Value) (w : World) (ht : IsTree w w.heap.size t v0 v1 v2 v3 v4) (hT : SpTab w) :
    Calls Tryz.prog 4 #[.agg #[v0, v1, v2, v3, v4]] w fun e w' => e = .returned (.bool true) ∧ Below w.heap.size w w' := by
  have FA : Hid (∀ W', Below w.heap.size w W' → IsTree W' W'.heap.size t v0 v1 v2 v3 v4) := Lib.hid fun W' hh => ht.keep (fun p hp => hh.cell hp) hh.size
  have HTB : Hid (∀ W', Below w.heap.size w W' → SpTab W') := Lib.hid fun W' hh => hT.below hh hT.lt
  clear hT
  cases t with
  | mk k n s al ks =>
  have HFIX := Lib.hid ht
  unfold IsTree at ht
  obtain ⟨rfl, rfl, rfl, _, _, _, A, ac, K, kc, rfl, rfl, _, _, _, _⟩ := ht
  generalize htt : Nd.mk k n s al ks = t at *
  have HB2 : Hid (Below w.heap.size w (w.alloc (.cells #[.int .i64 k, .string n, .string s, .slice A al.length ac, .slice K ks.length kc] 25))) := Lib.hid ((Below.refl _ w).alloc (Nat.le_refl _) _)
  have HL2 := Lib.hid (alloc_new w (.cells #[.int .i64 k, .string n, .string s, .slice A al.length ac, .slice K ks.length kc] 25))
  go_enter Tryz.func4, Tryz.ntmps4
  go_wp2_with fail
  generalize w.alloc (.cells #[.int .i64 k, .string n, .string s, .slice A al.length ac, .slice K ks.length kc] 25) = w2 at HB2 HL2 ⊢
  refine (small0_calls t _ _ _ _ _ w2 (FA.out _ HB2.out)).mono ?_
  rintro e w3 ⟨ok, rfl, hok, hb3⟩
  have HB3 : Hid (Below w.heap.size w w3) := Lib.hid (HB2.out.trans (hb3.mono HB2.out.size))
  have HL3 := Lib.hid ((hb3.block _ (lt_of_block HL2.out)).trans HL2.out)
  clear hb3
  cases ok with
  | false =>
    go_wp2_with fail
    refine (awake16 _ (HTB.out _ HB3.out)).mono ?_
    rintro e w4 ⟨rfl, hb4⟩
    have HB4 : Hid (Below w.heap.size w w4) := Lib.hid (HB3.out.trans (hb4.mono HB3.out.size))
    clear hb4
    go_wp2_with fail
    go_ret
    exact ⟨rfl, HB4.out⟩
  | true =>
  obtain ⟨hoa1, hoa2⟩ := hok rfl
  have HOA := Lib.hid hoa1
  clear hok hoa1
  obtain ⟨b0, b1, b2, b3, b4⟩ := box5 HL3.out
  have HTR := Lib.hid (tree_calls 1000000 (by omega) t _ _ _ _ _ w3 (by omega) (okT_att 0 _ HOA.out) (FA.out _ HB3.out))
  go_wp2_with fail
  refine HTR.out.mono ?_
  rintro e w5 ⟨x0, x1, x2, x3, x4, rfl, hti, hb5⟩
  have HB5 : Hid (Below w.heap.size w w5) := Lib.hid (HB3.out.trans (hb5.mono HB3.out.size))
  have HXI := Lib.hid (hti.is (B := w5.heap.size) fun c h => h.2)
  have HL5 := Lib.hid ((hb5.block _ (lt_of_block HL3.out)).trans HL3.out)
  clear hb5 HTR b0 b1 b2 b3 b4
  have HTX : ∃ kx nx sx Ax lx ax Kx lkx kcx, x0 = .int .i64 kx ∧ x1 = .string nx ∧ x2 = .string sx ∧ x3 = .slice Ax lx ax ∧ x4 = .slice Kx lkx kcx := by
    cases t
    unfold TreeIn at hti
    obtain ⟨rfl, rfl, rfl, _, _, _, A2, ac2, K2, kc2, rfl, rfl, _, _, _, _⟩ := hti
    exact ⟨_, _, _, _, _, _, _, _, _, rfl, rfl, rfl, rfl, rfl⟩
  obtain ⟨kx, nx, sx, Ax, lx, ax, Kx, lkx, kcx, rfl, rfl, rfl, rfl, rfl⟩ := HTX
  clear hti
  have HB7 : Hid (Below w5.heap.size w5 (w5.alloc (.cells #[.int .i64 kx, .string nx, .string sx, .slice Ax lx ax, .slice Kx lkx kcx] 25))) := Lib.hid ((Below.refl _ w5).alloc (Nat.le_refl _) _)
  have HL7 := Lib.hid (alloc_new w5 (.cells #[.int .i64 kx, .string nx, .string sx, .slice Ax lx ax, .slice Kx lkx kcx] 25))
  go_upto_region 4 with (fail)
  generalize w5.alloc (.cells #[.int .i64 kx, .string nx, .string sx, .slice Ax lx ax, .slice Kx lkx kcx] 25) = w7 at HB7 HL7 ⊢
  have HBW : Hid (Below w.heap.size w w7) := Lib.hid (HB5.out.trans (HB7.out.mono HB5.out.size))
  have HM7 := Lib.hid ((HB7.out.block _ (lt_of_block HL5.out)).trans HL5.out)
  obtain ⟨b0, b1, b2, b3, b4⟩ := box5 HM7.out
  have hfit := fit_of_ok 0 _ HOA.out
  have HRT := Lib.hid (rText_calls t _ _ _ _ _ w7 (by omega) hfit (FA.out _ HBW.out))
  obtain ⟨st, hst⟩ : ∃ st, srcB (sayT false t) = st := ⟨_, rfl⟩
  have hsz : ((sayT false t).length : Int) = (st.size : Int) := by rw [← hst, srcB_size]
  rw [hst] at HRT
  go_wp2_with fail
  refine HRT.out.mono ?_
  rintro e w8 ⟨rfl, hb8⟩
  have HB8 : Hid (Below w.heap.size w w8) := Lib.hid (HBW.out.trans (hb8.mono HBW.out.size))
  have HB78 : Hid (Below w5.heap.size w5 w8) := Lib.hid (HB7.out.trans (hb8.mono HB7.out.size))
  have HM8 := Lib.hid ((hb8.block _ (lt_of_block HM7.out)).trans HM7.out)
  have HL8 := Lib.hid ((hb8.block _ (lt_of_block HL7.out)).trans HL7.out)
  clear hb8 b0 b1 b2 b3 b4 HRT
  have FX : Hid (∀ W, Below w8.heap.size w8 W → IsTree W W.heap.size t (.int .i64 kx) (.string nx) (.string sx) (.slice Ax lx ax) (.slice Kx lkx kcx)) := Lib.hid fun W hh => HXI.out.keep (fun p hp => (HB78.out.trans (hh.mono HB78.out.size)).cell hp) (HB78.out.trans (hh.mono HB78.out.size)).size
  have FT : Hid (∀ W, Below w8.heap.size w8 W → IsTree W W.heap.size t (.int .i64 k) (.string n) (.string s) (.slice A al.length ac) (.slice K ks.length kc)) := Lib.hid fun W hh => FA.out W (HB8.out.trans (hh.mono HB8.out.size))
  have HTB8 := Lib.hid (HTB.out _ HB8.out)
  have HTX : Hid (∀ W, Below w8.heap.size w8 W → Calls Tryz.prog 12 #[.agg #[.int .i64 kx, .string nx, .string sx, .slice Ax lx ax, .slice Kx lkx kcx]] W fun e w' => e = .returned (.string st) ∧ Below W.heap.size W w') := Lib.hid fun W hb => by
    have := textB t hfit (by omega) _ _ _ _ _ w8 W HTB8.out hb (FX.out W hb)
    rwa [show (⟨(sayT false t).toArray⟩ : ByteArray) = st from hst] at this
  have HLN : Hid (∀ W, Below w8.heap.size w8 W → Calls Tryz.prog 13 #[.agg #[.int .i64 kx, .string nx, .string sx, .slice Ax lx ax, .slice Kx lkx kcx]] W fun e w' => e = .returned (.int .i64 (st.size : Int)) ∧ Below W.heap.size W w') := Lib.hid fun W hb => by
    have := len_calls t hfit (by omega) _ _ _ _ _ W (Nat.lt_of_lt_of_le HTB8.out.lt hb.size) (HTB8.out.below hb HTB8.out.lt) (FX.out W hb)
    rwa [hsz] at this
  have HJX : Hid (∀ W, Below w8.heap.size w8 W → Calls Tryz.prog 8 #[.agg #[.int .i64 kx, .string nx, .string sx, .slice Ax lx ax, .slice Kx lkx kcx]] W (JoinEnd W.heap.size t W)) := Lib.hid fun W hb => join_calls 1000000 (by omega) t _ _ _ _ _ _ W (by omega) (FX.out W hb) (Nat.le_refl _)
  have HJT : Hid (∀ W, Below w8.heap.size w8 W → Calls Tryz.prog 14 #[.agg #[.int .i64 k, .string n, .string s, .slice A al.length ac, .slice K ks.length kc]] W (RJEnd t W)) := Lib.hid fun W hb => rjoin_calls 1000000 (by omega) t _ _ _ _ _ W (by omega) hfit (FT.out W hb)
  have HSA : Hid (∀ W y0 y1 y2 y3 y4 z0 z1 z2 z3 z4, IsTree W W.heap.size (joinT t) y0 y1 y2 y3 y4 → IsTree W W.heap.size (joinT t) z0 z1 z2 z3 z4 → Calls Tryz.prog 10 #[.agg #[y0, y1, y2, y3, y4], .agg #[z0, z1, z2, z3, z4]] W fun e w' => e = .returned (.bool true) ∧ Below W.heap.size W w') := Lib.hid fun W y0 y1 y2 y3 y4 z0 z1 z2 z3 z4 hy hz => (same_calls _ _ _ _ _ _ _ _ _ _ _ _ W hy hz).mono fun e w' ⟨s, h1, h2, h3⟩ => ⟨by rw [h1, h3.2 rfl], h2⟩
  have HSX : Hid (∀ W, Below w8.heap.size w8 W → Calls Tryz.prog 10 #[.agg #[.int .i64 kx, .string nx, .string sx, .slice Ax lx ax, .slice Kx lkx kcx], .agg #[.int .i64 k, .string n, .string s, .slice A al.length ac, .slice K ks.length kc]] W fun e w' => e = .returned (.bool true) ∧ Below W.heap.size W w') := Lib.hid fun W hb => (same_calls t t _ _ _ _ _ _ _ _ _ _ W (FX.out W hb) (FT.out W hb)).mono fun e w' ⟨s, h1, h2, h3⟩ => ⟨by rw [h1, h3.2 rfl], h2⟩
  have HAW : Hid (∀ W, Below w8.heap.size w8 W → Calls Tryz.prog 7 #[] W fun e w' => e = .returned (.bool true) ∧ Below W.heap.size W w') := Lib.hid fun W hb => awake16 W (HTB8.out.below hb HTB8.out.lt)
  obtain ⟨b0, b1, b2, b3, b4⟩ := box5 HM8.out
  obtain ⟨d0, d1, d2, d3, d4⟩ := box5 HL8.out
  replace b0 := cell_regrown b0
  replace b1 := cell_regrown b1
  replace b2 := cell_regrown b2
  replace b3 := cell_regrown b3
  replace b4 := cell_regrown b4
  replace d0 := cell_regrown d0
  replace d1 := cell_regrown d1
  replace d2 := cell_regrown d2
  replace d3 := cell_regrown d3
  replace d4 := cell_regrown d4
  have hqq : (st.toList == st.toList) = true := beq_self_eq_true _
  obtain ⟨jt, hjt⟩ : ∃ jt, joinT t = jt := ⟨_, rfl⟩
  have HJE := Lib.hid hjt
  rw [hjt] at HSA
  clear hjt
  clear hst hsz hfit
  go_upto_region 5 with (fail)
  refine Kr.wp_region_R [(1, fun v _ => v = .string st), (6, fun v _ => v = .int .i64 (st.size : Int)), (13, SpAny jt), (15, SpAny jt), (16, fun v _ => v = .bool true), (21, fun v _ => v = .bool true), (24, fun v _ => v = .bool true)] mixed2 (by kernel_rfl) ?_
  repeat (refine Kr.wpR_one rfl rfl ?_; go_big_quiet_step (fail); refine wpQuiet_nil ?_)
  refine Kr.wpR_call _ rfl rfl rfl ?_ ?_
  · intro W hW hk
    have HLL := Lib.hid (Kr.later_iff.1 hW)
    go_simp
    refine Kr.upMany_enter ((HTX.out W HLL.out).mono ?_)
    rintro e w' ⟨rfl, hbb⟩
    exact ⟨_, rfl, rfl, hbb⟩
  rintro v ⟨_, _, _, _, hS, _⟩
  obtain rfl := hS
  go_frame
  repeat (refine Kr.wpR_one rfl rfl ?_; go_big_quiet_step (fail); refine wpQuiet_nil ?_)
  refine Kr.wpR_call _ rfl rfl rfl ?_ ?_
  · intro W hW hk
    have HLL := Lib.hid (Kr.later_iff.1 hW)
    go_simp
    refine Kr.upMany_enter ((HLN.out W HLL.out).mono ?_)
    rintro e w' ⟨rfl, hbb⟩
    exact ⟨_, rfl, rfl, hbb⟩
  rintro v ⟨_, _, _, _, hS, _⟩
  obtain rfl := hS
  go_frame
  repeat (refine Kr.wpR_one rfl rfl ?_; go_big_quiet_step (fail); refine wpQuiet_nil ?_)
  refine Kr.wpR_call _ rfl rfl rfl ?_ ?_
  · intro W hW hk
    have HLL := Lib.hid (Kr.later_iff.1 hW)
    go_simp
    refine Kr.upMany_enter ((HJX.out W HLL.out).mono ?_)
    rintro e w' ⟨z0, z1, z2, z3, z4, rfl, hin, hbb⟩
    rw [HJE.out] at hin
    exact ⟨_, rfl, ⟨z0, z1, z2, z3, z4, rfl, hin.keep fun c h => ⟨h.2, fun _ => rfl⟩⟩, hbb⟩
  rintro v ⟨_, _, _, _, hS, _⟩
  obtain ⟨y0, y1, y2, y3, y4, rfl, _⟩ := hS
  go_frame
  repeat (refine Kr.wpR_one rfl rfl ?_; go_big_quiet_step (fail); refine wpQuiet_nil ?_)
  refine Kr.wpR_call _ rfl rfl rfl ?_ ?_
  · intro W hW hk
    have HLL := Lib.hid (Kr.later_iff.1 hW)
    go_simp
    refine Kr.upMany_enter ((HJT.out W HLL.out).mono ?_)
    rintro e w' ⟨z0, z1, z2, z3, z4, rfl, hin, hbb⟩
    rw [HJE.out] at hin
    exact ⟨_, rfl, ⟨z0, z1, z2, z3, z4, rfl, hin.keep fun c h => ⟨h.2, fun _ => rfl⟩⟩, hbb⟩
  rintro v ⟨_, _, _, _, hS, _⟩
  obtain ⟨z0, z1, z2, z3, z4, rfl, _⟩ := hS
  go_frame
  repeat (refine Kr.wpR_one rfl rfl ?_; go_big_quiet_step (fail); refine wpQuiet_nil ?_)
  refine Kr.wpR_call _ rfl rfl rfl ?_ ?_
  · intro W hW hk
    have HT1 : Hid (IsTree W W.heap.size jt y0 y1 y2 y3 y4) := Lib.hid (by
      obtain ⟨W0, h1, hb⟩ := hk 26 _ (.inr (.inl ⟨rfl, rfl⟩)) (by decide)
      exact spAny_later h1 hb)
    have HT2 : Hid (IsTree W W.heap.size jt z0 z1 z2 z3 z4) := Lib.hid (by
      obtain ⟨W0, h1, hb⟩ := hk 28 _ (.inl ⟨rfl, rfl⟩) (by decide)
      exact spAny_later h1 hb)
    clear hk
    go_simp
    refine Kr.upMany_enter ((HSA.out W y0 y1 y2 y3 y4 z0 z1 z2 z3 z4 HT1.out HT2.out).mono ?_)
    rintro e w' ⟨rfl, hbb⟩
    exact ⟨_, rfl, rfl, hbb⟩
  rintro v ⟨_, _, _, _, hS, _⟩
  obtain rfl := hS
  go_frame
  repeat (refine Kr.wpR_one rfl rfl ?_; go_big_quiet_step (fail); refine wpQuiet_nil ?_)
  refine Kr.wpR_call _ rfl rfl rfl ?_ ?_
  · intro W hW hk
    have HLL := Lib.hid (Kr.later_iff.1 hW)
    go_simp
    refine Kr.upMany_enter ((HSX.out W HLL.out).mono ?_)
    rintro e w' ⟨rfl, hbb⟩
    exact ⟨_, rfl, rfl, hbb⟩
  rintro v ⟨_, _, _, _, hS, _⟩
  obtain rfl := hS
  go_frame
  repeat (refine Kr.wpR_one rfl rfl ?_; go_big_quiet_step (fail); refine wpQuiet_nil ?_)
  refine Kr.wpR_call _ rfl rfl rfl ?_ ?_
  · intro W hW hk
    have HLL := Lib.hid (Kr.later_iff.1 hW)
    go_simp
    refine Kr.upMany_enter ((HAW.out W HLL.out).mono ?_)
    rintro e w' ⟨rfl, hbb⟩
    exact ⟨_, rfl, rfl, hbb⟩
  rintro v ⟨_, _, _, _, hS, _⟩
  obtain rfl := hS
  go_frame
  repeat (refine Kr.wpR_one rfl rfl ?_; go_big_quiet_step (fail); refine wpQuiet_nil ?_)
  refine Kr.wpR_nil ?_
  intro w' hb _
  have HBZ : Hid (Below w.heap.size w w') := Lib.hid (HB8.out.trans (hb.mono HB8.out.size))
  clear hb
  go_wp2_with fail
  go_ret
  exact ⟨rfl, HBZ.out⟩
end Go.Proofs.YtbjcahhijfommaaGreatDoor.Wk
namespace Go.Proofs.YtbjcahhijfommaaGreatDoor.Tr
open Go Go.RowKit
set_option maxRecDepth 100000
theorem spTab_of {W : World} (h : Lib.VarReads Tryz.prog W "strings.asciiSpace" (Lib.tabData .u8 Lib.asciiSpaceTab)) : SpTab W := by
  obtain ⟨g, t, cs, fuel, p, h1, h2, h3, h4⟩ := h
  have hg : Tryz.prog.globalNamed "strings.asciiSpace" = some 0 := by kernel_rfl
  obtain rfl := Option.some.inj (hg.symm.trans h1)
  have ht : (Tryz.prog.globals[0]?).map (·.type) = some 99 := by kernel_rfl
  obtain rfl := Option.some.inj (ht.symm.trans h2)
  have ti : Lib.TabIs Tryz.prog W "strings.asciiSpace" .u8 Lib.asciiSpaceTab := by
    unfold Lib.TabIs
    rw [h3, ← Lib.cells_of_tab Tryz.underlying99 Tryz.underlying5 (by kernel_rfl) (by kernel_rfl) h4]
  intro c hc
  have := ti.cell hg c (by rw [Lib.asciiSpaceTab_length]; exact hc)
  rwa [Lib.asciiSpaceTab_at c hc] at this
end Go.Proofs.YtbjcahhijfommaaGreatDoor.Tr
namespace Go.Proofs.YtbjcahhijfommaaGreatDoor.serialAll
open Go Go.Shelf Go.ChangeShapes Go.WideShapes Go.ChangeAt Go.RowKit Go.Lib
open Go.ChangeMaps (open_string shut_string)
set_option linter.unusedVariables false

theorem own : ownKnob Tryz.prog.godebug = none := by kernel_rfl
theorem laidOut : laidOutB Tryz.prog = true := by kernel_rfl
/-- The witness: the settled world, the two variables holding what their initialisers lay. -/
noncomputable def laidWorld (os : Os) : World :=
  let N := (World.settled Tryz.prog os).heap.size
  let w0 := World.holding Tryz.prog os ⟨#[.cells (Lib.whiteT.map fun (z : Nat) => Value.int .u16 (z : Int)).toArray 144, .cells #[.slice (some ⟨N, 0, none⟩) 7 7, .slice none 0 0, .int .i64 2] 141], #[], []⟩
  let put (h : Array Obj) (g : Nat) (cs : Array Value) : Array Obj := h.modify g fun
    | .cells _ t frozen => .cells cs t frozen
    | o => o
  let h1 := put w0.heap 0 (Lib.asciiSpaceTab.map fun z => Value.int .u8 z).toArray
  let h2 := put h1 1 #[.pointer (some ⟨N + 1, 0, none⟩)]
  { w0 with heap := h2 }
theorem laid_met (os : Os) (args : Array Value) : laidMet Tryz.prog Rows.serialAllRow.laid ((laidWorld os).forCall (fun _ _ => 0) ⟨#[], args, []⟩).memory :=
  (LaidIn.of_run (l := [("unicode.White_Space", Rows.laid_unicode_White_Space), ("strings.asciiSpace", Rows.laid_strings_asciiSpace)]) [1, 0, (World.settled Tryz.prog default).heap.size, (World.settled Tryz.prog default).heap.size + 1] 10 (by kernel_rfl) (by kernel_rfl) (by kernel_rfl) (by kernel_rfl)).met

theorem witness_row (os : Os) {H : Type} (enc : TypeId × Value → H) :
    (OpenSpec.ofChange Rows.serialAllSpec).preRow enc Tryz.prog Tryz.f4 Rows.serialAllRow.domain false Rows.serialAllRow.laid ((laidWorld os).forCall (fun _ _ => 0) ⟨#[], #[.agg #[.int .i64 0, .string ⟨#[]⟩, .string ⟨#[]⟩, .slice none 0 0, .slice none 0 0]], []⟩).memory #[.agg #[.int .i64 0, .string ⟨#[]⟩, .string ⟨#[]⟩, .slice none 0 0, .slice none 0 0]] := by
  have hw : (DataW.whole enc Tryz.prog ((laidWorld os).forCall (fun _ _ => 0) ⟨#[], #[.agg #[.int .i64 0, .string ⟨#[]⟩, .string ⟨#[]⟩, .slice none 0 0, .slice none 0 0]], []⟩).memory Tryz.f4.params.toList (OpenSpec.ofChange Rows.serialAllSpec).vars false (#[.agg #[.int .i64 0, .string ⟨#[]⟩, .string ⟨#[]⟩, .slice none 0 0, .slice none 0 0]] : Array Value).toList 8).map (fun x => (x.1, x.2.1)) =
      some ([.agg [.lit (.int .i64 0), .lit (.string []), .lit (.string []), .nil, .nil]], []) := by kernel_rfl
  obtain ⟨⟨x1, x2, x3⟩, hx, hx1⟩ := Option.map_eq_some_iff.1 hw
  simp only [Prod.mk.injEq] at hx1
  obtain ⟨rfl, rfl⟩ := hx1
  exact OpenSpec.preRow_of_cond 8 hx (by kernel_rfl) (fun k hk => by cases hk) (by kernel_rfl) (laid_met os _)

set_option maxRecDepth 100000 in
set_option maxHeartbeats 2000000 in
theorem lifted (os : Os) (started : os.Started) (H : Type) (enc : TypeId × Value → H) (F : Stop.Interp) :
    ReturnsInHanded {} Tryz.checked os 4 .any ((OpenSpec.ofChange Rows.serialAllSpec).preRow enc Tryz.prog Tryz.f4 Rows.serialAllRow.domain false Rows.serialAllRow.laid) (((OpenSpec.ofChange Rows.serialAllSpec).at F).post enc Tryz.prog Tryz.f4 false true false false) := by
  refine returnsInHanded_of_row (C := Tryz.checked) (s := OpenSpec.ofChange Rows.serialAllSpec) own started (by kernel_rfl) Tryz.func4
    (witness_row_atRef (enc := enc) (C := Tryz.checked) false (laidWorld os) #[.agg #[.int .i64 0, .string ⟨#[]⟩, .string ⟨#[]⟩, .slice none 0 0, .slice none 0 0]] rfl (by kernel_rfl) (by kernel_rfl) (by kernel_rfl) (witness_row os enc)) ?_
  intro W base args ds gs before hval0 hW _ _ _ hL _ _
  have hval : ∀ (j : Nat) t v, Tryz.f4.params[j]? = some t → args[j]? = some v → Value.okWide Tryz.prog W .any base t v := hval0
  have hW' := hW
  obtain ⟨p, q, hA0, hV, rfl, _, _⟩ := hW
  have hA : DataW.TrodAll enc Tryz.prog W 0 (fun _ => true) true Tryz.f4.params.toList args.toList ds p := hA0
  rw [Tryz.params4] at hA hval
  obtain ⟨v0, vs0, d0, ds0, p0, q0, hargs, rfl, rfl, h0, r0⟩ := trodAll_cons hA
  obtain ⟨rfl, rfl, rfl⟩ := trodAll_nil r0
  obtain rfl : args = #[v0] := by cases args; simp_all
  obtain ⟨rfl, rfl⟩ := trodVars_none hV
  obtain ⟨cs0, rfl, hsz0⟩ := okWide_struct Tryz.underlying25 (hval 0 25 v0 rfl rfl)
  have k0 := h0
  have lt0 : ∀ x ∈ p0, x.block < W.heap.size := by obtain ⟨m, hm⟩ := k0; exact DataW.trod_lt m _ _ _ hm
  obtain ⟨t0, x00, x01, x02, x03, x04, e0, w0⟩ : ∃ (t : Tr.Nd) (x0 x1 x2 x3 x4 : Value), cs0 = #[x0, x1, x2, x3, x4] ∧ Tr.IsTree W W.heap.size t x0 x1 x2 x3 x4 := by
    obtain ⟨fuel, hf⟩ := h0
    obtain ⟨t, x0, x1, x2, x3, x4, hcs, ht⟩ := Tr.open_tree hf
    exact ⟨t, x0, x1, x2, x3, x4, by cases cs0; simp_all [Value.cells], ht⟩
  subst e0
  clear hA0 hval0
  have hasc := Lib.laidMet.reads hL (.tail _ (.head _))
  have htab : Tr.SpTab W := Tr.spTab_of hasc
  refine (Wk.serialAll t0 x00 x01 x02 x03 x04 W w0 htab).mono fun e W' ⟨he, bel⟩ => ?_
  subst he
  exact ⟨_, rfl, _, _, _, [], _, [], hW', trodAll_mk1 (shut_bool Tryz.underlying4 _), (trodAll_cons_mk (Below.trod laidOut (by kernel_rfl) (of_decide_eq_true (by kernel_rfl)) k0 bel lt0) trodAll_mk0), rfl, bel.frame _, fun h => by cases h⟩

theorem over : Rows.serialAllRow.holds Tryz.pinned (OpenSpec.ofChange Rows.serialAllSpec) :=
  OpenClaim.holds_of_cond 4 Tryz.f4 rfl rfl rfl rfl rfl rfl rfl ⟨rfl, rfl, rfl, rfl, rfl⟩ rfl rfl rfl rfl rfl (by kernel_rfl) Tryz.func4 (by kernel_rfl)
    (of_decide_eq_true (by kernel_rfl)) (by unfold Func.isWrapper; first | (rw [if_pos (by decide +kernel)]; kernel_rfl) | (rw [if_neg (by decide +kernel)]; exact ⟨rfl, rfl⟩))
    (fun os started H enc _ F0 => by rw [OpenClaim.pre_eq_preRow]; exact lifted os started H enc F0)

/-- The statement: the tied card. -/
theorem proved : Rows.SerialAllCardSaid :=
  Claim7.holds_tied_plain_at .later [] [.listed, .data] true (true, "e4c19e7adf5d0c9e91c6c28786a381bdc29ba6f2498fa3fdb726c0e695d0dc19") true
    over (fun _ h => by cases h) (by kernel_rfl) (fun _ h => by cases h) serialAll_row_tie rfl ⟨rfl, rfl⟩ (by kernel_rfl) rfl
    (fun f fn hf hfn => by
      obtain rfl : f = 4 := Option.some.inj ((show Tryz.prog.funcNamed "topiary/topiarylaw16.SerialAll" = some 4 by kernel_rfl).symm.trans hf) |>.symm
      obtain rfl : fn = Tryz.f4 := (Option.some.inj (Tryz.func4.symm.trans hfn)).symm
      refine ⟨by kernel_rfl, fun j t ht => ?_⟩
      rw [Tryz.params4] at ht
      rcases j with _ | j
      · obtain rfl : t = 25 := by simpa using ht.symm
        exact (show Tryz.prog.wantsStandIn 25 = false by kernel_rfl)
      · simp at ht)
    (by kernel_rfl)
#print axioms proved
end Go.Proofs.YtbjcahhijfommaaGreatDoor.serialAll
