/- The law SerialParts: for every input the call returns true, and each argument reads behind the call as it read before. Its row lists unicode.White_Space and strings.asciiSpace, tied to the program's text by the given tie. No other condition. -/
import Derived.Test.YtbjcahhijfommaaDoorSerT
import Derived.Test.YtbjcahhijfommaaDoorProg
import Derived.WalkKit
import Derived.Test.YtbjcahhijfommaaDoorNextS
import Derived.Test.YtbjcahhijfommaaDoorPk
import Derived.Test.YtbjcahhijfommaaDoorRescS
import Derived.Test.YtbjcahhijfommaaDoorGrownRS
import Derived.WalkLawsBesides
import Derived.WalkSpells
import Derived.Lib.LaidTab
import Derived.Lib.LaidU8
import Derived.Test.YtbjcahhijfommaaDoorStk
import Derived.Test.YtbjcahhijfommaaDoorRows
import Derived.Test.YtbjcahhijfommaaDoorTie
import Derived.Test.YtbjcahhijfommaaDoorCards
import Derived.ProofKit
import Derived.OpenShut
import Derived.ShutString
import Derived.ChangeOld
import Derived.Below
import Derived.Lib.LaidIn
import Derived.Lib.LaidU8T
import Derived.PinnedBridge
import Derived.Deep.DeepHandedRow
import Derived.Deep.DeepWitnessRowRef
import Derived.SizedLaws
import Derived.SevenTiedAt
namespace Go.Proofs.YtbjcahhijfommaaDoor.Tr
open Go Go.RowKit Go.Shelf
attribute [local go_sem] Oper.semAt_some
set_option linter.unusedVariables false

def TI (t : TypeId) : Bool := t == 3
/-- A number with the sum of all that has come. -/
structure NumI (b : Nat) (w : World) (pre : List Pc) (W : World) : Prop where
  num : W.heap[b]? = some (.cells #[.int .i64 ((catP pre).length : Nat)] 3 (0, 0))
  bel : Below w.heap.size w W
theorem numI_own (b : Nat) (w : World) (D : Nat) (hD : w.heap.size ≤ D) : OwnFrom D (NumI b w) := by
  rintro s W W' row ⟨hb, h2⟩ hg hr
  refine ⟨(hg.block b (lt_of_block hb) ?_).trans hb, h2.grown hg h2.size fun k e => Nat.le_trans hD (hr k e).1⟩
  rintro rfl
  obtain ⟨_, o, ho, hc⟩ := hr b rfl
  rw [hb] at ho; injection ho with ho; subst ho; cases hc
theorem num_set {W : World} {b : Nat} {x : Value} (h : W.heap[b]? = some (.cells #[x] 3 (0, 0))) (y : Value) : (W.setCell ⟨b, 0, none⟩ y).heap[b]? = some (.cells #[y] 3 (0, 0)) := by
  simp only [World.setCell, Array.getElem?_modify, ↓reduceIte, h, Option.map_some]
  rfl
theorem num_kpT {W : World} {b n : Nat} {x : Value} (h : W.heap[b]? = some (.cells #[x] 3 (0, 0))) (hn : n ≤ b) (y : Value) : KpT TI n W (W.setCell ⟨b, 0, none⟩ y) := by
  refine ⟨(Below.refl _ _).setCell (p := ⟨b, 0, none⟩) hn _, fun k cs t f hk ht => ?_⟩
  refine setCell_old hk ?_ _
  rintro rfl
  rw [h] at hk; injection hk with hk; injection hk with _ hk _; subst hk; cases ht
theorem numI_next {b : Nat} {w W : World} {pre : List Pc} {x : Pc} (h : W.heap[b]? = some (.cells #[.int .i64 ((catP pre).length : Nat)] 3 (0, 0))) (h2 : Below w.heap.size w W) (hn : w.heap.size ≤ b) :
    NumI b w (pre ++ [x]) (W.setCell ⟨b, 0, none⟩ (.int .i64 ((catP pre).length + x.1.size))) := by
  refine ⟨?_, h2.setCell (p := ⟨b, 0, none⟩) hn _⟩
  rw [num_set h, catP_append, catP_cons, catP_nil, List.append_nil, List.length_append, ← Lib.size_eq]
  simp
set_option maxHeartbeats 4000000 in
set_option maxRecDepth 100000 in
theorem len_calls (t : Nd) (hf : fitT t) (hc : cntT t ≤ 1000000) (v0 v1 v2 v3 v4 : Value) (w : World) (hG : 0 < w.heap.size) (hT : SpTab w) (h : IsTree w w.heap.size t v0 v1 v2 v3 v4) :
    Calls Tryd.prog 15 #[.agg #[v0, v1, v2, v3, v4]] w fun e w' => e = .returned (.int .i64 ((sayT false t).length : Nat)) ∧ Below w.heap.size w w' := by
  obtain ⟨W0, hW0⟩ : ∃ W0, (((w.alloc (.cells #[v0, v1, v2, v3, v4] 25)).alloc (.cells #[.int .i64 0] 3)).alloc (.cells #[v0, v1, v2, v3, v4] 25)).alloc (.cells #[.string ⟨#[]⟩] 9) = W0 := ⟨_, rfl⟩
  have hsz : W0.heap.size = w.heap.size + 4 := by rw [← hW0]; simp
  have hbel : Below w.heap.size w W0 := by
    rw [← hW0]
    exact ((((Below.refl _ w).alloc (Nat.le_refl _) _).alloc (by simp) _).alloc (by simp; omega) _).alloc (by simp; omega) _
  have hbb : W0.heap[w.heap.size + 1]? = some (.cells #[.int .i64 0] 3 (0, 0)) := by
    have h1 := alloc_new (w.alloc (.cells #[v0, v1, v2, v3, v4] 25)) (.cells #[.int .i64 0] 3)
    rw [World.size_alloc] at h1
    rw [← hW0]
    exact alloc_old (alloc_old h1 _) _
  have htb : W0.heap[w.heap.size + 1 + 1]? = some (.cells #[v0, v1, v2, v3, v4] 25 (0, 0)) := by
    rw [← hW0]
    refine alloc_old ?_ _
    have := alloc_new ((w.alloc (.cells #[v0, v1, v2, v3, v4] 25)).alloc (.cells #[.int .i64 0] 3)) (.cells #[v0, v1, v2, v3, v4] 25)
    simpa using this
  have hnb : W0.heap[w.heap.size + 1 + 1 + 1]? = some (.cells #[.string ⟨#[]⟩] 9 (0, 0)) := by
    rw [← hW0]
    have := alloc_new (((w.alloc (.cells #[v0, v1, v2, v3, v4] 25)).alloc (.cells #[.int .i64 0] 3)).alloc (.cells #[v0, v1, v2, v3, v4] 25)) (.cells #[.string ⟨#[]⟩] 9)
    simpa using this
  have HSEQ := Lib.hid (fun n => pieces_stops TI rfl rfl rfl w.heap.size hG t ⟨#[]⟩ v0 v1 v2 v3 v4 W0 (w.heap.size + 1 + 1) (w.heap.size + 1 + 1 + 1) n (by omega) (hT.below hbel hG) (h.keep (fun p hp => hbel.cell hp) (Nat.le_refl _)) hf htb hnb)
  rw [rawB_nil] at HSEQ
  have HB0 : Hid (NumI (w.heap.size + 1) w [] W0) := Lib.hid ⟨hbb, hbel⟩
  have HCAT := Lib.hid (cat_say false t hf)
  have HROOM := Lib.hid (fun (pre : List Pc) (hl : pre.length < (sayP false t).length) (x : Pc) => say_room hf hc hl x)
  clear hbb htb hnb hbel hT hf hc
  cases t with
  | mk k' n' s' al' ks' =>
  unfold IsTree at h
  obtain ⟨rfl, rfl, rfl, _, _, _, A', ac', K', kc', rfl, rfl, _, _, _, _⟩ := h
  refine (callsIn_wide (n := 9)).1 ?_
  refine callsIn_of_wp_marks Tryd.func15 rfl trivial ?_ rfl
  simp only [Tryd.ntmps15, List.size_toArray, List.length_cons, List.length_nil, Nat.reduceAdd, Nat.reduceSub, Array.replicate_succ, Array.replicate_zero, List.push_toArray, List.append_toArray, List.nil_append, List.cons_append]
  gi_wp2_with (refine ⟨trivial, ?_⟩; gi_at_call 19; refine (callsIn_wide.2 (pieces_calls _ _ _ _ _ _ _ _ _ _ _)).mono ?_; rintro e w' ⟨rfl, rfl⟩)
  clear hW0
  have HW := Lib.hid hsz
  refine wpIn_rangeFunc_ownF (w0 := W0) rfl (by decide) (gf := 27) (lb := #[.pointer (some ⟨w.heap.size + 1 + 1, 0, none⟩), .pointer (some ⟨w.heap.size + 1 + 1 + 1, 0, none⟩)]) rfl trivial (enters_of Tryd.func27 (by kernel_rfl) rfl)
    (HSEQ.out _) (fun h k => h.trans k) (kpT_b (by omega)) (Below.refl _ _) (fun _ => rfl)
    (NumI (w.heap.size + 1) w) (fun _ _ _ => False) (numI_own _ _ _ (by omega)) (fun _ _ _ _ _ hs _ _ => hs) HB0.out
    (fun x => { tmps := #[.agg #[.int .i64 k', .string n', .string s', .slice A' al'.length ac', .slice K' ks'.length kc'], .pointer (some ⟨w.heap.size, 0, none⟩), .int .i64 0, .pointer (some ⟨w.heap.size + 1, 0, none⟩), .string x.1,
      .agg #[.int .i64 k', .string n', .string s', .slice A' al'.length ac', .slice K' ks'.length kc'], .func (.func 27) #[] #[.pointer (some ⟨w.heap.size + 1 + 1, 0, none⟩), .pointer (some ⟨w.heap.size + 1 + 1 + 1, 0, none⟩)], .string x.1, undef, undef, undef, undef, undef], defers := [] }) ?assign ?body ?done ?stop
  case assign =>
    intro l x W K hK
    gi_wp2
    exact hK
  case body =>
    rintro l pre x W ⟨hb, h2⟩ hl
    have HB := Lib.hid hb
    have H2 := Lib.hid h2
    have hlt := lt_of_block hb
    have hr := HROOM.out pre hl x
    have c0 : W.cell? ⟨w.heap.size + 1, 0, none⟩ = some (.int .i64 ((catP pre).length : Nat)) := by rw [block_cell hb]; rfl
    have f0 : W.frozen? ⟨w.heap.size + 1, 0, none⟩ = false := Lib.frozen_of_heap hb 0
    have hw : IntKind.i64.wrap (((catP pre).length : Int) + (x.1.size : Int)) = ((catP pre).length : Int) + (x.1.size : Int) := IntWalk.i64_in _ (by omega)
    clear hb h2 hl HSEQ HROOM HCAT
    gi_wp2
    exact ⟨KeepsOthers.setCell _ _ _, num_kpT HB.out (Nat.le_succ _) _, numI_next HB.out H2.out (Nat.le_succ _)⟩
  case done =>
    rintro D ys W hD rfl ⟨hb, h2⟩ hK
    have c0 : W.cell? ⟨w.heap.size + 1, 0, none⟩ = some (.int .i64 ((catP (sayP false (.mk k' n' s' al' ks'))).length : Nat)) := by rw [block_cell hb]; rfl
    rw [HCAT.out] at c0
    have H2 := Lib.hid h2
    have HKD := Lib.hid hK
    clear hb h2 hK HSEQ HROOM HCAT
    gi_wp2
    refine ⟨by simp, .inl ⟨_, _, rfl, run_takeDeferred HKD.out, ?_⟩⟩
    exact ⟨_, results_tmp rfl _ _ _, rfl, H2.out.trans (belowK_b (w := w) (Nat.le_refl _) W D _ _ (by have := HW.out; omega) HKD.out rfl rfl)⟩
  case stop =>
    rintro D c pre W _ _ h _
    exact h.elim
end Go.Proofs.YtbjcahhijfommaaDoor.Tr
namespace Go.Proofs.YtbjcahhijfommaaDoor.Ct
open Go Go.RowKit

theorem place_calls (v n : Int) (h0 : 0 < n) (h1 : n ≤ 4611686018427387904) (w : World) :
    Calls Tryd.prog 12 #[.int .i64 v, .int .i64 n] w fun e w' => (∃ k : Nat, (k : Int) < n ∧ e = .returned (.int .i64 k)) ∧ w = w' := by
  have b1 := Int.tmod_lt_of_pos v h0
  have b0 : -n < v.tmod n := by
    have := Int.lt_tmod_of_pos v h0
    omega
  have hn : ¬ n = 0 := by omega
  have hn1 : (n == 0) = false := by rw [beq_eq_false_iff_ne]; omega
  rcases Int.lt_or_le (v.tmod n) 0 with h | h
  · go_enter Tryd.func12, Tryd.ntmps12
    go_wp2
    go_ret
    exact ⟨⟨(v.tmod n + n).toNat, by omega, congrArg (fun x => Ending.returned (.int .i64 x)) (by omega)⟩, rfl⟩
  · go_enter Tryd.func12, Tryd.ntmps12
    go_wp2
    go_ret
    exact ⟨⟨(v.tmod n).toNat, by omega, congrArg (fun x => Ending.returned (.int .i64 x)) (by omega)⟩, rfl⟩
end Go.Proofs.YtbjcahhijfommaaDoor.Ct
namespace Go.Proofs.YtbjcahhijfommaaDoor.Wk
open Go Go.RowKit Go.Proofs.YtbjcahhijfommaaDoor.Tr Go.Proofs.YtbjcahhijfommaaDoor.Gn
set_option linter.unusedVariables false
/-- A row of numbers that came in. -/
def IsRow (k : IntKind) (w : World) (a : Option Addr) (len cap : Nat) (zs : List Int) : Prop :=
  (a = none ∧ len = 0 ∧ cap = 0 ∧ zs = []) ∨
    ∃ x, a = some x ∧ len ≤ cap ∧ cap ≤ maxLen ∧ zs.length = cap ∧ (∀ i, i < zs.length → w.cell? (x.add i) = some (.int k (zs.getD i 0))) ∧ ∀ n ∈ zs, (Lit.int k n).wf = true
theorem cell_flat {w : World} {a : Addr} {v : Value} (h : w.cell? a = some v) : a.spot = none := by
  unfold World.cell? at h
  cases hb : w.heap[a.block]? with
  | none => rw [hb] at h; cases h
  | some o => rw [hb] at h; cases o <;> simp at h; exact h.1
theorem lrow_of {w : World} {a : Option Addr} {len cap : Nat} {zs : List Int} (h : IsRow .i64 w a len cap zs) : LRow w w.heap.size a len := by
  rcases h with ⟨rfl, rfl, rfl, rfl⟩ | ⟨x, rfl, h1, h2, h3, h4, _⟩
  · exact ⟨Nat.zero_le _, fun i hi => absurd hi (Nat.not_lt_zero _)⟩
  · refine ⟨Nat.le_trans h1 h2, fun i hi => ?_⟩
    have hc := h4 i (by omega)
    have hs : x.spot = none := by
      have hc0 := h4 0 (by omega)
      have e : x.add 0 = x := by unfold Addr.add; rw [if_pos rfl]
      rw [e] at hc0
      exact cell_flat hc0
    obtain ⟨b, off, sp⟩ := x
    simp only at hs
    subst hs
    rw [add_flat] at hc
    exact ⟨b, off, _, rfl, (cell_lt hc).1, hc⟩
end Go.Proofs.YtbjcahhijfommaaDoor.Wk
namespace Go.Proofs.YtbjcahhijfommaaDoor.Tr
open Go Go.RowKit
set_option linter.unusedVariables false
def brT : Nd := .mk 2 ⟨#[98, 114]⟩ ⟨#[]⟩ [] []
def ltT : Nd := .mk 3 ⟨#[]⟩ ⟨#[60]⟩ [] []
theorem br_say : (⟨(sayT false brT).toArray⟩ : ByteArray) = ⟨#[60, 98, 114, 62]⟩ := by kernel_rfl
theorem lt_say : (⟨(sayT false ltT).toArray⟩ : ByteArray) = ⟨#[38, 108, 116, 59]⟩ := by kernel_rfl
theorem br_fit : fitT brT := by unfold brT fitT; simp [fitL]; decide
theorem lt_fit : fitT ltT := by unfold ltT fitT; simp [fitL]; decide
/-- serial.Text, wherever the table of blanks lies below. -/
theorem textB (t : Nd) (hf : fitT t) (hc : cntT t ≤ 1000000) (v0 v1 v2 v3 v4 : Value) (w W : World) (hT : SpTab w) (hb : Below w.heap.size w W) (h : IsTree W W.heap.size t v0 v1 v2 v3 v4) :
    Calls Tryd.prog 10 #[.agg #[v0, v1, v2, v3, v4]] W fun e w' => e = .returned (.string ⟨(sayT false t).toArray⟩) ∧ Below W.heap.size W w' :=
  text_calls t hf hc _ _ _ _ _ W (Nat.lt_of_lt_of_le hT.lt hb.size) (hT.below hb hT.lt) h
theorem awake16 (w : World) (hT : SpTab w) : Calls Tryd.prog 8 #[] w fun e w' => e = .returned (.bool true) ∧ Below w.heap.size w w' := by
  have H1 : Hid (∀ W, Below w.heap.size w W → Calls Tryd.prog 10 #[.agg #[.int .i64 2, .string ⟨#[98, 114]⟩, .string ⟨#[]⟩, .slice none 0 0, .slice none 0 0]] W fun e w' => e = .returned (.string ⟨#[60, 98, 114, 62]⟩) ∧ Below W.heap.size W w') := Lib.hid fun W hb => by
    have := textB brT br_fit (by decide) _ _ _ _ _ w W hT hb (isTree_leaf (by decide) (by decide) (by decide))
    rwa [br_say] at this
  have H2 : Hid (∀ W, Below w.heap.size w W → Calls Tryd.prog 10 #[.agg #[.int .i64 3, .string ⟨#[]⟩, .string ⟨#[60]⟩, .slice none 0 0, .slice none 0 0]] W fun e w' => e = .returned (.string ⟨#[38, 108, 116, 59]⟩) ∧ Below W.heap.size W w') := Lib.hid fun W hb => by
    have := textB ltT lt_fit (by decide) _ _ _ _ _ w W hT hb (isTree_leaf (by decide) (by decide) (by decide))
    rwa [lt_say] at this
  clear hT
  go_enter Tryd.func8, Tryd.ntmps8
  go_wp2_with fail
  refine (H1.out w (Below.refl _ _)).mono ?_
  rintro e w2 ⟨rfl, hb2⟩
  have HB2 := Lib.hid hb2
  clear hb2
  go_wp2_with fail
  refine (H2.out w2 HB2.out).mono ?_
  rintro e w3 ⟨rfl, hb3⟩
  have HB3 := Lib.hid (HB2.out.trans (hb3.mono HB2.out.size))
  clear hb3
  go_wp2_with fail
  go_ret
  exact ⟨rfl, HB3.out⟩
end Go.Proofs.YtbjcahhijfommaaDoor.Tr
namespace Go.Proofs.YtbjcahhijfommaaDoor.Wk
open Go Go.RowKit Go.Proofs.YtbjcahhijfommaaDoor.Tr Go.Proofs.YtbjcahhijfommaaDoor.Gn
set_option linter.unusedVariables false
set_option maxRecDepth 100000
def parA : Array Value := #[.string ⟨#[97]⟩, .string ⟨#[100, 105, 118]⟩, .string ⟨#[112]⟩, .string ⟨#[120, 45, 121]⟩]
theorem par_ix (k : Nat) (hk : (k : Int) < 4) : ∃ n : ByteArray, (∀ w : World, (Instr.index 37 (.agg parA) (.int .i64 k)).run Tryd.prog w = .ok (.string n) w) ∧ voidB n = false ∧ rawB n = false ∧ n.size ≤ 10 := by
  have h : k = 0 ∨ k = 1 ∨ k = 2 ∨ k = 3 := by omega
  rcases h with rfl | rfl | rfl | rfl
  · exact ⟨⟨#[97]⟩, fun w => by kernel_rfl, by decide +kernel, by decide +kernel, by decide⟩
  · exact ⟨⟨#[100, 105, 118]⟩, fun w => by kernel_rfl, by decide +kernel, by decide +kernel, by decide⟩
  · exact ⟨⟨#[112]⟩, fun w => by kernel_rfl, by decide +kernel, by decide +kernel, by decide⟩
  · exact ⟨⟨#[120, 45, 121]⟩, fun w => by kernel_rfl, by decide +kernel, by decide +kernel, by decide⟩
def kAt : ByteArray × ByteArray := (⟨#[107]⟩, ⟨#[34, 38]⟩)
def uT (n : ByteArray) (ks : List Nd) : Nd := .mk 2 n ⟨#[]⟩ [kAt] ks
theorem kat_say : sayAs [kAt] = [32, 107, 61, 34, 38, 113, 117, 111, 116, 59, 38, 97, 109, 112, 59, 34] := by kernel_rfl
theorem u_say {n : ByteArray} (ks : List Nd) (hv : voidB n = false) (hr : rawB n = false) : (⟨(sayT false (uT n ks)).toArray⟩ : ByteArray) =
    (⟨#[60]⟩ : ByteArray) ++ n ++ ⟨#[32, 107, 61, 34, 38, 113, 117, 111, 116, 59, 38, 97, 109, 112, 59, 34, 62]⟩ ++ ⟨(sayL false ks).toArray⟩ ++ ⟨#[60, 47]⟩ ++ n ++ ⟨#[62]⟩ := by
  refine (Ch.of_list ?_).symm
  unfold uT
  simp only [Ch.app_list]
  unfold sayT
  rw [kat_say]
  simp [hv, hr]
theorem say_snoc {ks : List Nd} {j : Nat} {t : Nd} (h : ks[j]? = some t) : (⟨(sayL false (ks.take j)).toArray⟩ : ByteArray) ++ ⟨(sayT false t).toArray⟩ = ⟨(sayL false (ks.take (j + 1))).toArray⟩ := by
  apply Ch.of_list
  rw [Ch.app_list, List.take_add_one, h, sayL_append]
  simp [sayL]
theorem cntL_take (ks : List Nd) (j : Nat) : cntL (ks.take j) ≤ cntL ks := by
  induction ks generalizing j with
  | nil => simp
  | cons x xs ih =>
    cases j with
    | zero => simp [cntL]
    | succ j => simp only [List.take_succ_cons, cntL]; have := ih j; omega
theorem fitL_take {ks : List Nd} (h : fitL ks) (j : Nat) : fitL (ks.take j) := by
  induction ks generalizing j with
  | nil => simpa using h
  | cons x xs ih =>
    unfold fitL at h
    cases j with
    | zero => simp [fitL]
    | succ j => simp only [List.take_succ_cons, fitL]; exact ⟨h.1, ih h.2 j⟩
theorem say_size {ks : List Nd} (h : fitL ks) (hc : cntL ks ≤ 40) (j : Nat) : (⟨(sayL false (ks.take j)).toArray⟩ : ByteArray).size ≤ 40000000 := by
  have h1 := sayL_len false _ (fitL_take h j)
  have h2 := cntL_take ks j
  show (sayL false (ks.take j)).toArray.size ≤ _
  simp only [List.size_toArray]
  omega
theorem isTree_u {W : World} {n : ByteArray} {ks : List Nd} {K : Option Addr} {kc ab : Nat} (hn : n.size ≤ 10) (hk : ks.length ≤ kc) (hc : kc ≤ maxLen) (hK : ks ≠ [] → ∃ b off, K = some ⟨b, off, none⟩ ∧ b < W.heap.size ∧ IsKids W W.heap.size ks b off)
    (ha : W.heap[ab]? = some (.cells #[.string ⟨#[107]⟩, .string ⟨#[34, 38]⟩] 39 (0, 0))) : IsTree W W.heap.size (uT n ks) (.int .i64 2) (.string n) (.string ⟨#[]⟩) (.slice (some ⟨ab, 0, none⟩) 1 1) (.slice K ks.length kc) := by
  unfold uT IsTree
  refine ⟨rfl, rfl, rfl, by decide, Nat.le_trans hn (by decide), by decide, some ⟨ab, 0, none⟩, 1, K, kc, rfl, rfl, ⟨Nat.le_refl _, by decide, ?_, fun _ => ⟨ab, 0, rfl, lt_of_block ha, ?_⟩⟩, hk, hc, hK⟩
  · intro a h
    simp at h
    subst h
    exact ⟨by decide, by decide⟩
  · intro i x hx
    cases i with
    | succ i => simp at hx
    | zero =>
      simp at hx
      subst hx
      exact ⟨by rw [block_cell ha]; rfl, by rw [block_cell ha]; rfl⟩
theorem u_fit {n : ByteArray} {ks : List Nd} (hn : n.size ≤ 10) (h : fitL ks) : fitT (uT n ks) := by
  unfold uT fitT
  refine ⟨by simp, by omega, by decide, ?_, h⟩
  intro a h
  simp at h
  subst h
  exact ⟨by decide, by decide⟩
set_option maxHeartbeats 8000000 in
theorem serialParts0 (A : Option Addr) (len cap : Nat) (name : Int) (w : World) (hl : LRow w w.heap.size A len) (hT : SpTab w) :
    Calls Tryd.prog 5 #[.slice A len cap, .int .i64 name] w fun e w' => e = .returned (.bool true) ∧ Below w.heap.size w w' := by
  have HTB : Hid (∀ W', Below w.heap.size w W' → SpTab W') := Lib.hid fun W' hh => hT.below hh hT.lt
  clear hT
  go_enter Tryd.func5, Tryd.ntmps5
  go_wp2_with fail
  refine (grownRoot_calls A len cap w hl).mono ?_
  rintro e w1 ⟨ks, x4, rfl, hti, hok, hcn, hb1⟩
  clear hl
  have hxt := hti.is (B := w1.heap.size) (fun c h => h.2)
  have HFIT : Hid (fitL ks) := Lib.hid (fitL_of_ok 1 ks hok)
  have HIT := Lib.hid hxt
  unfold IsTree at hxt
  obtain ⟨_, _, _, _, _, _, A0, ac0, K, kc, _, rfl, _, hk1, hk2, hk3⟩ := hxt
  have HK := Lib.hid (kidsAt_of hk3)
  have HK3 := Lib.hid hk3
  have HB1 := Lib.hid hb1
  have HB2 : Hid (Below w1.heap.size w1 (w1.alloc (.cells #[.int .i64 1, .string ⟨#[]⟩, .string ⟨#[]⟩, .slice none 0 0, .slice K ks.length kc] 25))) := Lib.hid ((Below.refl _ w1).alloc (Nat.le_refl _) _)
  have HX2 := Lib.hid (alloc_new w1 (.cells #[.int .i64 1, .string ⟨#[]⟩, .string ⟨#[]⟩, .slice none 0 0, .slice K ks.length kc] 25))
  have HS2 := Lib.hid (World.size_alloc w1 (.cells #[.int .i64 1, .string ⟨#[]⟩, .string ⟨#[]⟩, .slice none 0 0, .slice K ks.length kc] 25))
  clear hti hok hb1 hk3
  go_wp2_with fail
  generalize w1.alloc (.cells #[.int .i64 1, .string ⟨#[]⟩, .string ⟨#[]⟩, .slice none 0 0, .slice K ks.length kc] 25) = w2 at HB2 HX2 HS2 ⊢
  go_loopw [6, 7] (fun s i wr => ∃ j : Nat, j ≤ ks.length ∧ s = .string ⟨(sayL false (ks.take j)).toArray⟩ ∧ i = .int .i64 j ∧ Below w2.heap.size w2 wr) (fun _ i _ => ks.length - (intOf i).toNat)
  case atStart => exact ⟨0, Nat.zero_le _, by simp [sayL], rfl, Below.refl _ _⟩
  case round =>
    obtain ⟨j, hj, rfl, rfl, hbr⟩ := hrel
    have HBR := Lib.hid hbr
    have e4 : wr.cell? ⟨w1.heap.size, 4, none⟩ = some (.slice K ks.length kc) := by rw [block_cell ((hbr.block _ (lt_of_block HX2.out)).trans HX2.out)]; rfl
    have HBW : Hid (Below w1.heap.size w1 wr) := Lib.hid (HB2.out.trans (hbr.mono HB2.out.size))
    clear hbr
    by_cases hjl : j < ks.length
    · obtain ⟨t, ht⟩ : ∃ t, ks[j]? = some t := ⟨_, List.getElem?_eq_getElem hjl⟩
      obtain ⟨kb, ko, rfl, hkb, x0, x1, x2, x3, x4, c0, c1, c2, c3, c4, htr⟩ := HK.out.below HBW.out j t ht
      have hjz : (j : Int) < (ks.length : Int) := by omega
      have hw : wrap64 ((j : Int) + 1) = ((j + 1 : Nat) : Int) := by unfold maxLen at hk2; unfold wrap64; omega
      have hs1 := say_size HFIT.out hcn j
      have hct : cntT t ≤ 40 := by have := cntL_mem ht; omega
      have hft := fitL_at HFIT.out ht
      have HC := Lib.hid (textB t hft (by omega) _ _ _ _ _ w wr (HTB.out _ (Below.refl _ _)) (HB1.out.trans (HBW.out.mono HB1.out.size)) (htr.keep (fun p hp => rfl) HBW.out.size))
      have hs2 : (⟨(sayT false t).toArray⟩ : ByteArray).size ≤ 40000000 := by
        have := sayT_len false t hft
        show (sayT false t).toArray.size ≤ _
        simp only [List.size_toArray]
        omega
      have HSN := Lib.hid (say_snoc ht)
      clear ht hft hct
      generalize (⟨(sayT false t).toArray⟩ : ByteArray) = st at *
      generalize (⟨(sayL false (ks.take j)).toArray⟩ : ByteArray) = sj at *
      cases t with
      | mk k' n' s' al' ks' =>
        unfold IsTree at htr
        obtain ⟨rfl, rfl, rfl, _, _, _, A', ac', K', kc', rfl, rfl, _, _, _, _⟩ := htr
        go_wp2_with fail
        refine HC.out.mono ?_
        rintro e w4 ⟨rfl, hb4⟩
        have HB4 := Lib.hid (HBR.out.trans (hb4.mono HBR.out.size))
        clear hb4
        go_wp2_with fail
        go_roundw
        case rel => exact ⟨j + 1, by omega, by rw [HSN.out], by rw [hw], HB4.out⟩
        case measure => simp only [hw]; simp [intOf]; omega
    · obtain rfl : j = ks.length := by omega
      have hjz : ¬ ((ks.length : Int) < (ks.length : Int)) := by omega
      have hs1 := say_size HFIT.out hcn ks.length
      have hss : (⟨(sayL false (ks.take ks.length)).toArray⟩ : ByteArray) = ⟨(sayL false ks).toArray⟩ := by rw [List.take_length]
      rw [hss] at hs1 ⊢
      clear hss hj
      have HBZ := Lib.hid (HB1.out.trans (HBW.out.mono HB1.out.size))
      have HT1 : Hid (∀ W, Below wr.heap.size wr W → Calls Tryd.prog 10 #[.agg #[.int .i64 1, .string ⟨#[]⟩, .string ⟨#[]⟩, .slice none 0 0, .slice K ks.length kc]] W fun e w' => e = .returned (.string ⟨(sayL false ks).toArray⟩) ∧ Below W.heap.size W w') := Lib.hid fun W hb => by
        have hbb := HBW.out.trans (hb.mono HBW.out.size)
        have := textB (.mk 1 ⟨#[]⟩ ⟨#[]⟩ [] ks) (by unfold fitT; exact ⟨by simp, by decide, by decide, by simp, HFIT.out⟩) (by unfold cntT; omega) _ _ _ _ _ w W (HTB.out _ (Below.refl _ _)) (HBZ.out.trans (hb.mono HBZ.out.size)) (HIT.out.keep (fun p hp => hbb.cell hp) hbb.size)
        have e : sayT false (.mk 1 ⟨#[]⟩ ⟨#[]⟩ [] ks) = sayL false ks := by unfold sayT; rw [if_pos rfl]
        rwa [e] at this
      have HLN : Hid (∀ W, Below wr.heap.size wr W → Calls Tryd.prog 15 #[.agg #[.int .i64 1, .string ⟨#[]⟩, .string ⟨#[]⟩, .slice none 0 0, .slice K ks.length kc]] W fun e w' => e = .returned (.int .i64 (⟨(sayL false ks).toArray⟩ : ByteArray).size) ∧ Below W.heap.size W w') := Lib.hid fun W hb => by
        have hbb := HBW.out.trans (hb.mono HBW.out.size)
        have hbz := HBZ.out.trans (hb.mono HBZ.out.size)
        have := len_calls (.mk 1 ⟨#[]⟩ ⟨#[]⟩ [] ks) (by unfold fitT; exact ⟨by simp, by decide, by decide, by simp, HFIT.out⟩) (by unfold cntT; omega) _ _ _ _ _ W (Nat.lt_of_lt_of_le (HTB.out _ (Below.refl _ _)).lt hbz.size) (HTB.out _ hbz) (HIT.out.keep (fun p hp => hbb.cell hp) hbb.size)
        have e : sayT false (.mk 1 ⟨#[]⟩ ⟨#[]⟩ [] ks) = sayL false ks := by unfold sayT; rw [if_pos rfl]
        rw [e] at this
        have e2 : (⟨(sayL false ks).toArray⟩ : ByteArray).size = (sayL false ks).length := by show (sayL false ks).toArray.size = _; simp
        rwa [e2]
      have HT2 : Hid (∀ (W : World) (n : ByteArray) (ab : Nat), Below wr.heap.size wr W → voidB n = false → rawB n = false → n.size ≤ 10 → W.heap[ab]? = some (.cells #[.string ⟨#[107]⟩, .string ⟨#[34, 38]⟩] 39 (0, 0)) →
          Calls Tryd.prog 10 #[.agg #[.int .i64 2, .string n, .string ⟨#[]⟩, .slice (some ⟨ab, 0, none⟩) 1 1, .slice K ks.length kc]] W fun e w' => e = .returned (.string ((⟨#[60]⟩ : ByteArray) ++ n ++ ⟨#[32, 107, 61, 34, 38, 113, 117, 111, 116, 59, 38, 97, 109, 112, 59, 34, 62]⟩ ++ ⟨(sayL false ks).toArray⟩ ++ ⟨#[60, 47]⟩ ++ n ++ ⟨#[62]⟩)) ∧ Below W.heap.size W w') := Lib.hid fun W n ab hb hv hr hn ha => by
        have hbb := HBW.out.trans (hb.mono HBW.out.size)
        have := textB (uT n ks) (u_fit hn HFIT.out) (by unfold uT cntT; omega) _ _ _ _ _ w W (HTB.out _ (Below.refl _ _)) (HBZ.out.trans (hb.mono HBZ.out.size)) (isTree_u hn hk1 hk2 (fun hne => by
          obtain ⟨b, off, e, h1, h2⟩ := HK3.out hne
          exact ⟨b, off, e, Nat.lt_of_lt_of_le h1 hbb.size, h2.keep h1 (fun p hp => hbb.cell hp) hbb.size⟩) ha)
        rwa [u_say ks hv hr] at this
      generalize (⟨(sayL false ks).toArray⟩ : ByteArray) = ss at *
      go_wp2_with fail
      refine (Ct.place_calls name 4 (by decide) (by decide) _).mono ?_
      rintro e wx ⟨⟨k, hk, rfl⟩, rfl⟩
      obtain ⟨n, hix, hn1, hn2, hn3⟩ := par_ix k hk
      unfold parA at hix
      have HL0 : Hid (wr.heap[w1.heap.size]? = some (.cells #[.int .i64 1, .string ⟨#[]⟩, .string ⟨#[]⟩, .slice none 0 0, .slice K ks.length kc] 25 (0, 0))) := Lib.hid ((HBR.out.block _ (lt_of_block HX2.out)).trans HX2.out)
      have f4 : (wr.alloc (.cells #[.string ⟨#[107]⟩, .string ⟨#[34, 38]⟩] 39)).cell? ⟨w1.heap.size, 4, none⟩ = some (.slice K ks.length kc) := by rw [block_cell (alloc_old HL0.out _)]; rfl
      go_upto_region 9 with (fail)
      obtain ⟨W5, hW5⟩ : ∃ W5, (wr.alloc (.cells #[.string ⟨#[107]⟩, .string ⟨#[34, 38]⟩] 39)).alloc (.cells #[.int .i64 2, .string n, .string ⟨#[]⟩, .slice (some ⟨wr.heap.size, 0, none⟩) 1 1, .slice K ks.length kc] 25) = W5 := ⟨_, rfl⟩
      have HB5 : Hid (Below wr.heap.size wr W5) := Lib.hid (hW5 ▸ ((Below.refl _ wr).alloc (Nat.le_refl _) _).alloc (by simp) _)
      have HA5 : Hid (W5.heap[wr.heap.size]? = some (.cells #[.string ⟨#[107]⟩, .string ⟨#[34, 38]⟩] 39 (0, 0))) := Lib.hid (hW5 ▸ alloc_old (alloc_new wr _) _)
      have HU5 : Hid (W5.heap[wr.heap.size + 1]? = some (.cells #[.int .i64 2, .string n, .string ⟨#[]⟩, .slice (some ⟨wr.heap.size, 0, none⟩) 1 1, .slice K ks.length kc] 25 (0, 0))) := Lib.hid (by
        rw [← hW5]
        have := alloc_new (wr.alloc (.cells #[.string ⟨#[107]⟩, .string ⟨#[34, 38]⟩] 39)) (.cells #[.int .i64 2, .string n, .string ⟨#[]⟩, .slice (some ⟨wr.heap.size, 0, none⟩) 1 1, .slice K ks.length kc] 25)
        rwa [World.size_alloc] at this)
      have hl5 := (HB5.out.block _ (lt_of_block HL0.out)).trans HL0.out
      have HL5 := Lib.hid hl5
      have g0 : W5.cell? ⟨w1.heap.size, 0, none⟩ = some (.int .i64 1) := by rw [block_cell hl5]; rfl
      have g1 : W5.cell? ⟨w1.heap.size, 1, none⟩ = some (.string ⟨#[]⟩) := by rw [block_cell hl5]; rfl
      have g2 : W5.cell? ⟨w1.heap.size, 2, none⟩ = some (.string ⟨#[]⟩) := by rw [block_cell hl5]; rfl
      have g3 : W5.cell? ⟨w1.heap.size, 3, none⟩ = some (.slice none 0 0) := by rw [block_cell hl5]; rfl
      have g4 : W5.cell? ⟨w1.heap.size, 4, none⟩ = some (.slice K ks.length kc) := by rw [block_cell hl5]; rfl
      try simp only [World.size_alloc]
      rw [hW5]
      clear hW5 f4 e4 hl5 hix
      go_wp2_with fail
      refine (HT1.out _ HB5.out).mono ?_
      rintro e w6 ⟨rfl, hb6⟩
      have HB6 : Hid (Below wr.heap.size wr w6) := Lib.hid (HB5.out.trans (hb6.mono HB5.out.size))
      have hu6 := (hb6.block _ (lt_of_block HU5.out)).trans HU5.out
      have HA6 := Lib.hid ((hb6.block _ (lt_of_block HA5.out)).trans HA5.out)
      have HL6 := Lib.hid ((hb6.block _ (lt_of_block HL5.out)).trans HL5.out)
      have i0 : w6.cell? ⟨wr.heap.size + 1, 0, none⟩ = some (.int .i64 2) := by rw [block_cell hu6]; rfl
      have i1 : w6.cell? ⟨wr.heap.size + 1, 1, none⟩ = some (.string n) := by rw [block_cell hu6]; rfl
      have i2 : w6.cell? ⟨wr.heap.size + 1, 2, none⟩ = some (.string ⟨#[]⟩) := by rw [block_cell hu6]; rfl
      have i3 : w6.cell? ⟨wr.heap.size + 1, 3, none⟩ = some (.slice (some ⟨wr.heap.size, 0, none⟩) 1 1) := by rw [block_cell hu6]; rfl
      have i4 : w6.cell? ⟨wr.heap.size + 1, 4, none⟩ = some (.slice K ks.length kc) := by rw [block_cell hu6]; rfl
      clear hu6 hb6 g0 g1 g2 g3 g4
      go_wp2_with fail
      refine (HT2.out _ n wr.heap.size HB6.out hn1 hn2 hn3 HA6.out).mono ?_
      rintro e w7 ⟨rfl, hb7⟩
      have HB7 : Hid (Below wr.heap.size wr w7) := Lib.hid (HB6.out.trans (hb7.mono HB6.out.size))
      have hl7 := (hb7.block _ (lt_of_block HL6.out)).trans HL6.out
      have j0 : w7.cell? ⟨w1.heap.size, 0, none⟩ = some (.int .i64 1) := by rw [block_cell hl7]; rfl
      have j1 : w7.cell? ⟨w1.heap.size, 1, none⟩ = some (.string ⟨#[]⟩) := by rw [block_cell hl7]; rfl
      have j2 : w7.cell? ⟨w1.heap.size, 2, none⟩ = some (.string ⟨#[]⟩) := by rw [block_cell hl7]; rfl
      have j3 : w7.cell? ⟨w1.heap.size, 3, none⟩ = some (.slice none 0 0) := by rw [block_cell hl7]; rfl
      have j4 : w7.cell? ⟨w1.heap.size, 4, none⟩ = some (.slice K ks.length kc) := by rw [block_cell hl7]; rfl
      clear hb7 hl7 i0 i1 i2 i3 i4 hn1 hn2
      go_wp2_with fail
      refine (HLN.out _ HB7.out).mono ?_
      rintro e w8 ⟨rfl, hb8⟩
      have HB8 : Hid (Below w.heap.size w w8) := Lib.hid (HBZ.out.trans ((HB7.out.trans (hb8.mono HB7.out.size)).mono HBZ.out.size))
      clear hb8 j0 j1 j2 j3 j4
      go_wp2_with fail
      refine (awake16 _ (HTB.out _ HB8.out)).mono ?_
      rintro e w9 ⟨rfl, hb9⟩
      have HB9 : Hid (Below w.heap.size w w9) := Lib.hid (HB8.out.trans (hb9.mono HB8.out.size))
      clear hb9
      go_wp2_with fail
      go_ret
      exact ⟨rfl, HB9.out⟩
theorem serialParts (A : Option Addr) (len cap : Nat) (zs : List Int) (name : Int) (w : World) (h : IsRow .i64 w A len cap zs) (hw : (Lit.int .i64 name).wf = true) (hT : SpTab w) :
    Calls Tryd.prog 5 #[.slice A len cap, .int .i64 name] w fun e w' => e = .returned (.bool true) ∧ Below w.heap.size w w' := serialParts0 A len cap name w (lrow_of h) hT
end Go.Proofs.YtbjcahhijfommaaDoor.Wk
namespace Go.Proofs.YtbjcahhijfommaaDoor.Tr
open Go Go.RowKit
set_option maxRecDepth 100000
theorem spTab_of {W : World} (h : Lib.VarReads Tryd.prog W "strings.asciiSpace" (Lib.tabData .u8 Lib.asciiSpaceTab)) : SpTab W := by
  obtain ⟨g, t, cs, fuel, p, h1, h2, h3, h4⟩ := h
  have hg : Tryd.prog.globalNamed "strings.asciiSpace" = some 0 := by kernel_rfl
  obtain rfl := Option.some.inj (hg.symm.trans h1)
  have ht : (Tryd.prog.globals[0]?).map (·.type) = some 105 := by kernel_rfl
  obtain rfl := Option.some.inj (ht.symm.trans h2)
  have ti : Lib.TabIs Tryd.prog W "strings.asciiSpace" .u8 Lib.asciiSpaceTab := by
    unfold Lib.TabIs
    rw [h3, ← Lib.cells_of_tab Tryd.underlying105 Tryd.underlying5 (by kernel_rfl) (by kernel_rfl) h4]
  intro c hc
  have := ti.cell hg c (by rw [Lib.asciiSpaceTab_length]; exact hc)
  rwa [Lib.asciiSpaceTab_at c hc] at this
end Go.Proofs.YtbjcahhijfommaaDoor.Tr
namespace Go.Proofs.YtbjcahhijfommaaDoor.serialParts
open Go Go.Shelf Go.ChangeShapes Go.WideShapes Go.ChangeAt Go.RowKit Go.Lib
open Go.ChangeMaps (open_string shut_string)
set_option linter.unusedVariables false

theorem own : ownKnob Tryd.prog.godebug = none := by kernel_rfl
theorem laidOut : laidOutB Tryd.prog = true := by kernel_rfl
/-- The witness: the settled world, the two variables holding what their initialisers lay. -/
noncomputable def laidWorld (os : Os) : World :=
  let N := (World.settled Tryd.prog os).heap.size
  let w0 := World.holding Tryd.prog os ⟨#[.cells (Lib.whiteT.map fun (z : Nat) => Value.int .u16 (z : Int)).toArray 149, .cells #[.slice (some ⟨N, 0, none⟩) 7 7, .slice none 0 0, .int .i64 2] 146], #[], []⟩
  let put (h : Array Obj) (g : Nat) (cs : Array Value) : Array Obj := h.modify g fun
    | .cells _ t frozen => .cells cs t frozen
    | o => o
  let h1 := put w0.heap 0 (Lib.asciiSpaceTab.map fun z => Value.int .u8 z).toArray
  let h2 := put h1 1 #[.pointer (some ⟨N + 1, 0, none⟩)]
  { w0 with heap := h2 }
theorem laid_met (os : Os) (args : Array Value) : laidMet Tryd.prog Rows.serialPartsRow.laid ((laidWorld os).forCall (fun _ _ => 0) ⟨#[], args, []⟩).memory :=
  (LaidIn.of_run (l := [("unicode.White_Space", Rows.laid_unicode_White_Space), ("strings.asciiSpace", Rows.laid_strings_asciiSpace)]) [1, 0, (World.settled Tryd.prog default).heap.size, (World.settled Tryd.prog default).heap.size + 1] 10 (by kernel_rfl) (by kernel_rfl) (by kernel_rfl) (by kernel_rfl)).met

theorem witness_row (os : Os) {H : Type} (enc : TypeId × Value → H) :
    (OpenSpec.ofChange Rows.serialPartsSpec).preRow enc Tryd.prog Tryd.f5 Rows.serialPartsRow.domain false Rows.serialPartsRow.laid ((laidWorld os).forCall (fun _ _ => 0) ⟨#[], #[.slice none 0 0, .int .i64 0], []⟩).memory #[.slice none 0 0, .int .i64 0] := by
  have hw : (DataW.whole enc Tryd.prog ((laidWorld os).forCall (fun _ _ => 0) ⟨#[], #[.slice none 0 0, .int .i64 0], []⟩).memory Tryd.f5.params.toList (OpenSpec.ofChange Rows.serialPartsSpec).vars false (#[.slice none 0 0, .int .i64 0] : Array Value).toList 8).map (fun x => (x.1, x.2.1)) =
      some ([.nil, .lit (.int .i64 0)], []) := by kernel_rfl
  obtain ⟨⟨x1, x2, x3⟩, hx, hx1⟩ := Option.map_eq_some_iff.1 hw
  simp only [Prod.mk.injEq] at hx1
  obtain ⟨rfl, rfl⟩ := hx1
  exact OpenSpec.preRow_of_cond 8 hx (by kernel_rfl) (fun k hk => by cases hk) (by kernel_rfl) (laid_met os _)

set_option maxRecDepth 100000 in
set_option maxHeartbeats 2000000 in
theorem lifted (os : Os) (started : os.Started) (H : Type) (enc : TypeId × Value → H) (F : Stop.Interp) :
    ReturnsInHanded {} Tryd.checked os 5 .any ((OpenSpec.ofChange Rows.serialPartsSpec).preRow enc Tryd.prog Tryd.f5 Rows.serialPartsRow.domain false Rows.serialPartsRow.laid) (((OpenSpec.ofChange Rows.serialPartsSpec).at F).post enc Tryd.prog Tryd.f5 false true false false) := by
  refine returnsInHanded_of_row (C := Tryd.checked) (s := OpenSpec.ofChange Rows.serialPartsSpec) own started (by kernel_rfl) Tryd.func5
    (witness_row_atRef (enc := enc) (C := Tryd.checked) false (laidWorld os) #[.slice none 0 0, .int .i64 0] rfl (by kernel_rfl) (by kernel_rfl) (by kernel_rfl) (witness_row os enc)) ?_
  intro W base args ds gs before hval0 hW _ _ _ hL _ _
  have hval : ∀ (j : Nat) t v, Tryd.f5.params[j]? = some t → args[j]? = some v → Value.okWide Tryd.prog W .any base t v := hval0
  have hW' := hW
  obtain ⟨p, q, hA0, hV, rfl, _, _⟩ := hW
  have hA : DataW.TrodAll enc Tryd.prog W 0 (fun _ => true) true Tryd.f5.params.toList args.toList ds p := hA0
  rw [Tryd.params5] at hA hval
  obtain ⟨v0, vs0, d0, ds0, p0, q0, hargs, rfl, rfl, h0, r0⟩ := trodAll_cons hA
  obtain ⟨v1, vs1, d1, ds1, p1, q1, rfl, rfl, rfl, h1, r1⟩ := trodAll_cons r0
  obtain ⟨rfl, rfl, rfl⟩ := trodAll_nil r1
  obtain rfl : args = #[v0, v1] := by cases args; simp_all
  obtain ⟨rfl, rfl⟩ := trodVars_none hV
  obtain ⟨a0, len0, cap0, rfl⟩ := okWide_slice Tryd.underlying35 (hval 0 35 v0 rfl rfl)
  have k0 := h0
  have lt0 : ∀ x ∈ p0, x.block < W.heap.size := by obtain ⟨m, hm⟩ := k0; exact DataW.trod_lt m _ _ _ hm
  obtain ⟨z0, w0⟩ : ∃ zs, Wk.IsRow .i64 W a0 len0 cap0 zs := by
    obtain ⟨fuel, hf⟩ := h0
    rcases open_ints Tryd.underlying35 Tryd.underlying3 (by kernel_rfl) hf with ⟨hcs, _⟩ | ⟨x, l, c, zs, hcs, _, hl, hm, hz, _, hcell, hwz⟩
    · simp [Value.cells] at hcs
      obtain ⟨rfl, rfl, rfl⟩ := hcs
      exact ⟨[], .inl ⟨rfl, rfl, rfl, rfl⟩⟩
    · simp [Value.cells] at hcs
      obtain ⟨rfl, rfl, rfl⟩ := hcs
      exact ⟨zs, .inr ⟨_, rfl, hl, hm, by simpa using hz, hcell, hwz⟩⟩
  obtain ⟨a1, rfl, rfl, rfl, w1⟩ := open_int Tryd.underlying3 (hval 1 3 v1 rfl rfl) h1
  clear hA0 hval0
  have hasc := Lib.laidMet.reads hL (.tail _ (.head _))
  have htab : Tr.SpTab W := Tr.spTab_of hasc
  refine (Wk.serialParts a0 len0 cap0 z0 a1 W w0 w1 htab).mono fun e W' ⟨he, bel⟩ => ?_
  subst he
  exact ⟨_, rfl, _, _, _, [], _, [], hW', trodAll_mk1 (shut_bool Tryd.underlying4 _), (trodAll_cons_mk (Below.trod laidOut (by kernel_rfl) (of_decide_eq_true (by kernel_rfl)) k0 bel lt0) (trodAll_cons_mk (shut_int Tryd.underlying3 w1) trodAll_mk0)), rfl, bel.frame _, fun h => by cases h⟩

theorem over : Rows.serialPartsRow.holds Tryd.pinned (OpenSpec.ofChange Rows.serialPartsSpec) :=
  OpenClaim.holds_of_cond 5 Tryd.f5 rfl rfl rfl rfl rfl rfl rfl ⟨rfl, rfl, rfl, rfl, rfl⟩ rfl rfl rfl rfl rfl (by kernel_rfl) Tryd.func5 (by kernel_rfl)
    (of_decide_eq_true (by kernel_rfl)) (by unfold Func.isWrapper; first | (rw [if_pos (by decide +kernel)]; kernel_rfl) | (rw [if_neg (by decide +kernel)]; exact ⟨rfl, rfl⟩))
    (fun os started H enc _ F0 => by rw [OpenClaim.pre_eq_preRow]; exact lifted os started H enc F0)

/-- The statement: the tied card. -/
theorem proved : Rows.SerialPartsCardSaid :=
  Claim7.holds_tied_plain_at .later [] [.listed, .data] true (true, "52c361231bdaa7ad325eee02c74076a7a2dce633ac7df8937aeb38b00aa885ad") true
    over (fun _ h => by cases h) (by kernel_rfl) (fun _ h => by cases h) serialParts_row_tie rfl ⟨rfl, rfl⟩ (by kernel_rfl) rfl
    (fun f fn hf hfn => by
      obtain rfl : f = 5 := Option.some.inj ((show Tryd.prog.funcNamed "topiary/topiarylaw16.SerialParts" = some 5 by kernel_rfl).symm.trans hf) |>.symm
      obtain rfl : fn = Tryd.f5 := (Option.some.inj (Tryd.func5.symm.trans hfn)).symm
      refine ⟨by kernel_rfl, fun j t ht => ?_⟩
      rw [Tryd.params5] at ht
      rcases j with _ | _ | j
      · obtain rfl : t = 35 := by simpa using ht.symm
        exact (show Tryd.prog.wantsStandIn 35 = false by kernel_rfl)
      · obtain rfl : t = 3 := by simpa using ht.symm
        exact (show Tryd.prog.wantsStandIn 3 = false by kernel_rfl)
      · simp at ht)
    (by kernel_rfl)
#print axioms proved
end Go.Proofs.YtbjcahhijfommaaDoor.serialParts
