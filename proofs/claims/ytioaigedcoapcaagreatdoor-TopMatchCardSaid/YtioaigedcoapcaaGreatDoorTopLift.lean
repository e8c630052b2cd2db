/- topiarytop.TopMatch: all its cases. -/
import Derived.Test.YtioaigedcoapcaaGreatDoorAxGl
import Derived.Test.YtioaigedcoapcaaGreatDoorAxW1
import Derived.Test.YtioaigedcoapcaaGreatDoorAxW2
import Derived.Test.YtioaigedcoapcaaGreatDoorAxW3
import Derived.Test.YtioaigedcoapcaaGreatDoorAxW4
import Derived.Test.YtioaigedcoapcaaGreatDoorAxW5
import Derived.Test.YtioaigedcoapcaaGreatDoorAxW6
import Derived.Test.YtioaigedcoapcaaGreatDoorAxW7
import Derived.Test.YtioaigedcoapcaaGreatDoorRows
import Derived.WalkKit
import Derived.ProofKit
import Derived.OpenShut
import Derived.ChangeOld
import Derived.Below
import Derived.Lib.LaidIn
import Derived.Lib.LaidU8T
import Derived.PinnedBridge
import Derived.Deep.DeepHandedRow
import Derived.Deep.DeepWitnessRowRef
import Derived.SizedLaws
import Derived.SevenTiedAt
import Derived.Lib.LaidTab
import Derived.Lib.LaidU8
import Derived.Test.YtioaigedcoapcaaGreatDoorTopFacts
namespace Go.Ax
open Go Go.Proofs
theorem cases_ok (n g : Int) : Cases n g where
  s1 k h0 h1 := by
    rcases (by omega : k = 0 ∨ k = 1 ∨ k = 2 ∨ k = 3 ∨ k = 4 ∨ k = 5) with rfl | rfl | rfl | rfl | rfl | rfl
    · exact s1_0 n g
    · exact s1_1 n g
    · exact s1_2 n g
    · exact s1_3 n g
    · exact s1_4 n g
    · exact s1_5 n g
  s5 k h0 h1 := by
    rcases (by omega : k = 0 ∨ k = 1 ∨ k = 2 ∨ k = 3 ∨ k = 4 ∨ k = 5) with rfl | rfl | rfl | rfl | rfl | rfl
    · exact s5_0 n g
    · exact s5_1 n g
    · exact s5_2 n g
    · exact s5_3 n g
    · exact s5_4 n g
    · exact s5_5 n g
  fin k q h0 h1 h2 h3 := by
    rcases (by omega : k = 0 ∨ k = 1 ∨ k = 2 ∨ k = 3 ∨ k = 4 ∨ k = 5) with rfl | rfl | rfl | rfl | rfl | rfl
    · rcases (by omega : q = 0 ∨ q = 1) with rfl | rfl
      · exact case_0_0 n g
      · exact case_0_1 n g
    · rcases (by omega : q = 0 ∨ q = 1 ∨ q = 2) with rfl | rfl | rfl
      · exact case_1_0 n g
      · exact case_1_1 n g
      · exact case_1_2 n g
    · rcases (by omega : q = 0 ∨ q = 1 ∨ q = 2 ∨ q = 3) with rfl | rfl | rfl | rfl
      · exact case_2_0 n g
      · exact case_2_1 n g
      · exact case_2_2 n g
      · exact case_2_3 n g
    · rcases (by omega : q = 0 ∨ q = 1 ∨ q = 2 ∨ q = 3 ∨ q = 4) with rfl | rfl | rfl | rfl | rfl
      · exact case_3_0 n g
      · exact case_3_1 n g
      · exact case_3_2 n g
      · exact case_3_3 n g
      · exact case_3_4 n g
    · rcases (by omega : q = 0 ∨ q = 1 ∨ q = 2 ∨ q = 3 ∨ q = 4 ∨ q = 5) with rfl | rfl | rfl | rfl | rfl | rfl
      · exact case_4_0 n g
      · exact case_4_1 n g
      · exact case_4_2 n g
      · exact case_4_3 n g
      · exact case_4_4 n g
      · exact case_4_5 n g
    · rcases (by omega : q = 0 ∨ q = 1 ∨ q = 2 ∨ q = 3 ∨ q = 4 ∨ q = 5 ∨ q = 6) with rfl | rfl | rfl | rfl | rfl | rfl | rfl
      · exact case_5_0 n g
      · exact case_5_1 n g
      · exact case_5_2 n g
      · exact case_5_3 n g
      · exact case_5_4 n g
      · exact case_5_5 n g
      · exact case_5_6 n g
end Go.Ax
namespace Go.Proofs.YtioaigedcoapcaaGreatDoor.topMatch
open Go Go.Shelf Go.ChangeShapes Go.WideShapes Go.ChangeAt Go.RowKit Go.Lib
set_option linter.unusedVariables false

theorem own : ownKnob Tryz.prog.godebug = none := by kernel_rfl
theorem laidOut : laidOutB Tryz.prog = true := by kernel_rfl
mutual
noncomputable def valsOf : DataW Unit → List Value
  | .lit (.int k n) => [.int k n]
  | .agg l => valsAll l
  | _ => []
noncomputable def valsAll : List (DataW Unit) → List Value
  | [] => []
  | x :: l => valsOf x ++ valsAll l
end
/-- The witness: the settled world, the seven variables holding what their initialisers lay. -/
noncomputable def laidWorld (os : Os) : World :=
  let N := (World.settled Tryz.prog os).heap.size
  let w0 := World.holding Tryz.prog os ⟨#[.cells (Lib.whiteT.map fun (z : Nat) => Value.int .u16 (z : Int)).toArray 465, .cells #[.slice (some ⟨N, 0, none⟩) 7 7, .slice none 0 0, .int .i64 2] 462], #[], []⟩
  let put (h : Array Obj) (g : Nat) (cs : Array Value) : Array Obj := h.modify g fun
    | .cells _ t frozen => .cells cs t frozen
    | o => o
  let h1 := put w0.heap 6 (valsOf Rows.laid_math_bits_deBruijn32tab).toArray
  let h2 := put h1 7 (valsOf Rows.laid_math_bits_deBruijn64tab).toArray
  let h3 := put h2 5 (valsOf Rows.laid_internal_strconv_uint64pow10).toArray
  let h4 := put h3 2 (valsOf Rows.laid_unicode_utf8_acceptRanges).toArray
  let h5 := put h4 4 #[.pointer (some ⟨N + 1, 0, none⟩)]
  let h6 := put h5 3 (valsOf Rows.laid_strings_asciiSpace).toArray
  let h7 := put h6 1 (Lib.firstTab.map fun z => Value.int .u8 z).toArray
  { w0 with heap := h7 }
set_option maxHeartbeats 20000000 in
theorem laid_met (os : Os) (args : Array Value) : laidMet Tryz.prog Rows.topMatchRow.laid ((laidWorld os).forCall (fun _ _ => 0) ⟨#[], args, []⟩).memory :=
  (LaidIn.of_run (l := [("math/bits.deBruijn32tab", Rows.laid_math_bits_deBruijn32tab), ("math/bits.deBruijn64tab", Rows.laid_math_bits_deBruijn64tab), ("internal/strconv.uint64pow10", Rows.laid_internal_strconv_uint64pow10), ("unicode/utf8.acceptRanges", Rows.laid_unicode_utf8_acceptRanges), ("unicode.White_Space", Rows.laid_unicode_White_Space), ("strings.asciiSpace", Rows.laid_strings_asciiSpace), ("unicode/utf8.first", Rows.laid_unicode_utf8_first)])
    [6, 7, 5, 2, 4, 3, 1, (World.settled Tryz.prog default).heap.size, (World.settled Tryz.prog default).heap.size + 1] 10 (by kernel_rfl) (by kernel_rfl) (by kernel_rfl) (by kernel_rfl)).met

set_option maxHeartbeats 20000000 in
theorem witness_row (os : Os) {H : Type} (enc : TypeId × Value → H) :
    (OpenSpec.ofChange Rows.topMatchSpec).preRow enc Tryz.prog Tryz.f3 Rows.topMatchRow.domain false Rows.topMatchRow.laid ((laidWorld os).forCall (fun _ _ => 0) ⟨#[], #[.int .i64 0, .int .i64 0], []⟩).memory #[.int .i64 0, .int .i64 0] := by
  have hw : (DataW.whole enc Tryz.prog ((laidWorld os).forCall (fun _ _ => 0) ⟨#[], #[.int .i64 0, .int .i64 0], []⟩).memory Tryz.f3.params.toList (OpenSpec.ofChange Rows.topMatchSpec).vars false (#[.int .i64 0, .int .i64 0] : Array Value).toList 8).map (fun x => (x.1, x.2.1)) =
      some ([.lit (.int .i64 0), .lit (.int .i64 0)], []) := by kernel_rfl
  obtain ⟨⟨x1, x2, x3⟩, hx, hx1⟩ := Option.map_eq_some_iff.1 hw
  simp only [Prod.mk.injEq] at hx1
  obtain ⟨rfl, rfl⟩ := hx1
  exact OpenSpec.preRow_of_cond 8 hx (by kernel_rfl) (fun k hk => by cases hk) (by kernel_rfl) (laid_met os _)

theorem vl_ints (f : Nat → Int) : ∀ l : List Nat, Ax.VL Ax.phiT (l.map fun c => .int .u8 (f c)) (l.map fun c => Value.int .u8 (f c))
  | [] => rfl
  | _ :: l => ⟨_, _, rfl, rfl, vl_ints f l⟩
set_option maxHeartbeats 20000000 in
theorem tab_ok {W : World} (h : Lib.VarReads Tryz.prog W "strings.asciiSpace" (Lib.tabData .u8 Lib.asciiSpaceTab)) : ∃ c fr ty, W.heap[3]? = some (.cells c ty fr) ∧ Ax.VL Ax.phiT Ax.tabL c.toList := by
  obtain ⟨g, t, cs, fuel, p, h1, h2, h3, h4⟩ := h
  have hg : Tryz.prog.globalNamed "strings.asciiSpace" = some 3 := by kernel_rfl
  obtain rfl := Option.some.inj (hg.symm.trans h1)
  have ht : (Tryz.prog.globals[3]?).map (·.type) = some 341 := by kernel_rfl
  obtain rfl := Option.some.inj (ht.symm.trans h2)
  have hc := Lib.cells_of_tab Tryz.underlying341 Tryz.underlying5 (by kernel_rfl) (by kernel_rfl) h4
  unfold World.var? at h3
  rw [hg, Option.bind_some] at h3
  split at h3
  · rename_i cs' ty fr he
    cases h3
    refine ⟨_, _, _, he, ?_⟩
    rw [hc]
    unfold Lib.asciiSpaceTab Ax.tabL
    rw [List.map_map]
    exact vl_ints _ _
  · cases h3
set_option maxHeartbeats 20000000 in
theorem size9 {W : World} (h : W.ShapedOpen Tryz.prog) : 9 ≤ W.heap.size := by
  have hs : (((begin Tryz.prog (fun _ _ => 0) default).world.heap[8]?).bind Obj.row?).isSome = true := by kernel_rfl
  obtain ⟨⟨zero, t⟩, hz⟩ := Option.isSome_iff_exists.1 hs
  obtain ⟨cs, hc, _⟩ := h.1 8 zero t (of_decide_eq_true (by kernel_rfl)) hz
  have := (Array.getElem?_eq_some_iff.1 hc).1
  omega

set_option maxRecDepth 100000 in
set_option maxHeartbeats 2000000 in
theorem lifted (os : Os) (started : os.Started) (H : Type) (enc : TypeId × Value → H) (F : Stop.Interp) :
    ReturnsInHanded {} Tryz.checked os 3 .any ((OpenSpec.ofChange Rows.topMatchSpec).preRow enc Tryz.prog Tryz.f3 Rows.topMatchRow.domain false Rows.topMatchRow.laid) (((OpenSpec.ofChange Rows.topMatchSpec).at F).post enc Tryz.prog Tryz.f3 false true false false) := by
  refine returnsInHanded_of_row (C := Tryz.checked) (s := OpenSpec.ofChange Rows.topMatchSpec) own started (by kernel_rfl) Tryz.func3
    (witness_row_atRef (enc := enc) (C := Tryz.checked) false (laidWorld os) #[.int .i64 0, .int .i64 0] rfl (by kernel_rfl) (by kernel_rfl) (by kernel_rfl) (witness_row os enc)) ?_
  intro W base args ds gs before hval0 hW _ _ _ hL hSh _
  have hval : ∀ (j : Nat) t v, Tryz.f3.params[j]? = some t → args[j]? = some v → Value.okWide Tryz.prog W .any base t v := hval0
  have hW' := hW
  obtain ⟨p, q, hA0, hV, rfl, _, _⟩ := hW
  have hA : DataW.TrodAll enc Tryz.prog W 0 (fun _ => true) true Tryz.f3.params.toList args.toList ds p := hA0
  rw [Tryz.params3] at hA hval
  obtain ⟨v0, vs0, d0, ds0, p0, q0, hargs, rfl, rfl, h0, r0⟩ := trodAll_cons hA
  obtain ⟨v1, vs1, d1, ds1, p1, q1, hargs1, rfl, rfl, h1, r1⟩ := trodAll_cons r0
  obtain ⟨rfl, rfl, rfl⟩ := trodAll_nil r1
  obtain rfl : args = #[v0, v1] := by cases args; simp_all
  obtain ⟨rfl, rfl⟩ := trodVars_none hV
  obtain ⟨a0, rfl, rfl, rfl, w0⟩ := open_int Tryz.underlying3 (hval 0 3 v0 rfl rfl) h0
  obtain ⟨a1, rfl, rfl, rfl, w1⟩ := open_int Tryz.underlying3 (hval 1 3 v1 rfl rfl) h1
  clear hA0 hval0
  simp only [List.append_nil] at hW'
  have hasc := Lib.laidMet.reads hL (.tail _ (.tail _ (.tail _ (.tail _ (.tail _ (.head _))))))
  have hR := Ax.relT (size9 hSh) (tab_ok hasc)
  refine (callsIn_wide.1 (Ax.top_calls (Ax.cases_ok a0 a1) hR 0)).mono fun e W' he => ?_
  cases e with
  | returned v =>
    obtain ⟨rfl, bel⟩ := he
    exact ⟨_, rfl, _, _, _, [], _, [], hW', trodAll_mk1 (shut_bool Tryz.underlying4 _), (trodAll_cons_mk (shut_int Tryz.underlying3 w0) (trodAll_cons_mk (shut_int Tryz.underlying3 w1) trodAll_mk0)), rfl, bel.frame _, fun h => by cases h⟩
  | _ => exact he.elim

set_option maxHeartbeats 20000000 in
theorem over : Rows.topMatchRow.holds Tryz.pinned (OpenSpec.ofChange Rows.topMatchSpec) :=
  OpenClaim.holds_of_cond 3 Tryz.f3 rfl rfl rfl rfl rfl rfl rfl ⟨rfl, rfl, rfl, rfl, rfl⟩ rfl rfl rfl rfl rfl (by kernel_rfl) Tryz.func3 closed
    (of_decide_eq_true (by kernel_rfl)) (by unfold Func.isWrapper; first | (rw [if_pos (by decide +kernel)]; kernel_rfl) | (rw [if_neg (by decide +kernel)]; exact ⟨rfl, rfl⟩))
    (fun os started H enc _ F0 => by rw [OpenClaim.pre_eq_preRow]; exact lifted os started H enc F0)
end Go.Proofs.YtioaigedcoapcaaGreatDoor.topMatch
