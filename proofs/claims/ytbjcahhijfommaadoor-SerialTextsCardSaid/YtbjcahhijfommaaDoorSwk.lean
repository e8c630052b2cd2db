/- serial: the statements' own example. -/
import Derived.Test.YtbjcahhijfommaaDoorSerT
import Derived.Test.YtbjcahhijfommaaDoorPk
namespace Go.Proofs.YtbjcahhijfommaaDoor.Tr
open Go Go.RowKit
set_option linter.unusedVariables false
def brT : Nd := .mk 2 ⟨#[98, 114]⟩ ⟨#[]⟩ [] []
def ltT : Nd := .mk 3 ⟨#[]⟩ ⟨#[60]⟩ [] []
theorem br_say : (⟨(sayT false brT).toArray⟩ : ByteArray) = ⟨#[60, 98, 114, 62]⟩ := by kernel_rfl
theorem lt_say : (⟨(sayT false ltT).toArray⟩ : ByteArray) = ⟨#[38, 108, 116, 59]⟩ := by kernel_rfl
theorem br_fit : fitT brT := by unfold brT fitT; simp [fitL]; decide
theorem lt_fit : fitT ltT := by unfold ltT fitT; simp [fitL]; decide
/-- serial.Text, wherever the table of blanks lies below. -/
theorem textB (t : Nd) (hf : fitT t) (hc : cntT t ≤ 1000000) (v0 v1 v2 v3 v4 : Value) (w W : World) (hT : SpTab w) (hb : Below w.heap.size w W) (h : IsTree W W.heap.size t v0 v1 v2 v3 v4) :
    Calls Tryd.prog 10 #[.agg #[v0, v1, v2, v3, v4]] W fun e w' => e = .returned (.string ⟨(sayT false t).toArray⟩) ∧ Below W.heap.size W w' :=
  text_calls t hf hc _ _ _ _ _ W (Nat.lt_of_lt_of_le hT.lt hb.size) (hT.below hb hT.lt) h
theorem awake16 (w : World) (hT : SpTab w) : Calls Tryd.prog 8 #[] w fun e w' => e = .returned (.bool true) ∧ Below w.heap.size w w' := by
  have H1 : Hid (∀ W, Below w.heap.size w W → Calls Tryd.prog 10 #[.agg #[.int .i64 2, .string ⟨#[98, 114]⟩, .string ⟨#[]⟩, .slice none 0 0, .slice none 0 0]] W fun e w' => e = .returned (.string ⟨#[60, 98, 114, 62]⟩) ∧ Below W.heap.size W w') := Lib.hid fun W hb => by
    have := textB brT br_fit (by decide) _ _ _ _ _ w W hT hb (isTree_leaf (by decide) (by decide) (by decide))
    rwa [br_say] at this
  have H2 : Hid (∀ W, Below w.heap.size w W → Calls Tryd.prog 10 #[.agg #[.int .i64 3, .string ⟨#[]⟩, .string ⟨#[60]⟩, .slice none 0 0, .slice none 0 0]] W fun e w' => e = .returned (.string ⟨#[38, 108, 116, 59]⟩) ∧ Below W.heap.size W w') := Lib.hid fun W hb => by
    have := textB ltT lt_fit (by decide) _ _ _ _ _ w W hT hb (isTree_leaf (by decide) (by decide) (by decide))
    rwa [lt_say] at this
  clear hT
  go_enter Tryd.func8, Tryd.ntmps8
  go_wp2_with fail
  refine (H1.out w (Below.refl _ _)).mono ?_
  rintro e w2 ⟨rfl, hb2⟩
  have HB2 := Lib.hid hb2
  clear hb2
  go_wp2_with fail
  refine (H2.out w2 HB2.out).mono ?_
  rintro e w3 ⟨rfl, hb3⟩
  have HB3 := Lib.hid (HB2.out.trans (hb3.mono HB2.out.size))
  clear hb3
  go_wp2_with fail
  go_ret
  exact ⟨rfl, HB3.out⟩
end Go.Proofs.YtbjcahhijfommaaDoor.Tr
