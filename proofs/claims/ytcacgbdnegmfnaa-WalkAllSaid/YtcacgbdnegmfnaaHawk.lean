/- The statement's own example of hashes. -/
import Derived.Test.YtcacgbdnegmfnaaROf
namespace Go.Proofs.Ytcacgbdnegmfnaa.Ha
open Go Go.RowKit Go.Proofs.Ytcacgbdnegmfnaa.Pl Go.Proofs.Ytcacgbdnegmfnaa.Tr Go.Proofs.Ytcacgbdnegmfnaa.Wk
set_option linter.unusedVariables false
def leafA : Nd := .mk 3 ⟨#[]⟩ ⟨#[97]⟩ [] []
def leafB : Nd := .mk 3 ⟨#[]⟩ ⟨#[98]⟩ [] []
theorem unlike_ab : (un (treeH leafA) != un (treeH leafB)) = true := by kernel_rfl
theorem text_none : un (textH ⟨#[]⟩) = 0 := by kernel_rfl
theorem regrown_ok {w : World} {d : Nat} {os : Array Obj} : Below w.heap.size w (Go.Sort.grow (redrawn w d) os) := below_regrown w d os
set_option maxRecDepth 100000 in
theorem hawake_calls (w : World) : Calls Try.prog 26 #[] w fun e w' => e = .returned (.bool true) ∧ Below w.heap.size w w' := by
  have HU := unlike_ab
  have HT0 := Lib.hid text_none
  have HLA : Hid (∀ W : World, IsTree W W.heap.size leafA (.int .i64 3) (.string ⟨#[]⟩) (.string ⟨#[97]⟩) (.slice none 0 0) (.slice none 0 0)) := Lib.hid fun W => isTree_leaf (by decide) (by decide) (by decide)
  have HLB : Hid (∀ W : World, IsTree W W.heap.size leafB (.int .i64 3) (.string ⟨#[]⟩) (.string ⟨#[98]⟩) (.slice none 0 0) (.slice none 0 0)) := Lib.hid fun W => isTree_leaf (by decide) (by decide) (by decide)
  have HOA : Hid (∀ W : World, Calls Try.prog 28 #[.agg #[.int .i64 3, .string ⟨#[]⟩, .string ⟨#[97]⟩, .slice none 0 0, .slice none 0 0]] W fun e w' => e = .returned (.int .u64 (un (treeH leafA))) ∧ Below W.heap.size W w') := Lib.hid fun W => of_calls leafA _ _ _ _ _ W (HLA.out W) (by decide) (by simp [leafA, attT, attL]) (okT_sh 0 0 (-1) 0 0 _ (by simp [leafA, okT, okL]; decide))
  have HOB : Hid (∀ W : World, Calls Try.prog 28 #[.agg #[.int .i64 3, .string ⟨#[]⟩, .string ⟨#[98]⟩, .slice none 0 0, .slice none 0 0]] W fun e w' => e = .returned (.int .u64 (un (treeH leafB))) ∧ Below W.heap.size W w') := Lib.hid fun W => of_calls leafB _ _ _ _ _ W (HLB.out W) (by decide) (by simp [leafB, attT, attL]) (okT_sh 0 0 (-1) 0 0 _ (by simp [leafB, okT, okL]; decide))
  have HRA : Hid (∀ W : World, Calls Try.prog 33 #[.agg #[.int .i64 3, .string ⟨#[]⟩, .string ⟨#[97]⟩, .slice none 0 0, .slice none 0 0]] W fun e w' => e = .returned (.int .u64 (un (treeH leafA))) ∧ Below W.heap.size W w') := Lib.hid fun W => rOf_calls 1 leafA _ _ _ _ _ 0 W (by decide) (by simp [leafA, okT, okL]; decide) (HLA.out W)
  have HTX : Hid (∀ W : World, Calls Try.prog 31 #[.string ⟨#[]⟩] W fun e w' => e = .returned (.int .u64 0) ∧ Below W.heap.size W w') := Lib.hid fun W => (text_calls ⟨#[]⟩ (by decide) W).mono fun e w' ⟨h1, h2⟩ => ⟨by rw [h1, HT0.out], h2⟩
  generalize un (treeH leafA) = ha at *
  generalize un (treeH leafB) = hb at *
  go_enter Try.func26, Try.ntmps26
  go_wp2_with fail
  have hW := two_boxes w (.int .i64 3) (.string ⟨#[]⟩) (.string ⟨#[97]⟩) (.slice none 0 0) (.slice none 0 0) (.int .i64 3) (.string ⟨#[]⟩) (.string ⟨#[98]⟩) (.slice none 0 0) (.slice none 0 0)
  generalize (w.alloc (.cells #[.int .i64 3, .string ⟨#[]⟩, .string ⟨#[97]⟩, .slice none 0 0, .slice none 0 0] 25)).alloc (.cells #[.int .i64 3, .string ⟨#[]⟩, .string ⟨#[98]⟩, .slice none 0 0, .slice none 0 0] 25) = w2 at hW ⊢
  have HW := Lib.hid hW.bel
  have a0 := cell_regrown hW.a0
  have a1 := cell_regrown hW.a1
  have a2 := cell_regrown hW.a2
  have a3 := cell_regrown hW.a3
  have a4 := cell_regrown hW.a4
  have b0 := cell_regrown hW.b0
  have b1 := cell_regrown hW.b1
  have b2 := cell_regrown hW.b2
  have b3 := cell_regrown hW.b3
  have b4 := cell_regrown hW.b4
  clear hW
  refine wp_region_quiet_below mixed (by kernel_rfl) ?_
  repeat (go_big_quiet_step (first
    | (go_at_call 31; exact Calls.regrown_of (HTX.out _))
    | (go_at_call 28; exact Calls.regrown_of (HOA.out _))
    | (go_at_call 28; exact Calls.regrown_of (HOB.out _))
    | (go_at_call 33; exact Calls.regrown_of (HRA.out _))))
  refine wpQuiet_nil ?_
  rintro w3 ⟨g, hg⟩
  have HB3 : Hid (Below w.heap.size w w3) := Lib.hid (HW.out.trans ((hg ▸ below_regrown w2 g.d g.os : Below w2.heap.size w2 w3).mono HW.out.size))
  clear hg
  go_wp2_with fail
  go_ret
  exact ⟨rfl, HB3.out⟩
end Go.Proofs.Ytcacgbdnegmfnaa.Ha
