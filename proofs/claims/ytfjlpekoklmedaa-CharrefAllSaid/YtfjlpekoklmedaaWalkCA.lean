/- CharrefAll, walked. -/
import Derived.Test.YtfjlpekoklmedaaAwc
namespace Go.Proofs.Ytfjlpekoklmedaa.Wk
open Go Go.RowKit Go.Proofs.Ytfjlpekoklmedaa.Ch Go.Proofs.Ytfjlpekoklmedaa.Gr
set_option linter.unusedVariables false
set_option maxRecDepth 100000

set_option maxHeartbeats 2000000 in
theorem charrefAll (s : ByteArray) (a : Int) (attr : Bool) (w0 : s.size ≤ maxLen) (w1 : (Lit.int .i64 a).wf = true) (w : World) :
    Calls Try.prog 8 #[.string s, .int .i64 a, .bool attr] w fun e w' => e = .returned (.bool true) ∧ Below w.heap.size w w' := by
  have b := bounds_i64 w1
  clear w1
  obtain ⟨b0, b1⟩ := b
  by_cases hl : 3000 < s.size
  · go_enter Try.func8, Try.ntmps8
    go_wp2_with fail
    refine (cawake_calls _).mono ?_
    rintro e w1 ⟨rfl, hb⟩
    go_wp2_with fail
    go_ret
    exact ⟨rfl, hb⟩
  · obtain ⟨⟨t, n⟩, hR⟩ : ∃ r, refI s a attr = r := ⟨_, rfl⟩
    have RA := fun w => ref_all s (by omega) a b0 b1 attr w
    have RB := fun w => rref_all s (by omega) a b0 b1 attr w
    unfold RefEnd at RA RB
    rw [hR] at RA RB
    have RA := Lib.hid RA
    have RB := Lib.hid RB
    have DA := Lib.hid (decode_calls s (by omega) attr)
    have DB := Lib.hid (rdecode_calls s (by omega) attr)
    have EA := Lib.hid (escape_calls s attr (by omega))
    have EB := Lib.hid (rescape_calls s (by omega) attr)
    clear hR
    go_enter Try.func8, Try.ntmps8
    go_wp2_with fail
    refine (RA.out _).mono ?_
    rintro e w1 ⟨rfl, hb⟩
    have HB1 := Lib.hid hb
    clear hb
    go_wp2_with fail
    refine (RB.out _).mono ?_
    rintro e w2 ⟨rfl, hb⟩
    have HB2 := Lib.hid (HB1.out.trans (hb.mono HB1.out.size))
    clear hb
    go_wp2_with fail
    refine (DA.out _).mono ?_
    rintro e w3 ⟨rfl, hb⟩
    have HB3 := Lib.hid (HB2.out.trans (hb.mono HB2.out.size))
    clear hb
    go_wp2_with fail
    refine (DB.out _).mono ?_
    rintro e w4 ⟨rfl, hb⟩
    have HB4 := Lib.hid (HB3.out.trans (hb.mono HB3.out.size))
    clear hb
    go_wp2_with fail
    refine (EA.out _).mono ?_
    rintro e w5 ⟨rfl, hb⟩
    have HB5 := Lib.hid (HB4.out.trans (hb.mono HB4.out.size))
    clear hb
    go_wp2_with fail
    refine (EB.out _).mono ?_
    rintro e w6 ⟨rfl, rfl⟩
    go_wp2_with fail
    refine (cawake_calls _).mono ?_
    rintro e w7 ⟨rfl, hb⟩
    have HB7 := Lib.hid (HB5.out.trans (hb.mono HB5.out.size))
    clear hb
    go_wp2_with fail
    go_ret
    exact ⟨rfl, HB7.out⟩
end Go.Proofs.Ytfjlpekoklmedaa.Wk
