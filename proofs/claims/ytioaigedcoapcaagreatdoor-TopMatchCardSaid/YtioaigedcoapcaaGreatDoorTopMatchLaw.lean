/- The law TopMatch: for every input the call returns true, and each argument reads behind the call as it read before. Its row lists seven variables, tied to the program's text by the given tie. No other condition. -/
import Derived.Test.YtioaigedcoapcaaGreatDoorRows
import Derived.Test.YtioaigedcoapcaaGreatDoorTie
import Derived.Test.YtioaigedcoapcaaGreatDoorCards
import Derived.SevenTiedAt
import Derived.Test.YtioaigedcoapcaaGreatDoorTopFacts
import Derived.Test.YtioaigedcoapcaaGreatDoorTopLift
namespace Go.Proofs.YtioaigedcoapcaaGreatDoor.topMatch
open Go
set_option maxHeartbeats 20000000 in
/-- The statement: the tied card. -/
theorem proved : Rows.TopMatchCardSaid :=
  Claim7.holds_tied_plain_at .later [] [.data, .data, .data, .data, .listed, .data, .pinned] true (true, "502e7c87a2c1829fd6bf248b6250d95c1d22cbe66b430699627a56792a999b62") true
    over (fun _ h => by cases h) (by kernel_rfl) (fun _ h => by cases h) topMatch_row_tie rfl ⟨rfl, rfl⟩ (by kernel_rfl) rfl
    (fun f fn hf hfn => by
      obtain rfl : f = 3 := Option.some.inj ((show Tryz.prog.funcNamed "topiary/topiarytop.TopMatch" = some 3 by kernel_rfl).symm.trans hf) |>.symm
      obtain rfl : fn = Tryz.f3 := (Option.some.inj (Tryz.func3.symm.trans hfn)).symm
      refine ⟨by kernel_rfl, fun j t ht => ?_⟩
      rw [Tryz.params3] at ht
      rcases j with _ | _ | j
      · obtain rfl : t = 3 := by simpa using ht.symm
        exact (show Tryz.prog.wantsStandIn 3 = false by kernel_rfl)
      · obtain rfl : t = 3 := by simpa using ht.symm
        exact (show Tryz.prog.wantsStandIn 3 = false by kernel_rfl)
      · simp at ht)
    (Ax.goesBy_none rfl goesNot).symm
#print axioms proved
end Go.Proofs.YtioaigedcoapcaaGreatDoor.topMatch
