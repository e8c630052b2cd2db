/- Place: a number turned to one below n. -/
import Derived.Test.YtbjcahhijfommaaDoorProg
import Derived.WalkKit
namespace Go.Proofs.YtbjcahhijfommaaDoor.Ct
open Go Go.RowKit

theorem place_calls (v n : Int) (h0 : 0 < n) (h1 : n ≤ 4611686018427387904) (w : World) :
    Calls Tryd.prog 12 #[.int .i64 v, .int .i64 n] w fun e w' => (∃ k : Nat, (k : Int) < n ∧ e = .returned (.int .i64 k)) ∧ w = w' := by
  have b1 := Int.tmod_lt_of_pos v h0
  have b0 : -n < v.tmod n := by
    have := Int.lt_tmod_of_pos v h0
    omega
  have hn : ¬ n = 0 := by omega
  have hn1 : (n == 0) = false := by rw [beq_eq_false_iff_ne]; omega
  rcases Int.lt_or_le (v.tmod n) 0 with h | h
  · go_enter Tryd.func12, Tryd.ntmps12
    go_wp2
    go_ret
    exact ⟨⟨(v.tmod n + n).toNat, by omega, congrArg (fun x => Ending.returned (.int .i64 x)) (by omega)⟩, rfl⟩
  · go_enter Tryd.func12, Tryd.ntmps12
    go_wp2
    go_ret
    exact ⟨⟨(v.tmod n).toNat, by omega, congrArg (fun x => Ending.returned (.int .i64 x)) (by omega)⟩, rfl⟩
end Go.Proofs.YtbjcahhijfommaaDoor.Ct
