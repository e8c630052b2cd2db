/- The laws of package bits, walked: each returns true, whatever it is given. -/
import Derived.Test.YtmnfhbkkogajoaaCalls2
import Derived.BigQuiet
namespace Go.Proofs.Ytmnfhbkkogajoaa.Wk
open Go Go.RowKit Go.Proofs.Ytmnfhbkkogajoaa.Pl Go.Proofs.Ytmnfhbkkogajoaa.Ct

theorem un_of {a : Int} (h : (Lit.int .u64 a).wf = true) : ∃ x, a = un x := by
  have := bounds_u64 h
  exact ⟨bv a, (un_bv (by omega) (by omega)).symm⟩

/-! ### awake -/
theorem turn_aw (w : World) : Calls Try.prog 13 #[.int .u64 1, .int .i64 (-1)] w fun e w' => e = .returned (.int .u64 9223372036854775808) ∧ w = w' :=
  (turn_calls 1 1#64 un_1 (-1) w).mono fun e w' ⟨h, hw⟩ => ⟨by rw [h, show turn 1#64 (-1) = 0x8000000000000000#64 from by rw [turn_is]; decide]; exact ret_int un_top, hw⟩
theorem signed_aw (w : World) : Calls Try.prog 11 #[.int .u64 255, .int .i64 8] w fun e w' => e = .returned (.int .i64 (-1)) ∧ w = w' :=
  (signed_calls 255 255#64 un_255 8 w).mono fun e w' ⟨h, hw⟩ => ⟨by rw [h, show signed 255#64 8 = 0xffffffffffffffff#64 from by rw [signed_is]; decide]; exact ret_int sg_m1, hw⟩
theorem awake_calls (w : World) : Calls Try.prog 12 #[] w fun e w' => e = .returned (.bool true) ∧ w = w' := by
  go_enter Try.func12, Try.ntmps12
  go_wp2_with (first | (go_at_call 13; refine (turn_aw _).mono ?_; rintro e w' ⟨rfl, rfl⟩) | (go_at_call 11; refine (signed_aw _).mono ?_; rintro e w' ⟨rfl, rfl⟩) | (go_at_call 14; refine (join_calls 1 2 (by decide) (by decide) (by decide) (by decide) _).mono ?_; rintro e w' ⟨rfl, rfl⟩))
  go_ret
  exact ⟨rfl, rfl⟩

/-! ### BitsMixes -/
theorem bitsMixes (a0 a1 a2 : Int) (w0 : (Lit.int .u64 a0).wf = true) (w1 : (Lit.int .u64 a1).wf = true) (w2 : (Lit.int .u64 a2).wf = true) (w : World) :
    Calls Try.prog 7 #[.int .u64 a0, .int .u64 a1, .int .u64 a2] w fun e w' => e = .returned (.bool true) ∧ Below w.heap.size w w' := by
  obtain ⟨h, rfl⟩ := un_of w0
  obtain ⟨v, rfl⟩ := un_of w1
  obtain ⟨x, rfl⟩ := un_of w2
  clear w0 w1 w2
  have e1 := mix_same h v x
  have e2 := mix_same' h v x
  have e3 : (un (mix h v) == un (mix v h)) = true := by rw [mix_comm h v]; exact beq_self_eq_true _
  go_enter Try.func7, Try.ntmps7
  go_wp2_with (first | (go_at_call 17; refine (mix_calls _ _ _ _ rfl rfl _).mono ?_; rintro e w' ⟨rfl, rfl⟩) | (go_at_call 12; refine (awake_calls _).mono ?_; rintro e w' ⟨rfl, rfl⟩))
  go_ret
  exact ⟨rfl, Below.refl _ _⟩
end Go.Proofs.Ytmnfhbkkogajoaa.Wk
