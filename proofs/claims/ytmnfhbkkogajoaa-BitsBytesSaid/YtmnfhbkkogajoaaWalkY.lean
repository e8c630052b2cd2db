/- The law BitsBytes, walked: a theorem for each of the eight places. -/
import Derived.Test.YtmnfhbkkogajoaaByt
import Derived.Lib.QuietBelow
import Derived.BigQuiet
namespace Go.Proofs.Ytmnfhbkkogajoaa.Wk
open Go Go.RowKit Go.Proofs.Ytmnfhbkkogajoaa.Pl Go.Proofs.Ytmnfhbkkogajoaa.Ct

theorem mixed : Try.prog.follows .mixedOrders = true := by kernel_rfl
theorem awake_below (w : World) : Calls Try.prog 12 #[] w fun e w' => e = .returned (.bool true) ∧ Below w.heap.size w w' :=
  (awake_calls w).mono fun _ _ ⟨h, hw⟩ => ⟨h, hw ▸ Below.refl _ _⟩
theorem bytesAt0 (x b : BitVec 64) (hb : un b ≤ 255) (a1 : Int) (ha : a1 % 8 = 0) (b1 : -9223372036854775808 ≤ a1 ∧ a1 ≤ 9223372036854775807) (w : World) :
    Calls Try.prog 8 #[.int .u64 (un x), .int .i64 a1, .int .u8 (un b)] w fun e w' => e = .returned (.bool true) ∧ Below w.heap.size w w' := by
  have hb0 := un_nonneg b
  have HA : Hid _ := Lib.hid ha
  clear ha
  go_enter Try.func8, Try.ntmps8
  go_wp2_with fail
  refine (bytes_byt x _).mono ?_
  rintro e w1 ⟨rfl, hb1⟩
  go_wp2_with fail
  refine (place_calls _ 8 (by decide) (by decide) (by omega) (by omega) _).mono ?_
  rintro e w2 ⟨rfl, rfl⟩
  rw [HA.out]
  have e0 := (byt_same x b hb 0 (by decide)).symm
  have e1 := (byt_other x b hb 0 1 (by decide)).symm
  have e2 := (byt_other x b hb 0 2 (by decide)).symm
  have e3 := (byt_other x b hb 0 3 (by decide)).symm
  have e4 := (byt_other x b hb 0 4 (by decide)).symm
  have e5 := (byt_other x b hb 0 5 (by decide)).symm
  have e6 := (byt_other x b hb 0 6 (by decide)).symm
  have e7 := (byt_other x b hb 0 7 (by decide)).symm
  have f : bits .xor .u64 (un x) (un b) = un (turnB x b 0) := (show un b * 2 ^ (8 * 0) = un b from by omega) ▸ turnB_un x b hb 0 (by decide)
  go_wp2_with fail
  refine (of_byt (turnB x b 0) _).mono ?_
  rintro e w3 ⟨rfl, hb3⟩
  have hbel : Below w.heap.size w w3 := ((hb1.alloc hb1.size _).alloc (Nat.le_trans hb1.size (by simp)) _).trans (hb3.mono (Nat.le_trans hb1.size (by simp; omega)))
  have p0 := cell_regrown ((hb3.cell (p := ⟨w1.heap.size, 0, none⟩) (by simp; omega)).trans (show _ = some (.int .u8 (byt x 0)) by go_cell))
  have q0 := cell_regrown ((hb3.cell (p := ⟨w1.heap.size + 1, 0, none⟩) (by simp)).trans (show _ = some (.int .u8 (byt (turnB x b 0) 0)) by go_cell))
  have p1 := cell_regrown ((hb3.cell (p := ⟨w1.heap.size, 1, none⟩) (by simp; omega)).trans (show _ = some (.int .u8 (byt x 1)) by rw [e1]; go_cell))
  have q1 := cell_regrown ((hb3.cell (p := ⟨w1.heap.size + 1, 1, none⟩) (by simp)).trans (show _ = some (.int .u8 (byt (turnB x b 0) 1)) by go_cell))
  have p2 := cell_regrown ((hb3.cell (p := ⟨w1.heap.size, 2, none⟩) (by simp; omega)).trans (show _ = some (.int .u8 (byt x 2)) by rw [e2]; go_cell))
  have q2 := cell_regrown ((hb3.cell (p := ⟨w1.heap.size + 1, 2, none⟩) (by simp)).trans (show _ = some (.int .u8 (byt (turnB x b 0) 2)) by go_cell))
  have p3 := cell_regrown ((hb3.cell (p := ⟨w1.heap.size, 3, none⟩) (by simp; omega)).trans (show _ = some (.int .u8 (byt x 3)) by rw [e3]; go_cell))
  have q3 := cell_regrown ((hb3.cell (p := ⟨w1.heap.size + 1, 3, none⟩) (by simp)).trans (show _ = some (.int .u8 (byt (turnB x b 0) 3)) by go_cell))
  have p4 := cell_regrown ((hb3.cell (p := ⟨w1.heap.size, 4, none⟩) (by simp; omega)).trans (show _ = some (.int .u8 (byt x 4)) by rw [e4]; go_cell))
  have q4 := cell_regrown ((hb3.cell (p := ⟨w1.heap.size + 1, 4, none⟩) (by simp)).trans (show _ = some (.int .u8 (byt (turnB x b 0) 4)) by go_cell))
  have p5 := cell_regrown ((hb3.cell (p := ⟨w1.heap.size, 5, none⟩) (by simp; omega)).trans (show _ = some (.int .u8 (byt x 5)) by rw [e5]; go_cell))
  have q5 := cell_regrown ((hb3.cell (p := ⟨w1.heap.size + 1, 5, none⟩) (by simp)).trans (show _ = some (.int .u8 (byt (turnB x b 0) 5)) by go_cell))
  have p6 := cell_regrown ((hb3.cell (p := ⟨w1.heap.size, 6, none⟩) (by simp; omega)).trans (show _ = some (.int .u8 (byt x 6)) by rw [e6]; go_cell))
  have q6 := cell_regrown ((hb3.cell (p := ⟨w1.heap.size + 1, 6, none⟩) (by simp)).trans (show _ = some (.int .u8 (byt (turnB x b 0) 6)) by go_cell))
  have p7 := cell_regrown ((hb3.cell (p := ⟨w1.heap.size, 7, none⟩) (by simp; omega)).trans (show _ = some (.int .u8 (byt x 7)) by rw [e7]; go_cell))
  have q7 := cell_regrown ((hb3.cell (p := ⟨w1.heap.size + 1, 7, none⟩) (by simp)).trans (show _ = some (.int .u8 (byt (turnB x b 0) 7)) by go_cell))
  clear hb3
  have hq := eql8
  go_wp2_with fail
  refine wp_region_quiet_below mixed (by kernel_rfl) ?_
  repeat (first | go_big_quiet_step (first | (go_at_call 18; exact Calls.regrown_of (bytes_byt _ _)) | (go_at_call 12; exact Calls.regrown_of (awake_below _))) | quiet_step (first | (go_at_call 18; exact Calls.regrown_of (bytes_byt _ _)) | (go_at_call 12; exact Calls.regrown_of (awake_below _))))
  refine wpQuiet_nil ?_
  rintro w4 ⟨g, rfl⟩
  go_wp2
  go_ret
  exact ⟨rfl, hbel.trans ((below_regrown _ _ _).mono hbel.size)⟩
theorem bytesAt1 (x b : BitVec 64) (hb : un b ≤ 255) (a1 : Int) (ha : a1 % 8 = 1) (b1 : -9223372036854775808 ≤ a1 ∧ a1 ≤ 9223372036854775807) (w : World) :
    Calls Try.prog 8 #[.int .u64 (un x), .int .i64 a1, .int .u8 (un b)] w fun e w' => e = .returned (.bool true) ∧ Below w.heap.size w w' := by
  have hb0 := un_nonneg b
  have HA : Hid _ := Lib.hid ha
  clear ha
  go_enter Try.func8, Try.ntmps8
  go_wp2_with fail
  refine (bytes_byt x _).mono ?_
  rintro e w1 ⟨rfl, hb1⟩
  go_wp2_with fail
  refine (place_calls _ 8 (by decide) (by decide) (by omega) (by omega) _).mono ?_
  rintro e w2 ⟨rfl, rfl⟩
  rw [HA.out]
  have e0 := (byt_other x b hb 1 0 (by decide)).symm
  have e1 := (byt_same x b hb 1 (by decide)).symm
  have e2 := (byt_other x b hb 1 2 (by decide)).symm
  have e3 := (byt_other x b hb 1 3 (by decide)).symm
  have e4 := (byt_other x b hb 1 4 (by decide)).symm
  have e5 := (byt_other x b hb 1 5 (by decide)).symm
  have e6 := (byt_other x b hb 1 6 (by decide)).symm
  have e7 := (byt_other x b hb 1 7 (by decide)).symm
  have f : bits .xor .u64 (un x) (un b * 256) = un (turnB x b 1) := turnB_un x b hb 1 (by decide)
  go_wp2_with fail
  refine (of_byt (turnB x b 1) _).mono ?_
  rintro e w3 ⟨rfl, hb3⟩
  have hbel : Below w.heap.size w w3 := ((hb1.alloc hb1.size _).alloc (Nat.le_trans hb1.size (by simp)) _).trans (hb3.mono (Nat.le_trans hb1.size (by simp; omega)))
  have p0 := cell_regrown ((hb3.cell (p := ⟨w1.heap.size, 0, none⟩) (by simp; omega)).trans (show _ = some (.int .u8 (byt x 0)) by rw [e0]; go_cell))
  have q0 := cell_regrown ((hb3.cell (p := ⟨w1.heap.size + 1, 0, none⟩) (by simp)).trans (show _ = some (.int .u8 (byt (turnB x b 1) 0)) by go_cell))
  have p1 := cell_regrown ((hb3.cell (p := ⟨w1.heap.size, 1, none⟩) (by simp; omega)).trans (show _ = some (.int .u8 (byt x 1)) by go_cell))
  have q1 := cell_regrown ((hb3.cell (p := ⟨w1.heap.size + 1, 1, none⟩) (by simp)).trans (show _ = some (.int .u8 (byt (turnB x b 1) 1)) by go_cell))
  have p2 := cell_regrown ((hb3.cell (p := ⟨w1.heap.size, 2, none⟩) (by simp; omega)).trans (show _ = some (.int .u8 (byt x 2)) by rw [e2]; go_cell))
  have q2 := cell_regrown ((hb3.cell (p := ⟨w1.heap.size + 1, 2, none⟩) (by simp)).trans (show _ = some (.int .u8 (byt (turnB x b 1) 2)) by go_cell))
  have p3 := cell_regrown ((hb3.cell (p := ⟨w1.heap.size, 3, none⟩) (by simp; omega)).trans (show _ = some (.int .u8 (byt x 3)) by rw [e3]; go_cell))
  have q3 := cell_regrown ((hb3.cell (p := ⟨w1.heap.size + 1, 3, none⟩) (by simp)).trans (show _ = some (.int .u8 (byt (turnB x b 1) 3)) by go_cell))
  have p4 := cell_regrown ((hb3.cell (p := ⟨w1.heap.size, 4, none⟩) (by simp; omega)).trans (show _ = some (.int .u8 (byt x 4)) by rw [e4]; go_cell))
  have q4 := cell_regrown ((hb3.cell (p := ⟨w1.heap.size + 1, 4, none⟩) (by simp)).trans (show _ = some (.int .u8 (byt (turnB x b 1) 4)) by go_cell))
  have p5 := cell_regrown ((hb3.cell (p := ⟨w1.heap.size, 5, none⟩) (by simp; omega)).trans (show _ = some (.int .u8 (byt x 5)) by rw [e5]; go_cell))
  have q5 := cell_regrown ((hb3.cell (p := ⟨w1.heap.size + 1, 5, none⟩) (by simp)).trans (show _ = some (.int .u8 (byt (turnB x b 1) 5)) by go_cell))
  have p6 := cell_regrown ((hb3.cell (p := ⟨w1.heap.size, 6, none⟩) (by simp; omega)).trans (show _ = some (.int .u8 (byt x 6)) by rw [e6]; go_cell))
  have q6 := cell_regrown ((hb3.cell (p := ⟨w1.heap.size + 1, 6, none⟩) (by simp)).trans (show _ = some (.int .u8 (byt (turnB x b 1) 6)) by go_cell))
  have p7 := cell_regrown ((hb3.cell (p := ⟨w1.heap.size, 7, none⟩) (by simp; omega)).trans (show _ = some (.int .u8 (byt x 7)) by rw [e7]; go_cell))
  have q7 := cell_regrown ((hb3.cell (p := ⟨w1.heap.size + 1, 7, none⟩) (by simp)).trans (show _ = some (.int .u8 (byt (turnB x b 1) 7)) by go_cell))
  clear hb3
  have hq := eql8
  go_wp2_with fail
  refine wp_region_quiet_below mixed (by kernel_rfl) ?_
  repeat (first | go_big_quiet_step (first | (go_at_call 18; exact Calls.regrown_of (bytes_byt _ _)) | (go_at_call 12; exact Calls.regrown_of (awake_below _))) | quiet_step (first | (go_at_call 18; exact Calls.regrown_of (bytes_byt _ _)) | (go_at_call 12; exact Calls.regrown_of (awake_below _))))
  refine wpQuiet_nil ?_
  rintro w4 ⟨g, rfl⟩
  go_wp2
  go_ret
  exact ⟨rfl, hbel.trans ((below_regrown _ _ _).mono hbel.size)⟩
theorem bytesAt2 (x b : BitVec 64) (hb : un b ≤ 255) (a1 : Int) (ha : a1 % 8 = 2) (b1 : -9223372036854775808 ≤ a1 ∧ a1 ≤ 9223372036854775807) (w : World) :
    Calls Try.prog 8 #[.int .u64 (un x), .int .i64 a1, .int .u8 (un b)] w fun e w' => e = .returned (.bool true) ∧ Below w.heap.size w w' := by
  have hb0 := un_nonneg b
  have HA : Hid _ := Lib.hid ha
  clear ha
  go_enter Try.func8, Try.ntmps8
  go_wp2_with fail
  refine (bytes_byt x _).mono ?_
  rintro e w1 ⟨rfl, hb1⟩
  go_wp2_with fail
  refine (place_calls _ 8 (by decide) (by decide) (by omega) (by omega) _).mono ?_
  rintro e w2 ⟨rfl, rfl⟩
  rw [HA.out]
  have e0 := (byt_other x b hb 2 0 (by decide)).symm
  have e1 := (byt_other x b hb 2 1 (by decide)).symm
  have e2 := (byt_same x b hb 2 (by decide)).symm
  have e3 := (byt_other x b hb 2 3 (by decide)).symm
  have e4 := (byt_other x b hb 2 4 (by decide)).symm
  have e5 := (byt_other x b hb 2 5 (by decide)).symm
  have e6 := (byt_other x b hb 2 6 (by decide)).symm
  have e7 := (byt_other x b hb 2 7 (by decide)).symm
  have f : bits .xor .u64 (un x) (un b * 65536) = un (turnB x b 2) := turnB_un x b hb 2 (by decide)
  go_wp2_with fail
  refine (of_byt (turnB x b 2) _).mono ?_
  rintro e w3 ⟨rfl, hb3⟩
  have hbel : Below w.heap.size w w3 := ((hb1.alloc hb1.size _).alloc (Nat.le_trans hb1.size (by simp)) _).trans (hb3.mono (Nat.le_trans hb1.size (by simp; omega)))
  have p0 := cell_regrown ((hb3.cell (p := ⟨w1.heap.size, 0, none⟩) (by simp; omega)).trans (show _ = some (.int .u8 (byt x 0)) by rw [e0]; go_cell))
  have q0 := cell_regrown ((hb3.cell (p := ⟨w1.heap.size + 1, 0, none⟩) (by simp)).trans (show _ = some (.int .u8 (byt (turnB x b 2) 0)) by go_cell))
  have p1 := cell_regrown ((hb3.cell (p := ⟨w1.heap.size, 1, none⟩) (by simp; omega)).trans (show _ = some (.int .u8 (byt x 1)) by rw [e1]; go_cell))
  have q1 := cell_regrown ((hb3.cell (p := ⟨w1.heap.size + 1, 1, none⟩) (by simp)).trans (show _ = some (.int .u8 (byt (turnB x b 2) 1)) by go_cell))
  have p2 := cell_regrown ((hb3.cell (p := ⟨w1.heap.size, 2, none⟩) (by simp; omega)).trans (show _ = some (.int .u8 (byt x 2)) by go_cell))
  have q2 := cell_regrown ((hb3.cell (p := ⟨w1.heap.size + 1, 2, none⟩) (by simp)).trans (show _ = some (.int .u8 (byt (turnB x b 2) 2)) by go_cell))
  have p3 := cell_regrown ((hb3.cell (p := ⟨w1.heap.size, 3, none⟩) (by simp; omega)).trans (show _ = some (.int .u8 (byt x 3)) by rw [e3]; go_cell))
  have q3 := cell_regrown ((hb3.cell (p := ⟨w1.heap.size + 1, 3, none⟩) (by simp)).trans (show _ = some (.int .u8 (byt (turnB x b 2) 3)) by go_cell))
  have p4 := cell_regrown ((hb3.cell (p := ⟨w1.heap.size, 4, none⟩) (by simp; omega)).trans (show _ = some (.int .u8 (byt x 4)) by rw [e4]; go_cell))
  have q4 := cell_regrown ((hb3.cell (p := ⟨w1.heap.size + 1, 4, none⟩) (by simp)).trans (show _ = some (.int .u8 (byt (turnB x b 2) 4)) by go_cell))
  have p5 := cell_regrown ((hb3.cell (p := ⟨w1.heap.size, 5, none⟩) (by simp; omega)).trans (show _ = some (.int .u8 (byt x 5)) by rw [e5]; go_cell))
  have q5 := cell_regrown ((hb3.cell (p := ⟨w1.heap.size + 1, 5, none⟩) (by simp)).trans (show _ = some (.int .u8 (byt (turnB x b 2) 5)) by go_cell))
  have p6 := cell_regrown ((hb3.cell (p := ⟨w1.heap.size, 6, none⟩) (by simp; omega)).trans (show _ = some (.int .u8 (byt x 6)) by rw [e6]; go_cell))
  have q6 := cell_regrown ((hb3.cell (p := ⟨w1.heap.size + 1, 6, none⟩) (by simp)).trans (show _ = some (.int .u8 (byt (turnB x b 2) 6)) by go_cell))
  have p7 := cell_regrown ((hb3.cell (p := ⟨w1.heap.size, 7, none⟩) (by simp; omega)).trans (show _ = some (.int .u8 (byt x 7)) by rw [e7]; go_cell))
  have q7 := cell_regrown ((hb3.cell (p := ⟨w1.heap.size + 1, 7, none⟩) (by simp)).trans (show _ = some (.int .u8 (byt (turnB x b 2) 7)) by go_cell))
  clear hb3
  have hq := eql8
  go_wp2_with fail
  refine wp_region_quiet_below mixed (by kernel_rfl) ?_
  repeat (first | go_big_quiet_step (first | (go_at_call 18; exact Calls.regrown_of (bytes_byt _ _)) | (go_at_call 12; exact Calls.regrown_of (awake_below _))) | quiet_step (first | (go_at_call 18; exact Calls.regrown_of (bytes_byt _ _)) | (go_at_call 12; exact Calls.regrown_of (awake_below _))))
  refine wpQuiet_nil ?_
  rintro w4 ⟨g, rfl⟩
  go_wp2
  go_ret
  exact ⟨rfl, hbel.trans ((below_regrown _ _ _).mono hbel.size)⟩
theorem bytesAt3 (x b : BitVec 64) (hb : un b ≤ 255) (a1 : Int) (ha : a1 % 8 = 3) (b1 : -9223372036854775808 ≤ a1 ∧ a1 ≤ 9223372036854775807) (w : World) :
    Calls Try.prog 8 #[.int .u64 (un x), .int .i64 a1, .int .u8 (un b)] w fun e w' => e = .returned (.bool true) ∧ Below w.heap.size w w' := by
  have hb0 := un_nonneg b
  have HA : Hid _ := Lib.hid ha
  clear ha
  go_enter Try.func8, Try.ntmps8
  go_wp2_with fail
  refine (bytes_byt x _).mono ?_
  rintro e w1 ⟨rfl, hb1⟩
  go_wp2_with fail
  refine (place_calls _ 8 (by decide) (by decide) (by omega) (by omega) _).mono ?_
  rintro e w2 ⟨rfl, rfl⟩
  rw [HA.out]
  have e0 := (byt_other x b hb 3 0 (by decide)).symm
  have e1 := (byt_other x b hb 3 1 (by decide)).symm
  have e2 := (byt_other x b hb 3 2 (by decide)).symm
  have e3 := (byt_same x b hb 3 (by decide)).symm
  have e4 := (byt_other x b hb 3 4 (by decide)).symm
  have e5 := (byt_other x b hb 3 5 (by decide)).symm
  have e6 := (byt_other x b hb 3 6 (by decide)).symm
  have e7 := (byt_other x b hb 3 7 (by decide)).symm
  have f : bits .xor .u64 (un x) (un b * 16777216) = un (turnB x b 3) := turnB_un x b hb 3 (by decide)
  go_wp2_with fail
  refine (of_byt (turnB x b 3) _).mono ?_
  rintro e w3 ⟨rfl, hb3⟩
  have hbel : Below w.heap.size w w3 := ((hb1.alloc hb1.size _).alloc (Nat.le_trans hb1.size (by simp)) _).trans (hb3.mono (Nat.le_trans hb1.size (by simp; omega)))
  have p0 := cell_regrown ((hb3.cell (p := ⟨w1.heap.size, 0, none⟩) (by simp; omega)).trans (show _ = some (.int .u8 (byt x 0)) by rw [e0]; go_cell))
  have q0 := cell_regrown ((hb3.cell (p := ⟨w1.heap.size + 1, 0, none⟩) (by simp)).trans (show _ = some (.int .u8 (byt (turnB x b 3) 0)) by go_cell))
  have p1 := cell_regrown ((hb3.cell (p := ⟨w1.heap.size, 1, none⟩) (by simp; omega)).trans (show _ = some (.int .u8 (byt x 1)) by rw [e1]; go_cell))
  have q1 := cell_regrown ((hb3.cell (p := ⟨w1.heap.size + 1, 1, none⟩) (by simp)).trans (show _ = some (.int .u8 (byt (turnB x b 3) 1)) by go_cell))
  have p2 := cell_regrown ((hb3.cell (p := ⟨w1.heap.size, 2, none⟩) (by simp; omega)).trans (show _ = some (.int .u8 (byt x 2)) by rw [e2]; go_cell))
  have q2 := cell_regrown ((hb3.cell (p := ⟨w1.heap.size + 1, 2, none⟩) (by simp)).trans (show _ = some (.int .u8 (byt (turnB x b 3) 2)) by go_cell))
  have p3 := cell_regrown ((hb3.cell (p := ⟨w1.heap.size, 3, none⟩) (by simp; omega)).trans (show _ = some (.int .u8 (byt x 3)) by go_cell))
  have q3 := cell_regrown ((hb3.cell (p := ⟨w1.heap.size + 1, 3, none⟩) (by simp)).trans (show _ = some (.int .u8 (byt (turnB x b 3) 3)) by go_cell))
  have p4 := cell_regrown ((hb3.cell (p := ⟨w1.heap.size, 4, none⟩) (by simp; omega)).trans (show _ = some (.int .u8 (byt x 4)) by rw [e4]; go_cell))
  have q4 := cell_regrown ((hb3.cell (p := ⟨w1.heap.size + 1, 4, none⟩) (by simp)).trans (show _ = some (.int .u8 (byt (turnB x b 3) 4)) by go_cell))
  have p5 := cell_regrown ((hb3.cell (p := ⟨w1.heap.size, 5, none⟩) (by simp; omega)).trans (show _ = some (.int .u8 (byt x 5)) by rw [e5]; go_cell))
  have q5 := cell_regrown ((hb3.cell (p := ⟨w1.heap.size + 1, 5, none⟩) (by simp)).trans (show _ = some (.int .u8 (byt (turnB x b 3) 5)) by go_cell))
  have p6 := cell_regrown ((hb3.cell (p := ⟨w1.heap.size, 6, none⟩) (by simp; omega)).trans (show _ = some (.int .u8 (byt x 6)) by rw [e6]; go_cell))
  have q6 := cell_regrown ((hb3.cell (p := ⟨w1.heap.size + 1, 6, none⟩) (by simp)).trans (show _ = some (.int .u8 (byt (turnB x b 3) 6)) by go_cell))
  have p7 := cell_regrown ((hb3.cell (p := ⟨w1.heap.size, 7, none⟩) (by simp; omega)).trans (show _ = some (.int .u8 (byt x 7)) by rw [e7]; go_cell))
  have q7 := cell_regrown ((hb3.cell (p := ⟨w1.heap.size + 1, 7, none⟩) (by simp)).trans (show _ = some (.int .u8 (byt (turnB x b 3) 7)) by go_cell))
  clear hb3
  have hq := eql8
  go_wp2_with fail
  refine wp_region_quiet_below mixed (by kernel_rfl) ?_
  repeat (first | go_big_quiet_step (first | (go_at_call 18; exact Calls.regrown_of (bytes_byt _ _)) | (go_at_call 12; exact Calls.regrown_of (awake_below _))) | quiet_step (first | (go_at_call 18; exact Calls.regrown_of (bytes_byt _ _)) | (go_at_call 12; exact Calls.regrown_of (awake_below _))))
  refine wpQuiet_nil ?_
  rintro w4 ⟨g, rfl⟩
  go_wp2
  go_ret
  exact ⟨rfl, hbel.trans ((below_regrown _ _ _).mono hbel.size)⟩
theorem bytesAt4 (x b : BitVec 64) (hb : un b ≤ 255) (a1 : Int) (ha : a1 % 8 = 4) (b1 : -9223372036854775808 ≤ a1 ∧ a1 ≤ 9223372036854775807) (w : World) :
    Calls Try.prog 8 #[.int .u64 (un x), .int .i64 a1, .int .u8 (un b)] w fun e w' => e = .returned (.bool true) ∧ Below w.heap.size w w' := by
  have hb0 := un_nonneg b
  have HA : Hid _ := Lib.hid ha
  clear ha
  go_enter Try.func8, Try.ntmps8
  go_wp2_with fail
  refine (bytes_byt x _).mono ?_
  rintro e w1 ⟨rfl, hb1⟩
  go_wp2_with fail
  refine (place_calls _ 8 (by decide) (by decide) (by omega) (by omega) _).mono ?_
  rintro e w2 ⟨rfl, rfl⟩
  rw [HA.out]
  have e0 := (byt_other x b hb 4 0 (by decide)).symm
  have e1 := (byt_other x b hb 4 1 (by decide)).symm
  have e2 := (byt_other x b hb 4 2 (by decide)).symm
  have e3 := (byt_other x b hb 4 3 (by decide)).symm
  have e4 := (byt_same x b hb 4 (by decide)).symm
  have e5 := (byt_other x b hb 4 5 (by decide)).symm
  have e6 := (byt_other x b hb 4 6 (by decide)).symm
  have e7 := (byt_other x b hb 4 7 (by decide)).symm
  have f : bits .xor .u64 (un x) (un b * 4294967296) = un (turnB x b 4) := turnB_un x b hb 4 (by decide)
  go_wp2_with fail
  refine (of_byt (turnB x b 4) _).mono ?_
  rintro e w3 ⟨rfl, hb3⟩
  have hbel : Below w.heap.size w w3 := ((hb1.alloc hb1.size _).alloc (Nat.le_trans hb1.size (by simp)) _).trans (hb3.mono (Nat.le_trans hb1.size (by simp; omega)))
  have p0 := cell_regrown ((hb3.cell (p := ⟨w1.heap.size, 0, none⟩) (by simp; omega)).trans (show _ = some (.int .u8 (byt x 0)) by rw [e0]; go_cell))
  have q0 := cell_regrown ((hb3.cell (p := ⟨w1.heap.size + 1, 0, none⟩) (by simp)).trans (show _ = some (.int .u8 (byt (turnB x b 4) 0)) by go_cell))
  have p1 := cell_regrown ((hb3.cell (p := ⟨w1.heap.size, 1, none⟩) (by simp; omega)).trans (show _ = some (.int .u8 (byt x 1)) by rw [e1]; go_cell))
  have q1 := cell_regrown ((hb3.cell (p := ⟨w1.heap.size + 1, 1, none⟩) (by simp)).trans (show _ = some (.int .u8 (byt (turnB x b 4) 1)) by go_cell))
  have p2 := cell_regrown ((hb3.cell (p := ⟨w1.heap.size, 2, none⟩) (by simp; omega)).trans (show _ = some (.int .u8 (byt x 2)) by rw [e2]; go_cell))
  have q2 := cell_regrown ((hb3.cell (p := ⟨w1.heap.size + 1, 2, none⟩) (by simp)).trans (show _ = some (.int .u8 (byt (turnB x b 4) 2)) by go_cell))
  have p3 := cell_regrown ((hb3.cell (p := ⟨w1.heap.size, 3, none⟩) (by simp; omega)).trans (show _ = some (.int .u8 (byt x 3)) by rw [e3]; go_cell))
  have q3 := cell_regrown ((hb3.cell (p := ⟨w1.heap.size + 1, 3, none⟩) (by simp)).trans (show _ = some (.int .u8 (byt (turnB x b 4) 3)) by go_cell))
  have p4 := cell_regrown ((hb3.cell (p := ⟨w1.heap.size, 4, none⟩) (by simp; omega)).trans (show _ = some (.int .u8 (byt x 4)) by go_cell))
  have q4 := cell_regrown ((hb3.cell (p := ⟨w1.heap.size + 1, 4, none⟩) (by simp)).trans (show _ = some (.int .u8 (byt (turnB x b 4) 4)) by go_cell))
  have p5 := cell_regrown ((hb3.cell (p := ⟨w1.heap.size, 5, none⟩) (by simp; omega)).trans (show _ = some (.int .u8 (byt x 5)) by rw [e5]; go_cell))
  have q5 := cell_regrown ((hb3.cell (p := ⟨w1.heap.size + 1, 5, none⟩) (by simp)).trans (show _ = some (.int .u8 (byt (turnB x b 4) 5)) by go_cell))
  have p6 := cell_regrown ((hb3.cell (p := ⟨w1.heap.size, 6, none⟩) (by simp; omega)).trans (show _ = some (.int .u8 (byt x 6)) by rw [e6]; go_cell))
  have q6 := cell_regrown ((hb3.cell (p := ⟨w1.heap.size + 1, 6, none⟩) (by simp)).trans (show _ = some (.int .u8 (byt (turnB x b 4) 6)) by go_cell))
  have p7 := cell_regrown ((hb3.cell (p := ⟨w1.heap.size, 7, none⟩) (by simp; omega)).trans (show _ = some (.int .u8 (byt x 7)) by rw [e7]; go_cell))
  have q7 := cell_regrown ((hb3.cell (p := ⟨w1.heap.size + 1, 7, none⟩) (by simp)).trans (show _ = some (.int .u8 (byt (turnB x b 4) 7)) by go_cell))
  clear hb3
  have hq := eql8
  go_wp2_with fail
  refine wp_region_quiet_below mixed (by kernel_rfl) ?_
  repeat (first | go_big_quiet_step (first | (go_at_call 18; exact Calls.regrown_of (bytes_byt _ _)) | (go_at_call 12; exact Calls.regrown_of (awake_below _))) | quiet_step (first | (go_at_call 18; exact Calls.regrown_of (bytes_byt _ _)) | (go_at_call 12; exact Calls.regrown_of (awake_below _))))
  refine wpQuiet_nil ?_
  rintro w4 ⟨g, rfl⟩
  go_wp2
  go_ret
  exact ⟨rfl, hbel.trans ((below_regrown _ _ _).mono hbel.size)⟩
theorem bytesAt5 (x b : BitVec 64) (hb : un b ≤ 255) (a1 : Int) (ha : a1 % 8 = 5) (b1 : -9223372036854775808 ≤ a1 ∧ a1 ≤ 9223372036854775807) (w : World) :
    Calls Try.prog 8 #[.int .u64 (un x), .int .i64 a1, .int .u8 (un b)] w fun e w' => e = .returned (.bool true) ∧ Below w.heap.size w w' := by
  have hb0 := un_nonneg b
  have HA : Hid _ := Lib.hid ha
  clear ha
  go_enter Try.func8, Try.ntmps8
  go_wp2_with fail
  refine (bytes_byt x _).mono ?_
  rintro e w1 ⟨rfl, hb1⟩
  go_wp2_with fail
  refine (place_calls _ 8 (by decide) (by decide) (by omega) (by omega) _).mono ?_
  rintro e w2 ⟨rfl, rfl⟩
  rw [HA.out]
  have e0 := (byt_other x b hb 5 0 (by decide)).symm
  have e1 := (byt_other x b hb 5 1 (by decide)).symm
  have e2 := (byt_other x b hb 5 2 (by decide)).symm
  have e3 := (byt_other x b hb 5 3 (by decide)).symm
  have e4 := (byt_other x b hb 5 4 (by decide)).symm
  have e5 := (byt_same x b hb 5 (by decide)).symm
  have e6 := (byt_other x b hb 5 6 (by decide)).symm
  have e7 := (byt_other x b hb 5 7 (by decide)).symm
  have f : bits .xor .u64 (un x) (un b * 1099511627776) = un (turnB x b 5) := turnB_un x b hb 5 (by decide)
  go_wp2_with fail
  refine (of_byt (turnB x b 5) _).mono ?_
  rintro e w3 ⟨rfl, hb3⟩
  have hbel : Below w.heap.size w w3 := ((hb1.alloc hb1.size _).alloc (Nat.le_trans hb1.size (by simp)) _).trans (hb3.mono (Nat.le_trans hb1.size (by simp; omega)))
  have p0 := cell_regrown ((hb3.cell (p := ⟨w1.heap.size, 0, none⟩) (by simp; omega)).trans (show _ = some (.int .u8 (byt x 0)) by rw [e0]; go_cell))
  have q0 := cell_regrown ((hb3.cell (p := ⟨w1.heap.size + 1, 0, none⟩) (by simp)).trans (show _ = some (.int .u8 (byt (turnB x b 5) 0)) by go_cell))
  have p1 := cell_regrown ((hb3.cell (p := ⟨w1.heap.size, 1, none⟩) (by simp; omega)).trans (show _ = some (.int .u8 (byt x 1)) by rw [e1]; go_cell))
  have q1 := cell_regrown ((hb3.cell (p := ⟨w1.heap.size + 1, 1, none⟩) (by simp)).trans (show _ = some (.int .u8 (byt (turnB x b 5) 1)) by go_cell))
  have p2 := cell_regrown ((hb3.cell (p := ⟨w1.heap.size, 2, none⟩) (by simp; omega)).trans (show _ = some (.int .u8 (byt x 2)) by rw [e2]; go_cell))
  have q2 := cell_regrown ((hb3.cell (p := ⟨w1.heap.size + 1, 2, none⟩) (by simp)).trans (show _ = some (.int .u8 (byt (turnB x b 5) 2)) by go_cell))
  have p3 := cell_regrown ((hb3.cell (p := ⟨w1.heap.size, 3, none⟩) (by simp; omega)).trans (show _ = some (.int .u8 (byt x 3)) by rw [e3]; go_cell))
  have q3 := cell_regrown ((hb3.cell (p := ⟨w1.heap.size + 1, 3, none⟩) (by simp)).trans (show _ = some (.int .u8 (byt (turnB x b 5) 3)) by go_cell))
  have p4 := cell_regrown ((hb3.cell (p := ⟨w1.heap.size, 4, none⟩) (by simp; omega)).trans (show _ = some (.int .u8 (byt x 4)) by rw [e4]; go_cell))
  have q4 := cell_regrown ((hb3.cell (p := ⟨w1.heap.size + 1, 4, none⟩) (by simp)).trans (show _ = some (.int .u8 (byt (turnB x b 5) 4)) by go_cell))
  have p5 := cell_regrown ((hb3.cell (p := ⟨w1.heap.size, 5, none⟩) (by simp; omega)).trans (show _ = some (.int .u8 (byt x 5)) by go_cell))
  have q5 := cell_regrown ((hb3.cell (p := ⟨w1.heap.size + 1, 5, none⟩) (by simp)).trans (show _ = some (.int .u8 (byt (turnB x b 5) 5)) by go_cell))
  have p6 := cell_regrown ((hb3.cell (p := ⟨w1.heap.size, 6, none⟩) (by simp; omega)).trans (show _ = some (.int .u8 (byt x 6)) by rw [e6]; go_cell))
  have q6 := cell_regrown ((hb3.cell (p := ⟨w1.heap.size + 1, 6, none⟩) (by simp)).trans (show _ = some (.int .u8 (byt (turnB x b 5) 6)) by go_cell))
  have p7 := cell_regrown ((hb3.cell (p := ⟨w1.heap.size, 7, none⟩) (by simp; omega)).trans (show _ = some (.int .u8 (byt x 7)) by rw [e7]; go_cell))
  have q7 := cell_regrown ((hb3.cell (p := ⟨w1.heap.size + 1, 7, none⟩) (by simp)).trans (show _ = some (.int .u8 (byt (turnB x b 5) 7)) by go_cell))
  clear hb3
  have hq := eql8
  go_wp2_with fail
  refine wp_region_quiet_below mixed (by kernel_rfl) ?_
  repeat (first | go_big_quiet_step (first | (go_at_call 18; exact Calls.regrown_of (bytes_byt _ _)) | (go_at_call 12; exact Calls.regrown_of (awake_below _))) | quiet_step (first | (go_at_call 18; exact Calls.regrown_of (bytes_byt _ _)) | (go_at_call 12; exact Calls.regrown_of (awake_below _))))
  refine wpQuiet_nil ?_
  rintro w4 ⟨g, rfl⟩
  go_wp2
  go_ret
  exact ⟨rfl, hbel.trans ((below_regrown _ _ _).mono hbel.size)⟩
theorem bytesAt6 (x b : BitVec 64) (hb : un b ≤ 255) (a1 : Int) (ha : a1 % 8 = 6) (b1 : -9223372036854775808 ≤ a1 ∧ a1 ≤ 9223372036854775807) (w : World) :
    Calls Try.prog 8 #[.int .u64 (un x), .int .i64 a1, .int .u8 (un b)] w fun e w' => e = .returned (.bool true) ∧ Below w.heap.size w w' := by
  have hb0 := un_nonneg b
  have HA : Hid _ := Lib.hid ha
  clear ha
  go_enter Try.func8, Try.ntmps8
  go_wp2_with fail
  refine (bytes_byt x _).mono ?_
  rintro e w1 ⟨rfl, hb1⟩
  go_wp2_with fail
  refine (place_calls _ 8 (by decide) (by decide) (by omega) (by omega) _).mono ?_
  rintro e w2 ⟨rfl, rfl⟩
  rw [HA.out]
  have e0 := (byt_other x b hb 6 0 (by decide)).symm
  have e1 := (byt_other x b hb 6 1 (by decide)).symm
  have e2 := (byt_other x b hb 6 2 (by decide)).symm
  have e3 := (byt_other x b hb 6 3 (by decide)).symm
  have e4 := (byt_other x b hb 6 4 (by decide)).symm
  have e5 := (byt_other x b hb 6 5 (by decide)).symm
  have e6 := (byt_same x b hb 6 (by decide)).symm
  have e7 := (byt_other x b hb 6 7 (by decide)).symm
  have f : bits .xor .u64 (un x) (un b * 281474976710656) = un (turnB x b 6) := turnB_un x b hb 6 (by decide)
  go_wp2_with fail
  refine (of_byt (turnB x b 6) _).mono ?_
  rintro e w3 ⟨rfl, hb3⟩
  have hbel : Below w.heap.size w w3 := ((hb1.alloc hb1.size _).alloc (Nat.le_trans hb1.size (by simp)) _).trans (hb3.mono (Nat.le_trans hb1.size (by simp; omega)))
  have p0 := cell_regrown ((hb3.cell (p := ⟨w1.heap.size, 0, none⟩) (by simp; omega)).trans (show _ = some (.int .u8 (byt x 0)) by rw [e0]; go_cell))
  have q0 := cell_regrown ((hb3.cell (p := ⟨w1.heap.size + 1, 0, none⟩) (by simp)).trans (show _ = some (.int .u8 (byt (turnB x b 6) 0)) by go_cell))
  have p1 := cell_regrown ((hb3.cell (p := ⟨w1.heap.size, 1, none⟩) (by simp; omega)).trans (show _ = some (.int .u8 (byt x 1)) by rw [e1]; go_cell))
  have q1 := cell_regrown ((hb3.cell (p := ⟨w1.heap.size + 1, 1, none⟩) (by simp)).trans (show _ = some (.int .u8 (byt (turnB x b 6) 1)) by go_cell))
  have p2 := cell_regrown ((hb3.cell (p := ⟨w1.heap.size, 2, none⟩) (by simp; omega)).trans (show _ = some (.int .u8 (byt x 2)) by rw [e2]; go_cell))
  have q2 := cell_regrown ((hb3.cell (p := ⟨w1.heap.size + 1, 2, none⟩) (by simp)).trans (show _ = some (.int .u8 (byt (turnB x b 6) 2)) by go_cell))
  have p3 := cell_regrown ((hb3.cell (p := ⟨w1.heap.size, 3, none⟩) (by simp; omega)).trans (show _ = some (.int .u8 (byt x 3)) by rw [e3]; go_cell))
  have q3 := cell_regrown ((hb3.cell (p := ⟨w1.heap.size + 1, 3, none⟩) (by simp)).trans (show _ = some (.int .u8 (byt (turnB x b 6) 3)) by go_cell))
  have p4 := cell_regrown ((hb3.cell (p := ⟨w1.heap.size, 4, none⟩) (by simp; omega)).trans (show _ = some (.int .u8 (byt x 4)) by rw [e4]; go_cell))
  have q4 := cell_regrown ((hb3.cell (p := ⟨w1.heap.size + 1, 4, none⟩) (by simp)).trans (show _ = some (.int .u8 (byt (turnB x b 6) 4)) by go_cell))
  have p5 := cell_regrown ((hb3.cell (p := ⟨w1.heap.size, 5, none⟩) (by simp; omega)).trans (show _ = some (.int .u8 (byt x 5)) by rw [e5]; go_cell))
  have q5 := cell_regrown ((hb3.cell (p := ⟨w1.heap.size + 1, 5, none⟩) (by simp)).trans (show _ = some (.int .u8 (byt (turnB x b 6) 5)) by go_cell))
  have p6 := cell_regrown ((hb3.cell (p := ⟨w1.heap.size, 6, none⟩) (by simp; omega)).trans (show _ = some (.int .u8 (byt x 6)) by go_cell))
  have q6 := cell_regrown ((hb3.cell (p := ⟨w1.heap.size + 1, 6, none⟩) (by simp)).trans (show _ = some (.int .u8 (byt (turnB x b 6) 6)) by go_cell))
  have p7 := cell_regrown ((hb3.cell (p := ⟨w1.heap.size, 7, none⟩) (by simp; omega)).trans (show _ = some (.int .u8 (byt x 7)) by rw [e7]; go_cell))
  have q7 := cell_regrown ((hb3.cell (p := ⟨w1.heap.size + 1, 7, none⟩) (by simp)).trans (show _ = some (.int .u8 (byt (turnB x b 6) 7)) by go_cell))
  clear hb3
  have hq := eql8
  go_wp2_with fail
  refine wp_region_quiet_below mixed (by kernel_rfl) ?_
  repeat (first | go_big_quiet_step (first | (go_at_call 18; exact Calls.regrown_of (bytes_byt _ _)) | (go_at_call 12; exact Calls.regrown_of (awake_below _))) | quiet_step (first | (go_at_call 18; exact Calls.regrown_of (bytes_byt _ _)) | (go_at_call 12; exact Calls.regrown_of (awake_below _))))
  refine wpQuiet_nil ?_
  rintro w4 ⟨g, rfl⟩
  go_wp2
  go_ret
  exact ⟨rfl, hbel.trans ((below_regrown _ _ _).mono hbel.size)⟩
theorem bytesAt7 (x b : BitVec 64) (hb : un b ≤ 255) (a1 : Int) (ha : a1 % 8 = 7) (b1 : -9223372036854775808 ≤ a1 ∧ a1 ≤ 9223372036854775807) (w : World) :
    Calls Try.prog 8 #[.int .u64 (un x), .int .i64 a1, .int .u8 (un b)] w fun e w' => e = .returned (.bool true) ∧ Below w.heap.size w w' := by
  have hb0 := un_nonneg b
  have HA : Hid _ := Lib.hid ha
  clear ha
  go_enter Try.func8, Try.ntmps8
  go_wp2_with fail
  refine (bytes_byt x _).mono ?_
  rintro e w1 ⟨rfl, hb1⟩
  go_wp2_with fail
  refine (place_calls _ 8 (by decide) (by decide) (by omega) (by omega) _).mono ?_
  rintro e w2 ⟨rfl, rfl⟩
  rw [HA.out]
  have e0 := (byt_other x b hb 7 0 (by decide)).symm
  have e1 := (byt_other x b hb 7 1 (by decide)).symm
  have e2 := (byt_other x b hb 7 2 (by decide)).symm
  have e3 := (byt_other x b hb 7 3 (by decide)).symm
  have e4 := (byt_other x b hb 7 4 (by decide)).symm
  have e5 := (byt_other x b hb 7 5 (by decide)).symm
  have e6 := (byt_other x b hb 7 6 (by decide)).symm
  have e7 := (byt_same x b hb 7 (by decide)).symm
  have f : bits .xor .u64 (un x) (un b * 72057594037927936) = un (turnB x b 7) := turnB_un x b hb 7 (by decide)
  go_wp2_with fail
  refine (of_byt (turnB x b 7) _).mono ?_
  rintro e w3 ⟨rfl, hb3⟩
  have hbel : Below w.heap.size w w3 := ((hb1.alloc hb1.size _).alloc (Nat.le_trans hb1.size (by simp)) _).trans (hb3.mono (Nat.le_trans hb1.size (by simp; omega)))
  have p0 := cell_regrown ((hb3.cell (p := ⟨w1.heap.size, 0, none⟩) (by simp; omega)).trans (show _ = some (.int .u8 (byt x 0)) by rw [e0]; go_cell))
  have q0 := cell_regrown ((hb3.cell (p := ⟨w1.heap.size + 1, 0, none⟩) (by simp)).trans (show _ = some (.int .u8 (byt (turnB x b 7) 0)) by go_cell))
  have p1 := cell_regrown ((hb3.cell (p := ⟨w1.heap.size, 1, none⟩) (by simp; omega)).trans (show _ = some (.int .u8 (byt x 1)) by rw [e1]; go_cell))
  have q1 := cell_regrown ((hb3.cell (p := ⟨w1.heap.size + 1, 1, none⟩) (by simp)).trans (show _ = some (.int .u8 (byt (turnB x b 7) 1)) by go_cell))
  have p2 := cell_regrown ((hb3.cell (p := ⟨w1.heap.size, 2, none⟩) (by simp; omega)).trans (show _ = some (.int .u8 (byt x 2)) by rw [e2]; go_cell))
  have q2 := cell_regrown ((hb3.cell (p := ⟨w1.heap.size + 1, 2, none⟩) (by simp)).trans (show _ = some (.int .u8 (byt (turnB x b 7) 2)) by go_cell))
  have p3 := cell_regrown ((hb3.cell (p := ⟨w1.heap.size, 3, none⟩) (by simp; omega)).trans (show _ = some (.int .u8 (byt x 3)) by rw [e3]; go_cell))
  have q3 := cell_regrown ((hb3.cell (p := ⟨w1.heap.size + 1, 3, none⟩) (by simp)).trans (show _ = some (.int .u8 (byt (turnB x b 7) 3)) by go_cell))
  have p4 := cell_regrown ((hb3.cell (p := ⟨w1.heap.size, 4, none⟩) (by simp; omega)).trans (show _ = some (.int .u8 (byt x 4)) by rw [e4]; go_cell))
  have q4 := cell_regrown ((hb3.cell (p := ⟨w1.heap.size + 1, 4, none⟩) (by simp)).trans (show _ = some (.int .u8 (byt (turnB x b 7) 4)) by go_cell))
  have p5 := cell_regrown ((hb3.cell (p := ⟨w1.heap.size, 5, none⟩) (by simp; omega)).trans (show _ = some (.int .u8 (byt x 5)) by rw [e5]; go_cell))
  have q5 := cell_regrown ((hb3.cell (p := ⟨w1.heap.size + 1, 5, none⟩) (by simp)).trans (show _ = some (.int .u8 (byt (turnB x b 7) 5)) by go_cell))
  have p6 := cell_regrown ((hb3.cell (p := ⟨w1.heap.size, 6, none⟩) (by simp; omega)).trans (show _ = some (.int .u8 (byt x 6)) by rw [e6]; go_cell))
  have q6 := cell_regrown ((hb3.cell (p := ⟨w1.heap.size + 1, 6, none⟩) (by simp)).trans (show _ = some (.int .u8 (byt (turnB x b 7) 6)) by go_cell))
  have p7 := cell_regrown ((hb3.cell (p := ⟨w1.heap.size, 7, none⟩) (by simp; omega)).trans (show _ = some (.int .u8 (byt x 7)) by go_cell))
  have q7 := cell_regrown ((hb3.cell (p := ⟨w1.heap.size + 1, 7, none⟩) (by simp)).trans (show _ = some (.int .u8 (byt (turnB x b 7) 7)) by go_cell))
  clear hb3
  have hq := eql8
  go_wp2_with fail
  refine wp_region_quiet_below mixed (by kernel_rfl) ?_
  repeat (first | go_big_quiet_step (first | (go_at_call 18; exact Calls.regrown_of (bytes_byt _ _)) | (go_at_call 12; exact Calls.regrown_of (awake_below _))) | quiet_step (first | (go_at_call 18; exact Calls.regrown_of (bytes_byt _ _)) | (go_at_call 12; exact Calls.regrown_of (awake_below _))))
  refine wpQuiet_nil ?_
  rintro w4 ⟨g, rfl⟩
  go_wp2
  go_ret
  exact ⟨rfl, hbel.trans ((below_regrown _ _ _).mono hbel.size)⟩
theorem bitsBytes (a0 a1 a2 : Int) (w0 : (Lit.int .u64 a0).wf = true) (w1 : (Lit.int .i64 a1).wf = true) (w2 : (Lit.int .u8 a2).wf = true) (w : World) :
    Calls Try.prog 8 #[.int .u64 a0, .int .i64 a1, .int .u8 a2] w fun e w' => e = .returned (.bool true) ∧ Below w.heap.size w w' := by
  have b1 := bounds_i64 w1
  have b2 := bounds_u8 w2
  obtain ⟨x, rfl⟩ := un_of w0
  obtain ⟨b, rfl⟩ : ∃ b, a2 = un b := ⟨bv a2, (un_bv (by omega) (by omega)).symm⟩
  rcases (show a1 % 8 = 0 ∨ a1 % 8 = 1 ∨ a1 % 8 = 2 ∨ a1 % 8 = 3 ∨ a1 % 8 = 4 ∨ a1 % 8 = 5 ∨ a1 % 8 = 6 ∨ a1 % 8 = 7 by omega) with h | h | h | h | h | h | h | h
  · exact bytesAt0 x b (by omega) a1 h b1 w
  · exact bytesAt1 x b (by omega) a1 h b1 w
  · exact bytesAt2 x b (by omega) a1 h b1 w
  · exact bytesAt3 x b (by omega) a1 h b1 w
  · exact bytesAt4 x b (by omega) a1 h b1 w
  · exact bytesAt5 x b (by omega) a1 h b1 w
  · exact bytesAt6 x b (by omega) a1 h b1 w
  · exact bytesAt7 x b (by omega) a1 h b1 w
end Go.Proofs.Ytmnfhbkkogajoaa.Wk
