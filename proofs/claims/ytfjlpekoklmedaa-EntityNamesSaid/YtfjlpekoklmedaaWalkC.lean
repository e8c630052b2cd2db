/- The laws of package entity, walked: each returns true, whatever it is given. -/
import Derived.Test.YtfjlpekoklmedaaLongest
namespace Go.Proofs.Ytfjlpekoklmedaa.Wk
open Go Go.RowKit Go.Proofs.Ytfjlpekoklmedaa.Ct Go.Proofs.Ytfjlpekoklmedaa.Ss

theorem aw_1 : longest ⟨#[110, 111, 116, 105, 116, 59]⟩ 0 = (3, ⟨#[194, 172]⟩) := by decide +kernel
theorem aw_2 : (longest ⟨#[110, 111, 116, 105, 110, 59]⟩ 0).1 = 6 := by decide +kernel
theorem aw_3 : code 128 = 8364 := by decide +kernel
theorem awake_calls (w : World) : Calls Try.prog 13 #[] w fun e w' => e = .returned (.bool true) ∧ Below w.heap.size w w' := by
  go_enter Try.func13, Try.ntmps13
  go_wp2_with fail
  refine (longest_calls _ (by decide) 0 (by decide) (by decide) _).mono ?_
  rintro e w1 ⟨rfl, hb1⟩
  rw [aw_1]
  go_wp2_with fail
  refine (longest_calls _ (by decide) 0 (by decide) (by decide) _).mono ?_
  rintro e w2 ⟨rfl, hb2⟩
  rw [aw_2]
  go_wp2_with fail
  refine (code_calls 128 _).mono ?_
  rintro e w3 ⟨rfl, hb3⟩
  rw [aw_3]
  go_wp2
  go_ret
  exact ⟨rfl, (hb1.trans (hb2.mono hb1.size)).trans (hb3.mono (hb1.trans (hb2.mono hb1.size)).size)⟩

/-! ### EntityCodes -/
theorem codeAt_own (k : Nat) (h : k < 32) (h1 : k ≠ 1) (h2 : k ≠ 13) (h3 : k ≠ 15) (h4 : k ≠ 16) (h5 : k ≠ 29) : (codeAt k == 128 + (k : Int)) = false := by
  have H : ∀ k : Fin 32, k.val = 1 ∨ k.val = 13 ∨ k.val = 15 ∨ k.val = 16 ∨ k.val = 29 ∨ (codeAt k.val == 128 + (k.val : Int)) = false := by decide +kernel
  rcases H ⟨k, h⟩ with e | e | e | e | e | e
  · exact absurd e h1
  · exact absurd e h2
  · exact absurd e h3
  · exact absurd e h4
  · exact absurd e h5
  · exact e
theorem entityCodes (n : Int) (w0 : (Lit.int .i64 n).wf = true) (w : World) :
    Calls Try.prog 3 #[.int .i64 n] w fun e w' => e = .returned (.bool true) ∧ Below w.heap.size w w' := by
  have b := bounds_i64 w0
  clear w0
  obtain ⟨b0, b1⟩ := b
  rcases (show n ≤ 0 ∨ 1114111 < n ∨ (55296 ≤ n ∧ n ≤ 57343) ∨ (0 < n ∧ n < 128) ∨ (159 < n ∧ n < 55296) ∨ (57343 < n ∧ n ≤ 1114111) ∨ n = 129 ∨ n = 141 ∨ n = 143 ∨ n = 144 ∨ n = 157 ∨ (∃ k : Nat, k < 32 ∧ n = 128 + (k : Int) ∧ k ≠ 1 ∧ k ≠ 13 ∧ k ≠ 15 ∧ k ≠ 16 ∧ k ≠ 29) by
    by_cases h : 128 ≤ n ∧ n ≤ 159
    · by_cases h' : n = 129 ∨ n = 141 ∨ n = 143 ∨ n = 144 ∨ n = 157
      · omega
      · exact .inr (.inr (.inr (.inr (.inr (.inr (.inr (.inr (.inr (.inr (.inr ⟨(n - 128).toNat, by omega, by omega, by omega, by omega, by omega, by omega, by omega⟩))))))))))
    · omega) with h | h | ⟨h, h'⟩ | ⟨h, h'⟩ | ⟨h, h'⟩ | ⟨h, h'⟩ | rfl | rfl | rfl | rfl | rfl | ⟨k, hk, rfl, k1, k2, k3, k4, k5⟩
  · go_enter Try.func3, Try.ntmps3
    go_wp2_with fail
    refine (code_calls _ _).mono ?_
    rintro e w1 ⟨rfl, hb1⟩
    rw [code_bad (by omega)]
    go_wp2_with fail
    refine (awake_calls _).mono ?_
    rintro e w2 ⟨rfl, hb2⟩
    go_wp2
    go_ret
    exact ⟨rfl, hb1.trans (hb2.mono hb1.size)⟩
  · go_enter Try.func3, Try.ntmps3
    go_wp2_with fail
    refine (code_calls _ _).mono ?_
    rintro e w1 ⟨rfl, hb1⟩
    rw [code_bad (by omega)]
    go_wp2_with fail
    refine (awake_calls _).mono ?_
    rintro e w2 ⟨rfl, hb2⟩
    go_wp2
    go_ret
    exact ⟨rfl, hb1.trans (hb2.mono hb1.size)⟩
  · go_enter Try.func3, Try.ntmps3
    go_wp2_with fail
    refine (code_calls _ _).mono ?_
    rintro e w1 ⟨rfl, hb1⟩
    rw [code_bad (by omega)]
    go_wp2_with fail
    refine (awake_calls _).mono ?_
    rintro e w2 ⟨rfl, hb2⟩
    go_wp2
    go_ret
    exact ⟨rfl, hb1.trans (hb2.mono hb1.size)⟩
  · go_enter Try.func3, Try.ntmps3
    go_wp2_with fail
    refine (code_calls _ _).mono ?_
    rintro e w1 ⟨rfl, hb1⟩
    rw [code_own (by omega) (by omega) (by omega) (by omega)]
    go_wp2_with fail
    refine (awake_calls _).mono ?_
    rintro e w2 ⟨rfl, hb2⟩
    go_wp2
    go_ret
    exact ⟨rfl, hb1.trans (hb2.mono hb1.size)⟩
  · go_enter Try.func3, Try.ntmps3
    go_wp2_with fail
    refine (code_calls _ _).mono ?_
    rintro e w1 ⟨rfl, hb1⟩
    rw [code_own (by omega) (by omega) (by omega) (by omega)]
    go_wp2_with fail
    refine (awake_calls _).mono ?_
    rintro e w2 ⟨rfl, hb2⟩
    go_wp2
    go_ret
    exact ⟨rfl, hb1.trans (hb2.mono hb1.size)⟩
  · go_enter Try.func3, Try.ntmps3
    go_wp2_with fail
    refine (code_calls _ _).mono ?_
    rintro e w1 ⟨rfl, hb1⟩
    rw [code_own (by omega) (by omega) (by omega) (by omega)]
    go_wp2_with fail
    refine (awake_calls _).mono ?_
    rintro e w2 ⟨rfl, hb2⟩
    go_wp2
    go_ret
    exact ⟨rfl, hb1.trans (hb2.mono hb1.size)⟩
  · go_enter Try.func3, Try.ntmps3
    go_wp2_with fail
    refine (code_calls _ _).mono ?_
    rintro e w1 ⟨rfl, hb1⟩
    rw [show code 129 = 129 by decide +kernel]
    go_wp2_with fail
    refine (awake_calls _).mono ?_
    rintro e w2 ⟨rfl, hb2⟩
    go_wp2
    go_ret
    exact ⟨rfl, hb1.trans (hb2.mono hb1.size)⟩
  · go_enter Try.func3, Try.ntmps3
    go_wp2_with fail
    refine (code_calls _ _).mono ?_
    rintro e w1 ⟨rfl, hb1⟩
    rw [show code 141 = 141 by decide +kernel]
    go_wp2_with fail
    refine (awake_calls _).mono ?_
    rintro e w2 ⟨rfl, hb2⟩
    go_wp2
    go_ret
    exact ⟨rfl, hb1.trans (hb2.mono hb1.size)⟩
  · go_enter Try.func3, Try.ntmps3
    go_wp2_with fail
    refine (code_calls _ _).mono ?_
    rintro e w1 ⟨rfl, hb1⟩
    rw [show code 143 = 143 by decide +kernel]
    go_wp2_with fail
    refine (awake_calls _).mono ?_
    rintro e w2 ⟨rfl, hb2⟩
    go_wp2
    go_ret
    exact ⟨rfl, hb1.trans (hb2.mono hb1.size)⟩
  · go_enter Try.func3, Try.ntmps3
    go_wp2_with fail
    refine (code_calls _ _).mono ?_
    rintro e w1 ⟨rfl, hb1⟩
    rw [show code 144 = 144 by decide +kernel]
    go_wp2_with fail
    refine (awake_calls _).mono ?_
    rintro e w2 ⟨rfl, hb2⟩
    go_wp2
    go_ret
    exact ⟨rfl, hb1.trans (hb2.mono hb1.size)⟩
  · go_enter Try.func3, Try.ntmps3
    go_wp2_with fail
    refine (code_calls _ _).mono ?_
    rintro e w1 ⟨rfl, hb1⟩
    rw [show code 157 = 157 by decide +kernel]
    go_wp2_with fail
    refine (awake_calls _).mono ?_
    rintro e w2 ⟨rfl, hb2⟩
    go_wp2
    go_ret
    exact ⟨rfl, hb1.trans (hb2.mono hb1.size)⟩
  · go_enter Try.func3, Try.ntmps3
    go_wp2_with fail
    refine (code_calls _ _).mono ?_
    rintro e w1 ⟨rfl, hb1⟩
    rw [code_at128 k hk]
    have e0 := codeAt_own k hk k1 k2 k3 k4 k5
    have e1 : (128 + (k : Int) == 129) = false := by rw [beq_eq_false_iff_ne]; omega
    have e2 : (128 + (k : Int) == 141) = false := by rw [beq_eq_false_iff_ne]; omega
    have e3 : (128 + (k : Int) == 143) = false := by rw [beq_eq_false_iff_ne]; omega
    have e4 : (128 + (k : Int) == 144) = false := by rw [beq_eq_false_iff_ne]; omega
    have e5 : (128 + (k : Int) == 157) = false := by rw [beq_eq_false_iff_ne]; omega
    clear k1 k2 k3 k4 k5
    go_wp2_with fail
    refine (awake_calls _).mono ?_
    rintro e w2 ⟨rfl, hb2⟩
    go_wp2
    go_ret
    exact ⟨rfl, hb1.trans (hb2.mono hb1.size)⟩

/-! ### EntityAll -/
theorem entityAll (a0 : ByteArray) (a1 : ByteArray) (a2 a3 : Int) (w0 : a0.size ≤ maxLen) (w1 : a1.size ≤ maxLen) (w2 : (Lit.int .i64 a2).wf = true) (_w3 : (Lit.int .i64 a3).wf = true) (w : World) :
    Calls Try.prog 4 #[.string a0, .string a1, .int .i64 a2, .int .i64 a3] w fun e w' => e = .returned (.bool true) ∧ Below w.heap.size w w' := by
  obtain ⟨b0, b1⟩ := bounds_i64 w2
  clear w2
  go_enter Try.func4, Try.ntmps4
  go_wp2_with fail
  refine (find_calls _ w0 _).mono ?_
  rintro e x1 ⟨rfl, hb⟩
  go_wp2_with fail
  refine (rfind_calls _ _).mono ?_
  rintro e x2 ⟨rfl, hc⟩
  replace hb := hb.trans (hc.mono hb.size)
  clear hc
  go_wp2_with fail
  refine (longest_calls _ w1 _ b0 b1 _).mono ?_
  rintro e x3 ⟨rfl, hc⟩
  replace hb := hb.trans (hc.mono hb.size)
  clear hc
  go_wp2_with fail
  refine (rlongest_calls _ w1 _ b0 b1 _).mono ?_
  rintro e x4 ⟨rfl, hc⟩
  replace hb := hb.trans (hc.mono hb.size)
  clear hc
  go_wp2_with fail
  refine (code_calls _ _).mono ?_
  rintro e x5 ⟨rfl, hc⟩
  replace hb := hb.trans (hc.mono hb.size)
  clear hc
  go_wp2_with fail
  refine (rcode_calls _ _).mono ?_
  rintro e x6 ⟨rfl, hc⟩
  subst hc
  go_wp2_with fail
  refine (awake_calls _).mono ?_
  rintro e x7 ⟨rfl, hc⟩
  replace hb := hb.trans (hc.mono hb.size)
  clear hc
  go_wp2
  go_ret
  exact ⟨rfl, hb⟩
end Go.Proofs.Ytfjlpekoklmedaa.Wk
