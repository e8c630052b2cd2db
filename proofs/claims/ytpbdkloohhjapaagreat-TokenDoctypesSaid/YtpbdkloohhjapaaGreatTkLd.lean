/- TokenDoctypes, walked. -/
import Derived.Test.YtpbdkloohhjapaaGreatTkW
import Derived.Test.YtpbdkloohhjapaaGreatTkPd
namespace Go.Proofs.YtpbdkloohhjapaaGreat.Wk
open Go Go.RowKit Go.Proofs.YtpbdkloohhjapaaGreat.Tk Go.Proofs.YtpbdkloohhjapaaGreat.Tr
set_option linter.unusedVariables false
set_option maxRecDepth 100000

theorem dn_ix (k : Nat) (hk : k < 4) : ∃ n want : ByteArray, (∀ w : World, (Instr.index 36 (.agg #[.string ⟨#[104, 116, 109, 108]⟩, .string ⟨#[72, 84, 77, 76]⟩, .string ⟨#[120]⟩, .string ⟨#[83, 118, 103]⟩]) (.int .i64 k)).run Tryz.prog w = .ok (.string n) w) ∧
    (∀ w : World, (Instr.index 36 (.agg #[.string ⟨#[104, 116, 109, 108]⟩, .string ⟨#[104, 116, 109, 108]⟩, .string ⟨#[120]⟩, .string ⟨#[115, 118, 103]⟩]) (.int .i64 k)).run Tryz.prog w = .ok (.string want) w) ∧
    0 < n.size ∧ (∀ i, i < n.size → (blankN (bAt n i) || decide (bAt n i = 62)) = false) ∧ lowS n = want ∧ n.size ≤ 4 := by
  have h : k = 0 ∨ k = 1 ∨ k = 2 ∨ k = 3 := by omega
  rcases h with rfl | rfl | rfl | rfl
  · exact ⟨⟨#[104, 116, 109, 108]⟩, ⟨#[104, 116, 109, 108]⟩, fun w => by kernel_rfl, fun w => by kernel_rfl, by decide, by decide +kernel, by decide +kernel, by decide⟩
  · exact ⟨⟨#[72, 84, 77, 76]⟩, ⟨#[104, 116, 109, 108]⟩, fun w => by kernel_rfl, fun w => by kernel_rfl, by decide, by decide +kernel, by decide +kernel, by decide⟩
  · exact ⟨⟨#[120]⟩, ⟨#[120]⟩, fun w => by kernel_rfl, fun w => by kernel_rfl, by decide, by decide +kernel, by decide +kernel, by decide⟩
  · exact ⟨⟨#[83, 118, 103]⟩, ⟨#[115, 118, 103]⟩, fun w => by kernel_rfl, fun w => by kernel_rfl, by decide, by decide +kernel, by decide +kernel, by decide⟩
theorem gp_ix (k : Nat) (hk : k < 4) : ∃ g : ByteArray, (∀ w : World, (Instr.index 36 (.agg #[.string ⟨#[]⟩, .string ⟨#[32]⟩, .string ⟨#[10, 9]⟩, .string ⟨#[32, 32, 32]⟩]) (.int .i64 k)).run Tryz.prog w = .ok (.string g) w) ∧
    (∀ i, i < g.size → blankN (bAt g i) = true) ∧ g.size ≤ 3 := by
  have h : k = 0 ∨ k = 1 ∨ k = 2 ∨ k = 3 := by omega
  rcases h with rfl | rfl | rfl | rfl
  · exact ⟨⟨#[]⟩, fun w => by kernel_rfl, by decide +kernel, by decide⟩
  · exact ⟨⟨#[32]⟩, fun w => by kernel_rfl, by decide +kernel, by decide⟩
  · exact ⟨⟨#[10, 9]⟩, fun w => by kernel_rfl, by decide +kernel, by decide⟩
  · exact ⟨⟨#[32, 32, 32]⟩, fun w => by kernel_rfl, by decide +kernel, by decide⟩
theorem same_doc (n : ByteArray) (A : Option Addr) (ac : Nat) (W : World) (hA : IsAttrs W W.heap.size [] A ac) :
    Calls Tryz.prog 12 #[.agg #[.int .i64 5, .string n, .string ⟨#[]⟩, .slice A 0 ac, .bool false], .agg #[.int .i64 5, .string n, .string ⟨#[]⟩, .slice none 0 0, .bool false]] W fun e w' => e = .returned (.bool true) ∧ Below W.heap.size W w' := by
  have := same_token ⟨5, n, ⟨#[]⟩, [], false⟩ ⟨5, n, ⟨#[]⟩, [], false⟩ A none ac 0 W (Nat.zero_le _) hA (isAttrs_nil _ _)
  rw [decide_eq_true rfl] at this
  exact this
theorem next_doc (s n : ByteArray) (hs : s.size ≤ 900000) (k : Nat) (m : Int) (hm : (k : Int) = m) (h : nextP s 0 ⟨#[]⟩ = (⟨5, n, ⟨#[]⟩, [], false⟩, k, true)) (W : World) :
    Calls Tryz.prog 11 #[.string s, .int .i64 0, .string ⟨#[]⟩] W fun e w' => ∃ A ac, e = .returned (.tuple #[.agg #[.int .i64 5, .string n, .string ⟨#[]⟩, .slice A 0 ac, .bool false], .int .i64 m, .bool true]) ∧ IsAttrs w' w'.heap.size [] A ac ∧ Below W.heap.size W w' :=
  (next_as s ⟨#[]⟩ hs (by decide) 0 (by decide) 0 rfl ⟨5, n, ⟨#[]⟩, [], false⟩ k true h m hm W).mono fun e w' ⟨A, ac, h1, h2, h3, h4⟩ => ⟨A, ac, h1, h2, h3⟩
set_option maxHeartbeats 8000000 in
theorem tokenDoctypes (name : Int) (rest : ByteArray) (gap : Int) (u0 : (Lit.int .i64 name).wf = true) (w1 : rest.size ≤ maxLen) (u2 : (Lit.int .i64 gap).wf = true) (w : World) :
    Calls Tryz.prog 8 #[.int .i64 name, .string rest, .int .i64 gap] w fun e w' => e = .returned (.bool true) ∧ Below w.heap.size w w' := by
  by_cases hl : 200 < rest.size
  · go_enter Tryz.func8, Tryz.ntmps8
    go_wp2_with fail
    refine (awake_calls _).mono ?_
    rintro e w1 ⟨rfl, hb⟩
    go_wp2_with fail
    go_ret
    exact ⟨rfl, hb⟩
  have hrs : rest.size ≤ 200 := by omega
  have P1 := Lib.hid (placeN_calls name 4 (by decide) (by decide) 4 rfl)
  have P2 := Lib.hid (placeN_calls gap 4 (by decide) (by decide) 4 rfl)
  obtain ⟨n, want, X1, X2, hn0, hn, hw, hz⟩ := dn_ix (placeN name 4) (placeN_lt name (by decide))
  obtain ⟨g, X3, hg, hgz⟩ := gp_ix (placeN gap 4) (placeN_lt gap (by decide))
  generalize placeN name 4 = pn at *
  generalize placeN gap 4 = pg at *
  have HD := Lib.hid (fun hr => doctypes (g := g) (n := n) (rest := rest) (want := want) hg hn0 hn hw hr)
  clear hg hn0 hn hw w1 hl u0 u2
  go_enter Tryz.func8, Tryz.ntmps8
  go_wp2_with fail
  go_loop [7] (fun t => ∃ i : Nat, i ≤ rest.size ∧ t = .int .i64 i ∧ Hid (∀ j, j < i → bAt rest j ≠ 62)) (fun t => rest.size - (intOf t).toNat)
  case atStart => exact ⟨0, Nat.zero_le _, rfl, Lib.hid (fun j h => absurd h (Nat.not_lt_zero _))⟩
  case round =>
    obtain ⟨i, hi, rfl, HI⟩ := hrel
    by_cases hlt : i < rest.size
    · have hz3 : (i : Int) < (rest.size : Int) := by omega
      have j0 : ∀ w : World, (Instr.index 9 (.string rest) (.int .i64 (i : Int))).run Tryz.prog w = .ok (.int .u8 (bAt rest i : Nat)) w := fun w => Ch.run_at rest i (by omega) rfl (bAt_in (by omega)).symm w
      obtain ⟨x, hx⟩ : ∃ x, bAt rest i = x := ⟨_, rfl⟩
      rw [hx] at j0
      by_cases c1 : x = 62
      · subst c1
        clear hx
        go_wp2_with fail
        refine (awake_calls _).mono ?_
        rintro e w1 ⟨rfl, hb⟩
        go_wp2_with fail
        go_ret
        exact ⟨rfl, hb⟩
      · have HI2 : Hid (∀ j, j < i + 1 → bAt rest j ≠ 62) := Lib.hid fun j hj => by
          rcases Nat.lt_or_ge j i with h | h
          · exact HI.out j h
          · obtain rfl : j = i := by omega
            exact fun x => c1 (hx.symm.trans x)
        have p1 : ((x : Int) == 62) = false := by rw [beq_eq_false_iff_ne]; omega
        clear hx c1
        go_wp2_with fail
        go_round
        case rel => exact ⟨i + 1, by omega, by go_num, HI2⟩
        case measure => simp [intOf]; omega
    · have hz3 : ¬ (i : Int) < (rest.size : Int) := by omega
      have n1 := HD.out fun j hj => HI.out j (by omega)
      have zl : (⟨#[60, 33, 68, 111, 99, 84, 121, 112, 101]⟩ : ByteArray).size = 9 := rfl
      have z1 : (⟨#[32]⟩ : ByteArray).size = 1 := rfl
      have z2 : (⟨#[62]⟩ : ByteArray).size = 1 := rfl
      have z3 : (⟨#[98]⟩ : ByteArray).size = 1 := rfl
      have s1 : (((((((⟨#[60, 33, 68, 111, 99, 84, 121, 112, 101]⟩ : ByteArray) ++ g) ++ n) ++ ⟨#[32]⟩) ++ rest) ++ ⟨#[62]⟩) ++ ⟨#[98]⟩).size ≤ 900000 := by simp only [ByteArray.size_append, zl, z1, z2, z3]; omega
      have N1 := Lib.hid (next_doc _ want s1 (11 + g.size + n.size + rest.size) (11 + (g.size : Int) + (n.size : Int) + (rest.size : Int)) (by omega) n1)
      clear n1 s1 HD HI zl z1 z2 z3
      go_wp2_with fail
      refine (P1.out _).mono ?_
      rintro e w2 ⟨rfl, rfl⟩
      go_wp2_with fail
      refine (P1.out _).mono ?_
      rintro e w2 ⟨rfl, rfl⟩
      go_wp2_with fail
      refine (P2.out _).mono ?_
      rintro e w2 ⟨rfl, rfl⟩
      go_wp2_with fail
      refine (N1.out _).mono ?_
      rintro e w1 ⟨A, ac, rfl, hat, hb⟩
      have HB1 := Lib.hid (hb.alloc hb.size (.cells #[.int .i64 5, .string want, .string ⟨#[]⟩, .slice A 0 ac, .bool false] 25))
      obtain ⟨x0, x1, x2, x3, x4⟩ := tbox5 (alloc_new w1 (.cells #[.int .i64 5, .string want, .string ⟨#[]⟩, .slice A 0 ac, .bool false] 25))
      have HA := Lib.hid (isAttrs_below hat ((Below.refl _ w1).alloc (Nat.le_refl _) (.cells #[.int .i64 5, .string want, .string ⟨#[]⟩, .slice A 0 ac, .bool false] 25)))
      clear hat hb
      go_wp2_with fail
      refine (same_doc want A ac _ HA.out).mono ?_
      rintro e w2 ⟨rfl, hb⟩
      replace HB1 := Lib.hid (HB1.out.trans (hb.mono HB1.out.size))
      clear hb
      go_wp2_with fail
      refine (awake_calls _).mono ?_
      rintro e w3 ⟨rfl, hb⟩
      replace HB1 := Lib.hid (HB1.out.trans (hb.mono HB1.out.size))
      clear hb
      go_wp2_with fail
      go_ret
      exact ⟨rfl, HB1.out⟩
end Go.Proofs.YtpbdkloohhjapaaGreat.Wk
