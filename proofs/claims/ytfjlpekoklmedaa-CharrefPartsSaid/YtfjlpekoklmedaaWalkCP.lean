/- CharrefParts, walked. -/
import Derived.Test.YtfjlpekoklmedaaSh
import Derived.Test.YtfjlpekoklmedaaPlace
namespace Go.Proofs.Ytfjlpekoklmedaa.Wk
open Go Go.RowKit Go.Proofs.Ytfjlpekoklmedaa.Ch Go.Proofs.Ytfjlpekoklmedaa.Gr Go.Proofs.Ytfjlpekoklmedaa.Ct
set_option linter.unusedVariables false
set_option maxRecDepth 100000

set_option maxHeartbeats 4000000 in
theorem charrefParts (a b : ByteArray) (attr : Bool) (w0 : a.size ≤ maxLen) (w1 : b.size ≤ maxLen) (w : World) :
    Calls Try.prog 11 #[.string a, .string b, .bool attr] w fun e w' => e = .returned (.bool true) ∧ Below w.heap.size w w' := by
  by_cases hl : 1000 < a.size
  · go_enter Try.func11, Try.ntmps11
    go_wp2_with fail
    refine (cawake_calls _).mono ?_
    rintro e w1 ⟨rfl, hb⟩
    go_wp2_with fail
    go_ret
    exact ⟨rfl, hb⟩
  by_cases hl2 : 1000 < b.size
  · go_enter Try.func11, Try.ntmps11
    go_wp2_with fail
    refine (cawake_calls _).mono ?_
    rintro e w1 ⟨rfl, hb⟩
    go_wp2_with fail
    go_ret
    exact ⟨rfl, hb⟩
  have has : a.size ≤ 1000 := by omega
  have hbs : b.size ≤ 1000 := by omega
  clear w0 w1
  go_enter Try.func11, Try.ntmps11
  go_wp2_with fail
  go_loop [7] (fun t => ∃ i : Nat, i ≤ a.size ∧ t = .int .i64 i ∧ Hid (∀ j (hj : j < a.size), j < i → ¬ a[j].toNat = 38 ∧ ¬ a[j].toNat = 194)) (fun t => a.size - (intOf t).toNat)
  case atStart => exact ⟨0, Nat.zero_le _, rfl, Lib.hid (fun j _ h => absurd h (Nat.not_lt_zero _))⟩
  case round =>
    obtain ⟨i, hi, rfl, HI⟩ := hrel
    by_cases hlt : i < a.size
    · obtain ⟨c, hc⟩ : ∃ c, a[i].toNat = c := ⟨_, rfl⟩
      have hi0 : ∀ w : World, (Instr.index 9 (.string a) (.int .i64 (i : Int))).run Try.prog w = .ok (.int .u8 c) w := fun w => run_at a i hlt rfl hc w
      have HC := Lib.hid hc
      clear hc
      by_cases h38 : c = 38
      · subst h38
        go_wp2_with fail
        refine (cawake_calls _).mono ?_
        rintro e w1 ⟨rfl, hb⟩
        go_wp2_with fail
        go_ret
        exact ⟨rfl, hb⟩
      · have q1 : ((c : Int) == 38) = false := by rw [beq_eq_false_iff_ne]; omega
        by_cases h194 : c = 194
        · subst h194
          go_wp2_with fail
          refine (cawake_calls _).mono ?_
          rintro e w1 ⟨rfl, hb⟩
          go_wp2_with fail
          go_ret
          exact ⟨rfl, hb⟩
        · have q2 : ((c : Int) == 194) = false := by rw [beq_eq_false_iff_ne]; omega
          go_wp2_with fail
          go_round
          case rel => exact ⟨i + 1, hlt, by go_num, Lib.hid (fun j hj hji => by
            by_cases e : j = i
            · subst e; exact ⟨fun h => h38 (HC.out.symm.trans h), fun h => h194 (HC.out.symm.trans h)⟩
            · exact HI.out j hj (by omega))⟩
          case measure => simp [intOf]; omega
    · obtain rfl : i = a.size := by omega
      have P1 := Lib.hid (plain_dec a b attr (fun j hj => (HI.out j hj hj).1))
      have P2 := Lib.hid (esc_append attr a b (fun j hj => (HI.out j hj hj).2))
      have z1 : a.size + b.size ≤ maxLen := by unfold maxLen; omega
      have zab : (a ++ b).size ≤ 1000000 := by rw [ByteArray.size_append]; omega
      have d1 := decB_size b attr
      have d2 := escB_size attr a
      have d3 := escB_size attr b
      have z2 : a.size + (decB b attr).size ≤ maxLen := by unfold maxLen; omega
      have z3 : (escB attr a).size + (escB attr b).size ≤ maxLen := by unfold maxLen; omega
      have DA := Lib.hid (decode_calls (a ++ b) zab attr)
      have DB := Lib.hid (decode_calls b (by omega) attr)
      have EA := Lib.hid (escape_calls (a ++ b) attr zab)
      have EB := Lib.hid (escape_calls a attr (by omega))
      have EC := Lib.hid (escape_calls b attr (by omega))
      clear hl hl2 zab
      go_wp2_with fail
      refine (DA.out _).mono ?_
      rintro e w1 ⟨rfl, hb⟩
      have HB1 := Lib.hid hb
      rw [P1.out]
      clear hb
      go_wp2_with fail
      refine (DB.out _).mono ?_
      rintro e w2 ⟨rfl, hb⟩
      have HB2 := Lib.hid (HB1.out.trans (hb.mono HB1.out.size))
      clear hb
      go_wp2_with fail
      refine (EA.out _).mono ?_
      rintro e w3 ⟨rfl, hb⟩
      have HB3 := Lib.hid (HB2.out.trans (hb.mono HB2.out.size))
      rw [P2.out]
      clear hb
      go_wp2_with fail
      refine (EB.out _).mono ?_
      rintro e w4 ⟨rfl, hb⟩
      have HB4 := Lib.hid (HB3.out.trans (hb.mono HB3.out.size))
      clear hb
      go_wp2_with fail
      refine (EC.out _).mono ?_
      rintro e w5 ⟨rfl, hb⟩
      have HB5 := Lib.hid (HB4.out.trans (hb.mono HB4.out.size))
      clear hb
      go_wp2_with fail
      refine (place_calls _ 1 (by decide) (by decide) _).mono ?_
      rintro e w6 ⟨⟨k, hk, rfl⟩, rfl⟩
      obtain rfl : k = 0 := by omega
      go_wp2_with fail
      refine (cawake_calls _).mono ?_
      rintro e w7 ⟨rfl, hb⟩
      have HB7 := Lib.hid (HB5.out.trans (hb.mono HB5.out.size))
      clear hb
      go_wp2_with fail
      go_ret
      exact ⟨rfl, HB7.out⟩
end Go.Proofs.Ytfjlpekoklmedaa.Wk
