/- The document's number behind a number sign. -/
import Derived.Test.YtfjlpekoklmedaaNumc
namespace Go.Proofs.Ytfjlpekoklmedaa.Ch
open Go Go.RowKit Go.Proofs.Ytfjlpekoklmedaa.Sr Go.Proofs.Ytfjlpekoklmedaa.Ct
set_option linter.unusedVariables false
set_option maxRecDepth 100000

theorem slot_int {a b : Int} (h : a = b) : Value.int .i64 a = .int .i64 b := by rw [h]
set_option maxHeartbeats 800000 in
theorem rnumber_end (s : ByteArray) (hs : s.size ≤ 1000000000) (k : Nat) (w : World) (hk : k + 2 = s.size) :
    Calls Try.prog 33 #[.string s, .int .i64 k] w (NumEnd s k w) := by
  have hX : Hid (hexAt s (k + 2) = false) := Lib.hid (hexAt_end (by omega))
  have hfs : k + 2 ≤ s.size := by omega
  obtain ⟨⟨v, n⟩, hR⟩ : ∃ r, numL false (s.data.toList.drop (k + 2)) 0 = r := ⟨_, rfl⟩
  have hn : n ≤ s.size - (k + 2) := by
    have h := numL_len false (s.data.toList.drop (k + 2)) 0
    rw [hR, List.length_drop] at h
    exact h
  have hv := numL_bd false (s.data.toList.drop (k + 2)) 0 (by decide) (by decide)
  rw [hR] at hv
  obtain ⟨hv0, hv1⟩ := hv
  replace hv0 : 0 ≤ v := hv0
  replace hv1 : v ≤ 1114112 := hv1
  obtain ⟨hcd0, hcd1⟩ := code_small v
  have HR := Lib.hid hR
  have HD := Lib.hid (numV_dec hX.out)
  clear hR
  by_cases hn0 : n = 0
  · have HF := Lib.hid (HD.out.trans (numAt_no ((congrArg Prod.snd HR.out).trans hn0)))
    have HN0 := Lib.hid hn0
    have hnl : n ≤ 0 := by omega
    clear hn0
    by_cases he : k + 2 + n = s.size
    · skip
      go_enter Try.func33, Try.ntmps33
      go_wp2_with fail
      go_loop [6, 10] (fun a x => ∃ (j : Nat) (y : Int), k + 2 + j ≤ s.size ∧ 0 ≤ y ∧ y ≤ 1114112 ∧ a = .int .i64 ((k : Int) + 2 + (j : Int)) ∧ x = .int .i64 y ∧ Hid (numL false (s.data.toList.drop (k + 2)) 0 = ((numL false (s.data.toList.drop (k + 2 + j)) y).1, (numL false (s.data.toList.drop (k + 2 + j)) y).2 + j))) (fun a _ => s.size - (intOf a).toNat)
      case atStart => exact ⟨0, 0, by omega, by decide, by decide, slot_int (by omega), rfl, Lib.hid (by simp)⟩
      case round =>
        obtain ⟨j, y, hjs, hy0, hy1, rfl, rfl, HJ⟩ := hrel
        by_cases hjl : k + 2 + j < s.size
        · exfalso; omega
        · have hx : n = j ∧ v = y := by
            have h := HJ.out
            rw [numL_end (show s.size ≤ k + 2 + j by omega), HR.out] at h
            injection h with h1 h2
            exact ⟨by omega, h1⟩
          obtain ⟨hjn, rfl⟩ := hx
          have q0 : (((k : Int) + 2 + (j : Int)) == ((k : Int) + 2)) = true := by rw [beq_iff_eq]; omega
          clear hjn
          go_wp2_with fail
          go_ret2
          exact num_end HF.out rfl (Below.refl _ _)
    · exfalso; omega
  · exfalso; omega
set_option maxHeartbeats 800000 in
theorem rnumber_x (s : ByteArray) (hs : s.size ≤ 1000000000) (k : Nat) (w : World) (hk : k + 2 < s.size) (hc : s[k + 2].toNat = 120) :
    Calls Try.prog 33 #[.string s, .int .i64 k] w (NumEnd s k w) := by
  have hX : Hid (hexAt s (k + 2) = true) := Lib.hid (by rw [hexAt_in hk, hc]; rfl)
  have hi0 : ∀ w : World, (Instr.index 9 (.string s) (.int .i64 ((k : Int) + 2))).run Try.prog w = .ok (.int .u8 120) w := fun w => run_at s (k + 2) hk (by omega) hc w
  clear hc
  have hfs : k + 3 ≤ s.size := by omega
  obtain ⟨⟨v, n⟩, hR⟩ : ∃ r, numL true (s.data.toList.drop (k + 3)) 0 = r := ⟨_, rfl⟩
  have hn : n ≤ s.size - (k + 3) := by
    have h := numL_len true (s.data.toList.drop (k + 3)) 0
    rw [hR, List.length_drop] at h
    exact h
  have hv := numL_bd true (s.data.toList.drop (k + 3)) 0 (by decide) (by decide)
  rw [hR] at hv
  obtain ⟨hv0, hv1⟩ := hv
  replace hv0 : 0 ≤ v := hv0
  replace hv1 : v ≤ 1114112 := hv1
  obtain ⟨hcd0, hcd1⟩ := code_small v
  have HR := Lib.hid hR
  have HD := Lib.hid (numV_hex hX.out)
  clear hR
  by_cases hn0 : n = 0
  · have HF := Lib.hid (HD.out.trans (numAt_no ((congrArg Prod.snd HR.out).trans hn0)))
    have HN0 := Lib.hid hn0
    have hnl : n ≤ 0 := by omega
    clear hn0
    by_cases he : k + 3 + n = s.size
    · skip
      go_enter Try.func33, Try.ntmps33
      go_wp2_with fail
      go_loop [6, 10] (fun a x => ∃ (j : Nat) (y : Int), k + 3 + j ≤ s.size ∧ 0 ≤ y ∧ y ≤ 1114112 ∧ a = .int .i64 ((k : Int) + 2 + 1 + (j : Int)) ∧ x = .int .i64 y ∧ Hid (numL true (s.data.toList.drop (k + 3)) 0 = ((numL true (s.data.toList.drop (k + 3 + j)) y).1, (numL true (s.data.toList.drop (k + 3 + j)) y).2 + j))) (fun a _ => s.size - (intOf a).toNat)
      case atStart => exact ⟨0, 0, by omega, by decide, by decide, slot_int (by omega), rfl, Lib.hid (by simp)⟩
      case round =>
        obtain ⟨j, y, hjs, hy0, hy1, rfl, rfl, HJ⟩ := hrel
        by_cases hjl : k + 3 + j < s.size
        · exfalso; omega
        · have hx : n = j ∧ v = y := by
            have h := HJ.out
            rw [numL_end (show s.size ≤ k + 3 + j by omega), HR.out] at h
            injection h with h1 h2
            exact ⟨by omega, h1⟩
          obtain ⟨hjn, rfl⟩ := hx
          have q0 : (((k : Int) + 2 + 1 + (j : Int)) == ((k : Int) + 2 + 1)) = true := by rw [beq_iff_eq]; omega
          clear hjn
          go_wp2_with fail
          go_ret2
          exact num_end HF.out rfl (Below.refl _ _)
    · have hel : k + 3 + n < s.size := by omega
      go_enter Try.func33, Try.ntmps33
      go_wp2_with fail
      go_loop [6, 10] (fun a x => ∃ (j : Nat) (y : Int), k + 3 + j ≤ s.size ∧ 0 ≤ y ∧ y ≤ 1114112 ∧ a = .int .i64 ((k : Int) + 2 + 1 + (j : Int)) ∧ x = .int .i64 y ∧ Hid (numL true (s.data.toList.drop (k + 3)) 0 = ((numL true (s.data.toList.drop (k + 3 + j)) y).1, (numL true (s.data.toList.drop (k + 3 + j)) y).2 + j))) (fun a _ => s.size - (intOf a).toNat)
      case atStart => exact ⟨0, 0, by omega, by decide, by decide, slot_int (by omega), rfl, Lib.hid (by simp)⟩
      case round =>
        obtain ⟨j, y, hjs, hy0, hy1, rfl, rfl, HJ⟩ := hrel
        by_cases hjl : k + 3 + j < s.size
        · obtain ⟨c3, hc3⟩ : ∃ c, s[k + 3 + j].toNat = c := ⟨_, rfl⟩
          have hcb : c3 < 256 := by have := s[k + 3 + j].toNat_lt; omega
          have hid3 : ∀ w : World, (Instr.index 9 (.string s) (.int .i64 ((k : Int) + 2 + 1 + (j : Int)))).run Try.prog w = .ok (.int .u8 ((c3 : Nat) : Int)) w := fun w => run_at s (k + 3 + j) hjl (by omega) hc3 w
          have D := Lib.hid (rdigit_calls c3 hcb true w)
          obtain ⟨hd0, hd1⟩ := dig_bd c3 true
          have hc3' := Lib.hid hc3
          clear hc3
          by_cases hd : digI c3 true < 0
          · have hx : n = j ∧ v = y := by
              have h := HJ.out
              rw [numL_stop hjl (by rw [hc3'.out]; exact hd), HR.out] at h
              injection h with h1 h2
              exact ⟨by omega, h1⟩
            obtain ⟨hjn, rfl⟩ := hx
            have q0 : (((k : Int) + 2 + 1 + (j : Int)) == ((k : Int) + 2 + 1)) = true := by rw [beq_iff_eq]; omega
            clear hjn
            go_wp2_with fail
            refine D.out.mono ?_
            rintro e w' ⟨rfl, rfl⟩
            clear D
            go_wp2_with fail
            go_ret2
            exact num_end HF.out rfl (Below.refl _ _)
          · have hd2 : 0 ≤ digI c3 true := by omega
            go_wp2_with fail
            refine D.out.mono ?_
            rintro e w' ⟨rfl, rfl⟩
            go_wp2_with fail
            refine D.out.mono ?_
            rintro e w' ⟨rfl, rfl⟩
            clear D
            go_wp2_with fail
            go_round
            case rel =>
              refine ⟨j + 1, min (y * 16 + digI c3 true) 1114112, by omega, by omega, by omega, slot_int (by omega), slot_int (by first | (split <;> omega) | omega), Lib.hid ?_⟩
              have h := HJ.out
              rw [numL_go hjl (by rw [hc3'.out]; omega), hc3'.out] at h
              rw [h]
              have e1 : k + 3 + (j + 1) = k + 3 + j + 1 := by omega
              rw [e1]
              simp only [baseI, cond, Nat.add_assoc, Nat.add_comm 1 j]
            case measure => simp [intOf]; omega
        · have hx : n = j ∧ v = y := by
            have h := HJ.out
            rw [numL_end (show s.size ≤ k + 3 + j by omega), HR.out] at h
            injection h with h1 h2
            exact ⟨by omega, h1⟩
          obtain ⟨hjn, rfl⟩ := hx
          have q0 : (((k : Int) + 2 + 1 + (j : Int)) == ((k : Int) + 2 + 1)) = true := by rw [beq_iff_eq]; omega
          exfalso; omega
  · have hn1 : 0 < n := by omega
    have q1 : (((k : Int) + 2 + 1 + (n : Int)) == ((k : Int) + 2 + 1)) = false := by rw [beq_eq_false_iff_ne]; omega
    by_cases he : k + 3 + n = s.size
    · have HF := Lib.hid (HD.out.trans (numAt_yes hn1 HR.out (semi_end (Nat.le_of_eq he.symm))))
      go_enter Try.func33, Try.ntmps33
      go_wp2_with fail
      go_loop [6, 10] (fun a x => ∃ (j : Nat) (y : Int), k + 3 + j ≤ s.size ∧ 0 ≤ y ∧ y ≤ 1114112 ∧ a = .int .i64 ((k : Int) + 2 + 1 + (j : Int)) ∧ x = .int .i64 y ∧ Hid (numL true (s.data.toList.drop (k + 3)) 0 = ((numL true (s.data.toList.drop (k + 3 + j)) y).1, (numL true (s.data.toList.drop (k + 3 + j)) y).2 + j))) (fun a _ => s.size - (intOf a).toNat)
      case atStart => exact ⟨0, 0, by omega, by decide, by decide, slot_int (by omega), rfl, Lib.hid (by simp)⟩
      case round =>
        obtain ⟨j, y, hjs, hy0, hy1, rfl, rfl, HJ⟩ := hrel
        by_cases hjl : k + 3 + j < s.size
        · obtain ⟨c3, hc3⟩ : ∃ c, s[k + 3 + j].toNat = c := ⟨_, rfl⟩
          have hcb : c3 < 256 := by have := s[k + 3 + j].toNat_lt; omega
          have hid3 : ∀ w : World, (Instr.index 9 (.string s) (.int .i64 ((k : Int) + 2 + 1 + (j : Int)))).run Try.prog w = .ok (.int .u8 ((c3 : Nat) : Int)) w := fun w => run_at s (k + 3 + j) hjl (by omega) hc3 w
          have D := Lib.hid (rdigit_calls c3 hcb true w)
          obtain ⟨hd0, hd1⟩ := dig_bd c3 true
          have hc3' := Lib.hid hc3
          clear hc3
          by_cases hd : digI c3 true < 0
          · have hx : n = j ∧ v = y := by
              have h := HJ.out
              rw [numL_stop hjl (by rw [hc3'.out]; exact hd), HR.out] at h
              injection h with h1 h2
              exact ⟨by omega, h1⟩
            obtain ⟨rfl, rfl⟩ := hx
            exfalso; omega
          · have hd2 : 0 ≤ digI c3 true := by omega
            go_wp2_with fail
            refine D.out.mono ?_
            rintro e w' ⟨rfl, rfl⟩
            go_wp2_with fail
            refine D.out.mono ?_
            rintro e w' ⟨rfl, rfl⟩
            clear D
            go_wp2_with fail
            go_round
            case rel =>
              refine ⟨j + 1, min (y * 16 + digI c3 true) 1114112, by omega, by omega, by omega, slot_int (by omega), slot_int (by first | (split <;> omega) | omega), Lib.hid ?_⟩
              have h := HJ.out
              rw [numL_go hjl (by rw [hc3'.out]; omega), hc3'.out] at h
              rw [h]
              have e1 : k + 3 + (j + 1) = k + 3 + j + 1 := by omega
              rw [e1]
              simp only [baseI, cond, Nat.add_assoc, Nat.add_comm 1 j]
            case measure => simp [intOf]; omega
        · have hx : n = j ∧ v = y := by
            have h := HJ.out
            rw [numL_end (show s.size ≤ k + 3 + j by omega), HR.out] at h
            injection h with h1 h2
            exact ⟨by omega, h1⟩
          obtain ⟨rfl, rfl⟩ := hx
          go_wp2_with fail
          refine (rcode_calls _ _).mono ?_
          rintro e w2 ⟨rfl, rfl⟩
          go_wp2_with fail
          refine (rput_calls _ (by omega) (by omega) _).mono ?_
          rintro e w3 ⟨rfl, hb2⟩
          have HB := Lib.hid hb2
          clear hb2
          go_wp2_with fail
          go_ret2
          exact num_end HF.out (by omega) HB.out
    · have hel : k + 3 + n < s.size := by omega
      obtain ⟨c2, hc2⟩ : ∃ c, s[k + 3 + n].toNat = c := ⟨_, rfl⟩
      have HC2 := Lib.hid hc2
      by_cases h59 : c2 = 59
      · have HF := Lib.hid (HD.out.trans (numAt_yes hn1 HR.out (semi_yes hel (hc2.trans h59))))
        clear hc2
        go_enter Try.func33, Try.ntmps33
        go_wp2_with fail
        go_loop [6, 10] (fun a x => ∃ (j : Nat) (y : Int), k + 3 + j ≤ s.size ∧ 0 ≤ y ∧ y ≤ 1114112 ∧ a = .int .i64 ((k : Int) + 2 + 1 + (j : Int)) ∧ x = .int .i64 y ∧ Hid (numL true (s.data.toList.drop (k + 3)) 0 = ((numL true (s.data.toList.drop (k + 3 + j)) y).1, (numL true (s.data.toList.drop (k + 3 + j)) y).2 + j))) (fun a _ => s.size - (intOf a).toNat)
        case atStart => exact ⟨0, 0, by omega, by decide, by decide, slot_int (by omega), rfl, Lib.hid (by simp)⟩
        case round =>
          obtain ⟨j, y, hjs, hy0, hy1, rfl, rfl, HJ⟩ := hrel
          by_cases hjl : k + 3 + j < s.size
          · obtain ⟨c3, hc3⟩ : ∃ c, s[k + 3 + j].toNat = c := ⟨_, rfl⟩
            have hcb : c3 < 256 := by have := s[k + 3 + j].toNat_lt; omega
            have hid3 : ∀ w : World, (Instr.index 9 (.string s) (.int .i64 ((k : Int) + 2 + 1 + (j : Int)))).run Try.prog w = .ok (.int .u8 ((c3 : Nat) : Int)) w := fun w => run_at s (k + 3 + j) hjl (by omega) hc3 w
            have D := Lib.hid (rdigit_calls c3 hcb true w)
            obtain ⟨hd0, hd1⟩ := dig_bd c3 true
            have hc3' := Lib.hid hc3
            clear hc3
            by_cases hd : digI c3 true < 0
            · have hx : n = j ∧ v = y := by
                have h := HJ.out
                rw [numL_stop hjl (by rw [hc3'.out]; exact hd), HR.out] at h
                injection h with h1 h2
                exact ⟨by omega, h1⟩
              obtain ⟨rfl, rfl⟩ := hx
              go_wp2_with fail
              refine D.out.mono ?_
              rintro e w' ⟨rfl, rfl⟩
              clear D
              obtain rfl : c3 = c2 := hc3'.out.symm.trans HC2.out
              subst h59
              go_wp2_with fail
              refine (rcode_calls _ _).mono ?_
              rintro e w2 ⟨rfl, rfl⟩
              go_wp2_with fail
              refine (rput_calls _ (by omega) (by omega) _).mono ?_
              rintro e w3 ⟨rfl, hb2⟩
              have HB := Lib.hid hb2
              clear hb2
              go_wp2_with fail
              go_ret2
              exact num_end HF.out (by omega) HB.out
            · have hd2 : 0 ≤ digI c3 true := by omega
              go_wp2_with fail
              refine D.out.mono ?_
              rintro e w' ⟨rfl, rfl⟩
              go_wp2_with fail
              refine D.out.mono ?_
              rintro e w' ⟨rfl, rfl⟩
              clear D
              go_wp2_with fail
              go_round
              case rel =>
                refine ⟨j + 1, min (y * 16 + digI c3 true) 1114112, by omega, by omega, by omega, slot_int (by omega), slot_int (by first | (split <;> omega) | omega), Lib.hid ?_⟩
                have h := HJ.out
                rw [numL_go hjl (by rw [hc3'.out]; omega), hc3'.out] at h
                rw [h]
                have e1 : k + 3 + (j + 1) = k + 3 + j + 1 := by omega
                rw [e1]
                simp only [baseI, cond, Nat.add_assoc, Nat.add_comm 1 j]
              case measure => simp [intOf]; omega
          · have hx : n = j ∧ v = y := by
              have h := HJ.out
              rw [numL_end (show s.size ≤ k + 3 + j by omega), HR.out] at h
              injection h with h1 h2
              exact ⟨by omega, h1⟩
            obtain ⟨rfl, rfl⟩ := hx
            exfalso; omega
      · have HF := Lib.hid (HD.out.trans (numAt_yes hn1 HR.out (semi_no hel (fun e => h59 (hc2.symm.trans e)))))
        have q2 : ((c2 : Int) == 59) = false := by rw [beq_eq_false_iff_ne]; omega
        clear hc2
        go_enter Try.func33, Try.ntmps33
        go_wp2_with fail
        go_loop [6, 10] (fun a x => ∃ (j : Nat) (y : Int), k + 3 + j ≤ s.size ∧ 0 ≤ y ∧ y ≤ 1114112 ∧ a = .int .i64 ((k : Int) + 2 + 1 + (j : Int)) ∧ x = .int .i64 y ∧ Hid (numL true (s.data.toList.drop (k + 3)) 0 = ((numL true (s.data.toList.drop (k + 3 + j)) y).1, (numL true (s.data.toList.drop (k + 3 + j)) y).2 + j))) (fun a _ => s.size - (intOf a).toNat)
        case atStart => exact ⟨0, 0, by omega, by decide, by decide, slot_int (by omega), rfl, Lib.hid (by simp)⟩
        case round =>
          obtain ⟨j, y, hjs, hy0, hy1, rfl, rfl, HJ⟩ := hrel
          by_cases hjl : k + 3 + j < s.size
          · obtain ⟨c3, hc3⟩ : ∃ c, s[k + 3 + j].toNat = c := ⟨_, rfl⟩
            have hcb : c3 < 256 := by have := s[k + 3 + j].toNat_lt; omega
            have hid3 : ∀ w : World, (Instr.index 9 (.string s) (.int .i64 ((k : Int) + 2 + 1 + (j : Int)))).run Try.prog w = .ok (.int .u8 ((c3 : Nat) : Int)) w := fun w => run_at s (k + 3 + j) hjl (by omega) hc3 w
            have D := Lib.hid (rdigit_calls c3 hcb true w)
            obtain ⟨hd0, hd1⟩ := dig_bd c3 true
            have hc3' := Lib.hid hc3
            clear hc3
            by_cases hd : digI c3 true < 0
            · have hx : n = j ∧ v = y := by
                have h := HJ.out
                rw [numL_stop hjl (by rw [hc3'.out]; exact hd), HR.out] at h
                injection h with h1 h2
                exact ⟨by omega, h1⟩
              obtain ⟨rfl, rfl⟩ := hx
              go_wp2_with fail
              refine D.out.mono ?_
              rintro e w' ⟨rfl, rfl⟩
              clear D
              obtain rfl : c3 = c2 := hc3'.out.symm.trans HC2.out
              go_wp2_with fail
              refine (rcode_calls _ _).mono ?_
              rintro e w2 ⟨rfl, rfl⟩
              go_wp2_with fail
              refine (rput_calls _ (by omega) (by omega) _).mono ?_
              rintro e w3 ⟨rfl, hb2⟩
              have HB := Lib.hid hb2
              clear hb2
              go_wp2_with fail
              go_ret2
              exact num_end HF.out (by omega) HB.out
            · have hd2 : 0 ≤ digI c3 true := by omega
              go_wp2_with fail
              refine D.out.mono ?_
              rintro e w' ⟨rfl, rfl⟩
              go_wp2_with fail
              refine D.out.mono ?_
              rintro e w' ⟨rfl, rfl⟩
              clear D
              go_wp2_with fail
              go_round
              case rel =>
                refine ⟨j + 1, min (y * 16 + digI c3 true) 1114112, by omega, by omega, by omega, slot_int (by omega), slot_int (by first | (split <;> omega) | omega), Lib.hid ?_⟩
                have h := HJ.out
                rw [numL_go hjl (by rw [hc3'.out]; omega), hc3'.out] at h
                rw [h]
                have e1 : k + 3 + (j + 1) = k + 3 + j + 1 := by omega
                rw [e1]
                simp only [baseI, cond, Nat.add_assoc, Nat.add_comm 1 j]
              case measure => simp [intOf]; omega
          · have hx : n = j ∧ v = y := by
              have h := HJ.out
              rw [numL_end (show s.size ≤ k + 3 + j by omega), HR.out] at h
              injection h with h1 h2
              exact ⟨by omega, h1⟩
            obtain ⟨rfl, rfl⟩ := hx
            exfalso; omega
set_option maxHeartbeats 800000 in
theorem rnumber_X (s : ByteArray) (hs : s.size ≤ 1000000000) (k : Nat) (w : World) (hk : k + 2 < s.size) (hc : s[k + 2].toNat = 88) :
    Calls Try.prog 33 #[.string s, .int .i64 k] w (NumEnd s k w) := by
  have hX : Hid (hexAt s (k + 2) = true) := Lib.hid (by rw [hexAt_in hk, hc]; rfl)
  have hi0 : ∀ w : World, (Instr.index 9 (.string s) (.int .i64 ((k : Int) + 2))).run Try.prog w = .ok (.int .u8 88) w := fun w => run_at s (k + 2) hk (by omega) hc w
  clear hc
  have hfs : k + 3 ≤ s.size := by omega
  obtain ⟨⟨v, n⟩, hR⟩ : ∃ r, numL true (s.data.toList.drop (k + 3)) 0 = r := ⟨_, rfl⟩
  have hn : n ≤ s.size - (k + 3) := by
    have h := numL_len true (s.data.toList.drop (k + 3)) 0
    rw [hR, List.length_drop] at h
    exact h
  have hv := numL_bd true (s.data.toList.drop (k + 3)) 0 (by decide) (by decide)
  rw [hR] at hv
  obtain ⟨hv0, hv1⟩ := hv
  replace hv0 : 0 ≤ v := hv0
  replace hv1 : v ≤ 1114112 := hv1
  obtain ⟨hcd0, hcd1⟩ := code_small v
  have HR := Lib.hid hR
  have HD := Lib.hid (numV_hex hX.out)
  clear hR
  by_cases hn0 : n = 0
  · have HF := Lib.hid (HD.out.trans (numAt_no ((congrArg Prod.snd HR.out).trans hn0)))
    have HN0 := Lib.hid hn0
    have hnl : n ≤ 0 := by omega
    clear hn0
    by_cases he : k + 3 + n = s.size
    · skip
      go_enter Try.func33, Try.ntmps33
      go_wp2_with fail
      go_loop [6, 10] (fun a x => ∃ (j : Nat) (y : Int), k + 3 + j ≤ s.size ∧ 0 ≤ y ∧ y ≤ 1114112 ∧ a = .int .i64 ((k : Int) + 2 + 1 + (j : Int)) ∧ x = .int .i64 y ∧ Hid (numL true (s.data.toList.drop (k + 3)) 0 = ((numL true (s.data.toList.drop (k + 3 + j)) y).1, (numL true (s.data.toList.drop (k + 3 + j)) y).2 + j))) (fun a _ => s.size - (intOf a).toNat)
      case atStart => exact ⟨0, 0, by omega, by decide, by decide, slot_int (by omega), rfl, Lib.hid (by simp)⟩
      case round =>
        obtain ⟨j, y, hjs, hy0, hy1, rfl, rfl, HJ⟩ := hrel
        by_cases hjl : k + 3 + j < s.size
        · exfalso; omega
        · have hx : n = j ∧ v = y := by
            have h := HJ.out
            rw [numL_end (show s.size ≤ k + 3 + j by omega), HR.out] at h
            injection h with h1 h2
            exact ⟨by omega, h1⟩
          obtain ⟨hjn, rfl⟩ := hx
          have q0 : (((k : Int) + 2 + 1 + (j : Int)) == ((k : Int) + 2 + 1)) = true := by rw [beq_iff_eq]; omega
          clear hjn
          go_wp2_with fail
          go_ret2
          exact num_end HF.out rfl (Below.refl _ _)
    · have hel : k + 3 + n < s.size := by omega
      go_enter Try.func33, Try.ntmps33
      go_wp2_with fail
      go_loop [6, 10] (fun a x => ∃ (j : Nat) (y : Int), k + 3 + j ≤ s.size ∧ 0 ≤ y ∧ y ≤ 1114112 ∧ a = .int .i64 ((k : Int) + 2 + 1 + (j : Int)) ∧ x = .int .i64 y ∧ Hid (numL true (s.data.toList.drop (k + 3)) 0 = ((numL true (s.data.toList.drop (k + 3 + j)) y).1, (numL true (s.data.toList.drop (k + 3 + j)) y).2 + j))) (fun a _ => s.size - (intOf a).toNat)
      case atStart => exact ⟨0, 0, by omega, by decide, by decide, slot_int (by omega), rfl, Lib.hid (by simp)⟩
      case round =>
        obtain ⟨j, y, hjs, hy0, hy1, rfl, rfl, HJ⟩ := hrel
        by_cases hjl : k + 3 + j < s.size
        · obtain ⟨c3, hc3⟩ : ∃ c, s[k + 3 + j].toNat = c := ⟨_, rfl⟩
          have hcb : c3 < 256 := by have := s[k + 3 + j].toNat_lt; omega
          have hid3 : ∀ w : World, (Instr.index 9 (.string s) (.int .i64 ((k : Int) + 2 + 1 + (j : Int)))).run Try.prog w = .ok (.int .u8 ((c3 : Nat) : Int)) w := fun w => run_at s (k + 3 + j) hjl (by omega) hc3 w
          have D := Lib.hid (rdigit_calls c3 hcb true w)
          obtain ⟨hd0, hd1⟩ := dig_bd c3 true
          have hc3' := Lib.hid hc3
          clear hc3
          by_cases hd : digI c3 true < 0
          · have hx : n = j ∧ v = y := by
              have h := HJ.out
              rw [numL_stop hjl (by rw [hc3'.out]; exact hd), HR.out] at h
              injection h with h1 h2
              exact ⟨by omega, h1⟩
            obtain ⟨hjn, rfl⟩ := hx
            have q0 : (((k : Int) + 2 + 1 + (j : Int)) == ((k : Int) + 2 + 1)) = true := by rw [beq_iff_eq]; omega
            clear hjn
            go_wp2_with fail
            refine D.out.mono ?_
            rintro e w' ⟨rfl, rfl⟩
            clear D
            go_wp2_with fail
            go_ret2
            exact num_end HF.out rfl (Below.refl _ _)
          · have hd2 : 0 ≤ digI c3 true := by omega
            go_wp2_with fail
            refine D.out.mono ?_
            rintro e w' ⟨rfl, rfl⟩
            go_wp2_with fail
            refine D.out.mono ?_
            rintro e w' ⟨rfl, rfl⟩
            clear D
            go_wp2_with fail
            go_round
            case rel =>
              refine ⟨j + 1, min (y * 16 + digI c3 true) 1114112, by omega, by omega, by omega, slot_int (by omega), slot_int (by first | (split <;> omega) | omega), Lib.hid ?_⟩
              have h := HJ.out
              rw [numL_go hjl (by rw [hc3'.out]; omega), hc3'.out] at h
              rw [h]
              have e1 : k + 3 + (j + 1) = k + 3 + j + 1 := by omega
              rw [e1]
              simp only [baseI, cond, Nat.add_assoc, Nat.add_comm 1 j]
            case measure => simp [intOf]; omega
        · have hx : n = j ∧ v = y := by
            have h := HJ.out
            rw [numL_end (show s.size ≤ k + 3 + j by omega), HR.out] at h
            injection h with h1 h2
            exact ⟨by omega, h1⟩
          obtain ⟨hjn, rfl⟩ := hx
          have q0 : (((k : Int) + 2 + 1 + (j : Int)) == ((k : Int) + 2 + 1)) = true := by rw [beq_iff_eq]; omega
          exfalso; omega
  · have hn1 : 0 < n := by omega
    have q1 : (((k : Int) + 2 + 1 + (n : Int)) == ((k : Int) + 2 + 1)) = false := by rw [beq_eq_false_iff_ne]; omega
    by_cases he : k + 3 + n = s.size
    · have HF := Lib.hid (HD.out.trans (numAt_yes hn1 HR.out (semi_end (Nat.le_of_eq he.symm))))
      go_enter Try.func33, Try.ntmps33
      go_wp2_with fail
      go_loop [6, 10] (fun a x => ∃ (j : Nat) (y : Int), k + 3 + j ≤ s.size ∧ 0 ≤ y ∧ y ≤ 1114112 ∧ a = .int .i64 ((k : Int) + 2 + 1 + (j : Int)) ∧ x = .int .i64 y ∧ Hid (numL true (s.data.toList.drop (k + 3)) 0 = ((numL true (s.data.toList.drop (k + 3 + j)) y).1, (numL true (s.data.toList.drop (k + 3 + j)) y).2 + j))) (fun a _ => s.size - (intOf a).toNat)
      case atStart => exact ⟨0, 0, by omega, by decide, by decide, slot_int (by omega), rfl, Lib.hid (by simp)⟩
      case round =>
        obtain ⟨j, y, hjs, hy0, hy1, rfl, rfl, HJ⟩ := hrel
        by_cases hjl : k + 3 + j < s.size
        · obtain ⟨c3, hc3⟩ : ∃ c, s[k + 3 + j].toNat = c := ⟨_, rfl⟩
          have hcb : c3 < 256 := by have := s[k + 3 + j].toNat_lt; omega
          have hid3 : ∀ w : World, (Instr.index 9 (.string s) (.int .i64 ((k : Int) + 2 + 1 + (j : Int)))).run Try.prog w = .ok (.int .u8 ((c3 : Nat) : Int)) w := fun w => run_at s (k + 3 + j) hjl (by omega) hc3 w
          have D := Lib.hid (rdigit_calls c3 hcb true w)
          obtain ⟨hd0, hd1⟩ := dig_bd c3 true
          have hc3' := Lib.hid hc3
          clear hc3
          by_cases hd : digI c3 true < 0
          · have hx : n = j ∧ v = y := by
              have h := HJ.out
              rw [numL_stop hjl (by rw [hc3'.out]; exact hd), HR.out] at h
              injection h with h1 h2
              exact ⟨by omega, h1⟩
            obtain ⟨rfl, rfl⟩ := hx
            exfalso; omega
          · have hd2 : 0 ≤ digI c3 true := by omega
            go_wp2_with fail
            refine D.out.mono ?_
            rintro e w' ⟨rfl, rfl⟩
            go_wp2_with fail
            refine D.out.mono ?_
            rintro e w' ⟨rfl, rfl⟩
            clear D
            go_wp2_with fail
            go_round
            case rel =>
              refine ⟨j + 1, min (y * 16 + digI c3 true) 1114112, by omega, by omega, by omega, slot_int (by omega), slot_int (by first | (split <;> omega) | omega), Lib.hid ?_⟩
              have h := HJ.out
              rw [numL_go hjl (by rw [hc3'.out]; omega), hc3'.out] at h
              rw [h]
              have e1 : k + 3 + (j + 1) = k + 3 + j + 1 := by omega
              rw [e1]
              simp only [baseI, cond, Nat.add_assoc, Nat.add_comm 1 j]
            case measure => simp [intOf]; omega
        · have hx : n = j ∧ v = y := by
            have h := HJ.out
            rw [numL_end (show s.size ≤ k + 3 + j by omega), HR.out] at h
            injection h with h1 h2
            exact ⟨by omega, h1⟩
          obtain ⟨rfl, rfl⟩ := hx
          go_wp2_with fail
          refine (rcode_calls _ _).mono ?_
          rintro e w2 ⟨rfl, rfl⟩
          go_wp2_with fail
          refine (rput_calls _ (by omega) (by omega) _).mono ?_
          rintro e w3 ⟨rfl, hb2⟩
          have HB := Lib.hid hb2
          clear hb2
          go_wp2_with fail
          go_ret2
          exact num_end HF.out (by omega) HB.out
    · have hel : k + 3 + n < s.size := by omega
      obtain ⟨c2, hc2⟩ : ∃ c, s[k + 3 + n].toNat = c := ⟨_, rfl⟩
      have HC2 := Lib.hid hc2
      by_cases h59 : c2 = 59
      · have HF := Lib.hid (HD.out.trans (numAt_yes hn1 HR.out (semi_yes hel (hc2.trans h59))))
        clear hc2
        go_enter Try.func33, Try.ntmps33
        go_wp2_with fail
        go_loop [6, 10] (fun a x => ∃ (j : Nat) (y : Int), k + 3 + j ≤ s.size ∧ 0 ≤ y ∧ y ≤ 1114112 ∧ a = .int .i64 ((k : Int) + 2 + 1 + (j : Int)) ∧ x = .int .i64 y ∧ Hid (numL true (s.data.toList.drop (k + 3)) 0 = ((numL true (s.data.toList.drop (k + 3 + j)) y).1, (numL true (s.data.toList.drop (k + 3 + j)) y).2 + j))) (fun a _ => s.size - (intOf a).toNat)
        case atStart => exact ⟨0, 0, by omega, by decide, by decide, slot_int (by omega), rfl, Lib.hid (by simp)⟩
        case round =>
          obtain ⟨j, y, hjs, hy0, hy1, rfl, rfl, HJ⟩ := hrel
          by_cases hjl : k + 3 + j < s.size
          · obtain ⟨c3, hc3⟩ : ∃ c, s[k + 3 + j].toNat = c := ⟨_, rfl⟩
            have hcb : c3 < 256 := by have := s[k + 3 + j].toNat_lt; omega
            have hid3 : ∀ w : World, (Instr.index 9 (.string s) (.int .i64 ((k : Int) + 2 + 1 + (j : Int)))).run Try.prog w = .ok (.int .u8 ((c3 : Nat) : Int)) w := fun w => run_at s (k + 3 + j) hjl (by omega) hc3 w
            have D := Lib.hid (rdigit_calls c3 hcb true w)
            obtain ⟨hd0, hd1⟩ := dig_bd c3 true
            have hc3' := Lib.hid hc3
            clear hc3
            by_cases hd : digI c3 true < 0
            · have hx : n = j ∧ v = y := by
                have h := HJ.out
                rw [numL_stop hjl (by rw [hc3'.out]; exact hd), HR.out] at h
                injection h with h1 h2
                exact ⟨by omega, h1⟩
              obtain ⟨rfl, rfl⟩ := hx
              go_wp2_with fail
              refine D.out.mono ?_
              rintro e w' ⟨rfl, rfl⟩
              clear D
              obtain rfl : c3 = c2 := hc3'.out.symm.trans HC2.out
              subst h59
              go_wp2_with fail
              refine (rcode_calls _ _).mono ?_
              rintro e w2 ⟨rfl, rfl⟩
              go_wp2_with fail
              refine (rput_calls _ (by omega) (by omega) _).mono ?_
              rintro e w3 ⟨rfl, hb2⟩
              have HB := Lib.hid hb2
              clear hb2
              go_wp2_with fail
              go_ret2
              exact num_end HF.out (by omega) HB.out
            · have hd2 : 0 ≤ digI c3 true := by omega
              go_wp2_with fail
              refine D.out.mono ?_
              rintro e w' ⟨rfl, rfl⟩
              go_wp2_with fail
              refine D.out.mono ?_
              rintro e w' ⟨rfl, rfl⟩
              clear D
              go_wp2_with fail
              go_round
              case rel =>
                refine ⟨j + 1, min (y * 16 + digI c3 true) 1114112, by omega, by omega, by omega, slot_int (by omega), slot_int (by first | (split <;> omega) | omega), Lib.hid ?_⟩
                have h := HJ.out
                rw [numL_go hjl (by rw [hc3'.out]; omega), hc3'.out] at h
                rw [h]
                have e1 : k + 3 + (j + 1) = k + 3 + j + 1 := by omega
                rw [e1]
                simp only [baseI, cond, Nat.add_assoc, Nat.add_comm 1 j]
              case measure => simp [intOf]; omega
          · have hx : n = j ∧ v = y := by
              have h := HJ.out
              rw [numL_end (show s.size ≤ k + 3 + j by omega), HR.out] at h
              injection h with h1 h2
              exact ⟨by omega, h1⟩
            obtain ⟨rfl, rfl⟩ := hx
            exfalso; omega
      · have HF := Lib.hid (HD.out.trans (numAt_yes hn1 HR.out (semi_no hel (fun e => h59 (hc2.symm.trans e)))))
        have q2 : ((c2 : Int) == 59) = false := by rw [beq_eq_false_iff_ne]; omega
        clear hc2
        go_enter Try.func33, Try.ntmps33
        go_wp2_with fail
        go_loop [6, 10] (fun a x => ∃ (j : Nat) (y : Int), k + 3 + j ≤ s.size ∧ 0 ≤ y ∧ y ≤ 1114112 ∧ a = .int .i64 ((k : Int) + 2 + 1 + (j : Int)) ∧ x = .int .i64 y ∧ Hid (numL true (s.data.toList.drop (k + 3)) 0 = ((numL true (s.data.toList.drop (k + 3 + j)) y).1, (numL true (s.data.toList.drop (k + 3 + j)) y).2 + j))) (fun a _ => s.size - (intOf a).toNat)
        case atStart => exact ⟨0, 0, by omega, by decide, by decide, slot_int (by omega), rfl, Lib.hid (by simp)⟩
        case round =>
          obtain ⟨j, y, hjs, hy0, hy1, rfl, rfl, HJ⟩ := hrel
          by_cases hjl : k + 3 + j < s.size
          · obtain ⟨c3, hc3⟩ : ∃ c, s[k + 3 + j].toNat = c := ⟨_, rfl⟩
            have hcb : c3 < 256 := by have := s[k + 3 + j].toNat_lt; omega
            have hid3 : ∀ w : World, (Instr.index 9 (.string s) (.int .i64 ((k : Int) + 2 + 1 + (j : Int)))).run Try.prog w = .ok (.int .u8 ((c3 : Nat) : Int)) w := fun w => run_at s (k + 3 + j) hjl (by omega) hc3 w
            have D := Lib.hid (rdigit_calls c3 hcb true w)
            obtain ⟨hd0, hd1⟩ := dig_bd c3 true
            have hc3' := Lib.hid hc3
            clear hc3
            by_cases hd : digI c3 true < 0
            · have hx : n = j ∧ v = y := by
                have h := HJ.out
                rw [numL_stop hjl (by rw [hc3'.out]; exact hd), HR.out] at h
                injection h with h1 h2
                exact ⟨by omega, h1⟩
              obtain ⟨rfl, rfl⟩ := hx
              go_wp2_with fail
              refine D.out.mono ?_
              rintro e w' ⟨rfl, rfl⟩
              clear D
              obtain rfl : c3 = c2 := hc3'.out.symm.trans HC2.out
              go_wp2_with fail
              refine (rcode_calls _ _).mono ?_
              rintro e w2 ⟨rfl, rfl⟩
              go_wp2_with fail
              refine (rput_calls _ (by omega) (by omega) _).mono ?_
              rintro e w3 ⟨rfl, hb2⟩
              have HB := Lib.hid hb2
              clear hb2
              go_wp2_with fail
              go_ret2
              exact num_end HF.out (by omega) HB.out
            · have hd2 : 0 ≤ digI c3 true := by omega
              go_wp2_with fail
              refine D.out.mono ?_
              rintro e w' ⟨rfl, rfl⟩
              go_wp2_with fail
              refine D.out.mono ?_
              rintro e w' ⟨rfl, rfl⟩
              clear D
              go_wp2_with fail
              go_round
              case rel =>
                refine ⟨j + 1, min (y * 16 + digI c3 true) 1114112, by omega, by omega, by omega, slot_int (by omega), slot_int (by first | (split <;> omega) | omega), Lib.hid ?_⟩
                have h := HJ.out
                rw [numL_go hjl (by rw [hc3'.out]; omega), hc3'.out] at h
                rw [h]
                have e1 : k + 3 + (j + 1) = k + 3 + j + 1 := by omega
                rw [e1]
                simp only [baseI, cond, Nat.add_assoc, Nat.add_comm 1 j]
              case measure => simp [intOf]; omega
          · have hx : n = j ∧ v = y := by
              have h := HJ.out
              rw [numL_end (show s.size ≤ k + 3 + j by omega), HR.out] at h
              injection h with h1 h2
              exact ⟨by omega, h1⟩
            obtain ⟨rfl, rfl⟩ := hx
            exfalso; omega
set_option maxHeartbeats 800000 in
theorem rnumber_d (s : ByteArray) (hs : s.size ≤ 1000000000) (k : Nat) (w : World) (hk : k + 2 < s.size) (c : Nat) (hc : s[k + 2].toNat = c) (hx1 : ¬ c = 120) (hx2 : ¬ c = 88) :
    Calls Try.prog 33 #[.string s, .int .i64 k] w (NumEnd s k w) := by
  have hX : Hid (hexAt s (k + 2) = false) := Lib.hid (by rw [hexAt_in hk, hc]; simp [hx1, hx2])
  have hi0 : ∀ w : World, (Instr.index 9 (.string s) (.int .i64 ((k : Int) + 2))).run Try.prog w = .ok (.int .u8 c) w := fun w => run_at s (k + 2) hk (by omega) hc w
  have hc0 := Lib.hid hc
  clear hc
  have qx1 : ((c : Int) == 120) = false := by rw [beq_eq_false_iff_ne]; omega
  have qx2 : ((c : Int) == 88) = false := by rw [beq_eq_false_iff_ne]; omega
  have hfs : k + 2 ≤ s.size := by omega
  obtain ⟨⟨v, n⟩, hR⟩ : ∃ r, numL false (s.data.toList.drop (k + 2)) 0 = r := ⟨_, rfl⟩
  have hn : n ≤ s.size - (k + 2) := by
    have h := numL_len false (s.data.toList.drop (k + 2)) 0
    rw [hR, List.length_drop] at h
    exact h
  have hv := numL_bd false (s.data.toList.drop (k + 2)) 0 (by decide) (by decide)
  rw [hR] at hv
  obtain ⟨hv0, hv1⟩ := hv
  replace hv0 : 0 ≤ v := hv0
  replace hv1 : v ≤ 1114112 := hv1
  obtain ⟨hcd0, hcd1⟩ := code_small v
  have HR := Lib.hid hR
  have HD := Lib.hid (numV_dec hX.out)
  clear hR
  by_cases hn0 : n = 0
  · have HF := Lib.hid (HD.out.trans (numAt_no ((congrArg Prod.snd HR.out).trans hn0)))
    have HN0 := Lib.hid hn0
    have hnl : n ≤ 0 := by omega
    clear hn0
    by_cases he : k + 2 + n = s.size
    · exfalso; omega
    · have hel : k + 2 + n < s.size := by omega
      go_enter Try.func33, Try.ntmps33
      go_wp2_with fail
      go_loop [6, 10] (fun a x => ∃ (j : Nat) (y : Int), k + 2 + j ≤ s.size ∧ 0 ≤ y ∧ y ≤ 1114112 ∧ a = .int .i64 ((k : Int) + 2 + (j : Int)) ∧ x = .int .i64 y ∧ Hid (numL false (s.data.toList.drop (k + 2)) 0 = ((numL false (s.data.toList.drop (k + 2 + j)) y).1, (numL false (s.data.toList.drop (k + 2 + j)) y).2 + j))) (fun a _ => s.size - (intOf a).toNat)
      case atStart => exact ⟨0, 0, by omega, by decide, by decide, slot_int (by omega), rfl, Lib.hid (by simp)⟩
      case round =>
        obtain ⟨j, y, hjs, hy0, hy1, rfl, rfl, HJ⟩ := hrel
        by_cases hjl : k + 2 + j < s.size
        · obtain ⟨c3, hc3⟩ : ∃ c, s[k + 2 + j].toNat = c := ⟨_, rfl⟩
          have hcb : c3 < 256 := by have := s[k + 2 + j].toNat_lt; omega
          have hid3 : ∀ w : World, (Instr.index 9 (.string s) (.int .i64 ((k : Int) + 2 + (j : Int)))).run Try.prog w = .ok (.int .u8 ((c3 : Nat) : Int)) w := fun w => run_at s (k + 2 + j) hjl (by omega) hc3 w
          have D := Lib.hid (rdigit_calls c3 hcb false w)
          obtain ⟨hd0, hd1⟩ := dig_bd c3 false
          have hc3' := Lib.hid hc3
          clear hc3
          by_cases hd : digI c3 false < 0
          · have hx : n = j ∧ v = y := by
              have h := HJ.out
              rw [numL_stop hjl (by rw [hc3'.out]; exact hd), HR.out] at h
              injection h with h1 h2
              exact ⟨by omega, h1⟩
            obtain ⟨hjn, rfl⟩ := hx
            have q0 : (((k : Int) + 2 + (j : Int)) == ((k : Int) + 2)) = true := by rw [beq_iff_eq]; omega
            clear hjn
            go_wp2_with fail
            refine D.out.mono ?_
            rintro e w' ⟨rfl, rfl⟩
            clear D
            go_wp2_with fail
            go_ret2
            exact num_end HF.out rfl (Below.refl _ _)
          · have hd2 : 0 ≤ digI c3 false := by omega
            go_wp2_with fail
            refine D.out.mono ?_
            rintro e w' ⟨rfl, rfl⟩
            go_wp2_with fail
            refine D.out.mono ?_
            rintro e w' ⟨rfl, rfl⟩
            clear D
            go_wp2_with fail
            go_round
            case rel =>
              refine ⟨j + 1, min (y * 10 + digI c3 false) 1114112, by omega, by omega, by omega, slot_int (by omega), slot_int (by first | (split <;> omega) | omega), Lib.hid ?_⟩
              have h := HJ.out
              rw [numL_go hjl (by rw [hc3'.out]; omega), hc3'.out] at h
              rw [h]
              have e1 : k + 2 + (j + 1) = k + 2 + j + 1 := by omega
              rw [e1]
              simp only [baseI, cond, Nat.add_assoc, Nat.add_comm 1 j]
            case measure => simp [intOf]; omega
        · have hx : n = j ∧ v = y := by
            have h := HJ.out
            rw [numL_end (show s.size ≤ k + 2 + j by omega), HR.out] at h
            injection h with h1 h2
            exact ⟨by omega, h1⟩
          obtain ⟨hjn, rfl⟩ := hx
          have q0 : (((k : Int) + 2 + (j : Int)) == ((k : Int) + 2)) = true := by rw [beq_iff_eq]; omega
          exfalso; omega
  · have hn1 : 0 < n := by omega
    have q1 : (((k : Int) + 2 + (n : Int)) == ((k : Int) + 2)) = false := by rw [beq_eq_false_iff_ne]; omega
    by_cases he : k + 2 + n = s.size
    · have HF := Lib.hid (HD.out.trans (numAt_yes hn1 HR.out (semi_end (Nat.le_of_eq he.symm))))
      go_enter Try.func33, Try.ntmps33
      go_wp2_with fail
      go_loop [6, 10] (fun a x => ∃ (j : Nat) (y : Int), k + 2 + j ≤ s.size ∧ 0 ≤ y ∧ y ≤ 1114112 ∧ a = .int .i64 ((k : Int) + 2 + (j : Int)) ∧ x = .int .i64 y ∧ Hid (numL false (s.data.toList.drop (k + 2)) 0 = ((numL false (s.data.toList.drop (k + 2 + j)) y).1, (numL false (s.data.toList.drop (k + 2 + j)) y).2 + j))) (fun a _ => s.size - (intOf a).toNat)
      case atStart => exact ⟨0, 0, by omega, by decide, by decide, slot_int (by omega), rfl, Lib.hid (by simp)⟩
      case round =>
        obtain ⟨j, y, hjs, hy0, hy1, rfl, rfl, HJ⟩ := hrel
        by_cases hjl : k + 2 + j < s.size
        · obtain ⟨c3, hc3⟩ : ∃ c, s[k + 2 + j].toNat = c := ⟨_, rfl⟩
          have hcb : c3 < 256 := by have := s[k + 2 + j].toNat_lt; omega
          have hid3 : ∀ w : World, (Instr.index 9 (.string s) (.int .i64 ((k : Int) + 2 + (j : Int)))).run Try.prog w = .ok (.int .u8 ((c3 : Nat) : Int)) w := fun w => run_at s (k + 2 + j) hjl (by omega) hc3 w
          have D := Lib.hid (rdigit_calls c3 hcb false w)
          obtain ⟨hd0, hd1⟩ := dig_bd c3 false
          have hc3' := Lib.hid hc3
          clear hc3
          by_cases hd : digI c3 false < 0
          · have hx : n = j ∧ v = y := by
              have h := HJ.out
              rw [numL_stop hjl (by rw [hc3'.out]; exact hd), HR.out] at h
              injection h with h1 h2
              exact ⟨by omega, h1⟩
            obtain ⟨rfl, rfl⟩ := hx
            exfalso; omega
          · have hd2 : 0 ≤ digI c3 false := by omega
            go_wp2_with fail
            refine D.out.mono ?_
            rintro e w' ⟨rfl, rfl⟩
            go_wp2_with fail
            refine D.out.mono ?_
            rintro e w' ⟨rfl, rfl⟩
            clear D
            go_wp2_with fail
            go_round
            case rel =>
              refine ⟨j + 1, min (y * 10 + digI c3 false) 1114112, by omega, by omega, by omega, slot_int (by omega), slot_int (by first | (split <;> omega) | omega), Lib.hid ?_⟩
              have h := HJ.out
              rw [numL_go hjl (by rw [hc3'.out]; omega), hc3'.out] at h
              rw [h]
              have e1 : k + 2 + (j + 1) = k + 2 + j + 1 := by omega
              rw [e1]
              simp only [baseI, cond, Nat.add_assoc, Nat.add_comm 1 j]
            case measure => simp [intOf]; omega
        · have hx : n = j ∧ v = y := by
            have h := HJ.out
            rw [numL_end (show s.size ≤ k + 2 + j by omega), HR.out] at h
            injection h with h1 h2
            exact ⟨by omega, h1⟩
          obtain ⟨rfl, rfl⟩ := hx
          go_wp2_with fail
          refine (rcode_calls _ _).mono ?_
          rintro e w2 ⟨rfl, rfl⟩
          go_wp2_with fail
          refine (rput_calls _ (by omega) (by omega) _).mono ?_
          rintro e w3 ⟨rfl, hb2⟩
          have HB := Lib.hid hb2
          clear hb2
          go_wp2_with fail
          go_ret2
          exact num_end HF.out (by omega) HB.out
    · have hel : k + 2 + n < s.size := by omega
      obtain ⟨c2, hc2⟩ : ∃ c, s[k + 2 + n].toNat = c := ⟨_, rfl⟩
      have HC2 := Lib.hid hc2
      by_cases h59 : c2 = 59
      · have HF := Lib.hid (HD.out.trans (numAt_yes hn1 HR.out (semi_yes hel (hc2.trans h59))))
        clear hc2
        go_enter Try.func33, Try.ntmps33
        go_wp2_with fail
        go_loop [6, 10] (fun a x => ∃ (j : Nat) (y : Int), k + 2 + j ≤ s.size ∧ 0 ≤ y ∧ y ≤ 1114112 ∧ a = .int .i64 ((k : Int) + 2 + (j : Int)) ∧ x = .int .i64 y ∧ Hid (numL false (s.data.toList.drop (k + 2)) 0 = ((numL false (s.data.toList.drop (k + 2 + j)) y).1, (numL false (s.data.toList.drop (k + 2 + j)) y).2 + j))) (fun a _ => s.size - (intOf a).toNat)
        case atStart => exact ⟨0, 0, by omega, by decide, by decide, slot_int (by omega), rfl, Lib.hid (by simp)⟩
        case round =>
          obtain ⟨j, y, hjs, hy0, hy1, rfl, rfl, HJ⟩ := hrel
          by_cases hjl : k + 2 + j < s.size
          · obtain ⟨c3, hc3⟩ : ∃ c, s[k + 2 + j].toNat = c := ⟨_, rfl⟩
            have hcb : c3 < 256 := by have := s[k + 2 + j].toNat_lt; omega
            have hid3 : ∀ w : World, (Instr.index 9 (.string s) (.int .i64 ((k : Int) + 2 + (j : Int)))).run Try.prog w = .ok (.int .u8 ((c3 : Nat) : Int)) w := fun w => run_at s (k + 2 + j) hjl (by omega) hc3 w
            have D := Lib.hid (rdigit_calls c3 hcb false w)
            obtain ⟨hd0, hd1⟩ := dig_bd c3 false
            have hc3' := Lib.hid hc3
            clear hc3
            by_cases hd : digI c3 false < 0
            · have hx : n = j ∧ v = y := by
                have h := HJ.out
                rw [numL_stop hjl (by rw [hc3'.out]; exact hd), HR.out] at h
                injection h with h1 h2
                exact ⟨by omega, h1⟩
              obtain ⟨rfl, rfl⟩ := hx
              go_wp2_with fail
              refine D.out.mono ?_
              rintro e w' ⟨rfl, rfl⟩
              clear D
              obtain rfl : c3 = c2 := hc3'.out.symm.trans HC2.out
              subst h59
              go_wp2_with fail
              refine (rcode_calls _ _).mono ?_
              rintro e w2 ⟨rfl, rfl⟩
              go_wp2_with fail
              refine (rput_calls _ (by omega) (by omega) _).mono ?_
              rintro e w3 ⟨rfl, hb2⟩
              have HB := Lib.hid hb2
              clear hb2
              go_wp2_with fail
              go_ret2
              exact num_end HF.out (by omega) HB.out
            · have hd2 : 0 ≤ digI c3 false := by omega
              go_wp2_with fail
              refine D.out.mono ?_
              rintro e w' ⟨rfl, rfl⟩
              go_wp2_with fail
              refine D.out.mono ?_
              rintro e w' ⟨rfl, rfl⟩
              clear D
              go_wp2_with fail
              go_round
              case rel =>
                refine ⟨j + 1, min (y * 10 + digI c3 false) 1114112, by omega, by omega, by omega, slot_int (by omega), slot_int (by first | (split <;> omega) | omega), Lib.hid ?_⟩
                have h := HJ.out
                rw [numL_go hjl (by rw [hc3'.out]; omega), hc3'.out] at h
                rw [h]
                have e1 : k + 2 + (j + 1) = k + 2 + j + 1 := by omega
                rw [e1]
                simp only [baseI, cond, Nat.add_assoc, Nat.add_comm 1 j]
              case measure => simp [intOf]; omega
          · have hx : n = j ∧ v = y := by
              have h := HJ.out
              rw [numL_end (show s.size ≤ k + 2 + j by omega), HR.out] at h
              injection h with h1 h2
              exact ⟨by omega, h1⟩
            obtain ⟨rfl, rfl⟩ := hx
            exfalso; omega
      · have HF := Lib.hid (HD.out.trans (numAt_yes hn1 HR.out (semi_no hel (fun e => h59 (hc2.symm.trans e)))))
        have q2 : ((c2 : Int) == 59) = false := by rw [beq_eq_false_iff_ne]; omega
        clear hc2
        go_enter Try.func33, Try.ntmps33
        go_wp2_with fail
        go_loop [6, 10] (fun a x => ∃ (j : Nat) (y : Int), k + 2 + j ≤ s.size ∧ 0 ≤ y ∧ y ≤ 1114112 ∧ a = .int .i64 ((k : Int) + 2 + (j : Int)) ∧ x = .int .i64 y ∧ Hid (numL false (s.data.toList.drop (k + 2)) 0 = ((numL false (s.data.toList.drop (k + 2 + j)) y).1, (numL false (s.data.toList.drop (k + 2 + j)) y).2 + j))) (fun a _ => s.size - (intOf a).toNat)
        case atStart => exact ⟨0, 0, by omega, by decide, by decide, slot_int (by omega), rfl, Lib.hid (by simp)⟩
        case round =>
          obtain ⟨j, y, hjs, hy0, hy1, rfl, rfl, HJ⟩ := hrel
          by_cases hjl : k + 2 + j < s.size
          · obtain ⟨c3, hc3⟩ : ∃ c, s[k + 2 + j].toNat = c := ⟨_, rfl⟩
            have hcb : c3 < 256 := by have := s[k + 2 + j].toNat_lt; omega
            have hid3 : ∀ w : World, (Instr.index 9 (.string s) (.int .i64 ((k : Int) + 2 + (j : Int)))).run Try.prog w = .ok (.int .u8 ((c3 : Nat) : Int)) w := fun w => run_at s (k + 2 + j) hjl (by omega) hc3 w
            have D := Lib.hid (rdigit_calls c3 hcb false w)
            obtain ⟨hd0, hd1⟩ := dig_bd c3 false
            have hc3' := Lib.hid hc3
            clear hc3
            by_cases hd : digI c3 false < 0
            · have hx : n = j ∧ v = y := by
                have h := HJ.out
                rw [numL_stop hjl (by rw [hc3'.out]; exact hd), HR.out] at h
                injection h with h1 h2
                exact ⟨by omega, h1⟩
              obtain ⟨rfl, rfl⟩ := hx
              go_wp2_with fail
              refine D.out.mono ?_
              rintro e w' ⟨rfl, rfl⟩
              clear D
              obtain rfl : c3 = c2 := hc3'.out.symm.trans HC2.out
              go_wp2_with fail
              refine (rcode_calls _ _).mono ?_
              rintro e w2 ⟨rfl, rfl⟩
              go_wp2_with fail
              refine (rput_calls _ (by omega) (by omega) _).mono ?_
              rintro e w3 ⟨rfl, hb2⟩
              have HB := Lib.hid hb2
              clear hb2
              go_wp2_with fail
              go_ret2
              exact num_end HF.out (by omega) HB.out
            · have hd2 : 0 ≤ digI c3 false := by omega
              go_wp2_with fail
              refine D.out.mono ?_
              rintro e w' ⟨rfl, rfl⟩
              go_wp2_with fail
              refine D.out.mono ?_
              rintro e w' ⟨rfl, rfl⟩
              clear D
              go_wp2_with fail
              go_round
              case rel =>
                refine ⟨j + 1, min (y * 10 + digI c3 false) 1114112, by omega, by omega, by omega, slot_int (by omega), slot_int (by first | (split <;> omega) | omega), Lib.hid ?_⟩
                have h := HJ.out
                rw [numL_go hjl (by rw [hc3'.out]; omega), hc3'.out] at h
                rw [h]
                have e1 : k + 2 + (j + 1) = k + 2 + j + 1 := by omega
                rw [e1]
                simp only [baseI, cond, Nat.add_assoc, Nat.add_comm 1 j]
              case measure => simp [intOf]; omega
          · have hx : n = j ∧ v = y := by
              have h := HJ.out
              rw [numL_end (show s.size ≤ k + 2 + j by omega), HR.out] at h
              injection h with h1 h2
              exact ⟨by omega, h1⟩
            obtain ⟨rfl, rfl⟩ := hx
            exfalso; omega
theorem rnumber_calls (s : ByteArray) (hs : s.size ≤ 1000000000) (k : Nat) (hk : k + 2 ≤ s.size) (w : World) : Calls Try.prog 33 #[.string s, .int .i64 k] w (NumEnd s k w) := by
  rcases Nat.lt_or_ge (k + 2) s.size with h | h
  · by_cases h1 : s[k + 2].toNat = 120
    · exact rnumber_x s hs k w h h1
    · by_cases h2 : s[k + 2].toNat = 88
      · exact rnumber_X s hs k w h h2
      · exact rnumber_d s hs k w h _ rfl h1 h2
  · exact rnumber_end s hs k w (by omega)
end Go.Proofs.Ytfjlpekoklmedaa.Ch
