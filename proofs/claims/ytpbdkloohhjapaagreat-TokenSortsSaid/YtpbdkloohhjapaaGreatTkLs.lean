/- TokenSorts, walked. -/
import Derived.Test.YtpbdkloohhjapaaGreatTkW
import Derived.Test.YtpbdkloohhjapaaGreatTkPs
namespace Go.Proofs.YtpbdkloohhjapaaGreat.Wk
open Go Go.RowKit Go.Proofs.YtpbdkloohhjapaaGreat.Tk Go.Proofs.YtpbdkloohhjapaaGreat.Tr
set_option linter.unusedVariables false
set_option maxRecDepth 100000

theorem sorts_blank (c : Nat) (w : World) : Calls Tryz.prog 14 #[.int .u8 (c : Int)] w fun e w' => e = .returned (.bool (blankN c)) ∧ w = w' := by
  have q1 : ((c : Int) == 9) = decide (c = 9) := eq_nat c 9
  have q2 : ((c : Int) == 10) = decide (c = 10) := eq_nat c 10
  have q3 : ((c : Int) == 12) = decide (c = 12) := eq_nat c 12
  have q4 : ((c : Int) == 32) = decide (c = 32) := eq_nat c 32
  have HB : Hid (blankN c = (decide (c = 9) || decide (c = 10) || decide (c = 12) || decide (c = 32))) := Lib.hid (by
    unfold blankN
    rw [Bool.eq_iff_iff]
    simp only [Bool.or_eq_true, decide_eq_true_eq]
    constructor
    · rintro (h | h | h | h)
      · exact .inl (.inl (.inl h))
      · exact .inl (.inl (.inr h))
      · exact .inl (.inr h)
      · exact .inr h
    · rintro (((h | h) | h) | h)
      · exact .inl h
      · exact .inr (.inl h)
      · exact .inr (.inr (.inl h))
      · exact .inr (.inr (.inr h)))
  rw [HB.out]
  clear HB
  generalize decide (c = 9) = b1 at *
  generalize decide (c = 10) = b2 at *
  generalize decide (c = 12) = b3 at *
  generalize decide (c = 32) = b4 at *
  go_enter Tryz.func14, Tryz.ntmps14
  cases b1 <;> cases b2 <;> cases b3 <;> cases b4 <;> (
    go_wp2_with fail
    go_ret
    exact ⟨rfl, rfl⟩)
theorem so_next (s : ByteArray) (hs : s.size ≤ 900000) (p e : Nat) (hp : p ≤ 1000000) (x : ByteArray) (h : nextP s p ⟨#[]⟩ = (textTok x false, e, true)) (W : World) :
    Calls Tryz.prog 11 #[.string s, .int .i64 (p : Int), .string ⟨#[]⟩] W fun e' w' => ∃ A ac, e' = .returned (.tuple #[.agg #[.int .i64 3, .string ⟨#[]⟩, .string x, .slice A 0 ac, .bool false], .int .i64 (e : Int), .bool true]) ∧ Below W.heap.size W w' :=
  (next_as s ⟨#[]⟩ hs (by decide) p hp p rfl (textTok x false) e true h e rfl W).mono fun e w' ⟨A, ac, h1, h2, h3, h4⟩ => ⟨A, ac, h1, h3⟩
set_option maxHeartbeats 8000000 in
theorem tokenSorts (s : ByteArray) (w0 : s.size ≤ maxLen) (w : World) :
    Calls Tryz.prog 7 #[.string s] w fun e w' => e = .returned (.bool true) ∧ Below w.heap.size w w' := by
  by_cases hl : 500 < s.size
  · go_enter Tryz.func7, Tryz.ntmps7
    go_wp2_with fail
    refine (awake_calls _).mono ?_
    rintro e w1 ⟨rfl, hb⟩
    go_wp2_with fail
    go_ret
    exact ⟨rfl, hb⟩
  by_cases hz : s.size = 0
  · have he := isEmpty_of hz
    go_enter Tryz.func7, Tryz.ntmps7
    go_wp2_with fail
    refine (awake_calls _).mono ?_
    rintro e w1 ⟨rfl, hb⟩
    go_wp2_with fail
    go_ret
    exact ⟨rfl, hb⟩
  have hs : s.size ≤ 500 := by omega
  have he := isEmpty_not (show 0 < s.size by omega)
  have HS := Lib.hid hs
  have HE0 : Hid (s.extract 0 0 = ⟨#[]⟩) := Lib.hid (ext_bAt (by rw [ByteArray.size_extract]; simp; rfl) fun i hi => by rw [ByteArray.size_extract] at hi; omega)
  clear w0 hl hz
  go_enter Tryz.func7, Tryz.ntmps7
  go_wp2_with fail
  go_loop [3] (fun t => ∃ i : Nat, i ≤ s.size ∧ t = .int .i64 i ∧ Hid (∀ j, j < i → bAt s j ≠ 38 ∧ bAt s j ≠ 60)) (fun t => s.size - (intOf t).toNat)
  case atStart => exact ⟨0, Nat.zero_le _, rfl, Lib.hid (fun j h => absurd h (Nat.not_lt_zero _))⟩
  case round =>
    obtain ⟨i, hi, rfl, HI⟩ := hrel
    by_cases hlt : i < s.size
    · have hz3 : (i : Int) < (s.size : Int) := by omega
      have j0 : ∀ w : World, (Instr.index 9 (.string s) (.int .i64 (i : Int))).run Tryz.prog w = .ok (.int .u8 (bAt s i : Nat)) w := fun w => Ch.run_at s i (by omega) rfl (bAt_in (by omega)).symm w
      obtain ⟨x, hx⟩ : ∃ x, bAt s i = x := ⟨_, rfl⟩
      rw [hx] at j0
      by_cases c1 : x = 38
      · subst c1
        clear hx
        go_wp2_with fail
        refine (awake_calls _).mono ?_
        rintro e w1 ⟨rfl, hb⟩
        go_wp2_with fail
        go_ret
        exact ⟨rfl, hb⟩
      have p1 : ((x : Int) == 38) = false := by rw [beq_eq_false_iff_ne]; omega
      by_cases c2 : x = 60
      · subst c2
        clear hx c1
        go_wp2_with fail
        refine (awake_calls _).mono ?_
        rintro e w1 ⟨rfl, hb⟩
        go_wp2_with fail
        go_ret
        exact ⟨rfl, hb⟩
      have p2 : ((x : Int) == 60) = false := by rw [beq_eq_false_iff_ne]; omega
      have HI2 : Hid (∀ j, j < i + 1 → bAt s j ≠ 38 ∧ bAt s j ≠ 60) := Lib.hid fun j hj => by
        rcases Nat.lt_or_ge j i with h | h
        · exact HI.out j h
        · obtain rfl : j = i := by omega
          exact ⟨fun x => c1 (hx.symm.trans x), fun x => c2 (hx.symm.trans x)⟩
      clear hx c1 c2
      go_wp2_with fail
      go_round
      case rel => exact ⟨i + 1, by omega, by go_num, HI2⟩
      case measure => simp [intOf]; omega
    · have hz3 : ¬ (i : Int) < (s.size : Int) := by omega
      have HC := Lib.hid (fun p hp => @cuts s (fun j hj => HI.out j (by omega)) p hp)
      clear HI hs
      go_wp2_with fail
      go_loopw [5, 6] (fun t5 t6 wr => ∃ p : Nat, Hid (p ≤ s.size) ∧ t5 = .string (s.extract 0 p) ∧ t6 = .int .i64 (p : Int) ∧ Hid (Below w.heap.size w wr)) (fun _ t6 _ => s.size - (intOf t6).toNat)
      case atStart => exact ⟨0, Lib.hid (Nat.zero_le _), by rw [HE0.out], rfl, Lib.hid (Below.refl _ _)⟩
      case round =>
        obtain ⟨p, HP, rfl, rfl, HB⟩ := hrel
        by_cases hp : p < s.size
        · have hpz : (p : Int) < (s.size : Int) := by omega
          obtain ⟨g1, g2, g3, g4, g5⟩ := HC.out p hp
          generalize cutP s p = e at *
          have HN := Lib.hid (so_next s (by have := HS.out; omega) p e (by have := HS.out; omega) _ g3)
          have hpe : (p : Int) ≤ (e : Int) := by omega
          have hpe2 : ¬ (e : Int) ≤ (p : Int) := by omega
          have hes : (e : Int) ≤ (s.size : Int) := by omega
          have HG := Lib.hid (⟨g1, g2⟩ : p < e ∧ e ≤ s.size)
          have HG4 := Lib.hid g4
          have HG5 := Lib.hid g5
          have hgl := glue s (p := p) (e := e) (by omega) g2
          have HGL := Lib.hid hgl
          clear g1 g2 g3 g4 g5 hgl
          go_wp2_with fail
          refine (HN.out _).mono ?_
          rintro e' w1 ⟨A, ac, rfl, hb⟩
          have HB1 := Lib.hid (HB.out.trans (hb.mono HB.out.size))
          have HB2 := Lib.hid (HB1.out.alloc HB1.out.size (.cells #[.int .i64 3, .string ⟨#[]⟩, .string (s.extract p e), .slice A 0 ac, .bool false] 25))
          have hk := alloc_new w1 (.cells #[.int .i64 3, .string ⟨#[]⟩, .string (s.extract p e), .slice A 0 ac, .bool false] 25)
          clear hb HN
          go_wp2_with fail
          generalize w1.alloc (.cells #[.int .i64 3, .string ⟨#[]⟩, .string (s.extract p e), .slice A 0 ac, .bool false] 25) = w2 at *
          obtain ⟨tb, htb⟩ : ∃ tb, w1.heap.size = tb := ⟨_, rfl⟩
          rw [htb] at hk ⊢
          obtain ⟨x0, x1, x2, x3, x4⟩ := tbox5 hk
          have HK := Lib.hid hk
          clear hk htb HB1
          have r0 := cell_regrown x0
          have r2 := cell_regrown x2
          have r4 := cell_regrown x4
          have hd : decide (e ≤ p) = false := decide_eq_false (by omega)
          refine wp_region_quiet_below mixedT (by kernel_rfl) ?_
          repeat (go_big_quiet_step (fail))
          refine wpQuiet_nil ?_
          rintro w3 ⟨g, hg⟩
          have hb3 : Below w2.heap.size w2 w3 := hg ▸ below_regrown w2 g.d g.os
          replace HK := Lib.hid ((hb3.block _ (lt_of_block HK.out)).trans HK.out)
          replace HB2 := Lib.hid (HB2.out.trans (hb3.mono HB2.out.size))
          clear hg g hb3 r0 r2 r4 x0 x1 x2 x3 x4
          go_wp2_with fail
          obtain ⟨wa, hwa⟩ : ∃ wa, wa = wr := ⟨_, rfl⟩
          subst hwa
          go_loopw [10] (fun t10 wr => ∃ q : Nat, Hid (p ≤ q) ∧ Hid (q ≤ e) ∧ t10 = .int .i64 (q : Int) ∧ Hid (wr.heap[tb]? = some (.cells #[.int .i64 3, .string ⟨#[]⟩, .string (s.extract p e), .slice A 0 ac, .bool false] 25 (0, 0))) ∧ Hid (Below w.heap.size w wr)) (fun t10 _ => e - (intOf t10).toNat)
          case atStart => exact ⟨p, Lib.hid (Nat.le_refl _), Lib.hid (by have := HG.out.1; omega), rfl, HK, HB2⟩
          case round =>
            clear HK HB2
            obtain ⟨q, HQ1, HQ2, rfl, HK, HB2⟩ := hrel
            by_cases hq : q < e
            · have hq1 : (q : Int) < (e : Int) := by omega
              have hq2 : q < s.size := by have := HG.out.2; omega
              have hq3 : (q : Int) < (s.size : Int) := by omega
              have HQ := Lib.hid (HG4.out q HQ1.out hq)
              have iq : ∀ w : World, (Instr.index 9 (.string s) (.int .i64 (q : Int))).run Tryz.prog w = .ok (.int .u8 (bAt s q : Nat)) w := fun w => Ch.run_at s q (by omega) rfl (bAt_in (by omega)).symm w
              have ip : ∀ w : World, (Instr.index 9 (.string s) (.int .i64 (p : Int))).run Tryz.prog w = .ok (.int .u8 (bAt s p : Nat)) w := fun w => Ch.run_at s p (by omega) rfl (bAt_in (by omega)).symm w
              have bq := sorts_blank (bAt s q)
              have bp := sorts_blank (bAt s p)
              rw [HQ.out] at bq
              clear HQ
              generalize bAt s q = cq at *
              obtain ⟨cp, hcp⟩ : ∃ cp, bAt s p = cp := ⟨_, rfl⟩
              rw [hcp] at ip bp bq
              generalize blankN cp = b0 at *
              have hbb : (b0 != b0) = false := by cases b0 <;> rfl
              have HBQ := Lib.hid bq
              have HBP := Lib.hid bp
              have HLT := Lib.hid hq
              clear bq bp hq hcp
              go_wp2_with fail
              refine wp_region_quiet_below mixedT (by kernel_rfl) ?_
              iterate 4 (go_big_quiet_step (fail))
              go_big_quiet_step ((go_at_call 14; exact Calls.regrown_of ((HBQ.out _).mono fun e w' ⟨h1, h2⟩ => ⟨h1, by rw [h2]; exact Below.refl _ _⟩)))
              iterate 4 (go_big_quiet_step (fail))
              go_big_quiet_step ((go_at_call 14; exact Calls.regrown_of ((HBP.out _).mono fun e w' ⟨h1, h2⟩ => ⟨h1, by rw [h2]; exact Below.refl _ _⟩)))
              repeat (go_big_quiet_step (fail))
              refine wpQuiet_nil ?_
              rintro w4 ⟨g, hg⟩
              have hb4 : Below wr.heap.size wr w4 := hg ▸ below_regrown wr g.d g.os
              replace HK := Lib.hid ((hb4.block _ (lt_of_block HK.out)).trans HK.out)
              replace HB2 := Lib.hid (HB2.out.trans (hb4.mono HB2.out.size))
              clear hg g hb4
              go_wp2_with fail
              go_roundw
              case rel => exact ⟨q + 1, Lib.hid (by have := HQ1.out; omega), Lib.hid (by have := HLT.out; omega), by go_num, HK, HB2⟩
              case measure => simp [intOf]; have := HLT.out; omega
            · obtain rfl : q = e := by have := HQ2.out; omega
              have hq1 : ¬ (q : Int) < (q : Int) := by omega
              clear hq
              go_wp2_with fail
              by_cases hlast : q < s.size
              · have hd2 : decide (q < s.size) = true := decide_eq_true hlast
                have hq3 : (q : Int) < (s.size : Int) := by omega
                have iq : ∀ w : World, (Instr.index 9 (.string s) (.int .i64 (q : Int))).run Tryz.prog w = .ok (.int .u8 (bAt s q : Nat)) w := fun w => Ch.run_at s q (by omega) rfl (bAt_in (by omega)).symm w
                have ip : ∀ w : World, (Instr.index 9 (.string s) (.int .i64 (p : Int))).run Tryz.prog w = .ok (.int .u8 (bAt s p : Nat)) w := fun w => Ch.run_at s p (by omega) rfl (bAt_in (by omega)).symm w
                have hne := HG5.out hlast
                have bq := sorts_blank (bAt s q)
                have bp := sorts_blank (bAt s p)
                obtain ⟨cq, hcq⟩ : ∃ cq, bAt s q = cq := ⟨_, rfl⟩
                obtain ⟨cp, hcp⟩ : ∃ cp, bAt s p = cp := ⟨_, rfl⟩
                rw [hcp] at ip bp hne
                rw [hcq] at iq bq hne
                generalize blankN cp = b0 at *
                generalize blankN cq = b1 at *
                have hbb : (b1 == b0) = false := by cases b0 <;> cases b1 <;> first | rfl | exact absurd rfl hne
                have HBQ := Lib.hid bq
                have HBP := Lib.hid bp
                clear bq bp hne hcp hcq hlast
                refine wp_region_quiet_below mixedT (by kernel_rfl) ?_
                iterate 9 (go_big_quiet_step (fail))
                go_big_quiet_step ((go_at_call 14; exact Calls.regrown_of ((HBQ.out _).mono fun e w' ⟨h1, h2⟩ => ⟨h1, by rw [h2]; exact Below.refl _ _⟩)))
                iterate 4 (go_big_quiet_step (fail))
                go_big_quiet_step ((go_at_call 14; exact Calls.regrown_of ((HBP.out _).mono fun e w' ⟨h1, h2⟩ => ⟨h1, by rw [h2]; exact Below.refl _ _⟩)))
                repeat (go_big_quiet_step (fail))
                refine wpQuiet_nil ?_
                rintro w5 ⟨g, hg⟩
                have hb5 : Below wr.heap.size wr w5 := hg ▸ below_regrown wr g.d g.os
                replace HK := Lib.hid ((hb5.block _ (lt_of_block HK.out)).trans HK.out)
                replace HB2 := Lib.hid (HB2.out.trans (hb5.mono HB2.out.size))
                clear hg g hb5
                have x2 := (tbox5 HK.out).2.2.1
                have z1 : (s.extract 0 p).size ≤ 500 := Nat.le_trans (ext_size s 0 p) HS.out
                have z2 : (s.extract p q).size ≤ 500 := Nat.le_trans (ext_size s p q) HS.out
                go_wp2_with fail
                go_roundw
                case rel => exact ⟨q, Lib.hid HG.out.2, by rw [Nat.max_eq_right (Nat.le_of_lt HG.out.1)], rfl, HB2⟩
                case measure => simp [intOf]; have := HG.out; omega
              · have hd2 : decide (q < s.size) = false := decide_eq_false hlast
                have hq3 : ¬ (q : Int) < (s.size : Int) := by omega
                clear hlast
                refine wp_region_quiet_below mixedT (by kernel_rfl) ?_
                repeat (go_big_quiet_step (fail))
                refine wpQuiet_nil ?_
                rintro w5 ⟨g, hg⟩
                have hb5 : Below wr.heap.size wr w5 := hg ▸ below_regrown wr g.d g.os
                replace HK := Lib.hid ((hb5.block _ (lt_of_block HK.out)).trans HK.out)
                replace HB2 := Lib.hid (HB2.out.trans (hb5.mono HB2.out.size))
                clear hg g hb5
                have x2 := (tbox5 HK.out).2.2.1
                have z1 : (s.extract 0 p).size ≤ 500 := Nat.le_trans (ext_size s 0 p) HS.out
                have z2 : (s.extract p q).size ≤ 500 := Nat.le_trans (ext_size s p q) HS.out
                go_wp2_with fail
                go_roundw
                case rel => exact ⟨q, Lib.hid HG.out.2, by rw [Nat.max_eq_right (Nat.le_of_lt HG.out.1)], rfl, HB2⟩
                case measure => simp [intOf]; have := HG.out; omega
        · obtain rfl : p = s.size := by have := HP.out; omega
          have hpz : ¬ (s.size : Int) < (s.size : Int) := by omega
          have hall : ((s.extract 0 s.size).toList == s.toList) = true := (Sr.str_eq _ _).trans (decide_eq_true (all_ext s))
          go_wp2_with fail
          refine (awake_calls _).mono ?_
          rintro e w1 ⟨rfl, hb⟩
          replace HB := Lib.hid (HB.out.trans (hb.mono HB.out.size))
          clear hb
          go_wp2_with fail
          go_ret
          exact ⟨rfl, HB.out⟩
end Go.Proofs.YtpbdkloohhjapaaGreat.Wk
