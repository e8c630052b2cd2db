/- The document's Ref. -/
import Derived.Test.YtfjlpekoklmedaaRefA
import Derived.Test.YtfjlpekoklmedaaRefB
namespace Go.Proofs.Ytfjlpekoklmedaa.Ch
open Go Go.RowKit Go.Proofs.Ytfjlpekoklmedaa.Sr Go.Proofs.Ytfjlpekoklmedaa.Ct
set_option linter.unusedVariables false
set_option maxRecDepth 100000

theorem rref_num (s : ByteArray) (hs : s.size ≤ 1000000000) (k : Nat) (hk1 : k + 1 < s.size) (hc : s[k].toNat = 38) (hcc : s[k + 1].toNat = 35) (attr : Bool) (w : World) :
    Calls Try.prog 24 #[.string s, .int .i64 k, .bool attr] w (RefEnd s k attr w) := by
      have HR := Lib.hid ((refI_yes (attr := attr) (by omega) hc).trans (refV_num hk1 hcc))
      have hi0 : ∀ w : World, (Instr.index 9 (.string s) (.int .i64 (k : Int))).run Try.prog w = .ok (.int .u8 38) w := fun w => run_at s k (by omega) rfl hc w
      have hi1 : ∀ w : World, (Instr.index 9 (.string s) (.int .i64 ((k : Int) + 1))).run Try.prog w = .ok (.int .u8 35) w := fun w => run_at s (k + 1) hk1 (by omega) hcc w
      have NX := Lib.hid (rnumber_calls s hs k (by omega))
      clear hc hcc
      go_enter Try.func24, Try.ntmps24
      go_wp2_with fail
      refine (NX.out _).mono ?_
      rintro e w1 ⟨rfl, hb⟩
      have HB := Lib.hid hb
      clear hb
      go_wp2_with fail
      go_ret2
      exact ⟨by rw [HR.out]; rfl, HB.out⟩
set_option maxHeartbeats 1000000 in
theorem rref_in_zero (s : ByteArray) (hs : s.size ≤ 1000000000) (k : Nat) (hk1 : k + 1 < s.size) (c0 : Nat) (hcc : s[k + 1].toNat = c0) (hc35 : ¬ c0 = 35) (hks : k < s.size) (hc : s[k].toNat = 38) (attr : Bool) (n : Nat) (t : ByteArray) (hL : longest s ((k : Int) + 1) = (n, t)) (hnl : n ≤ s.size - (k + 1)) (hn : n = 0) (w : World) :
    Calls Try.prog 24 #[.string s, .int .i64 k, .bool attr] w (RefEnd s k attr w) := by
      have hno : noNum s k := noNum_in hk1 (fun e => hc35 (hcc.symm.trans e))
      have hi1 : ∀ w : World, (Instr.index 9 (.string s) (.int .i64 ((k : Int) + 1))).run Try.prog w = .ok (.int .u8 c0) w := fun w => run_at s (k + 1) hk1 (by omega) hcc w
      have q35 : ((c0 : Int) == 35) = false := by rw [beq_eq_false_iff_ne]; omega
      have HR := Lib.hid ((refI_yes (attr := attr) hks hc).trans (refV_zero hno (hL.trans (by rw [hn]))))
      have hi0 : ∀ w : World, (Instr.index 9 (.string s) (.int .i64 (k : Int))).run Try.prog w = .ok (.int .u8 38) w := fun w => run_at s k hks rfl hc w
      have LX := Lib.hid (longest_as' 17 rlongest_calls s hs k (by omega) ((k : Int) + 1) rfl n t hL)
      subst hn
      clear hc hL hno hcc hc35
      go_enter Try.func24, Try.ntmps24
      go_wp2_with fail
      refine (LX.out _).mono ?_
      rintro e w1 ⟨rfl, hb⟩
      have HB := Lib.hid hb
      clear hb
      go_wp2_with fail
      go_ret2
      exact ref_end HR.out rfl HB.out
set_option maxHeartbeats 1000000 in
theorem rref_in_no (s : ByteArray) (hs : s.size ≤ 1000000000) (k : Nat) (hk1 : k + 1 < s.size) (c0 : Nat) (hcc : s[k + 1].toNat = c0) (hc35 : ¬ c0 = 35) (hks : k < s.size) (hc : s[k].toNat = 38) (attr : Bool) (n : Nat) (t : ByteArray) (hL : longest s ((k : Int) + 1) = (n, t)) (hnl : n ≤ s.size - (k + 1)) (hn : 0 < n) (ha : attr = false) (w : World) :
    Calls Try.prog 24 #[.string s, .int .i64 k, .bool attr] w (RefEnd s k attr w) := by
      have hno : noNum s k := noNum_in hk1 (fun e => hc35 (hcc.symm.trans e))
      have hi1 : ∀ w : World, (Instr.index 9 (.string s) (.int .i64 ((k : Int) + 1))).run Try.prog w = .ok (.int .u8 c0) w := fun w => run_at s (k + 1) hk1 (by omega) hcc w
      have q35 : ((c0 : Int) == 35) = false := by rw [beq_eq_false_iff_ne]; omega
      have HR := Lib.hid ((refI_yes (attr := attr) hks hc).trans (refV_hit hno hn hL (fun h => by rw [ha] at h; cases h.1)))
      have hi0 : ∀ w : World, (Instr.index 9 (.string s) (.int .i64 (k : Int))).run Try.prog w = .ok (.int .u8 38) w := fun w => run_at s k hks rfl hc w
      have LX := Lib.hid (longest_as' 17 rlongest_calls s hs k (by omega) ((k : Int) + 1) rfl n t hL)
      have q0 : ((n : Int) == 0) = false := by rw [beq_eq_false_iff_ne]; omega
      subst ha
      clear hc hL hno hcc hc35
      go_enter Try.func24, Try.ntmps24
      go_wp2_with fail
      refine (LX.out _).mono ?_
      rintro e w1 ⟨rfl, hb⟩
      have HB := Lib.hid hb
      clear hb
      go_wp2_with fail
      go_ret2
      exact ref_end HR.out (by omega) HB.out
set_option maxHeartbeats 1000000 in
theorem rref_in_semi (s : ByteArray) (hs : s.size ≤ 1000000000) (k : Nat) (hk1 : k + 1 < s.size) (c0 : Nat) (hcc : s[k + 1].toNat = c0) (hc35 : ¬ c0 = 35) (hks : k < s.size) (hc : s[k].toNat = 38) (attr : Bool) (n : Nat) (t : ByteArray) (hL : longest s ((k : Int) + 1) = (n, t)) (hnl : n ≤ s.size - (k + 1)) (hn : 0 < n) (ha : attr = true) (hE : k + n < s.size) (h59 : s[k + n].toNat = 59) (w : World) :
    Calls Try.prog 24 #[.string s, .int .i64 k, .bool attr] w (RefEnd s k attr w) := by
      have hno : noNum s k := noNum_in hk1 (fun e => hc35 (hcc.symm.trans e))
      have hi1 : ∀ w : World, (Instr.index 9 (.string s) (.int .i64 ((k : Int) + 1))).run Try.prog w = .ok (.int .u8 c0) w := fun w => run_at s (k + 1) hk1 (by omega) hcc w
      have q35 : ((c0 : Int) == 35) = false := by rw [beq_eq_false_iff_ne]; omega
      have HR := Lib.hid ((refI_yes (attr := attr) hks hc).trans (refV_hit hno hn hL (fun h => h.2.1 ((byte_lit hE (n := 59) (by decide)).2 h59))))
      have hi0 : ∀ w : World, (Instr.index 9 (.string s) (.int .i64 (k : Int))).run Try.prog w = .ok (.int .u8 38) w := fun w => run_at s k hks rfl hc w
      have LX := Lib.hid (longest_as' 17 rlongest_calls s hs k (by omega) ((k : Int) + 1) rfl n t hL)
      have hi2 : ∀ w : World, (Instr.index 9 (.string s) (.int .i64 ((k : Int) + 1 + (n : Int) - 1))).run Try.prog w = .ok (.int .u8 59) w := fun w => run_at s (k + n) hE (by omega) h59 w
      have q0 : ((n : Int) == 0) = false := by rw [beq_eq_false_iff_ne]; omega
      subst ha
      clear hc hL hno hcc hc35 h59
      go_enter Try.func24, Try.ntmps24
      go_wp2_with fail
      refine (LX.out _).mono ?_
      rintro e w1 ⟨rfl, hb⟩
      have HB := Lib.hid hb
      clear hb
      go_wp2_with fail
      go_ret2
      exact ref_end HR.out (by omega) HB.out
set_option maxHeartbeats 1000000 in
theorem rref_in_end (s : ByteArray) (hs : s.size ≤ 1000000000) (k : Nat) (hk1 : k + 1 < s.size) (c0 : Nat) (hcc : s[k + 1].toNat = c0) (hc35 : ¬ c0 = 35) (hks : k < s.size) (hc : s[k].toNat = 38) (attr : Bool) (n : Nat) (t : ByteArray) (hL : longest s ((k : Int) + 1) = (n, t)) (hnl : n ≤ s.size - (k + 1)) (hn : 0 < n) (ha : attr = true) (c1 : Nat) (hE : k + n < s.size) (hc1 : s[k + n].toNat = c1) (h59 : ¬ c1 = 59) (hE2 : k + 1 + n = s.size) (w : World) :
    Calls Try.prog 24 #[.string s, .int .i64 k, .bool attr] w (RefEnd s k attr w) := by
      have hno : noNum s k := noNum_in hk1 (fun e => hc35 (hcc.symm.trans e))
      have hi1 : ∀ w : World, (Instr.index 9 (.string s) (.int .i64 ((k : Int) + 1))).run Try.prog w = .ok (.int .u8 c0) w := fun w => run_at s (k + 1) hk1 (by omega) hcc w
      have q35 : ((c0 : Int) == 35) = false := by rw [beq_eq_false_iff_ne]; omega
      have HR := Lib.hid ((refI_yes (attr := attr) hks hc).trans (refV_hit hno hn hL (fun h => by obtain ⟨b, hb, _⟩ := h.2.2; rw [List.getElem?_eq_none (show s.data.toList.length ≤ k + 1 + n from Nat.le_of_eq hE2.symm)] at hb; cases hb)))
      have hi0 : ∀ w : World, (Instr.index 9 (.string s) (.int .i64 (k : Int))).run Try.prog w = .ok (.int .u8 38) w := fun w => run_at s k hks rfl hc w
      have LX := Lib.hid (longest_as' 17 rlongest_calls s hs k (by omega) ((k : Int) + 1) rfl n t hL)
      have hi2 : ∀ w : World, (Instr.index 9 (.string s) (.int .i64 ((k : Int) + 1 + (n : Int) - 1))).run Try.prog w = .ok (.int .u8 c1) w := fun w => run_at s (k + n) hE (by omega) hc1 w
      have q59 : ((c1 : Int) == 59) = false := by rw [beq_eq_false_iff_ne]; omega
      have q59' : ((c1 : Int) != 59) = true := by rw [bne, q59]; rfl
      have q0 : ((n : Int) == 0) = false := by rw [beq_eq_false_iff_ne]; omega
      subst ha
      clear hc hL hno hcc hc35 hc1 h59
      go_enter Try.func24, Try.ntmps24
      go_wp2_with fail
      refine (LX.out _).mono ?_
      rintro e w1 ⟨rfl, hb⟩
      have HB := Lib.hid hb
      clear hb
      go_wp2_with fail
      go_ret2
      exact ref_end HR.out (by omega) HB.out
set_option maxHeartbeats 1000000 in
theorem rref_in_goes (s : ByteArray) (hs : s.size ≤ 1000000000) (k : Nat) (hk1 : k + 1 < s.size) (c0 : Nat) (hcc : s[k + 1].toNat = c0) (hc35 : ¬ c0 = 35) (hks : k < s.size) (hc : s[k].toNat = 38) (attr : Bool) (n : Nat) (t : ByteArray) (hL : longest s ((k : Int) + 1) = (n, t)) (hnl : n ≤ s.size - (k + 1)) (hn : 0 < n) (ha : attr = true) (c1 : Nat) (hE : k + n < s.size) (hc1 : s[k + n].toNat = c1) (h59 : ¬ c1 = 59) (hE2 : k + 1 + n < s.size) (c2 : Nat) (hc2 : s[k + 1 + n].toNat = c2) (hg : goOn c2 = true) (w : World) :
    Calls Try.prog 24 #[.string s, .int .i64 k, .bool attr] w (RefEnd s k attr w) := by
      have hno : noNum s k := noNum_in hk1 (fun e => hc35 (hcc.symm.trans e))
      have hi1 : ∀ w : World, (Instr.index 9 (.string s) (.int .i64 ((k : Int) + 1))).run Try.prog w = .ok (.int .u8 c0) w := fun w => run_at s (k + 1) hk1 (by omega) hcc w
      have q35 : ((c0 : Int) == 35) = false := by rw [beq_eq_false_iff_ne]; omega
      have HR := Lib.hid ((refI_yes (attr := attr) hks hc).trans (refV_amp hno hn hL ⟨ha, fun e => h59 (hc1.symm.trans ((byte_lit hE (n := 59) (by decide)).1 e)), _, byte_at hE2, by rw [hc2]; exact hg⟩))
      have hi0 : ∀ w : World, (Instr.index 9 (.string s) (.int .i64 (k : Int))).run Try.prog w = .ok (.int .u8 38) w := fun w => run_at s k hks rfl hc w
      have LX := Lib.hid (longest_as' 17 rlongest_calls s hs k (by omega) ((k : Int) + 1) rfl n t hL)
      have hi2 : ∀ w : World, (Instr.index 9 (.string s) (.int .i64 ((k : Int) + 1 + (n : Int) - 1))).run Try.prog w = .ok (.int .u8 c1) w := fun w => run_at s (k + n) hE (by omega) hc1 w
      have q59 : ((c1 : Int) == 59) = false := by rw [beq_eq_false_iff_ne]; omega
      have q59' : ((c1 : Int) != 59) = true := by rw [bne, q59]; rfl
      have hcb : c2 < 256 := by have := s[k + 1 + n].toNat_lt; omega
      have hi3 : ∀ w : World, (Instr.index 9 (.string s) (.int .i64 ((k : Int) + 1 + (n : Int)))).run Try.prog w = .ok (.int .u8 c2) w := fun w => run_at s (k + 1 + n) hE2 (by omega) hc2 w
      have LT := rletter_calls c2
      have DG := rdigit_calls c2 hcb false
      obtain ⟨hd0, hd1⟩ := dig_bd c2 false
      have q0 : ((n : Int) == 0) = false := by rw [beq_eq_false_iff_ne]; omega
      subst ha
      have HG := Lib.hid hg
      clear hc hL hno hcc hc35 hc1 h59 hc2 hg
      have go := fun (b : Bool) => b
      clear go
      cases hl : letB c2 with
      | true =>
      go_enter Try.func24, Try.ntmps24
      go_wp2_with fail
      refine (LX.out _).mono ?_
      rintro e w1 ⟨rfl, hb⟩
      have HB := Lib.hid hb
      clear hb
      go_wp2_with fail
      refine (LT _).mono ?_
      rintro e w0 ⟨rfl, rfl⟩
      rw [hl]
      go_wp2_with fail
      go_ret2
      exact ref_end HR.out rfl HB.out
      | false =>
      by_cases hd : 0 ≤ digI c2 false
      ·
        go_enter Try.func24, Try.ntmps24
        go_wp2_with fail
        refine (LX.out _).mono ?_
        rintro e w1 ⟨rfl, hb⟩
        have HB := Lib.hid hb
        clear hb
        go_wp2_with fail
        refine (LT _).mono ?_
        rintro e w0 ⟨rfl, rfl⟩
        rw [hl]
        go_wp2_with fail
        refine (DG _).mono ?_
        rintro e w0 ⟨rfl, rfl⟩
        go_wp2_with fail
        go_ret2
        exact ref_end HR.out rfl HB.out
      ·
        have hd2 : digI c2 false < 0 := by omega
        have q61 : ((c2 : Int) == 61) = true := by
          have := HG.out
          rw [go_eq hl hd2, decide_eq_true_eq] at this
          rw [beq_iff_eq]; omega
        go_enter Try.func24, Try.ntmps24
        go_wp2_with fail
        refine (LX.out _).mono ?_
        rintro e w1 ⟨rfl, hb⟩
        have HB := Lib.hid hb
        clear hb
        go_wp2_with fail
        refine (LT _).mono ?_
        rintro e w0 ⟨rfl, rfl⟩
        rw [hl]
        go_wp2_with fail
        refine (DG _).mono ?_
        rintro e w0 ⟨rfl, rfl⟩
        go_wp2_with fail
        go_ret2
        exact ref_end HR.out rfl HB.out
set_option maxHeartbeats 1000000 in
theorem rref_in_stops (s : ByteArray) (hs : s.size ≤ 1000000000) (k : Nat) (hk1 : k + 1 < s.size) (c0 : Nat) (hcc : s[k + 1].toNat = c0) (hc35 : ¬ c0 = 35) (hks : k < s.size) (hc : s[k].toNat = 38) (attr : Bool) (n : Nat) (t : ByteArray) (hL : longest s ((k : Int) + 1) = (n, t)) (hnl : n ≤ s.size - (k + 1)) (hn : 0 < n) (ha : attr = true) (c1 : Nat) (hE : k + n < s.size) (hc1 : s[k + n].toNat = c1) (h59 : ¬ c1 = 59) (hE2 : k + 1 + n < s.size) (c2 : Nat) (hc2 : s[k + 1 + n].toNat = c2) (hg : goOn c2 = false) (w : World) :
    Calls Try.prog 24 #[.string s, .int .i64 k, .bool attr] w (RefEnd s k attr w) := by
      have hno : noNum s k := noNum_in hk1 (fun e => hc35 (hcc.symm.trans e))
      have hi1 : ∀ w : World, (Instr.index 9 (.string s) (.int .i64 ((k : Int) + 1))).run Try.prog w = .ok (.int .u8 c0) w := fun w => run_at s (k + 1) hk1 (by omega) hcc w
      have q35 : ((c0 : Int) == 35) = false := by rw [beq_eq_false_iff_ne]; omega
      have HR := Lib.hid ((refI_yes (attr := attr) hks hc).trans (refV_hit hno hn hL (fun h => by obtain ⟨b, hb, hb2⟩ := h.2.2; rw [byte_at hE2] at hb; injection hb with hb; rw [← hb, hc2, hg] at hb2; cases hb2)))
      have hi0 : ∀ w : World, (Instr.index 9 (.string s) (.int .i64 (k : Int))).run Try.prog w = .ok (.int .u8 38) w := fun w => run_at s k hks rfl hc w
      have LX := Lib.hid (longest_as' 17 rlongest_calls s hs k (by omega) ((k : Int) + 1) rfl n t hL)
      have hi2 : ∀ w : World, (Instr.index 9 (.string s) (.int .i64 ((k : Int) + 1 + (n : Int) - 1))).run Try.prog w = .ok (.int .u8 c1) w := fun w => run_at s (k + n) hE (by omega) hc1 w
      have q59 : ((c1 : Int) == 59) = false := by rw [beq_eq_false_iff_ne]; omega
      have q59' : ((c1 : Int) != 59) = true := by rw [bne, q59]; rfl
      have hcb : c2 < 256 := by have := s[k + 1 + n].toNat_lt; omega
      have hi3 : ∀ w : World, (Instr.index 9 (.string s) (.int .i64 ((k : Int) + 1 + (n : Int)))).run Try.prog w = .ok (.int .u8 c2) w := fun w => run_at s (k + 1 + n) hE2 (by omega) hc2 w
      have LT := rletter_calls c2
      have DG := rdigit_calls c2 hcb false
      obtain ⟨hd0, hd1⟩ := dig_bd c2 false
      have q0 : ((n : Int) == 0) = false := by rw [beq_eq_false_iff_ne]; omega
      subst ha
      have HG := Lib.hid hg
      clear hc hL hno hcc hc35 hc1 h59 hc2 hg
      have go := fun (b : Bool) => b
      clear go
      cases hl : letB c2 with
      | true =>
      rw [go_let hl] at HG
      cases HG.out
      | false =>
      by_cases hd : 0 ≤ digI c2 false
      ·
        rw [go_dig hd] at HG
        cases HG.out
      ·
        have hd2 : digI c2 false < 0 := by omega
        have q61 : ((c2 : Int) == 61) = false := by
          have := HG.out
          rw [go_eq hl hd2, decide_eq_false_iff_not] at this
          rw [beq_eq_false_iff_ne]; omega
        go_enter Try.func24, Try.ntmps24
        go_wp2_with fail
        refine (LX.out _).mono ?_
        rintro e w1 ⟨rfl, hb⟩
        have HB := Lib.hid hb
        clear hb
        go_wp2_with fail
        refine (LT _).mono ?_
        rintro e w0 ⟨rfl, rfl⟩
        rw [hl]
        go_wp2_with fail
        refine (DG _).mono ?_
        rintro e w0 ⟨rfl, rfl⟩
        go_wp2_with fail
        go_ret2
        exact ref_end HR.out (by omega) HB.out
set_option maxHeartbeats 1000000 in
theorem rref_last_zero (s : ByteArray) (hs : s.size ≤ 1000000000) (k : Nat) (hk1 : k + 1 = s.size) (hks : k < s.size) (hc : s[k].toNat = 38) (attr : Bool) (n : Nat) (t : ByteArray) (hL : longest s ((k : Int) + 1) = (n, t)) (hnl : n ≤ s.size - (k + 1)) (hn : n = 0) (w : World) :
    Calls Try.prog 24 #[.string s, .int .i64 k, .bool attr] w (RefEnd s k attr w) := by
      have hno : noNum s k := noNum_end (Nat.le_of_eq hk1.symm)
      have HR := Lib.hid ((refI_yes (attr := attr) hks hc).trans (refV_zero hno (hL.trans (by rw [hn]))))
      have hi0 : ∀ w : World, (Instr.index 9 (.string s) (.int .i64 (k : Int))).run Try.prog w = .ok (.int .u8 38) w := fun w => run_at s k hks rfl hc w
      have LX := Lib.hid (longest_as' 17 rlongest_calls s hs k (by omega) ((k : Int) + 1) rfl n t hL)
      subst hn
      clear hc hL hno
      go_enter Try.func24, Try.ntmps24
      go_wp2_with fail
      refine (LX.out _).mono ?_
      rintro e w1 ⟨rfl, hb⟩
      have HB := Lib.hid hb
      clear hb
      go_wp2_with fail
      go_ret2
      exact ref_end HR.out rfl HB.out
theorem rref_out (s : ByteArray) (hs : s.size ≤ 1000000000) (a : Int) (h0 : -9223372036854775808 ≤ a) (h1 : a ≤ 9223372036854775807) (h : a < 0 ∨ (s.size : Int) ≤ a) (attr : Bool) (w : World) :
    Calls Try.prog 24 #[.string s, .int .i64 a, .bool attr] w (RefEnd s a attr w) := by
  have HR := Lib.hid (refI_out (attr := attr) h)
  rcases h with h | h
  · go_enter Try.func24, Try.ntmps24
    go_wp2_with fail
    go_ret2
    exact ref_end HR.out rfl (Below.refl _ _)
  · by_cases hz : a < 0
    · exfalso; omega
    · go_enter Try.func24, Try.ntmps24
      go_wp2_with fail
      go_ret2
      exact ref_end HR.out rfl (Below.refl _ _)
theorem rref_other (s : ByteArray) (hs : s.size ≤ 1000000000) (k : Nat) (hks : k < s.size) (c : Nat) (hc : s[k].toNat = c) (h38 : ¬ c = 38) (attr : Bool) (w : World) :
    Calls Try.prog 24 #[.string s, .int .i64 k, .bool attr] w (RefEnd s k attr w) := by
  have HR := Lib.hid (refI_no (attr := attr) hks (fun e => h38 (hc.symm.trans e)))
  have hi0 : ∀ w : World, (Instr.index 9 (.string s) (.int .i64 (k : Int))).run Try.prog w = .ok (.int .u8 c) w := fun w => run_at s k hks rfl hc w
  have q38 : ((c : Int) == 38) = false := by rw [beq_eq_false_iff_ne]; omega
  have q38' : ((c : Int) != 38) = true := by rw [bne, q38]; rfl
  clear hc h38
  go_enter Try.func24, Try.ntmps24
  go_wp2_with fail
  go_ret2
  exact ref_end HR.out rfl (Below.refl _ _)
theorem rref_all (s : ByteArray) (hs : s.size ≤ 1000000000) (a : Int) (h0 : -9223372036854775808 ≤ a) (h1 : a ≤ 9223372036854775807) (attr : Bool) (w : World) :
    Calls Try.prog 24 #[.string s, .int .i64 a, .bool attr] w (RefEnd s a attr w) := by
  by_cases h : a < 0 ∨ (s.size : Int) ≤ a
  · exact rref_out s hs a h0 h1 h attr w
  · obtain ⟨k, rfl⟩ := Int.eq_ofNat_of_zero_le (show 0 ≤ a by omega)
    have hks : k < s.size := by omega
    by_cases h38 : s[k].toNat = 38
    · obtain ⟨⟨n, t⟩, hL⟩ : ∃ r, longest s ((k : Int) + 1) = r := ⟨_, rfl⟩
      have hnl : n ≤ s.size - (k + 1) := by
        have := longest_le s (k + 1) (by omega)
        rw [show (((k + 1 : Nat)) : Int) = (k : Int) + 1 by omega, hL] at this
        exact this
      by_cases hk1 : k + 1 < s.size
      · by_cases h35 : s[k + 1].toNat = 35
        · exact rref_num s hs k hk1 h38 h35 attr w
        · by_cases hn : n = 0
          · exact rref_in_zero s hs k hk1 _ rfl h35 hks h38 attr n t hL hnl hn w
          · have hn' : 0 < n := by omega
            cases attr with
            | false => exact rref_in_no s hs k hk1 _ rfl h35 hks h38 false n t hL hnl hn' rfl w
            | true =>
              have hE : k + n < s.size := by omega
              by_cases h59 : s[k + n].toNat = 59
              · exact rref_in_semi s hs k hk1 _ rfl h35 hks h38 true n t hL hnl hn' rfl hE h59 w
              · by_cases hE2 : k + 1 + n = s.size
                · exact rref_in_end s hs k hk1 _ rfl h35 hks h38 true n t hL hnl hn' rfl _ hE rfl h59 hE2 w
                · have hE3 : k + 1 + n < s.size := by omega
                  cases hg : goOn s[k + 1 + n].toNat with
                  | true => exact rref_in_goes s hs k hk1 _ rfl h35 hks h38 true n t hL hnl hn' rfl _ hE rfl h59 hE3 _ rfl hg w
                  | false => exact rref_in_stops s hs k hk1 _ rfl h35 hks h38 true n t hL hnl hn' rfl _ hE rfl h59 hE3 _ rfl hg w
      · exact rref_last_zero s hs k (by omega) hks h38 attr n t hL hnl (by omega) w
    · exact rref_other s hs k hks _ rfl h38 attr w
end Go.Proofs.Ytfjlpekoklmedaa.Ch
