/- charref.Ref. -/
import Derived.Test.YtfjlpekoklmedaaRefA
namespace Go.Proofs.Ytfjlpekoklmedaa.Ch
open Go Go.RowKit Go.Proofs.Ytfjlpekoklmedaa.Sr Go.Proofs.Ytfjlpekoklmedaa.Ct
set_option linter.unusedVariables false
set_option maxRecDepth 100000

def RefEnd (s : ByteArray) (a : Int) (attr : Bool) (w : World) (e : Ending) (w' : World) : Prop := e = .returned (.tuple #[.string (refI s a attr).1, .int .i64 ((refI s a attr).2 : Int)]) ∧ Below w.heap.size w w'
theorem ref_end {s : ByteArray} {a : Int} {attr : Bool} {w w' : World} {t : ByteArray} {n : Nat} {m : Int} (h : refI s a attr = (t, n)) (hm : (n : Int) = m) (hb : Below w.heap.size w w') : RefEnd s a attr w (.returned (.tuple #[.string t, .int .i64 m])) w' := ⟨by rw [h, hm], hb⟩
theorem hash_pre {s : ByteArray} {k : Nat} (hk : k + 1 < s.size) : hasPre (s.extract (k + 1) s.size) ⟨#[35]⟩ = decide (s[k + 1].toNat = 35) := by
  rw [Bool.eq_iff_iff, hasPre_iff, decide_eq_true_eq]
  have e : (s.extract (k + 1) s.size).data.toList = s[k + 1] :: s.data.toList.drop (k + 2) := by
    have hk' : k + 1 < s.data.toList.length := hk
    have h1 : s.data.toList.drop (k + 1) = s[k + 1] :: s.data.toList.drop (k + 2) := List.drop_eq_getElem_cons hk'
    rw [ByteArray.data_extract, Array.toList_extract, List.extract_eq_take_drop, ← h1, List.take_of_length_le]
    rw [List.length_drop]; exact Nat.le_refl _
  rw [e]
  show [(35 : UInt8)] <+: _ ↔ _
  rw [byte_is (n := 35) (by decide)]
  constructor
  · rintro ⟨t, h⟩; injection h with h _; exact h.symm
  · intro h; rw [h]; exact ⟨_, rfl⟩
theorem hash_none {s : ByteArray} {k : Nat} (hk : s.size ≤ k + 1) : hasPre (s.extract (k + 1) s.size) ⟨#[35]⟩ = false := by
  rw [← Bool.not_eq_true, hasPre_iff]
  have e : (s.extract (k + 1) s.size).data.toList = [] := by
    rw [ByteArray.data_extract, Array.toList_extract, List.extract_eq_take_drop]
    have : s.size = s.data.toList.length := rfl
    rw [List.drop_eq_nil_of_le (by omega), List.take_nil]
  rw [e]
  rintro ⟨t, h⟩
  cases h
theorem hash_nil : hasPre ByteArray.empty ⟨#[35]⟩ = false := by
  rw [← Bool.not_eq_true, hasPre_iff]
  rintro ⟨t, h⟩
  cases h
theorem longest_as' (F : FuncId) (hF : ∀ (s : ByteArray) (hs : s.size ≤ maxLen) (a : Int) (h0 : -9223372036854775808 ≤ a) (h1 : a ≤ 9223372036854775807) (w : World), Calls Try.prog F #[.string s, .int .i64 a] w fun e w' => e = .returned (.tuple #[.int .i64 (longest s a).1, .string (longest s a).2]) ∧ Below w.heap.size w w')
    (s : ByteArray) (hs : s.size ≤ 1000000000) (k : Nat) (hk : k ≤ s.size) (m : Int) (hm : (k : Int) + 1 = m) (n : Nat) (t : ByteArray) (h : longest s ((k : Int) + 1) = (n, t)) (w : World) :
    Calls Try.prog F #[.string s, .int .i64 m] w fun e w' => e = .returned (.tuple #[.int .i64 n, .string t]) ∧ Below w.heap.size w w' := by
  have := hF s (by unfold maxLen; omega) ((k : Int) + 1) (by omega) (by omega) w
  rw [h, hm] at this
  exact this
theorem ref_num (s : ByteArray) (hs : s.size ≤ 1000000000) (k : Nat) (hk1 : k + 1 < s.size) (hc : s[k].toNat = 38) (hcc : s[k + 1].toNat = 35) (attr : Bool) (w : World) :
    Calls Try.prog 22 #[.string s, .int .i64 k, .bool attr] w (RefEnd s k attr w) := by
      have HR := Lib.hid ((refI_yes (attr := attr) (by omega) hc).trans (refV_num hk1 hcc))
      have hi0 : ∀ w : World, (Instr.index 9 (.string s) (.int .i64 (k : Int))).run Try.prog w = .ok (.int .u8 38) w := fun w => run_at s k (by omega) rfl hc w
      have hi1 : ∀ w : World, (Instr.index 9 (.string s) (.int .i64 ((k : Int) + 1))).run Try.prog w = .ok (.int .u8 35) w := fun w => run_at s (k + 1) hk1 (by omega) hcc w
      have PX := Lib.hid (hasPrefix_is (s.extract (k + 1) s.size) ⟨#[35]⟩ (by unfold maxLen; rw [ByteArray.size_extract]; omega) true (by rw [hash_pre hk1, decide_eq_true hcc]))
      have NX := Lib.hid (numeric_calls s hs k (by omega))
      clear hc hcc
      go_enter Try.func22, Try.ntmps22
      go_wp2_with fail
      refine (PX.out _).mono ?_
      rintro e w0 ⟨rfl, rfl⟩
      go_wp2_with fail
      refine (NX.out _).mono ?_
      rintro e w1 ⟨rfl, hb⟩
      have HB := Lib.hid hb
      clear hb
      go_wp2_with fail
      go_ret2
      exact ⟨by rw [HR.out]; rfl, HB.out⟩
set_option maxHeartbeats 1000000 in
theorem ref_in_zero (s : ByteArray) (hs : s.size ≤ 1000000000) (k : Nat) (hk1 : k + 1 < s.size) (c0 : Nat) (hcc : s[k + 1].toNat = c0) (hc35 : ¬ c0 = 35) (hks : k < s.size) (hc : s[k].toNat = 38) (attr : Bool) (n : Nat) (t : ByteArray) (hL : longest s ((k : Int) + 1) = (n, t)) (hnl : n ≤ s.size - (k + 1)) (hn : n = 0) (w : World) :
    Calls Try.prog 22 #[.string s, .int .i64 k, .bool attr] w (RefEnd s k attr w) := by
      have hno : noNum s k := noNum_in hk1 (fun e => hc35 (hcc.symm.trans e))
      have hpf : hasPre (s.extract (k + 1) s.size) ⟨#[35]⟩ = false := by rw [hash_pre hk1, decide_eq_false (fun e => hc35 (hcc.symm.trans e))]
      have hi1 : ∀ w : World, (Instr.index 9 (.string s) (.int .i64 ((k : Int) + 1))).run Try.prog w = .ok (.int .u8 c0) w := fun w => run_at s (k + 1) hk1 (by omega) hcc w
      have q35 : ((c0 : Int) == 35) = false := by rw [beq_eq_false_iff_ne]; omega
      have HR := Lib.hid ((refI_yes (attr := attr) hks hc).trans (refV_zero hno (hL.trans (by rw [hn]))))
      have hi0 : ∀ w : World, (Instr.index 9 (.string s) (.int .i64 (k : Int))).run Try.prog w = .ok (.int .u8 38) w := fun w => run_at s k hks rfl hc w
      have PX := Lib.hid (hasPrefix_is (s.extract (k + 1) s.size) ⟨#[35]⟩ (by unfold maxLen; rw [ByteArray.size_extract]; omega) false (hpf))
      have LX := Lib.hid (longest_as' 16 longest_calls s hs k (by omega) ((k : Int) + 1) rfl n t hL)
      subst hn
      clear hc hL hno hpf hcc hc35
      go_enter Try.func22, Try.ntmps22
      go_wp2_with fail
      refine (PX.out _).mono ?_
      rintro e w0 ⟨rfl, rfl⟩
      go_wp2_with fail
      refine (LX.out _).mono ?_
      rintro e w1 ⟨rfl, hb⟩
      have HB := Lib.hid hb
      clear hb
      go_wp2_with fail
      go_ret2
      exact ref_end HR.out rfl HB.out
set_option maxHeartbeats 1000000 in
theorem ref_in_no (s : ByteArray) (hs : s.size ≤ 1000000000) (k : Nat) (hk1 : k + 1 < s.size) (c0 : Nat) (hcc : s[k + 1].toNat = c0) (hc35 : ¬ c0 = 35) (hks : k < s.size) (hc : s[k].toNat = 38) (attr : Bool) (n : Nat) (t : ByteArray) (hL : longest s ((k : Int) + 1) = (n, t)) (hnl : n ≤ s.size - (k + 1)) (hn : 0 < n) (ha : attr = false) (w : World) :
    Calls Try.prog 22 #[.string s, .int .i64 k, .bool attr] w (RefEnd s k attr w) := by
      have hno : noNum s k := noNum_in hk1 (fun e => hc35 (hcc.symm.trans e))
      have hpf : hasPre (s.extract (k + 1) s.size) ⟨#[35]⟩ = false := by rw [hash_pre hk1, decide_eq_false (fun e => hc35 (hcc.symm.trans e))]
      have hi1 : ∀ w : World, (Instr.index 9 (.string s) (.int .i64 ((k : Int) + 1))).run Try.prog w = .ok (.int .u8 c0) w := fun w => run_at s (k + 1) hk1 (by omega) hcc w
      have q35 : ((c0 : Int) == 35) = false := by rw [beq_eq_false_iff_ne]; omega
      have HR := Lib.hid ((refI_yes (attr := attr) hks hc).trans (refV_hit hno hn hL (fun h => by rw [ha] at h; cases h.1)))
      have hi0 : ∀ w : World, (Instr.index 9 (.string s) (.int .i64 (k : Int))).run Try.prog w = .ok (.int .u8 38) w := fun w => run_at s k hks rfl hc w
      have PX := Lib.hid (hasPrefix_is (s.extract (k + 1) s.size) ⟨#[35]⟩ (by unfold maxLen; rw [ByteArray.size_extract]; omega) false (hpf))
      have LX := Lib.hid (longest_as' 16 longest_calls s hs k (by omega) ((k : Int) + 1) rfl n t hL)
      have q0 : ((n : Int) == 0) = false := by rw [beq_eq_false_iff_ne]; omega
      subst ha
      clear hc hL hno hpf hcc hc35
      go_enter Try.func22, Try.ntmps22
      go_wp2_with fail
      refine (PX.out _).mono ?_
      rintro e w0 ⟨rfl, rfl⟩
      go_wp2_with fail
      refine (LX.out _).mono ?_
      rintro e w1 ⟨rfl, hb⟩
      have HB := Lib.hid hb
      clear hb
      go_wp2_with fail
      go_ret2
      exact ref_end HR.out (by omega) HB.out
set_option maxHeartbeats 1000000 in
theorem ref_in_semi (s : ByteArray) (hs : s.size ≤ 1000000000) (k : Nat) (hk1 : k + 1 < s.size) (c0 : Nat) (hcc : s[k + 1].toNat = c0) (hc35 : ¬ c0 = 35) (hks : k < s.size) (hc : s[k].toNat = 38) (attr : Bool) (n : Nat) (t : ByteArray) (hL : longest s ((k : Int) + 1) = (n, t)) (hnl : n ≤ s.size - (k + 1)) (hn : 0 < n) (ha : attr = true) (hE : k + n < s.size) (h59 : s[k + n].toNat = 59) (w : World) :
    Calls Try.prog 22 #[.string s, .int .i64 k, .bool attr] w (RefEnd s k attr w) := by
      have hno : noNum s k := noNum_in hk1 (fun e => hc35 (hcc.symm.trans e))
      have hpf : hasPre (s.extract (k + 1) s.size) ⟨#[35]⟩ = false := by rw [hash_pre hk1, decide_eq_false (fun e => hc35 (hcc.symm.trans e))]
      have hi1 : ∀ w : World, (Instr.index 9 (.string s) (.int .i64 ((k : Int) + 1))).run Try.prog w = .ok (.int .u8 c0) w := fun w => run_at s (k + 1) hk1 (by omega) hcc w
      have q35 : ((c0 : Int) == 35) = false := by rw [beq_eq_false_iff_ne]; omega
      have HR := Lib.hid ((refI_yes (attr := attr) hks hc).trans (refV_hit hno hn hL (fun h => h.2.1 ((byte_lit hE (n := 59) (by decide)).2 h59))))
      have hi0 : ∀ w : World, (Instr.index 9 (.string s) (.int .i64 (k : Int))).run Try.prog w = .ok (.int .u8 38) w := fun w => run_at s k hks rfl hc w
      have PX := Lib.hid (hasPrefix_is (s.extract (k + 1) s.size) ⟨#[35]⟩ (by unfold maxLen; rw [ByteArray.size_extract]; omega) false (hpf))
      have LX := Lib.hid (longest_as' 16 longest_calls s hs k (by omega) ((k : Int) + 1) rfl n t hL)
      have hi2 : ∀ w : World, (Instr.index 9 (.string s) (.int .i64 ((k : Int) + 1 + (n : Int) - 1))).run Try.prog w = .ok (.int .u8 59) w := fun w => run_at s (k + n) hE (by omega) h59 w
      have q0 : ((n : Int) == 0) = false := by rw [beq_eq_false_iff_ne]; omega
      subst ha
      clear hc hL hno hpf hcc hc35 h59
      go_enter Try.func22, Try.ntmps22
      go_wp2_with fail
      refine (PX.out _).mono ?_
      rintro e w0 ⟨rfl, rfl⟩
      go_wp2_with fail
      refine (LX.out _).mono ?_
      rintro e w1 ⟨rfl, hb⟩
      have HB := Lib.hid hb
      clear hb
      go_wp2_with fail
      go_ret2
      exact ref_end HR.out (by omega) HB.out
set_option maxHeartbeats 1000000 in
theorem ref_in_end (s : ByteArray) (hs : s.size ≤ 1000000000) (k : Nat) (hk1 : k + 1 < s.size) (c0 : Nat) (hcc : s[k + 1].toNat = c0) (hc35 : ¬ c0 = 35) (hks : k < s.size) (hc : s[k].toNat = 38) (attr : Bool) (n : Nat) (t : ByteArray) (hL : longest s ((k : Int) + 1) = (n, t)) (hnl : n ≤ s.size - (k + 1)) (hn : 0 < n) (ha : attr = true) (c1 : Nat) (hE : k + n < s.size) (hc1 : s[k + n].toNat = c1) (h59 : ¬ c1 = 59) (hE2 : k + 1 + n = s.size) (w : World) :
    Calls Try.prog 22 #[.string s, .int .i64 k, .bool attr] w (RefEnd s k attr w) := by
      have hno : noNum s k := noNum_in hk1 (fun e => hc35 (hcc.symm.trans e))
      have hpf : hasPre (s.extract (k + 1) s.size) ⟨#[35]⟩ = false := by rw [hash_pre hk1, decide_eq_false (fun e => hc35 (hcc.symm.trans e))]
      have hi1 : ∀ w : World, (Instr.index 9 (.string s) (.int .i64 ((k : Int) + 1))).run Try.prog w = .ok (.int .u8 c0) w := fun w => run_at s (k + 1) hk1 (by omega) hcc w
      have q35 : ((c0 : Int) == 35) = false := by rw [beq_eq_false_iff_ne]; omega
      have HR := Lib.hid ((refI_yes (attr := attr) hks hc).trans (refV_hit hno hn hL (fun h => by obtain ⟨b, hb, _⟩ := h.2.2; rw [List.getElem?_eq_none (show s.data.toList.length ≤ k + 1 + n from Nat.le_of_eq hE2.symm)] at hb; cases hb)))
      have hi0 : ∀ w : World, (Instr.index 9 (.string s) (.int .i64 (k : Int))).run Try.prog w = .ok (.int .u8 38) w := fun w => run_at s k hks rfl hc w
      have PX := Lib.hid (hasPrefix_is (s.extract (k + 1) s.size) ⟨#[35]⟩ (by unfold maxLen; rw [ByteArray.size_extract]; omega) false (hpf))
      have LX := Lib.hid (longest_as' 16 longest_calls s hs k (by omega) ((k : Int) + 1) rfl n t hL)
      have hi2 : ∀ w : World, (Instr.index 9 (.string s) (.int .i64 ((k : Int) + 1 + (n : Int) - 1))).run Try.prog w = .ok (.int .u8 c1) w := fun w => run_at s (k + n) hE (by omega) hc1 w
      have q59 : ((c1 : Int) == 59) = false := by rw [beq_eq_false_iff_ne]; omega
      have q59' : ((c1 : Int) != 59) = true := by rw [bne, q59]; rfl
      have q0 : ((n : Int) == 0) = false := by rw [beq_eq_false_iff_ne]; omega
      subst ha
      clear hc hL hno hpf hcc hc35 hc1 h59
      go_enter Try.func22, Try.ntmps22
      go_wp2_with fail
      refine (PX.out _).mono ?_
      rintro e w0 ⟨rfl, rfl⟩
      go_wp2_with fail
      refine (LX.out _).mono ?_
      rintro e w1 ⟨rfl, hb⟩
      have HB := Lib.hid hb
      clear hb
      go_wp2_with fail
      go_ret2
      exact ref_end HR.out (by omega) HB.out
set_option maxHeartbeats 1000000 in
theorem ref_in_goes (s : ByteArray) (hs : s.size ≤ 1000000000) (k : Nat) (hk1 : k + 1 < s.size) (c0 : Nat) (hcc : s[k + 1].toNat = c0) (hc35 : ¬ c0 = 35) (hks : k < s.size) (hc : s[k].toNat = 38) (attr : Bool) (n : Nat) (t : ByteArray) (hL : longest s ((k : Int) + 1) = (n, t)) (hnl : n ≤ s.size - (k + 1)) (hn : 0 < n) (ha : attr = true) (c1 : Nat) (hE : k + n < s.size) (hc1 : s[k + n].toNat = c1) (h59 : ¬ c1 = 59) (hE2 : k + 1 + n < s.size) (c2 : Nat) (hc2 : s[k + 1 + n].toNat = c2) (hg : goOn c2 = true) (w : World) :
    Calls Try.prog 22 #[.string s, .int .i64 k, .bool attr] w (RefEnd s k attr w) := by
      have hno : noNum s k := noNum_in hk1 (fun e => hc35 (hcc.symm.trans e))
      have hpf : hasPre (s.extract (k + 1) s.size) ⟨#[35]⟩ = false := by rw [hash_pre hk1, decide_eq_false (fun e => hc35 (hcc.symm.trans e))]
      have hi1 : ∀ w : World, (Instr.index 9 (.string s) (.int .i64 ((k : Int) + 1))).run Try.prog w = .ok (.int .u8 c0) w := fun w => run_at s (k + 1) hk1 (by omega) hcc w
      have q35 : ((c0 : Int) == 35) = false := by rw [beq_eq_false_iff_ne]; omega
      have HR := Lib.hid ((refI_yes (attr := attr) hks hc).trans (refV_amp hno hn hL ⟨ha, fun e => h59 (hc1.symm.trans ((byte_lit hE (n := 59) (by decide)).1 e)), _, byte_at hE2, by rw [hc2]; exact hg⟩))
      have hi0 : ∀ w : World, (Instr.index 9 (.string s) (.int .i64 (k : Int))).run Try.prog w = .ok (.int .u8 38) w := fun w => run_at s k hks rfl hc w
      have PX := Lib.hid (hasPrefix_is (s.extract (k + 1) s.size) ⟨#[35]⟩ (by unfold maxLen; rw [ByteArray.size_extract]; omega) false (hpf))
      have LX := Lib.hid (longest_as' 16 longest_calls s hs k (by omega) ((k : Int) + 1) rfl n t hL)
      have hi2 : ∀ w : World, (Instr.index 9 (.string s) (.int .i64 ((k : Int) + 1 + (n : Int) - 1))).run Try.prog w = .ok (.int .u8 c1) w := fun w => run_at s (k + n) hE (by omega) hc1 w
      have q59 : ((c1 : Int) == 59) = false := by rw [beq_eq_false_iff_ne]; omega
      have q59' : ((c1 : Int) != 59) = true := by rw [bne, q59]; rfl
      have hcb : c2 < 256 := by have := s[k + 1 + n].toNat_lt; omega
      have hi3 : ∀ w : World, (Instr.index 9 (.string s) (.int .i64 ((k : Int) + 1 + (n : Int)))).run Try.prog w = .ok (.int .u8 c2) w := fun w => run_at s (k + 1 + n) hE2 (by omega) hc2 w
      have GX := goesOn_calls c2 hcb
      rw [hg] at GX
      have GX := Lib.hid GX
      have q0 : ((n : Int) == 0) = false := by rw [beq_eq_false_iff_ne]; omega
      subst ha
      clear hc hL hno hpf hcc hc35 hc1 h59 hc2 hg
      go_enter Try.func22, Try.ntmps22
      go_wp2_with fail
      refine (PX.out _).mono ?_
      rintro e w0 ⟨rfl, rfl⟩
      go_wp2_with fail
      refine (LX.out _).mono ?_
      rintro e w1 ⟨rfl, hb⟩
      have HB := Lib.hid hb
      clear hb
      go_wp2_with fail
      refine (GX.out _).mono ?_
      rintro e w0 ⟨rfl, rfl⟩
      go_wp2_with fail
      go_ret2
      exact ref_end HR.out rfl HB.out
set_option maxHeartbeats 1000000 in
theorem ref_in_stops (s : ByteArray) (hs : s.size ≤ 1000000000) (k : Nat) (hk1 : k + 1 < s.size) (c0 : Nat) (hcc : s[k + 1].toNat = c0) (hc35 : ¬ c0 = 35) (hks : k < s.size) (hc : s[k].toNat = 38) (attr : Bool) (n : Nat) (t : ByteArray) (hL : longest s ((k : Int) + 1) = (n, t)) (hnl : n ≤ s.size - (k + 1)) (hn : 0 < n) (ha : attr = true) (c1 : Nat) (hE : k + n < s.size) (hc1 : s[k + n].toNat = c1) (h59 : ¬ c1 = 59) (hE2 : k + 1 + n < s.size) (c2 : Nat) (hc2 : s[k + 1 + n].toNat = c2) (hg : goOn c2 = false) (w : World) :
    Calls Try.prog 22 #[.string s, .int .i64 k, .bool attr] w (RefEnd s k attr w) := by
      have hno : noNum s k := noNum_in hk1 (fun e => hc35 (hcc.symm.trans e))
      have hpf : hasPre (s.extract (k + 1) s.size) ⟨#[35]⟩ = false := by rw [hash_pre hk1, decide_eq_false (fun e => hc35 (hcc.symm.trans e))]
      have hi1 : ∀ w : World, (Instr.index 9 (.string s) (.int .i64 ((k : Int) + 1))).run Try.prog w = .ok (.int .u8 c0) w := fun w => run_at s (k + 1) hk1 (by omega) hcc w
      have q35 : ((c0 : Int) == 35) = false := by rw [beq_eq_false_iff_ne]; omega
      have HR := Lib.hid ((refI_yes (attr := attr) hks hc).trans (refV_hit hno hn hL (fun h => by obtain ⟨b, hb, hb2⟩ := h.2.2; rw [byte_at hE2] at hb; injection hb with hb; rw [← hb, hc2, hg] at hb2; cases hb2)))
      have hi0 : ∀ w : World, (Instr.index 9 (.string s) (.int .i64 (k : Int))).run Try.prog w = .ok (.int .u8 38) w := fun w => run_at s k hks rfl hc w
      have PX := Lib.hid (hasPrefix_is (s.extract (k + 1) s.size) ⟨#[35]⟩ (by unfold maxLen; rw [ByteArray.size_extract]; omega) false (hpf))
      have LX := Lib.hid (longest_as' 16 longest_calls s hs k (by omega) ((k : Int) + 1) rfl n t hL)
      have hi2 : ∀ w : World, (Instr.index 9 (.string s) (.int .i64 ((k : Int) + 1 + (n : Int) - 1))).run Try.prog w = .ok (.int .u8 c1) w := fun w => run_at s (k + n) hE (by omega) hc1 w
      have q59 : ((c1 : Int) == 59) = false := by rw [beq_eq_false_iff_ne]; omega
      have q59' : ((c1 : Int) != 59) = true := by rw [bne, q59]; rfl
      have hcb : c2 < 256 := by have := s[k + 1 + n].toNat_lt; omega
      have hi3 : ∀ w : World, (Instr.index 9 (.string s) (.int .i64 ((k : Int) + 1 + (n : Int)))).run Try.prog w = .ok (.int .u8 c2) w := fun w => run_at s (k + 1 + n) hE2 (by omega) hc2 w
      have GX := goesOn_calls c2 hcb
      rw [hg] at GX
      have GX := Lib.hid GX
      have q0 : ((n : Int) == 0) = false := by rw [beq_eq_false_iff_ne]; omega
      subst ha
      clear hc hL hno hpf hcc hc35 hc1 h59 hc2 hg
      go_enter Try.func22, Try.ntmps22
      go_wp2_with fail
      refine (PX.out _).mono ?_
      rintro e w0 ⟨rfl, rfl⟩
      go_wp2_with fail
      refine (LX.out _).mono ?_
      rintro e w1 ⟨rfl, hb⟩
      have HB := Lib.hid hb
      clear hb
      go_wp2_with fail
      refine (GX.out _).mono ?_
      rintro e w0 ⟨rfl, rfl⟩
      go_wp2_with fail
      go_ret2
      exact ref_end HR.out (by omega) HB.out
set_option maxHeartbeats 1000000 in
theorem ref_last_zero (s : ByteArray) (hs : s.size ≤ 1000000000) (k : Nat) (hk1 : k + 1 = s.size) (hks : k < s.size) (hc : s[k].toNat = 38) (attr : Bool) (n : Nat) (t : ByteArray) (hL : longest s ((k : Int) + 1) = (n, t)) (hnl : n ≤ s.size - (k + 1)) (hn : n = 0) (w : World) :
    Calls Try.prog 22 #[.string s, .int .i64 k, .bool attr] w (RefEnd s k attr w) := by
      have hno : noNum s k := noNum_end (Nat.le_of_eq hk1.symm)
      have hpf : hasPre (s.extract (k + 1) s.size) ⟨#[35]⟩ = false := hash_none (Nat.le_of_eq hk1.symm)
      have HR := Lib.hid ((refI_yes (attr := attr) hks hc).trans (refV_zero hno (hL.trans (by rw [hn]))))
      have hi0 : ∀ w : World, (Instr.index 9 (.string s) (.int .i64 (k : Int))).run Try.prog w = .ok (.int .u8 38) w := fun w => run_at s k hks rfl hc w
      have PX := Lib.hid (hasPrefix_is ByteArray.empty ⟨#[35]⟩ (by decide) false hash_nil)
      have LX := Lib.hid (longest_as' 16 longest_calls s hs k (by omega) ((k : Int) + 1) rfl n t hL)
      subst hn
      clear hc hL hno hpf
      go_enter Try.func22, Try.ntmps22
      go_wp2_with fail
      refine (PX.out _).mono ?_
      rintro e w0 ⟨rfl, rfl⟩
      go_wp2_with fail
      refine (LX.out _).mono ?_
      rintro e w1 ⟨rfl, hb⟩
      have HB := Lib.hid hb
      clear hb
      go_wp2_with fail
      go_ret2
      exact ref_end HR.out rfl HB.out
theorem ref_out (s : ByteArray) (hs : s.size ≤ 1000000000) (a : Int) (h0 : -9223372036854775808 ≤ a) (h1 : a ≤ 9223372036854775807) (h : a < 0 ∨ (s.size : Int) ≤ a) (attr : Bool) (w : World) :
    Calls Try.prog 22 #[.string s, .int .i64 a, .bool attr] w (RefEnd s a attr w) := by
  have HR := Lib.hid (refI_out (attr := attr) h)
  rcases h with h | h
  · go_enter Try.func22, Try.ntmps22
    go_wp2_with fail
    go_ret2
    exact ref_end HR.out rfl (Below.refl _ _)
  · by_cases hz : a < 0
    · exfalso; omega
    · go_enter Try.func22, Try.ntmps22
      go_wp2_with fail
      go_ret2
      exact ref_end HR.out rfl (Below.refl _ _)
theorem ref_other (s : ByteArray) (hs : s.size ≤ 1000000000) (k : Nat) (hks : k < s.size) (c : Nat) (hc : s[k].toNat = c) (h38 : ¬ c = 38) (attr : Bool) (w : World) :
    Calls Try.prog 22 #[.string s, .int .i64 k, .bool attr] w (RefEnd s k attr w) := by
  have HR := Lib.hid (refI_no (attr := attr) hks (fun e => h38 (hc.symm.trans e)))
  have hi0 : ∀ w : World, (Instr.index 9 (.string s) (.int .i64 (k : Int))).run Try.prog w = .ok (.int .u8 c) w := fun w => run_at s k hks rfl hc w
  have q38 : ((c : Int) == 38) = false := by rw [beq_eq_false_iff_ne]; omega
  have q38' : ((c : Int) != 38) = true := by rw [bne, q38]; rfl
  clear hc h38
  go_enter Try.func22, Try.ntmps22
  go_wp2_with fail
  go_ret2
  exact ref_end HR.out rfl (Below.refl _ _)
theorem ref_all (s : ByteArray) (hs : s.size ≤ 1000000000) (a : Int) (h0 : -9223372036854775808 ≤ a) (h1 : a ≤ 9223372036854775807) (attr : Bool) (w : World) :
    Calls Try.prog 22 #[.string s, .int .i64 a, .bool attr] w (RefEnd s a attr w) := by
  by_cases h : a < 0 ∨ (s.size : Int) ≤ a
  · exact ref_out s hs a h0 h1 h attr w
  · obtain ⟨k, rfl⟩ := Int.eq_ofNat_of_zero_le (show 0 ≤ a by omega)
    have hks : k < s.size := by omega
    by_cases h38 : s[k].toNat = 38
    · obtain ⟨⟨n, t⟩, hL⟩ : ∃ r, longest s ((k : Int) + 1) = r := ⟨_, rfl⟩
      have hnl : n ≤ s.size - (k + 1) := by
        have := longest_le s (k + 1) (by omega)
        rw [show (((k + 1 : Nat)) : Int) = (k : Int) + 1 by omega, hL] at this
        exact this
      by_cases hk1 : k + 1 < s.size
      · by_cases h35 : s[k + 1].toNat = 35
        · exact ref_num s hs k hk1 h38 h35 attr w
        · by_cases hn : n = 0
          · exact ref_in_zero s hs k hk1 _ rfl h35 hks h38 attr n t hL hnl hn w
          · have hn' : 0 < n := by omega
            cases attr with
            | false => exact ref_in_no s hs k hk1 _ rfl h35 hks h38 false n t hL hnl hn' rfl w
            | true =>
              have hE : k + n < s.size := by omega
              by_cases h59 : s[k + n].toNat = 59
              · exact ref_in_semi s hs k hk1 _ rfl h35 hks h38 true n t hL hnl hn' rfl hE h59 w
              · by_cases hE2 : k + 1 + n = s.size
                · exact ref_in_end s hs k hk1 _ rfl h35 hks h38 true n t hL hnl hn' rfl _ hE rfl h59 hE2 w
                · have hE3 : k + 1 + n < s.size := by omega
                  cases hg : goOn s[k + 1 + n].toNat with
                  | true => exact ref_in_goes s hs k hk1 _ rfl h35 hks h38 true n t hL hnl hn' rfl _ hE rfl h59 hE3 _ rfl hg w
                  | false => exact ref_in_stops s hs k hk1 _ rfl h35 hks h38 true n t hL hnl hn' rfl _ hE rfl h59 hE3 _ rfl hg w
      · exact ref_last_zero s hs k (by omega) hks h38 attr n t hL hnl (by omega) w
    · exact ref_other s hs k hks _ rfl h38 attr w
end Go.Proofs.Ytfjlpekoklmedaa.Ch
