/- A reference that stands at a place: the plain words; letters; what goes on. -/
import Derived.Test.YtbdgoffbkenofaaGreatNumc
namespace Go.Proofs.YtbdgoffbkenofaaGreat.Ch
open Go Go.RowKit Go.Proofs.YtbdgoffbkenofaaGreat.Sr Go.Proofs.YtbdgoffbkenofaaGreat.Ct
set_option linter.unusedVariables false

def letB (c : Nat) : Bool := decide ((97 ≤ c ∧ c ≤ 122) ∨ (65 ≤ c ∧ c ≤ 90))
def goOn (c : Nat) : Bool := letB c || decide (48 ≤ c ∧ c ≤ 57) || decide (c = 61)
theorem let_up {c : Nat} (h : 97 ≤ c) (h2 : c ≤ 122) : letB c = true := decide_eq_true (.inl ⟨h, h2⟩)
theorem let_lo {c : Nat} (h : 65 ≤ c) (h2 : c ≤ 90) : letB c = true := decide_eq_true (.inr ⟨h, h2⟩)
theorem let_no {c : Nat} (h : ¬ (97 ≤ c ∧ c ≤ 122)) (h2 : ¬ (65 ≤ c ∧ c ≤ 90)) : letB c = false := decide_eq_false (by omega)
theorem dig_iff (c : Nat) : (0 ≤ digI c false) ↔ (48 ≤ c ∧ c ≤ 57) := by
  constructor
  · intro h
    rcases dig_cases c false with h1 | ⟨h1, _⟩ | ⟨h1, _⟩ | ⟨h1, _⟩ | ⟨_, h1, _⟩
    · exact h1
    · cases h1
    · cases h1
    · rw [dig_no false h1 (.inl rfl)] at h; omega
    · cases h1
  · rintro ⟨h1, h2⟩; rw [dig_1 false h1 h2]; omega
theorem go_let {c : Nat} (h : letB c = true) : goOn c = true := by unfold goOn; rw [h]; rfl
theorem go_dig {c : Nat} (h : 0 ≤ digI c false) : goOn c = true := by unfold goOn; rw [decide_eq_true ((dig_iff c).1 h)]; simp
theorem go_eq {c : Nat} (h : letB c = false) (h2 : digI c false < 0) : goOn c = decide (c = 61) := by
  unfold goOn
  rw [h, decide_eq_false (fun h3 => by have := (dig_iff c).2 h3; omega)]; rfl
attribute [irreducible] letB goOn
theorem letter_calls (c : Nat) (w : World) : Calls Tryz.prog 63 #[.int .u8 c] w fun e w' => e = .returned (.bool (letB c)) ∧ w = w' := by
  by_cases h : 97 ≤ c ∧ c ≤ 122
  · obtain ⟨h1, h2⟩ := h
    have H := Lib.hid (let_up h1 h2)
    go_enter Tryz.func63, Tryz.ntmps63
    go_wp2_with fail
    go_ret
    refine ⟨ret_bool ?_, rfl⟩
    first | exact H.out.symm | (rw [H.out]; simp; omega)
  · by_cases h' : 65 ≤ c ∧ c ≤ 90
    · obtain ⟨h1, h2⟩ := h'
      have H := Lib.hid (let_lo h1 h2)
      clear h
      go_enter Tryz.func63, Tryz.ntmps63
      go_wp2_with fail
      go_ret
      refine ⟨ret_bool ?_, rfl⟩
      first | exact H.out.symm | (rw [H.out]; simp; omega)
    · have H := Lib.hid (let_no h h')
      go_enter Tryz.func63, Tryz.ntmps63
      go_wp2_with fail
      all_goals (go_ret; refine ⟨ret_bool ?_, rfl⟩; first | exact H.out.symm | (rw [H.out]; simp; omega))
theorem rletter_calls (c : Nat) (w : World) : Calls Tryz.prog 44 #[.int .u8 c] w fun e w' => e = .returned (.bool (letB c)) ∧ w = w' := by
  by_cases h : 97 ≤ c ∧ c ≤ 122
  · obtain ⟨h1, h2⟩ := h
    have H := Lib.hid (let_up h1 h2)
    go_enter Tryz.func44, Tryz.ntmps44
    go_wp2_with fail
    go_ret
    refine ⟨ret_bool ?_, rfl⟩
    first | exact H.out.symm | (rw [H.out]; simp; omega)
  · by_cases h' : 65 ≤ c ∧ c ≤ 90
    · obtain ⟨h1, h2⟩ := h'
      have H := Lib.hid (let_lo h1 h2)
      clear h
      go_enter Tryz.func44, Tryz.ntmps44
      go_wp2_with fail
      go_ret
      refine ⟨ret_bool ?_, rfl⟩
      first | exact H.out.symm | (rw [H.out]; simp; omega)
    · have H := Lib.hid (let_no h h')
      go_enter Tryz.func44, Tryz.ntmps44
      go_wp2_with fail
      all_goals (go_ret; refine ⟨ret_bool ?_, rfl⟩; first | exact H.out.symm | (rw [H.out]; simp; omega))
theorem goesOn_calls (c : Nat) (hc : c < 256) (w : World) : Calls Tryz.prog 104 #[.int .u8 c] w fun e w' => e = .returned (.bool (goOn c)) ∧ w = w' := by
  have L := Lib.hid (letter_calls c w)
  have D := Lib.hid (digit_calls c hc false w)
  obtain ⟨hd0, hd1⟩ := dig_bd c false
  cases hl : letB c with
  | true =>
    have H := Lib.hid (go_let hl)
    rw [hl] at L
    go_enter Tryz.func104, Tryz.ntmps104
    go_wp2_with fail
    refine L.out.mono ?_
    rintro e w1 ⟨rfl, rfl⟩
    go_wp2_with fail
    go_ret
    exact ⟨ret_bool H.out.symm, rfl⟩
  | false =>
    rw [hl] at L
    by_cases hd : 0 ≤ digI c false
    · have H := Lib.hid (go_dig hd)
      go_enter Tryz.func104, Tryz.ntmps104
      go_wp2_with fail
      refine L.out.mono ?_
      rintro e w1 ⟨rfl, rfl⟩
      go_wp2_with fail
      refine D.out.mono ?_
      rintro e w1 ⟨rfl, rfl⟩
      go_wp2_with fail
      go_ret
      exact ⟨ret_bool H.out.symm, rfl⟩
    · have H := Lib.hid (go_eq hl (by omega))
      have hd2 : digI c false < 0 := by omega
      clear hl
      go_enter Tryz.func104, Tryz.ntmps104
      go_wp2_with fail
      refine L.out.mono ?_
      rintro e w1 ⟨rfl, rfl⟩
      go_wp2_with fail
      refine D.out.mono ?_
      rintro e w1 ⟨rfl, rfl⟩
      go_wp2_with fail
      go_ret
      refine ⟨ret_bool ?_, rfl⟩
      rw [H.out, decide_eq_false (show ¬ 0 ≤ digI c false by omega), Bool.false_or, Bool.eq_iff_iff, beq_iff_eq, decide_eq_true_eq]; omega
/-! ### A reference -/
def refV (s : ByteArray) (k : Nat) (attr : Bool) : ByteArray × Nat :=
  if s.data.toList[k + 1]? = some 35 then numV s k
  else if (longest s (k + 1)).1 = 0 then (⟨#[38]⟩, 1)
  else if attr = true ∧ s.data.toList[k + (longest s (k + 1)).1]? ≠ some 59 ∧ (∃ b, s.data.toList[k + 1 + (longest s (k + 1)).1]? = some b ∧ goOn b.toNat = true) then (⟨#[38]⟩, 1)
  else ((longest s (k + 1)).2, (longest s (k + 1)).1 + 1)
def refI (s : ByteArray) (a : Int) (attr : Bool) : ByteArray × Nat := if 0 ≤ a ∧ a < s.size ∧ s.data.toList[a.toNat]? = some 38 then refV s a.toNat attr else (⟨#[]⟩, 0)
theorem byte_lit {s : ByteArray} {k : Nat} (h : k < s.size) {n : Nat} (hn : n < 256) : s.data.toList[k]? = some (UInt8.ofNat n) ↔ s[k].toNat = n := by
  rw [byte_at h, Option.some.injEq, byte_is hn]
theorem refI_out {s : ByteArray} {a : Int} {attr : Bool} (h : a < 0 ∨ (s.size : Int) ≤ a) : refI s a attr = (⟨#[]⟩, 0) := if_neg (by omega)
theorem refI_no {s : ByteArray} {k : Nat} {attr : Bool} (hk : k < s.size) (h : ¬ s[k].toNat = 38) : refI s k attr = (⟨#[]⟩, 0) := if_neg (by
  rintro ⟨_, _, h3⟩
  exact h ((byte_lit hk (n := 38) (by decide)).1 h3))
theorem refI_yes {s : ByteArray} {k : Nat} {attr : Bool} (hk : k < s.size) (h : s[k].toNat = 38) : refI s k attr = refV s k attr := if_pos ⟨by omega, by omega, (byte_lit hk (n := 38) (by decide)).2 h⟩
theorem refV_num {s : ByteArray} {k : Nat} {attr : Bool} (hk : k + 1 < s.size) (h : s[k + 1].toNat = 35) : refV s k attr = numV s k := if_pos ((byte_lit hk (n := 35) (by decide)).2 h)
def noNum (s : ByteArray) (k : Nat) : Prop := s.data.toList[k + 1]? ≠ some 35
theorem noNum_end {s : ByteArray} {k : Nat} (h : s.size ≤ k + 1) : noNum s k := by
  unfold noNum; rw [List.getElem?_eq_none (show s.data.toList.length ≤ k + 1 from h)]; simp
theorem noNum_in {s : ByteArray} {k : Nat} (hk : k + 1 < s.size) (h : ¬ s[k + 1].toNat = 35) : noNum s k := fun e => h ((byte_lit hk (n := 35) (by decide)).1 e)
section
variable {s : ByteArray} {k n : Nat} {attr : Bool} {t : ByteArray}
theorem refV_zero (h : noNum s k) (hl : longest s (k + 1) = (0, t)) : refV s k attr = (⟨#[38]⟩, 1) := by unfold refV; rw [if_neg h, hl, if_pos rfl]
theorem refV_hit (h : noNum s k) (hn : 0 < n) (hl : longest s (k + 1) = (n, t)) (hx : ¬ (attr = true ∧ s.data.toList[k + n]? ≠ some 59 ∧ (∃ b, s.data.toList[k + 1 + n]? = some b ∧ goOn b.toNat = true))) : refV s k attr = (t, n + 1) := by
  unfold refV; rw [if_neg h, hl, if_neg (by show ¬ n = 0; omega), if_neg hx]
theorem refV_amp (h : noNum s k) (hn : 0 < n) (hl : longest s (k + 1) = (n, t)) (hx : attr = true ∧ s.data.toList[k + n]? ≠ some 59 ∧ (∃ b, s.data.toList[k + 1 + n]? = some b ∧ goOn b.toNat = true)) : refV s k attr = (⟨#[38]⟩, 1) := by
  unfold refV; rw [if_neg h, hl, if_neg (by show ¬ n = 0; omega), if_pos hx]
end
theorem lon_le (s : ByteArray) (k : Nat) : ∀ n, (lon s k n).1 ≤ n
  | 0 => by rw [lon_zero]; exact Nat.le_refl _
  | n + 1 => by
    cases h : rfind (s.extract k (k + (n + 1))) with
    | some v => rw [lon_hit h]; exact Nat.le_refl _
    | none => rw [lon_miss h]; exact Nat.le_succ_of_le (lon_le s k n)
theorem longest_le (s : ByteArray) (k : Nat) (h : k ≤ s.size) : (longest s k).1 ≤ s.size - k := by
  rw [longest_in s k h]
  exact Nat.le_trans (lon_le _ _ _) (Nat.min_le_right _ _)
attribute [irreducible] refV refI noNum
end Go.Proofs.YtbdgoffbkenofaaGreat.Ch
namespace Go.Proofs.YtbdgoffbkenofaaGreat.Ch
open Go Go.RowKit Go.Proofs.YtbdgoffbkenofaaGreat.Sr Go.Proofs.YtbdgoffbkenofaaGreat.Ct
set_option linter.unusedVariables false
set_option maxRecDepth 100000

def RefEnd (s : ByteArray) (a : Int) (attr : Bool) (w : World) (e : Ending) (w' : World) : Prop := e = .returned (.tuple #[.string (refI s a attr).1, .int .i64 ((refI s a attr).2 : Int)]) ∧ Below w.heap.size w w'
theorem ref_end {s : ByteArray} {a : Int} {attr : Bool} {w w' : World} {t : ByteArray} {n : Nat} {m : Int} (h : refI s a attr = (t, n)) (hm : (n : Int) = m) (hb : Below w.heap.size w w') : RefEnd s a attr w (.returned (.tuple #[.string t, .int .i64 m])) w' := ⟨by rw [h, hm], hb⟩
theorem hash_pre {s : ByteArray} {k : Nat} (hk : k + 1 < s.size) : hasPre (s.extract (k + 1) s.size) ⟨#[35]⟩ = decide (s[k + 1].toNat = 35) := by
  rw [Bool.eq_iff_iff, hasPre_iff, decide_eq_true_eq]
  have e : (s.extract (k + 1) s.size).data.toList = s[k + 1] :: s.data.toList.drop (k + 2) := by
    have hk' : k + 1 < s.data.toList.length := hk
    have h1 : s.data.toList.drop (k + 1) = s[k + 1] :: s.data.toList.drop (k + 2) := List.drop_eq_getElem_cons hk'
    rw [ByteArray.data_extract, Array.toList_extract, List.extract_eq_take_drop, ← h1, List.take_of_length_le]
    rw [List.length_drop]; exact Nat.le_refl _
  rw [e]
  show [(35 : UInt8)] <+: _ ↔ _
  rw [byte_is (n := 35) (by decide)]
  constructor
  · rintro ⟨t, h⟩; injection h with h _; exact h.symm
  · intro h; rw [h]; exact ⟨_, rfl⟩
theorem hash_none {s : ByteArray} {k : Nat} (hk : s.size ≤ k + 1) : hasPre (s.extract (k + 1) s.size) ⟨#[35]⟩ = false := by
  rw [← Bool.not_eq_true, hasPre_iff]
  have e : (s.extract (k + 1) s.size).data.toList = [] := by
    rw [ByteArray.data_extract, Array.toList_extract, List.extract_eq_take_drop]
    have : s.size = s.data.toList.length := rfl
    rw [List.drop_eq_nil_of_le (by omega), List.take_nil]
  rw [e]
  rintro ⟨t, h⟩
  cases h
theorem hash_nil : hasPre ByteArray.empty ⟨#[35]⟩ = false := by
  rw [← Bool.not_eq_true, hasPre_iff]
  rintro ⟨t, h⟩
  cases h
theorem longest_as' (F : FuncId) (hF : ∀ (s : ByteArray) (hs : s.size ≤ maxLen) (a : Int) (h0 : -9223372036854775808 ≤ a) (h1 : a ≤ 9223372036854775807) (w : World), Calls Tryz.prog F #[.string s, .int .i64 a] w fun e w' => e = .returned (.tuple #[.int .i64 (longest s a).1, .string (longest s a).2]) ∧ Below w.heap.size w w')
    (s : ByteArray) (hs : s.size ≤ 1000000000) (k : Nat) (hk : k ≤ s.size) (m : Int) (hm : (k : Int) + 1 = m) (n : Nat) (t : ByteArray) (h : longest s ((k : Int) + 1) = (n, t)) (w : World) :
    Calls Tryz.prog F #[.string s, .int .i64 m] w fun e w' => e = .returned (.tuple #[.int .i64 n, .string t]) ∧ Below w.heap.size w w' := by
  have := hF s (by unfold maxLen; omega) ((k : Int) + 1) (by omega) (by omega) w
  rw [h, hm] at this
  exact this
theorem ref_num (s : ByteArray) (hs : s.size ≤ 1000000000) (k : Nat) (hk1 : k + 1 < s.size) (hc : s[k].toNat = 38) (hcc : s[k + 1].toNat = 35) (attr : Bool) (w : World) :
    Calls Tryz.prog 85 #[.string s, .int .i64 k, .bool attr] w (RefEnd s k attr w) := by
      have HR := Lib.hid ((refI_yes (attr := attr) (by omega) hc).trans (refV_num hk1 hcc))
      have hi0 : ∀ w : World, (Instr.index 9 (.string s) (.int .i64 (k : Int))).run Tryz.prog w = .ok (.int .u8 38) w := fun w => run_at s k (by omega) rfl hc w
      have hi1 : ∀ w : World, (Instr.index 9 (.string s) (.int .i64 ((k : Int) + 1))).run Tryz.prog w = .ok (.int .u8 35) w := fun w => run_at s (k + 1) hk1 (by omega) hcc w
      have PX := Lib.hid (hasPrefix_is (s.extract (k + 1) s.size) ⟨#[35]⟩ (by unfold maxLen; rw [ByteArray.size_extract]; omega) true (by rw [hash_pre hk1, decide_eq_true hcc]))
      have NX := Lib.hid (numeric_calls s hs k (by omega))
      clear hc hcc
      go_enter Tryz.func85, Tryz.ntmps85
      go_wp2_with fail
      refine (PX.out _).mono ?_
      rintro e w0 ⟨rfl, rfl⟩
      go_wp2_with fail
      refine (NX.out _).mono ?_
      rintro e w1 ⟨rfl, hb⟩
      have HB := Lib.hid hb
      clear hb
      go_wp2_with fail
      go_ret2
      exact ⟨by rw [HR.out]; rfl, HB.out⟩
set_option maxHeartbeats 1000000 in
theorem ref_in_zero (s : ByteArray) (hs : s.size ≤ 1000000000) (k : Nat) (hk1 : k + 1 < s.size) (c0 : Nat) (hcc : s[k + 1].toNat = c0) (hc35 : ¬ c0 = 35) (hks : k < s.size) (hc : s[k].toNat = 38) (attr : Bool) (n : Nat) (t : ByteArray) (hL : longest s ((k : Int) + 1) = (n, t)) (hnl : n ≤ s.size - (k + 1)) (hn : n = 0) (w : World) :
    Calls Tryz.prog 85 #[.string s, .int .i64 k, .bool attr] w (RefEnd s k attr w) := by
      have hno : noNum s k := noNum_in hk1 (fun e => hc35 (hcc.symm.trans e))
      have hpf : hasPre (s.extract (k + 1) s.size) ⟨#[35]⟩ = false := by rw [hash_pre hk1, decide_eq_false (fun e => hc35 (hcc.symm.trans e))]
      have hi1 : ∀ w : World, (Instr.index 9 (.string s) (.int .i64 ((k : Int) + 1))).run Tryz.prog w = .ok (.int .u8 c0) w := fun w => run_at s (k + 1) hk1 (by omega) hcc w
      have q35 : ((c0 : Int) == 35) = false := by rw [beq_eq_false_iff_ne]; omega
      have HR := Lib.hid ((refI_yes (attr := attr) hks hc).trans (refV_zero hno (hL.trans (by rw [hn]))))
      have hi0 : ∀ w : World, (Instr.index 9 (.string s) (.int .i64 (k : Int))).run Tryz.prog w = .ok (.int .u8 38) w := fun w => run_at s k hks rfl hc w
      have PX := Lib.hid (hasPrefix_is (s.extract (k + 1) s.size) ⟨#[35]⟩ (by unfold maxLen; rw [ByteArray.size_extract]; omega) false (hpf))
      have LX := Lib.hid (longest_as' 103 longest_calls s hs k (by omega) ((k : Int) + 1) rfl n t hL)
      subst hn
      clear hc hL hno hpf hcc hc35
      go_enter Tryz.func85, Tryz.ntmps85
      go_wp2_with fail
      refine (PX.out _).mono ?_
      rintro e w0 ⟨rfl, rfl⟩
      go_wp2_with fail
      refine (LX.out _).mono ?_
      rintro e w1 ⟨rfl, hb⟩
      have HB := Lib.hid hb
      clear hb
      go_wp2_with fail
      go_ret2
      exact ref_end HR.out rfl HB.out
set_option maxHeartbeats 1000000 in
theorem ref_in_no (s : ByteArray) (hs : s.size ≤ 1000000000) (k : Nat) (hk1 : k + 1 < s.size) (c0 : Nat) (hcc : s[k + 1].toNat = c0) (hc35 : ¬ c0 = 35) (hks : k < s.size) (hc : s[k].toNat = 38) (attr : Bool) (n : Nat) (t : ByteArray) (hL : longest s ((k : Int) + 1) = (n, t)) (hnl : n ≤ s.size - (k + 1)) (hn : 0 < n) (ha : attr = false) (w : World) :
    Calls Tryz.prog 85 #[.string s, .int .i64 k, .bool attr] w (RefEnd s k attr w) := by
      have hno : noNum s k := noNum_in hk1 (fun e => hc35 (hcc.symm.trans e))
      have hpf : hasPre (s.extract (k + 1) s.size) ⟨#[35]⟩ = false := by rw [hash_pre hk1, decide_eq_false (fun e => hc35 (hcc.symm.trans e))]
      have hi1 : ∀ w : World, (Instr.index 9 (.string s) (.int .i64 ((k : Int) + 1))).run Tryz.prog w = .ok (.int .u8 c0) w := fun w => run_at s (k + 1) hk1 (by omega) hcc w
      have q35 : ((c0 : Int) == 35) = false := by rw [beq_eq_false_iff_ne]; omega
      have HR := Lib.hid ((refI_yes (attr := attr) hks hc).trans (refV_hit hno hn hL (fun h => by rw [ha] at h; cases h.1)))
      have hi0 : ∀ w : World, (Instr.index 9 (.string s) (.int .i64 (k : Int))).run Tryz.prog w = .ok (.int .u8 38) w := fun w => run_at s k hks rfl hc w
      have PX := Lib.hid (hasPrefix_is (s.extract (k + 1) s.size) ⟨#[35]⟩ (by unfold maxLen; rw [ByteArray.size_extract]; omega) false (hpf))
      have LX := Lib.hid (longest_as' 103 longest_calls s hs k (by omega) ((k : Int) + 1) rfl n t hL)
      have q0 : ((n : Int) == 0) = false := by rw [beq_eq_false_iff_ne]; omega
      subst ha
      clear hc hL hno hpf hcc hc35
      go_enter Tryz.func85, Tryz.ntmps85
      go_wp2_with fail
      refine (PX.out _).mono ?_
      rintro e w0 ⟨rfl, rfl⟩
      go_wp2_with fail
      refine (LX.out _).mono ?_
      rintro e w1 ⟨rfl, hb⟩
      have HB := Lib.hid hb
      clear hb
      go_wp2_with fail
      go_ret2
      exact ref_end HR.out (by omega) HB.out
set_option maxHeartbeats 1000000 in
theorem ref_in_semi (s : ByteArray) (hs : s.size ≤ 1000000000) (k : Nat) (hk1 : k + 1 < s.size) (c0 : Nat) (hcc : s[k + 1].toNat = c0) (hc35 : ¬ c0 = 35) (hks : k < s.size) (hc : s[k].toNat = 38) (attr : Bool) (n : Nat) (t : ByteArray) (hL : longest s ((k : Int) + 1) = (n, t)) (hnl : n ≤ s.size - (k + 1)) (hn : 0 < n) (ha : attr = true) (hE : k + n < s.size) (h59 : s[k + n].toNat = 59) (w : World) :
    Calls Tryz.prog 85 #[.string s, .int .i64 k, .bool attr] w (RefEnd s k attr w) := by
      have hno : noNum s k := noNum_in hk1 (fun e => hc35 (hcc.symm.trans e))
      have hpf : hasPre (s.extract (k + 1) s.size) ⟨#[35]⟩ = false := by rw [hash_pre hk1, decide_eq_false (fun e => hc35 (hcc.symm.trans e))]
      have hi1 : ∀ w : World, (Instr.index 9 (.string s) (.int .i64 ((k : Int) + 1))).run Tryz.prog w = .ok (.int .u8 c0) w := fun w => run_at s (k + 1) hk1 (by omega) hcc w
      have q35 : ((c0 : Int) == 35) = false := by rw [beq_eq_false_iff_ne]; omega
      have HR := Lib.hid ((refI_yes (attr := attr) hks hc).trans (refV_hit hno hn hL (fun h => h.2.1 ((byte_lit hE (n := 59) (by decide)).2 h59))))
      have hi0 : ∀ w : World, (Instr.index 9 (.string s) (.int .i64 (k : Int))).run Tryz.prog w = .ok (.int .u8 38) w := fun w => run_at s k hks rfl hc w
      have PX := Lib.hid (hasPrefix_is (s.extract (k + 1) s.size) ⟨#[35]⟩ (by unfold maxLen; rw [ByteArray.size_extract]; omega) false (hpf))
      have LX := Lib.hid (longest_as' 103 longest_calls s hs k (by omega) ((k : Int) + 1) rfl n t hL)
      have hi2 : ∀ w : World, (Instr.index 9 (.string s) (.int .i64 ((k : Int) + 1 + (n : Int) - 1))).run Tryz.prog w = .ok (.int .u8 59) w := fun w => run_at s (k + n) hE (by omega) h59 w
      have q0 : ((n : Int) == 0) = false := by rw [beq_eq_false_iff_ne]; omega
      subst ha
      clear hc hL hno hpf hcc hc35 h59
      go_enter Tryz.func85, Tryz.ntmps85
      go_wp2_with fail
      refine (PX.out _).mono ?_
      rintro e w0 ⟨rfl, rfl⟩
      go_wp2_with fail
      refine (LX.out _).mono ?_
      rintro e w1 ⟨rfl, hb⟩
      have HB := Lib.hid hb
      clear hb
      go_wp2_with fail
      go_ret2
      exact ref_end HR.out (by omega) HB.out
set_option maxHeartbeats 1000000 in
theorem ref_in_end (s : ByteArray) (hs : s.size ≤ 1000000000) (k : Nat) (hk1 : k + 1 < s.size) (c0 : Nat) (hcc : s[k + 1].toNat = c0) (hc35 : ¬ c0 = 35) (hks : k < s.size) (hc : s[k].toNat = 38) (attr : Bool) (n : Nat) (t : ByteArray) (hL : longest s ((k : Int) + 1) = (n, t)) (hnl : n ≤ s.size - (k + 1)) (hn : 0 < n) (ha : attr = true) (c1 : Nat) (hE : k + n < s.size) (hc1 : s[k + n].toNat = c1) (h59 : ¬ c1 = 59) (hE2 : k + 1 + n = s.size) (w : World) :
    Calls Tryz.prog 85 #[.string s, .int .i64 k, .bool attr] w (RefEnd s k attr w) := by
      have hno : noNum s k := noNum_in hk1 (fun e => hc35 (hcc.symm.trans e))
      have hpf : hasPre (s.extract (k + 1) s.size) ⟨#[35]⟩ = false := by rw [hash_pre hk1, decide_eq_false (fun e => hc35 (hcc.symm.trans e))]
      have hi1 : ∀ w : World, (Instr.index 9 (.string s) (.int .i64 ((k : Int) + 1))).run Tryz.prog w = .ok (.int .u8 c0) w := fun w => run_at s (k + 1) hk1 (by omega) hcc w
      have q35 : ((c0 : Int) == 35) = false := by rw [beq_eq_false_iff_ne]; omega
      have HR := Lib.hid ((refI_yes (attr := attr) hks hc).trans (refV_hit hno hn hL (fun h => by obtain ⟨b, hb, _⟩ := h.2.2; rw [List.getElem?_eq_none (show s.data.toList.length ≤ k + 1 + n from Nat.le_of_eq hE2.symm)] at hb; cases hb)))
      have hi0 : ∀ w : World, (Instr.index 9 (.string s) (.int .i64 (k : Int))).run Tryz.prog w = .ok (.int .u8 38) w := fun w => run_at s k hks rfl hc w
      have PX := Lib.hid (hasPrefix_is (s.extract (k + 1) s.size) ⟨#[35]⟩ (by unfold maxLen; rw [ByteArray.size_extract]; omega) false (hpf))
      have LX := Lib.hid (longest_as' 103 longest_calls s hs k (by omega) ((k : Int) + 1) rfl n t hL)
      have hi2 : ∀ w : World, (Instr.index 9 (.string s) (.int .i64 ((k : Int) + 1 + (n : Int) - 1))).run Tryz.prog w = .ok (.int .u8 c1) w := fun w => run_at s (k + n) hE (by omega) hc1 w
      have q59 : ((c1 : Int) == 59) = false := by rw [beq_eq_false_iff_ne]; omega
      have q59' : ((c1 : Int) != 59) = true := by rw [bne, q59]; rfl
      have q0 : ((n : Int) == 0) = false := by rw [beq_eq_false_iff_ne]; omega
      subst ha
      clear hc hL hno hpf hcc hc35 hc1 h59
      go_enter Tryz.func85, Tryz.ntmps85
      go_wp2_with fail
      refine (PX.out _).mono ?_
      rintro e w0 ⟨rfl, rfl⟩
      go_wp2_with fail
      refine (LX.out _).mono ?_
      rintro e w1 ⟨rfl, hb⟩
      have HB := Lib.hid hb
      clear hb
      go_wp2_with fail
      go_ret2
      exact ref_end HR.out (by omega) HB.out
set_option maxHeartbeats 1000000 in
theorem ref_in_goes (s : ByteArray) (hs : s.size ≤ 1000000000) (k : Nat) (hk1 : k + 1 < s.size) (c0 : Nat) (hcc : s[k + 1].toNat = c0) (hc35 : ¬ c0 = 35) (hks : k < s.size) (hc : s[k].toNat = 38) (attr : Bool) (n : Nat) (t : ByteArray) (hL : longest s ((k : Int) + 1) = (n, t)) (hnl : n ≤ s.size - (k + 1)) (hn : 0 < n) (ha : attr = true) (c1 : Nat) (hE : k + n < s.size) (hc1 : s[k + n].toNat = c1) (h59 : ¬ c1 = 59) (hE2 : k + 1 + n < s.size) (c2 : Nat) (hc2 : s[k + 1 + n].toNat = c2) (hg : goOn c2 = true) (w : World) :
    Calls Tryz.prog 85 #[.string s, .int .i64 k, .bool attr] w (RefEnd s k attr w) := by
      have hno : noNum s k := noNum_in hk1 (fun e => hc35 (hcc.symm.trans e))
      have hpf : hasPre (s.extract (k + 1) s.size) ⟨#[35]⟩ = false := by rw [hash_pre hk1, decide_eq_false (fun e => hc35 (hcc.symm.trans e))]
      have hi1 : ∀ w : World, (Instr.index 9 (.string s) (.int .i64 ((k : Int) + 1))).run Tryz.prog w = .ok (.int .u8 c0) w := fun w => run_at s (k + 1) hk1 (by omega) hcc w
      have q35 : ((c0 : Int) == 35) = false := by rw [beq_eq_false_iff_ne]; omega
      have HR := Lib.hid ((refI_yes (attr := attr) hks hc).trans (refV_amp hno hn hL ⟨ha, fun e => h59 (hc1.symm.trans ((byte_lit hE (n := 59) (by decide)).1 e)), _, byte_at hE2, by rw [hc2]; exact hg⟩))
      have hi0 : ∀ w : World, (Instr.index 9 (.string s) (.int .i64 (k : Int))).run Tryz.prog w = .ok (.int .u8 38) w := fun w => run_at s k hks rfl hc w
      have PX := Lib.hid (hasPrefix_is (s.extract (k + 1) s.size) ⟨#[35]⟩ (by unfold maxLen; rw [ByteArray.size_extract]; omega) false (hpf))
      have LX := Lib.hid (longest_as' 103 longest_calls s hs k (by omega) ((k : Int) + 1) rfl n t hL)
      have hi2 : ∀ w : World, (Instr.index 9 (.string s) (.int .i64 ((k : Int) + 1 + (n : Int) - 1))).run Tryz.prog w = .ok (.int .u8 c1) w := fun w => run_at s (k + n) hE (by omega) hc1 w
      have q59 : ((c1 : Int) == 59) = false := by rw [beq_eq_false_iff_ne]; omega
      have q59' : ((c1 : Int) != 59) = true := by rw [bne, q59]; rfl
      have hcb : c2 < 256 := by have := s[k + 1 + n].toNat_lt; omega
      have hi3 : ∀ w : World, (Instr.index 9 (.string s) (.int .i64 ((k : Int) + 1 + (n : Int)))).run Tryz.prog w = .ok (.int .u8 c2) w := fun w => run_at s (k + 1 + n) hE2 (by omega) hc2 w
      have GX := goesOn_calls c2 hcb
      rw [hg] at GX
      have GX := Lib.hid GX
      have q0 : ((n : Int) == 0) = false := by rw [beq_eq_false_iff_ne]; omega
      subst ha
      clear hc hL hno hpf hcc hc35 hc1 h59 hc2 hg
      go_enter Tryz.func85, Tryz.ntmps85
      go_wp2_with fail
      refine (PX.out _).mono ?_
      rintro e w0 ⟨rfl, rfl⟩
      go_wp2_with fail
      refine (LX.out _).mono ?_
      rintro e w1 ⟨rfl, hb⟩
      have HB := Lib.hid hb
      clear hb
      go_wp2_with fail
      refine (GX.out _).mono ?_
      rintro e w0 ⟨rfl, rfl⟩
      go_wp2_with fail
      go_ret2
      exact ref_end HR.out rfl HB.out
set_option maxHeartbeats 1000000 in
theorem ref_in_stops (s : ByteArray) (hs : s.size ≤ 1000000000) (k : Nat) (hk1 : k + 1 < s.size) (c0 : Nat) (hcc : s[k + 1].toNat = c0) (hc35 : ¬ c0 = 35) (hks : k < s.size) (hc : s[k].toNat = 38) (attr : Bool) (n : Nat) (t : ByteArray) (hL : longest s ((k : Int) + 1) = (n, t)) (hnl : n ≤ s.size - (k + 1)) (hn : 0 < n) (ha : attr = true) (c1 : Nat) (hE : k + n < s.size) (hc1 : s[k + n].toNat = c1) (h59 : ¬ c1 = 59) (hE2 : k + 1 + n < s.size) (c2 : Nat) (hc2 : s[k + 1 + n].toNat = c2) (hg : goOn c2 = false) (w : World) :
    Calls Tryz.prog 85 #[.string s, .int .i64 k, .bool attr] w (RefEnd s k attr w) := by
      have hno : noNum s k := noNum_in hk1 (fun e => hc35 (hcc.symm.trans e))
      have hpf : hasPre (s.extract (k + 1) s.size) ⟨#[35]⟩ = false := by rw [hash_pre hk1, decide_eq_false (fun e => hc35 (hcc.symm.trans e))]
      have hi1 : ∀ w : World, (Instr.index 9 (.string s) (.int .i64 ((k : Int) + 1))).run Tryz.prog w = .ok (.int .u8 c0) w := fun w => run_at s (k + 1) hk1 (by omega) hcc w
      have q35 : ((c0 : Int) == 35) = false := by rw [beq_eq_false_iff_ne]; omega
      have HR := Lib.hid ((refI_yes (attr := attr) hks hc).trans (refV_hit hno hn hL (fun h => by obtain ⟨b, hb, hb2⟩ := h.2.2; rw [byte_at hE2] at hb; injection hb with hb; rw [← hb, hc2, hg] at hb2; cases hb2)))
      have hi0 : ∀ w : World, (Instr.index 9 (.string s) (.int .i64 (k : Int))).run Tryz.prog w = .ok (.int .u8 38) w := fun w => run_at s k hks rfl hc w
      have PX := Lib.hid (hasPrefix_is (s.extract (k + 1) s.size) ⟨#[35]⟩ (by unfold maxLen; rw [ByteArray.size_extract]; omega) false (hpf))
      have LX := Lib.hid (longest_as' 103 longest_calls s hs k (by omega) ((k : Int) + 1) rfl n t hL)
      have hi2 : ∀ w : World, (Instr.index 9 (.string s) (.int .i64 ((k : Int) + 1 + (n : Int) - 1))).run Tryz.prog w = .ok (.int .u8 c1) w := fun w => run_at s (k + n) hE (by omega) hc1 w
      have q59 : ((c1 : Int) == 59) = false := by rw [beq_eq_false_iff_ne]; omega
      have q59' : ((c1 : Int) != 59) = true := by rw [bne, q59]; rfl
      have hcb : c2 < 256 := by have := s[k + 1 + n].toNat_lt; omega
      have hi3 : ∀ w : World, (Instr.index 9 (.string s) (.int .i64 ((k : Int) + 1 + (n : Int)))).run Tryz.prog w = .ok (.int .u8 c2) w := fun w => run_at s (k + 1 + n) hE2 (by omega) hc2 w
      have GX := goesOn_calls c2 hcb
      rw [hg] at GX
      have GX := Lib.hid GX
      have q0 : ((n : Int) == 0) = false := by rw [beq_eq_false_iff_ne]; omega
      subst ha
      clear hc hL hno hpf hcc hc35 hc1 h59 hc2 hg
      go_enter Tryz.func85, Tryz.ntmps85
      go_wp2_with fail
      refine (PX.out _).mono ?_
      rintro e w0 ⟨rfl, rfl⟩
      go_wp2_with fail
      refine (LX.out _).mono ?_
      rintro e w1 ⟨rfl, hb⟩
      have HB := Lib.hid hb
      clear hb
      go_wp2_with fail
      refine (GX.out _).mono ?_
      rintro e w0 ⟨rfl, rfl⟩
      go_wp2_with fail
      go_ret2
      exact ref_end HR.out (by omega) HB.out
set_option maxHeartbeats 1000000 in
theorem ref_last_zero (s : ByteArray) (hs : s.size ≤ 1000000000) (k : Nat) (hk1 : k + 1 = s.size) (hks : k < s.size) (hc : s[k].toNat = 38) (attr : Bool) (n : Nat) (t : ByteArray) (hL : longest s ((k : Int) + 1) = (n, t)) (hnl : n ≤ s.size - (k + 1)) (hn : n = 0) (w : World) :
    Calls Tryz.prog 85 #[.string s, .int .i64 k, .bool attr] w (RefEnd s k attr w) := by
      have hno : noNum s k := noNum_end (Nat.le_of_eq hk1.symm)
      have hpf : hasPre (s.extract (k + 1) s.size) ⟨#[35]⟩ = false := hash_none (Nat.le_of_eq hk1.symm)
      have HR := Lib.hid ((refI_yes (attr := attr) hks hc).trans (refV_zero hno (hL.trans (by rw [hn]))))
      have hi0 : ∀ w : World, (Instr.index 9 (.string s) (.int .i64 (k : Int))).run Tryz.prog w = .ok (.int .u8 38) w := fun w => run_at s k hks rfl hc w
      have PX := Lib.hid (hasPrefix_is ByteArray.empty ⟨#[35]⟩ (by decide) false hash_nil)
      have LX := Lib.hid (longest_as' 103 longest_calls s hs k (by omega) ((k : Int) + 1) rfl n t hL)
      subst hn
      clear hc hL hno hpf
      go_enter Tryz.func85, Tryz.ntmps85
      go_wp2_with fail
      refine (PX.out _).mono ?_
      rintro e w0 ⟨rfl, rfl⟩
      go_wp2_with fail
      refine (LX.out _).mono ?_
      rintro e w1 ⟨rfl, hb⟩
      have HB := Lib.hid hb
      clear hb
      go_wp2_with fail
      go_ret2
      exact ref_end HR.out rfl HB.out
theorem ref_out (s : ByteArray) (hs : s.size ≤ 1000000000) (a : Int) (h0 : -9223372036854775808 ≤ a) (h1 : a ≤ 9223372036854775807) (h : a < 0 ∨ (s.size : Int) ≤ a) (attr : Bool) (w : World) :
    Calls Tryz.prog 85 #[.string s, .int .i64 a, .bool attr] w (RefEnd s a attr w) := by
  have HR := Lib.hid (refI_out (attr := attr) h)
  rcases h with h | h
  · go_enter Tryz.func85, Tryz.ntmps85
    go_wp2_with fail
    go_ret2
    exact ref_end HR.out rfl (Below.refl _ _)
  · by_cases hz : a < 0
    · exfalso; omega
    · go_enter Tryz.func85, Tryz.ntmps85
      go_wp2_with fail
      go_ret2
      exact ref_end HR.out rfl (Below.refl _ _)
theorem ref_other (s : ByteArray) (hs : s.size ≤ 1000000000) (k : Nat) (hks : k < s.size) (c : Nat) (hc : s[k].toNat = c) (h38 : ¬ c = 38) (attr : Bool) (w : World) :
    Calls Tryz.prog 85 #[.string s, .int .i64 k, .bool attr] w (RefEnd s k attr w) := by
  have HR := Lib.hid (refI_no (attr := attr) hks (fun e => h38 (hc.symm.trans e)))
  have hi0 : ∀ w : World, (Instr.index 9 (.string s) (.int .i64 (k : Int))).run Tryz.prog w = .ok (.int .u8 c) w := fun w => run_at s k hks rfl hc w
  have q38 : ((c : Int) == 38) = false := by rw [beq_eq_false_iff_ne]; omega
  have q38' : ((c : Int) != 38) = true := by rw [bne, q38]; rfl
  clear hc h38
  go_enter Tryz.func85, Tryz.ntmps85
  go_wp2_with fail
  go_ret2
  exact ref_end HR.out rfl (Below.refl _ _)
theorem ref_all (s : ByteArray) (hs : s.size ≤ 1000000000) (a : Int) (h0 : -9223372036854775808 ≤ a) (h1 : a ≤ 9223372036854775807) (attr : Bool) (w : World) :
    Calls Tryz.prog 85 #[.string s, .int .i64 a, .bool attr] w (RefEnd s a attr w) := by
  by_cases h : a < 0 ∨ (s.size : Int) ≤ a
  · exact ref_out s hs a h0 h1 h attr w
  · obtain ⟨k, rfl⟩ := Int.eq_ofNat_of_zero_le (show 0 ≤ a by omega)
    have hks : k < s.size := by omega
    by_cases h38 : s[k].toNat = 38
    · obtain ⟨⟨n, t⟩, hL⟩ : ∃ r, longest s ((k : Int) + 1) = r := ⟨_, rfl⟩
      have hnl : n ≤ s.size - (k + 1) := by
        have := longest_le s (k + 1) (by omega)
        rw [show (((k + 1 : Nat)) : Int) = (k : Int) + 1 by omega, hL] at this
        exact this
      by_cases hk1 : k + 1 < s.size
      · by_cases h35 : s[k + 1].toNat = 35
        · exact ref_num s hs k hk1 h38 h35 attr w
        · by_cases hn : n = 0
          · exact ref_in_zero s hs k hk1 _ rfl h35 hks h38 attr n t hL hnl hn w
          · have hn' : 0 < n := by omega
            cases attr with
            | false => exact ref_in_no s hs k hk1 _ rfl h35 hks h38 false n t hL hnl hn' rfl w
            | true =>
              have hE : k + n < s.size := by omega
              by_cases h59 : s[k + n].toNat = 59
              · exact ref_in_semi s hs k hk1 _ rfl h35 hks h38 true n t hL hnl hn' rfl hE h59 w
              · by_cases hE2 : k + 1 + n = s.size
                · exact ref_in_end s hs k hk1 _ rfl h35 hks h38 true n t hL hnl hn' rfl _ hE rfl h59 hE2 w
                · have hE3 : k + 1 + n < s.size := by omega
                  cases hg : goOn s[k + 1 + n].toNat with
                  | true => exact ref_in_goes s hs k hk1 _ rfl h35 hks h38 true n t hL hnl hn' rfl _ hE rfl h59 hE3 _ rfl hg w
                  | false => exact ref_in_stops s hs k hk1 _ rfl h35 hks h38 true n t hL hnl hn' rfl _ hE rfl h59 hE3 _ rfl hg w
      · exact ref_last_zero s hs k (by omega) hks h38 attr n t hL hnl (by omega) w
    · exact ref_other s hs k hks _ rfl h38 attr w
end Go.Proofs.YtbdgoffbkenofaaGreat.Ch
namespace Go.Proofs.YtbdgoffbkenofaaGreat.Ch
open Go Go.RowKit Go.Proofs.YtbdgoffbkenofaaGreat.Sr Go.Proofs.YtbdgoffbkenofaaGreat.Ct
set_option linter.unusedVariables false
set_option maxRecDepth 100000

theorem rref_num (s : ByteArray) (hs : s.size ≤ 1000000000) (k : Nat) (hk1 : k + 1 < s.size) (hc : s[k].toNat = 38) (hcc : s[k + 1].toNat = 35) (attr : Bool) (w : World) :
    Calls Tryz.prog 26 #[.string s, .int .i64 k, .bool attr] w (RefEnd s k attr w) := by
      have HR := Lib.hid ((refI_yes (attr := attr) (by omega) hc).trans (refV_num hk1 hcc))
      have hi0 : ∀ w : World, (Instr.index 9 (.string s) (.int .i64 (k : Int))).run Tryz.prog w = .ok (.int .u8 38) w := fun w => run_at s k (by omega) rfl hc w
      have hi1 : ∀ w : World, (Instr.index 9 (.string s) (.int .i64 ((k : Int) + 1))).run Tryz.prog w = .ok (.int .u8 35) w := fun w => run_at s (k + 1) hk1 (by omega) hcc w
      have NX := Lib.hid (rnumber_calls s hs k (by omega))
      clear hc hcc
      go_enter Tryz.func26, Tryz.ntmps26
      go_wp2_with fail
      refine (NX.out _).mono ?_
      rintro e w1 ⟨rfl, hb⟩
      have HB := Lib.hid hb
      clear hb
      go_wp2_with fail
      go_ret2
      exact ⟨by rw [HR.out]; rfl, HB.out⟩
set_option maxHeartbeats 1000000 in
theorem rref_in_zero (s : ByteArray) (hs : s.size ≤ 1000000000) (k : Nat) (hk1 : k + 1 < s.size) (c0 : Nat) (hcc : s[k + 1].toNat = c0) (hc35 : ¬ c0 = 35) (hks : k < s.size) (hc : s[k].toNat = 38) (attr : Bool) (n : Nat) (t : ByteArray) (hL : longest s ((k : Int) + 1) = (n, t)) (hnl : n ≤ s.size - (k + 1)) (hn : n = 0) (w : World) :
    Calls Tryz.prog 26 #[.string s, .int .i64 k, .bool attr] w (RefEnd s k attr w) := by
      have hno : noNum s k := noNum_in hk1 (fun e => hc35 (hcc.symm.trans e))
      have hi1 : ∀ w : World, (Instr.index 9 (.string s) (.int .i64 ((k : Int) + 1))).run Tryz.prog w = .ok (.int .u8 c0) w := fun w => run_at s (k + 1) hk1 (by omega) hcc w
      have q35 : ((c0 : Int) == 35) = false := by rw [beq_eq_false_iff_ne]; omega
      have HR := Lib.hid ((refI_yes (attr := attr) hks hc).trans (refV_zero hno (hL.trans (by rw [hn]))))
      have hi0 : ∀ w : World, (Instr.index 9 (.string s) (.int .i64 (k : Int))).run Tryz.prog w = .ok (.int .u8 38) w := fun w => run_at s k hks rfl hc w
      have LX := Lib.hid (longest_as' 43 rlongest_calls s hs k (by omega) ((k : Int) + 1) rfl n t hL)
      subst hn
      clear hc hL hno hcc hc35
      go_enter Tryz.func26, Tryz.ntmps26
      go_wp2_with fail
      refine (LX.out _).mono ?_
      rintro e w1 ⟨rfl, hb⟩
      have HB := Lib.hid hb
      clear hb
      go_wp2_with fail
      go_ret2
      exact ref_end HR.out rfl HB.out
set_option maxHeartbeats 1000000 in
theorem rref_in_no (s : ByteArray) (hs : s.size ≤ 1000000000) (k : Nat) (hk1 : k + 1 < s.size) (c0 : Nat) (hcc : s[k + 1].toNat = c0) (hc35 : ¬ c0 = 35) (hks : k < s.size) (hc : s[k].toNat = 38) (attr : Bool) (n : Nat) (t : ByteArray) (hL : longest s ((k : Int) + 1) = (n, t)) (hnl : n ≤ s.size - (k + 1)) (hn : 0 < n) (ha : attr = false) (w : World) :
    Calls Tryz.prog 26 #[.string s, .int .i64 k, .bool attr] w (RefEnd s k attr w) := by
      have hno : noNum s k := noNum_in hk1 (fun e => hc35 (hcc.symm.trans e))
      have hi1 : ∀ w : World, (Instr.index 9 (.string s) (.int .i64 ((k : Int) + 1))).run Tryz.prog w = .ok (.int .u8 c0) w := fun w => run_at s (k + 1) hk1 (by omega) hcc w
      have q35 : ((c0 : Int) == 35) = false := by rw [beq_eq_false_iff_ne]; omega
      have HR := Lib.hid ((refI_yes (attr := attr) hks hc).trans (refV_hit hno hn hL (fun h => by rw [ha] at h; cases h.1)))
      have hi0 : ∀ w : World, (Instr.index 9 (.string s) (.int .i64 (k : Int))).run Tryz.prog w = .ok (.int .u8 38) w := fun w => run_at s k hks rfl hc w
      have LX := Lib.hid (longest_as' 43 rlongest_calls s hs k (by omega) ((k : Int) + 1) rfl n t hL)
      have q0 : ((n : Int) == 0) = false := by rw [beq_eq_false_iff_ne]; omega
      subst ha
      clear hc hL hno hcc hc35
      go_enter Tryz.func26, Tryz.ntmps26
      go_wp2_with fail
      refine (LX.out _).mono ?_
      rintro e w1 ⟨rfl, hb⟩
      have HB := Lib.hid hb
      clear hb
      go_wp2_with fail
      go_ret2
      exact ref_end HR.out (by omega) HB.out
set_option maxHeartbeats 1000000 in
theorem rref_in_semi (s : ByteArray) (hs : s.size ≤ 1000000000) (k : Nat) (hk1 : k + 1 < s.size) (c0 : Nat) (hcc : s[k + 1].toNat = c0) (hc35 : ¬ c0 = 35) (hks : k < s.size) (hc : s[k].toNat = 38) (attr : Bool) (n : Nat) (t : ByteArray) (hL : longest s ((k : Int) + 1) = (n, t)) (hnl : n ≤ s.size - (k + 1)) (hn : 0 < n) (ha : attr = true) (hE : k + n < s.size) (h59 : s[k + n].toNat = 59) (w : World) :
    Calls Tryz.prog 26 #[.string s, .int .i64 k, .bool attr] w (RefEnd s k attr w) := by
      have hno : noNum s k := noNum_in hk1 (fun e => hc35 (hcc.symm.trans e))
      have hi1 : ∀ w : World, (Instr.index 9 (.string s) (.int .i64 ((k : Int) + 1))).run Tryz.prog w = .ok (.int .u8 c0) w := fun w => run_at s (k + 1) hk1 (by omega) hcc w
      have q35 : ((c0 : Int) == 35) = false := by rw [beq_eq_false_iff_ne]; omega
      have HR := Lib.hid ((refI_yes (attr := attr) hks hc).trans (refV_hit hno hn hL (fun h => h.2.1 ((byte_lit hE (n := 59) (by decide)).2 h59))))
      have hi0 : ∀ w : World, (Instr.index 9 (.string s) (.int .i64 (k : Int))).run Tryz.prog w = .ok (.int .u8 38) w := fun w => run_at s k hks rfl hc w
      have LX := Lib.hid (longest_as' 43 rlongest_calls s hs k (by omega) ((k : Int) + 1) rfl n t hL)
      have hi2 : ∀ w : World, (Instr.index 9 (.string s) (.int .i64 ((k : Int) + 1 + (n : Int) - 1))).run Tryz.prog w = .ok (.int .u8 59) w := fun w => run_at s (k + n) hE (by omega) h59 w
      have q0 : ((n : Int) == 0) = false := by rw [beq_eq_false_iff_ne]; omega
      subst ha
      clear hc hL hno hcc hc35 h59
      go_enter Tryz.func26, Tryz.ntmps26
      go_wp2_with fail
      refine (LX.out _).mono ?_
      rintro e w1 ⟨rfl, hb⟩
      have HB := Lib.hid hb
      clear hb
      go_wp2_with fail
      go_ret2
      exact ref_end HR.out (by omega) HB.out
set_option maxHeartbeats 1000000 in
theorem rref_in_end (s : ByteArray) (hs : s.size ≤ 1000000000) (k : Nat) (hk1 : k + 1 < s.size) (c0 : Nat) (hcc : s[k + 1].toNat = c0) (hc35 : ¬ c0 = 35) (hks : k < s.size) (hc : s[k].toNat = 38) (attr : Bool) (n : Nat) (t : ByteArray) (hL : longest s ((k : Int) + 1) = (n, t)) (hnl : n ≤ s.size - (k + 1)) (hn : 0 < n) (ha : attr = true) (c1 : Nat) (hE : k + n < s.size) (hc1 : s[k + n].toNat = c1) (h59 : ¬ c1 = 59) (hE2 : k + 1 + n = s.size) (w : World) :
    Calls Tryz.prog 26 #[.string s, .int .i64 k, .bool attr] w (RefEnd s k attr w) := by
      have hno : noNum s k := noNum_in hk1 (fun e => hc35 (hcc.symm.trans e))
      have hi1 : ∀ w : World, (Instr.index 9 (.string s) (.int .i64 ((k : Int) + 1))).run Tryz.prog w = .ok (.int .u8 c0) w := fun w => run_at s (k + 1) hk1 (by omega) hcc w
      have q35 : ((c0 : Int) == 35) = false := by rw [beq_eq_false_iff_ne]; omega
      have HR := Lib.hid ((refI_yes (attr := attr) hks hc).trans (refV_hit hno hn hL (fun h => by obtain ⟨b, hb, _⟩ := h.2.2; rw [List.getElem?_eq_none (show s.data.toList.length ≤ k + 1 + n from Nat.le_of_eq hE2.symm)] at hb; cases hb)))
      have hi0 : ∀ w : World, (Instr.index 9 (.string s) (.int .i64 (k : Int))).run Tryz.prog w = .ok (.int .u8 38) w := fun w => run_at s k hks rfl hc w
      have LX := Lib.hid (longest_as' 43 rlongest_calls s hs k (by omega) ((k : Int) + 1) rfl n t hL)
      have hi2 : ∀ w : World, (Instr.index 9 (.string s) (.int .i64 ((k : Int) + 1 + (n : Int) - 1))).run Tryz.prog w = .ok (.int .u8 c1) w := fun w => run_at s (k + n) hE (by omega) hc1 w
      have q59 : ((c1 : Int) == 59) = false := by rw [beq_eq_false_iff_ne]; omega
      have q59' : ((c1 : Int) != 59) = true := by rw [bne, q59]; rfl
      have q0 : ((n : Int) == 0) = false := by rw [beq_eq_false_iff_ne]; omega
      subst ha
      clear hc hL hno hcc hc35 hc1 h59
      go_enter Tryz.func26, Tryz.ntmps26
      go_wp2_with fail
      refine (LX.out _).mono ?_
      rintro e w1 ⟨rfl, hb⟩
      have HB := Lib.hid hb
      clear hb
      go_wp2_with fail
      go_ret2
      exact ref_end HR.out (by omega) HB.out
set_option maxHeartbeats 1000000 in
theorem rref_in_goes (s : ByteArray) (hs : s.size ≤ 1000000000) (k : Nat) (hk1 : k + 1 < s.size) (c0 : Nat) (hcc : s[k + 1].toNat = c0) (hc35 : ¬ c0 = 35) (hks : k < s.size) (hc : s[k].toNat = 38) (attr : Bool) (n : Nat) (t : ByteArray) (hL : longest s ((k : Int) + 1) = (n, t)) (hnl : n ≤ s.size - (k + 1)) (hn : 0 < n) (ha : attr = true) (c1 : Nat) (hE : k + n < s.size) (hc1 : s[k + n].toNat = c1) (h59 : ¬ c1 = 59) (hE2 : k + 1 + n < s.size) (c2 : Nat) (hc2 : s[k + 1 + n].toNat = c2) (hg : goOn c2 = true) (w : World) :
    Calls Tryz.prog 26 #[.string s, .int .i64 k, .bool attr] w (RefEnd s k attr w) := by
      have hno : noNum s k := noNum_in hk1 (fun e => hc35 (hcc.symm.trans e))
      have hi1 : ∀ w : World, (Instr.index 9 (.string s) (.int .i64 ((k : Int) + 1))).run Tryz.prog w = .ok (.int .u8 c0) w := fun w => run_at s (k + 1) hk1 (by omega) hcc w
      have q35 : ((c0 : Int) == 35) = false := by rw [beq_eq_false_iff_ne]; omega
      have HR := Lib.hid ((refI_yes (attr := attr) hks hc).trans (refV_amp hno hn hL ⟨ha, fun e => h59 (hc1.symm.trans ((byte_lit hE (n := 59) (by decide)).1 e)), _, byte_at hE2, by rw [hc2]; exact hg⟩))
      have hi0 : ∀ w : World, (Instr.index 9 (.string s) (.int .i64 (k : Int))).run Tryz.prog w = .ok (.int .u8 38) w := fun w => run_at s k hks rfl hc w
      have LX := Lib.hid (longest_as' 43 rlongest_calls s hs k (by omega) ((k : Int) + 1) rfl n t hL)
      have hi2 : ∀ w : World, (Instr.index 9 (.string s) (.int .i64 ((k : Int) + 1 + (n : Int) - 1))).run Tryz.prog w = .ok (.int .u8 c1) w := fun w => run_at s (k + n) hE (by omega) hc1 w
      have q59 : ((c1 : Int) == 59) = false := by rw [beq_eq_false_iff_ne]; omega
      have q59' : ((c1 : Int) != 59) = true := by rw [bne, q59]; rfl
      have hcb : c2 < 256 := by have := s[k + 1 + n].toNat_lt; omega
      have hi3 : ∀ w : World, (Instr.index 9 (.string s) (.int .i64 ((k : Int) + 1 + (n : Int)))).run Tryz.prog w = .ok (.int .u8 c2) w := fun w => run_at s (k + 1 + n) hE2 (by omega) hc2 w
      have LT := rletter_calls c2
      have DG := rdigit_calls c2 hcb false
      obtain ⟨hd0, hd1⟩ := dig_bd c2 false
      have q0 : ((n : Int) == 0) = false := by rw [beq_eq_false_iff_ne]; omega
      subst ha
      have HG := Lib.hid hg
      clear hc hL hno hcc hc35 hc1 h59 hc2 hg
      have go := fun (b : Bool) => b
      clear go
      cases hl : letB c2 with
      | true =>
      go_enter Tryz.func26, Tryz.ntmps26
      go_wp2_with fail
      refine (LX.out _).mono ?_
      rintro e w1 ⟨rfl, hb⟩
      have HB := Lib.hid hb
      clear hb
      go_wp2_with fail
      refine (LT _).mono ?_
      rintro e w0 ⟨rfl, rfl⟩
      rw [hl]
      go_wp2_with fail
      go_ret2
      exact ref_end HR.out rfl HB.out
      | false =>
      by_cases hd : 0 ≤ digI c2 false
      ·
        go_enter Tryz.func26, Tryz.ntmps26
        go_wp2_with fail
        refine (LX.out _).mono ?_
        rintro e w1 ⟨rfl, hb⟩
        have HB := Lib.hid hb
        clear hb
        go_wp2_with fail
        refine (LT _).mono ?_
        rintro e w0 ⟨rfl, rfl⟩
        rw [hl]
        go_wp2_with fail
        refine (DG _).mono ?_
        rintro e w0 ⟨rfl, rfl⟩
        go_wp2_with fail
        go_ret2
        exact ref_end HR.out rfl HB.out
      ·
        have hd2 : digI c2 false < 0 := by omega
        have q61 : ((c2 : Int) == 61) = true := by
          have := HG.out
          rw [go_eq hl hd2, decide_eq_true_eq] at this
          rw [beq_iff_eq]; omega
        go_enter Tryz.func26, Tryz.ntmps26
        go_wp2_with fail
        refine (LX.out _).mono ?_
        rintro e w1 ⟨rfl, hb⟩
        have HB := Lib.hid hb
        clear hb
        go_wp2_with fail
        refine (LT _).mono ?_
        rintro e w0 ⟨rfl, rfl⟩
        rw [hl]
        go_wp2_with fail
        refine (DG _).mono ?_
        rintro e w0 ⟨rfl, rfl⟩
        go_wp2_with fail
        go_ret2
        exact ref_end HR.out rfl HB.out
set_option maxHeartbeats 1000000 in
theorem rref_in_stops (s : ByteArray) (hs : s.size ≤ 1000000000) (k : Nat) (hk1 : k + 1 < s.size) (c0 : Nat) (hcc : s[k + 1].toNat = c0) (hc35 : ¬ c0 = 35) (hks : k < s.size) (hc : s[k].toNat = 38) (attr : Bool) (n : Nat) (t : ByteArray) (hL : longest s ((k : Int) + 1) = (n, t)) (hnl : n ≤ s.size - (k + 1)) (hn : 0 < n) (ha : attr = true) (c1 : Nat) (hE : k + n < s.size) (hc1 : s[k + n].toNat = c1) (h59 : ¬ c1 = 59) (hE2 : k + 1 + n < s.size) (c2 : Nat) (hc2 : s[k + 1 + n].toNat = c2) (hg : goOn c2 = false) (w : World) :
    Calls Tryz.prog 26 #[.string s, .int .i64 k, .bool attr] w (RefEnd s k attr w) := by
      have hno : noNum s k := noNum_in hk1 (fun e => hc35 (hcc.symm.trans e))
      have hi1 : ∀ w : World, (Instr.index 9 (.string s) (.int .i64 ((k : Int) + 1))).run Tryz.prog w = .ok (.int .u8 c0) w := fun w => run_at s (k + 1) hk1 (by omega) hcc w
      have q35 : ((c0 : Int) == 35) = false := by rw [beq_eq_false_iff_ne]; omega
      have HR := Lib.hid ((refI_yes (attr := attr) hks hc).trans (refV_hit hno hn hL (fun h => by obtain ⟨b, hb, hb2⟩ := h.2.2; rw [byte_at hE2] at hb; injection hb with hb; rw [← hb, hc2, hg] at hb2; cases hb2)))
      have hi0 : ∀ w : World, (Instr.index 9 (.string s) (.int .i64 (k : Int))).run Tryz.prog w = .ok (.int .u8 38) w := fun w => run_at s k hks rfl hc w
      have LX := Lib.hid (longest_as' 43 rlongest_calls s hs k (by omega) ((k : Int) + 1) rfl n t hL)
      have hi2 : ∀ w : World, (Instr.index 9 (.string s) (.int .i64 ((k : Int) + 1 + (n : Int) - 1))).run Tryz.prog w = .ok (.int .u8 c1) w := fun w => run_at s (k + n) hE (by omega) hc1 w
      have q59 : ((c1 : Int) == 59) = false := by rw [beq_eq_false_iff_ne]; omega
      have q59' : ((c1 : Int) != 59) = true := by rw [bne, q59]; rfl
      have hcb : c2 < 256 := by have := s[k + 1 + n].toNat_lt; omega
      have hi3 : ∀ w : World, (Instr.index 9 (.string s) (.int .i64 ((k : Int) + 1 + (n : Int)))).run Tryz.prog w = .ok (.int .u8 c2) w := fun w => run_at s (k + 1 + n) hE2 (by omega) hc2 w
      have LT := rletter_calls c2
      have DG := rdigit_calls c2 hcb false
      obtain ⟨hd0, hd1⟩ := dig_bd c2 false
      have q0 : ((n : Int) == 0) = false := by rw [beq_eq_false_iff_ne]; omega
      subst ha
      have HG := Lib.hid hg
      clear hc hL hno hcc hc35 hc1 h59 hc2 hg
      have go := fun (b : Bool) => b
      clear go
      cases hl : letB c2 with
      | true =>
      rw [go_let hl] at HG
      cases HG.out
      | false =>
      by_cases hd : 0 ≤ digI c2 false
      ·
        rw [go_dig hd] at HG
        cases HG.out
      ·
        have hd2 : digI c2 false < 0 := by omega
        have q61 : ((c2 : Int) == 61) = false := by
          have := HG.out
          rw [go_eq hl hd2, decide_eq_false_iff_not] at this
          rw [beq_eq_false_iff_ne]; omega
        go_enter Tryz.func26, Tryz.ntmps26
        go_wp2_with fail
        refine (LX.out _).mono ?_
        rintro e w1 ⟨rfl, hb⟩
        have HB := Lib.hid hb
        clear hb
        go_wp2_with fail
        refine (LT _).mono ?_
        rintro e w0 ⟨rfl, rfl⟩
        rw [hl]
        go_wp2_with fail
        refine (DG _).mono ?_
        rintro e w0 ⟨rfl, rfl⟩
        go_wp2_with fail
        go_ret2
        exact ref_end HR.out (by omega) HB.out
set_option maxHeartbeats 1000000 in
theorem rref_last_zero (s : ByteArray) (hs : s.size ≤ 1000000000) (k : Nat) (hk1 : k + 1 = s.size) (hks : k < s.size) (hc : s[k].toNat = 38) (attr : Bool) (n : Nat) (t : ByteArray) (hL : longest s ((k : Int) + 1) = (n, t)) (hnl : n ≤ s.size - (k + 1)) (hn : n = 0) (w : World) :
    Calls Tryz.prog 26 #[.string s, .int .i64 k, .bool attr] w (RefEnd s k attr w) := by
      have hno : noNum s k := noNum_end (Nat.le_of_eq hk1.symm)
      have HR := Lib.hid ((refI_yes (attr := attr) hks hc).trans (refV_zero hno (hL.trans (by rw [hn]))))
      have hi0 : ∀ w : World, (Instr.index 9 (.string s) (.int .i64 (k : Int))).run Tryz.prog w = .ok (.int .u8 38) w := fun w => run_at s k hks rfl hc w
      have LX := Lib.hid (longest_as' 43 rlongest_calls s hs k (by omega) ((k : Int) + 1) rfl n t hL)
      subst hn
      clear hc hL hno
      go_enter Tryz.func26, Tryz.ntmps26
      go_wp2_with fail
      refine (LX.out _).mono ?_
      rintro e w1 ⟨rfl, hb⟩
      have HB := Lib.hid hb
      clear hb
      go_wp2_with fail
      go_ret2
      exact ref_end HR.out rfl HB.out
theorem rref_out (s : ByteArray) (hs : s.size ≤ 1000000000) (a : Int) (h0 : -9223372036854775808 ≤ a) (h1 : a ≤ 9223372036854775807) (h : a < 0 ∨ (s.size : Int) ≤ a) (attr : Bool) (w : World) :
    Calls Tryz.prog 26 #[.string s, .int .i64 a, .bool attr] w (RefEnd s a attr w) := by
  have HR := Lib.hid (refI_out (attr := attr) h)
  rcases h with h | h
  · go_enter Tryz.func26, Tryz.ntmps26
    go_wp2_with fail
    go_ret2
    exact ref_end HR.out rfl (Below.refl _ _)
  · by_cases hz : a < 0
    · exfalso; omega
    · go_enter Tryz.func26, Tryz.ntmps26
      go_wp2_with fail
      go_ret2
      exact ref_end HR.out rfl (Below.refl _ _)
theorem rref_other (s : ByteArray) (hs : s.size ≤ 1000000000) (k : Nat) (hks : k < s.size) (c : Nat) (hc : s[k].toNat = c) (h38 : ¬ c = 38) (attr : Bool) (w : World) :
    Calls Tryz.prog 26 #[.string s, .int .i64 k, .bool attr] w (RefEnd s k attr w) := by
  have HR := Lib.hid (refI_no (attr := attr) hks (fun e => h38 (hc.symm.trans e)))
  have hi0 : ∀ w : World, (Instr.index 9 (.string s) (.int .i64 (k : Int))).run Tryz.prog w = .ok (.int .u8 c) w := fun w => run_at s k hks rfl hc w
  have q38 : ((c : Int) == 38) = false := by rw [beq_eq_false_iff_ne]; omega
  have q38' : ((c : Int) != 38) = true := by rw [bne, q38]; rfl
  clear hc h38
  go_enter Tryz.func26, Tryz.ntmps26
  go_wp2_with fail
  go_ret2
  exact ref_end HR.out rfl (Below.refl _ _)
theorem rref_all (s : ByteArray) (hs : s.size ≤ 1000000000) (a : Int) (h0 : -9223372036854775808 ≤ a) (h1 : a ≤ 9223372036854775807) (attr : Bool) (w : World) :
    Calls Tryz.prog 26 #[.string s, .int .i64 a, .bool attr] w (RefEnd s a attr w) := by
  by_cases h : a < 0 ∨ (s.size : Int) ≤ a
  · exact rref_out s hs a h0 h1 h attr w
  · obtain ⟨k, rfl⟩ := Int.eq_ofNat_of_zero_le (show 0 ≤ a by omega)
    have hks : k < s.size := by omega
    by_cases h38 : s[k].toNat = 38
    · obtain ⟨⟨n, t⟩, hL⟩ : ∃ r, longest s ((k : Int) + 1) = r := ⟨_, rfl⟩
      have hnl : n ≤ s.size - (k + 1) := by
        have := longest_le s (k + 1) (by omega)
        rw [show (((k + 1 : Nat)) : Int) = (k : Int) + 1 by omega, hL] at this
        exact this
      by_cases hk1 : k + 1 < s.size
      · by_cases h35 : s[k + 1].toNat = 35
        · exact rref_num s hs k hk1 h38 h35 attr w
        · by_cases hn : n = 0
          · exact rref_in_zero s hs k hk1 _ rfl h35 hks h38 attr n t hL hnl hn w
          · have hn' : 0 < n := by omega
            cases attr with
            | false => exact rref_in_no s hs k hk1 _ rfl h35 hks h38 false n t hL hnl hn' rfl w
            | true =>
              have hE : k + n < s.size := by omega
              by_cases h59 : s[k + n].toNat = 59
              · exact rref_in_semi s hs k hk1 _ rfl h35 hks h38 true n t hL hnl hn' rfl hE h59 w
              · by_cases hE2 : k + 1 + n = s.size
                · exact rref_in_end s hs k hk1 _ rfl h35 hks h38 true n t hL hnl hn' rfl _ hE rfl h59 hE2 w
                · have hE3 : k + 1 + n < s.size := by omega
                  cases hg : goOn s[k + 1 + n].toNat with
                  | true => exact rref_in_goes s hs k hk1 _ rfl h35 hks h38 true n t hL hnl hn' rfl _ hE rfl h59 hE3 _ rfl hg w
                  | false => exact rref_in_stops s hs k hk1 _ rfl h35 hks h38 true n t hL hnl hn' rfl _ hE rfl h59 hE3 _ rfl hg w
      · exact rref_last_zero s hs k (by omega) hks h38 attr n t hL hnl (by omega) w
    · exact rref_other s hs k hks _ rfl h38 attr w
end Go.Proofs.YtbdgoffbkenofaaGreat.Ch
