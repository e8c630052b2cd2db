/- The document's Escape, walked (lines of char/XRdec, XDec, XNumc). -/
import Derived.Test.YtbjcahhijfommaaGreatDoorEsc
namespace Go.Proofs.YtbjcahhijfommaaGreatDoor.Ch
open Go Go.RowKit Go.Proofs.YtbjcahhijfommaaGreatDoor.Sr Go.Proofs.YtbjcahhijfommaaGreatDoor.Gr
set_option linter.unusedVariables false
set_option maxRecDepth 100000

theorem cut_one (s : ByteArray) (k : Nat) (hk : k < s.size) : (s.extract k (k + 1)).data.toList = [s[k]] := by
  have hk' : k < s.data.toList.length := hk
  have h1 : s.data.toList.drop k = s[k] :: s.data.toList.drop (k + 1) := List.drop_eq_getElem_cons hk'
  rw [ByteArray.data_extract, Array.toList_extract, List.extract_eq_take_drop, h1, show k + 1 - k = 1 by omega]
  rfl
theorem byte_is {b : UInt8} {n : Nat} (hn : n < 256) : b.toNat = n ↔ b = UInt8.ofNat n := by
  constructor
  · intro h; rw [← h]; simp
  · rintro rfl; simp; omega
theorem run_at (s : ByteArray) (i : Nat) (hi : i < s.size) {m : Int} (hm : m = (i : Int)) {c : Nat} (hc : s[i].toNat = c) (w : World) : (Instr.index 9 (.string s) (.int .i64 m)).run Tryz.prog w = .ok (.int .u8 c) w := by
  subst hm
  unfold Instr.index
  simp only [Sem.run_bind, asIntOf, Sem.run_pure, Result.andThen_ok, run_underlying Tryz.underlying9]
  rw [if_pos (by omega), show ((i : Int)).toNat = i by omega]
  simp [hi, hc]
theorem app_list (a b : ByteArray) : (a ++ b).data.toList = a.data.toList ++ b.data.toList := by rw [ByteArray.data_append, Array.toList_append]
theorem of_list {a : ByteArray} {l : List UInt8} (h : a.data.toList = l) : a = ⟨l.toArray⟩ := by subst h; rfl
theorem str_int {a b : ByteArray} (h : a = b) : Value.string a = .string b := by rw [h]
def gN (attr : Bool) : Nat := cond attr 10 8
theorem goodK (attr : Bool) : GoodK (kOf attr) (nOf attr) (mOf attr) (gN attr) := by
  cases attr
  · exact good4
  · exact good5
def RepI (attr : Bool) (s : ByteArray) (out : ByteArray) (i : Nat) : Prop := ∀ o, Rep (kOf attr) (s.data.toList.drop i) o → Rep (kOf attr) s.data.toList (out.data.toList ++ o)
theorem repI_start (attr : Bool) (s : ByteArray) : RepI attr s ⟨#[]⟩ 0 := fun o h => by simpa using h
theorem RepI.skip {attr : Bool} {s out : ByteArray} {i : Nat} (h : RepI attr s out i) (hi : i < s.size) (hn : hitOf (kOf attr) (s.data.toList.drop i) = none) : RepI attr s (out ++ s.extract i (i + 1)) (i + 1) := fun o ho => by
  have e : s.data.toList.drop i = s[i] :: s.data.toList.drop (i + 1) := List.drop_eq_getElem_cons (show i < s.data.toList.length from hi)
  rw [e] at hn
  have := h (s[i] :: o) (by rw [e]; exact Rep.skip _ _ _ hn ho)
  rw [app_list, cut_one s i hi, List.append_assoc]
  exact this
theorem RepI.hit {attr : Bool} {s out : ByteArray} {i : Nat} {p : ByteArray × ByteArray} (h : RepI attr s out i) (hi : i < s.size) (hn : hitOf (kOf attr) (s.data.toList.drop i) = some p) {j : Nat} (hj : j = i + p.1.size) {v : ByteArray} (hv : v = p.2) : RepI attr s (out ++ v) j := fun o ho => by
  subst hj hv
  have hne : s.data.toList.drop i ≠ [] := fun e => by
    have := congrArg List.length e
    rw [List.length_drop] at this
    have hl : s.data.toList.length = s.size := rfl
    rw [hl] at this
    simp at this
    omega
  have := h (p.2.data.toList ++ o) (Rep.hit _ _ _ hne hn (by rw [List.drop_drop]; exact ho))
  rw [app_list, List.append_assoc]
  exact this
theorem RepI.done {attr : Bool} {s out : ByteArray} (h : RepI attr s out s.size) : out = escB attr s := by
  have := h [] (by rw [List.drop_eq_nil_of_le (show s.data.toList.length ≤ s.size from Nat.le_refl _)]; exact Rep.nil)
  rw [List.append_nil] at this
  rw [← escB_of this]
theorem pre_160 {s : ByteArray} {i : Nat} (hi : i < s.size) : hasPre (s.extract i s.size) ⟨#[160]⟩ = decide (s[i].toNat = 160) := by
  rw [Bool.eq_iff_iff, hasPre_iff, decide_eq_true_eq]
  have e : (s.extract i s.size).data.toList = s[i] :: s.data.toList.drop (i + 1) := by
    have hk' : i < s.data.toList.length := hi
    have h1 : s.data.toList.drop i = s[i] :: s.data.toList.drop (i + 1) := List.drop_eq_getElem_cons hk'
    rw [ByteArray.data_extract, Array.toList_extract, List.extract_eq_take_drop, ← h1, List.take_of_length_le]
    rw [List.length_drop]; exact Nat.le_refl _
  rw [e]
  show [(160 : UInt8)] <+: _ ↔ _
  rw [byte_is (n := 160) (by decide)]
  constructor
  · rintro ⟨t, h⟩; injection h with h _; exact h.symm
  · intro h; rw [h]; exact ⟨_, rfl⟩
theorem pre_160_end {s : ByteArray} {i : Nat} (hi : s.size ≤ i) : hasPre (s.extract i s.size) ⟨#[160]⟩ = false := by
  rw [← Bool.not_eq_true, hasPre_iff]
  have e : (s.extract i s.size).data.toList = [] := by
    rw [ByteArray.data_extract, Array.toList_extract, List.extract_eq_take_drop]
    have : s.size = s.data.toList.length := rfl
    rw [List.drop_eq_nil_of_le (by omega), List.take_nil]
  rw [e]
  rintro ⟨t, h⟩
  cases h
theorem k_amp (attr : Bool) : (kOf attr)[0]? = some (⟨#[38]⟩, ⟨#[38, 97, 109, 112, 59]⟩) := by cases attr <;> rfl
theorem k_nb (attr : Bool) : (kOf attr)[1]? = some (⟨#[194, 160]⟩, ⟨#[38, 110, 98, 115, 112, 59]⟩) := by cases attr <;> rfl
theorem k_lt (attr : Bool) : (kOf attr)[2]? = some (⟨#[60]⟩, ⟨#[38, 108, 116, 59]⟩) := by cases attr <;> rfl
theorem k_gt (attr : Bool) : (kOf attr)[3]? = some (⟨#[62]⟩, ⟨#[38, 103, 116, 59]⟩) := by cases attr <;> rfl
theorem k_qu : (kOf true)[4]? = some (⟨#[34]⟩, ⟨#[38, 113, 117, 111, 116, 59]⟩) := rfl
section
variable {attr : Bool} {s : ByteArray} {i : Nat}
theorem h_amp (hi : i < s.size) (hc : s[i].toNat = 38) : hitOf (kOf attr) (s.data.toList.drop i) = some (⟨#[38]⟩, ⟨#[38, 97, 109, 112, 59]⟩) := hit_some (goodK attr) hi (k_amp attr) hc (rest_empty_pre _ (by decide))
theorem h_lt (hi : i < s.size) (hc : s[i].toNat = 60) : hitOf (kOf attr) (s.data.toList.drop i) = some (⟨#[60]⟩, ⟨#[38, 108, 116, 59]⟩) := hit_some (goodK attr) hi (k_lt attr) hc (rest_empty_pre _ (by decide))
theorem h_gt (hi : i < s.size) (hc : s[i].toNat = 62) : hitOf (kOf attr) (s.data.toList.drop i) = some (⟨#[62]⟩, ⟨#[38, 103, 116, 59]⟩) := hit_some (goodK attr) hi (k_gt attr) hc (rest_empty_pre _ (by decide))
theorem h_qu (hi : i < s.size) (hc : s[i].toNat = 34) : hitOf (kOf true) (s.data.toList.drop i) = some (⟨#[34]⟩, ⟨#[38, 113, 117, 111, 116, 59]⟩) := hit_some (goodK true) hi k_qu hc (rest_empty_pre _ (by decide))
theorem rest_nb : rest (⟨#[194, 160]⟩, ⟨#[38, 110, 98, 115, 112, 59]⟩) = ⟨#[160]⟩ := by decide
theorem h_nb (hi : i + 1 < s.size) (hc : s[i].toNat = 194) (hc2 : s[i + 1].toNat = 160) : hitOf (kOf attr) (s.data.toList.drop i) = some (⟨#[194, 160]⟩, ⟨#[38, 110, 98, 115, 112, 59]⟩) :=
  hit_some (goodK attr) (by omega) (k_nb attr) hc (by rw [rest_nb, pre_160 hi, decide_eq_true hc2])
theorem h_none (hi : i < s.size) (h1 : ¬ s[i].toNat = 38) (h2 : ¬ s[i].toNat = 60) (h3 : ¬ s[i].toNat = 62) (h4 : attr = true → ¬ s[i].toNat = 34) (h5 : s[i].toNat = 194 → hasPre (s.extract (i + 1) s.size) ⟨#[160]⟩ = false) : hitOf (kOf attr) (s.data.toList.drop i) = none := by
  refine hit_none (goodK attr) hi fun p hp e => ?_
  have key : p ∈ k4 ∨ (attr = true ∧ p = (⟨#[34]⟩, ⟨#[38, 113, 117, 111, 116, 59]⟩)) := by
    cases attr
    · exact .inl hp
    · rcases List.mem_append.1 (show p ∈ k4 ++ _ from hp) with h | h
      · exact .inl h
      · exact .inr ⟨rfl, by simpa using h⟩
  rcases key with h | ⟨ha, rfl⟩
  · unfold k4 at h
    rcases List.mem_cons.1 h with rfl | h
    · exact absurd e h1
    rcases List.mem_cons.1 h with rfl | h
    · rw [rest_nb]; exact h5 e
    rcases List.mem_cons.1 h with rfl | h
    · exact absurd e h2
    rcases List.mem_cons.1 h with rfl | h
    · exact absurd e h3
    cases h
  · exact absurd e (h4 ha)
end
attribute [irreducible] RepI
set_option maxHeartbeats 2000000 in
theorem rescape_false (s : ByteArray) (hs : s.size ≤ 1000000) (w : World) :
    Calls Tryz.prog 24 #[.string s, .bool false] w fun e w' => e = .returned (.string (escB false s)) ∧ w = w' := by
  go_enter Tryz.func24, Tryz.ntmps24
  go_wp2_with fail
  go_loop [5, 6, 20, 27, 50, 57, 64] (fun t5 t6 _ _ _ _ _ => ∃ (i : Nat) (out : ByteArray), t5 = .string out ∧ t6 = .int .i64 i ∧ i ≤ s.size ∧ out.size ≤ 6 * i ∧ Hid (RepI false s out i)) (fun _ t6 _ _ _ _ _ => s.size - (intOf t6).toNat)
  case atStart => exact ⟨0, _, rfl, rfl, Nat.zero_le _, Nat.le_refl _, Lib.hid (repI_start _ _)⟩
  case round =>
    obtain ⟨i, out, rfl, rfl, hi, hol, HI⟩ := hrel
    by_cases hlt : i < s.size
    · obtain ⟨c, hc⟩ : ∃ c, s[i].toNat = c := ⟨_, rfl⟩
      have hi0 : ∀ w : World, (Instr.index 9 (.string s) (.int .i64 (i : Int))).run Tryz.prog w = .ok (.int .u8 c) w := fun w => run_at s i hlt rfl hc w
      have HC := Lib.hid hc
      clear hc
      by_cases a1 : c = 38
      · subst a1
        have HH := Lib.hid (h_amp (attr := false) hlt HC.out)
        have hz : out.size + (⟨#[38, 97, 109, 112, 59]⟩ : ByteArray).size ≤ maxLen := by show out.size + 5 ≤ 9223372036854775807; omega
        go_wp2_with fail
        go_round
        case rel => exact ⟨i + 1, out ++ ⟨#[38, 97, 109, 112, 59]⟩, rfl, by go_num, by omega, by rw [ByteArray.size_append]; show out.size + 5 ≤ _; omega, Lib.hid (HI.out.hit hlt HH.out rfl rfl)⟩
        case measure => simp [intOf]; omega
      · have q1 : ((c : Int) == 38) = false := by rw [beq_eq_false_iff_ne]; omega
        by_cases a2 : c = 60
        · subst a2
          have HH := Lib.hid (h_lt (attr := false) hlt HC.out)
          have hz : out.size + (⟨#[38, 108, 116, 59]⟩ : ByteArray).size ≤ maxLen := by show out.size + 4 ≤ 9223372036854775807; omega
          go_wp2_with fail
          go_round
          case rel => exact ⟨i + 1, out ++ ⟨#[38, 108, 116, 59]⟩, rfl, by go_num, by omega, by rw [ByteArray.size_append]; show out.size + 4 ≤ _; omega, Lib.hid (HI.out.hit hlt HH.out rfl rfl)⟩
          case measure => simp [intOf]; omega
        · have q2 : ((c : Int) == 60) = false := by rw [beq_eq_false_iff_ne]; omega
          by_cases a3 : c = 62
          · subst a3
            have HH := Lib.hid (h_gt (attr := false) hlt HC.out)
            have hz : out.size + (⟨#[38, 103, 116, 59]⟩ : ByteArray).size ≤ maxLen := by show out.size + 4 ≤ 9223372036854775807; omega
            go_wp2_with fail
            go_round
            case rel => exact ⟨i + 1, out ++ ⟨#[38, 103, 116, 59]⟩, rfl, by go_num, by omega, by rw [ByteArray.size_append]; show out.size + 4 ≤ _; omega, Lib.hid (HI.out.hit hlt HH.out rfl rfl)⟩
            case measure => simp [intOf]; omega
          · have q3 : ((c : Int) == 62) = false := by rw [beq_eq_false_iff_ne]; omega
            by_cases a4 : c = 34
            · subst a4
              have HH := Lib.hid (h_none (attr := false) hlt (fun e => a1 (HC.out.symm.trans e)) (fun e => a2 (HC.out.symm.trans e)) (fun e => a3 (HC.out.symm.trans e)) (fun e => by cases e) (fun e => absurd (HC.out.symm.trans e) (by decide)))
              have hz : out.size + (s.extract i (i + 1)).size ≤ maxLen := by unfold maxLen; rw [ByteArray.size_extract]; omega
              go_wp2_with fail
              go_round
              case rel => exact ⟨i + 1, out ++ s.extract i (i + 1), rfl, by go_num, by omega, by rw [ByteArray.size_append, ByteArray.size_extract]; omega, Lib.hid (HI.out.skip hlt HH.out)⟩
              case measure => simp [intOf]; omega
            · have q4 : ((c : Int) == 34) = false := by rw [beq_eq_false_iff_ne]; omega
              by_cases a5 : c = 194
              · subst a5
                by_cases hl2 : i + 1 < s.size
                · obtain ⟨c2, hc2⟩ : ∃ c, s[i + 1].toNat = c := ⟨_, rfl⟩
                  have hi2 : ∀ w : World, (Instr.index 9 (.string s) (.int .i64 ((i : Int) + 1))).run Tryz.prog w = .ok (.int .u8 c2) w := fun w => run_at s (i + 1) hl2 (by omega) hc2 w
                  have HC2 := Lib.hid hc2
                  clear hc2
                  by_cases a6 : c2 = 160
                  · subst a6
                    have HH := Lib.hid (h_nb (attr := false) hl2 HC.out HC2.out)
                    have hz : out.size + (⟨#[38, 110, 98, 115, 112, 59]⟩ : ByteArray).size ≤ maxLen := by show out.size + 6 ≤ 9223372036854775807; omega
                    go_wp2_with fail
                    go_round
                    case rel => exact ⟨i + 2, out ++ ⟨#[38, 110, 98, 115, 112, 59]⟩, rfl, by go_num, by omega, by rw [ByteArray.size_append]; show out.size + 6 ≤ _; omega, Lib.hid (HI.out.hit hlt HH.out rfl rfl)⟩
                    case measure => simp [intOf]; omega
                  · have q6 : ((c2 : Int) == 160) = false := by rw [beq_eq_false_iff_ne]; omega
                    have HH := Lib.hid (h_none (attr := false) hlt (fun e => a1 (HC.out.symm.trans e)) (fun e => a2 (HC.out.symm.trans e)) (fun e => a3 (HC.out.symm.trans e)) (fun e => by cases e) (fun _ => by rw [pre_160 hl2, decide_eq_false (fun e => a6 (HC2.out.symm.trans e))]))
                    have hz : out.size + (s.extract i (i + 1)).size ≤ maxLen := by unfold maxLen; rw [ByteArray.size_extract]; omega
                    go_wp2_with fail
                    go_round
                    case rel => exact ⟨i + 1, out ++ s.extract i (i + 1), rfl, by go_num, by omega, by rw [ByteArray.size_append, ByteArray.size_extract]; omega, Lib.hid (HI.out.skip hlt HH.out)⟩
                    case measure => simp [intOf]; omega
                · have HH := Lib.hid (h_none (attr := false) hlt (fun e => a1 (HC.out.symm.trans e)) (fun e => a2 (HC.out.symm.trans e)) (fun e => a3 (HC.out.symm.trans e)) (fun e => by cases e) (fun _ => pre_160_end (by omega)))
                  have hz : out.size + (s.extract i (i + 1)).size ≤ maxLen := by unfold maxLen; rw [ByteArray.size_extract]; omega
                  go_wp2_with fail
                  go_round
                  case rel => exact ⟨i + 1, out ++ s.extract i (i + 1), rfl, by go_num, by omega, by rw [ByteArray.size_append, ByteArray.size_extract]; omega, Lib.hid (HI.out.skip hlt HH.out)⟩
                  case measure => simp [intOf]; omega
              · have q5 : ((c : Int) == 194) = false := by rw [beq_eq_false_iff_ne]; omega
                have HH := Lib.hid (h_none (attr := false) hlt (fun e => a1 (HC.out.symm.trans e)) (fun e => a2 (HC.out.symm.trans e)) (fun e => a3 (HC.out.symm.trans e)) (fun e => by cases e) (fun e => absurd (HC.out.symm.trans e) a5))
                have hz : out.size + (s.extract i (i + 1)).size ≤ maxLen := by unfold maxLen; rw [ByteArray.size_extract]; omega
                go_wp2_with fail
                go_round
                case rel => exact ⟨i + 1, out ++ s.extract i (i + 1), rfl, by go_num, by omega, by rw [ByteArray.size_append, ByteArray.size_extract]; omega, Lib.hid (HI.out.skip hlt HH.out)⟩
                case measure => simp [intOf]; omega
    · obtain rfl : i = s.size := by omega
      have HE := Lib.hid HI.out.done
      go_wp2_with fail
      go_ret
      exact ⟨Sr.ret_str HE.out, rfl⟩
set_option maxHeartbeats 2000000 in
theorem rescape_true (s : ByteArray) (hs : s.size ≤ 1000000) (w : World) :
    Calls Tryz.prog 24 #[.string s, .bool true] w fun e w' => e = .returned (.string (escB true s)) ∧ w = w' := by
  go_enter Tryz.func24, Tryz.ntmps24
  go_wp2_with fail
  go_loop [5, 6, 20, 27, 50, 57, 64] (fun t5 t6 _ _ _ _ _ => ∃ (i : Nat) (out : ByteArray), t5 = .string out ∧ t6 = .int .i64 i ∧ i ≤ s.size ∧ out.size ≤ 6 * i ∧ Hid (RepI true s out i)) (fun _ t6 _ _ _ _ _ => s.size - (intOf t6).toNat)
  case atStart => exact ⟨0, _, rfl, rfl, Nat.zero_le _, Nat.le_refl _, Lib.hid (repI_start _ _)⟩
  case round =>
    obtain ⟨i, out, rfl, rfl, hi, hol, HI⟩ := hrel
    by_cases hlt : i < s.size
    · obtain ⟨c, hc⟩ : ∃ c, s[i].toNat = c := ⟨_, rfl⟩
      have hi0 : ∀ w : World, (Instr.index 9 (.string s) (.int .i64 (i : Int))).run Tryz.prog w = .ok (.int .u8 c) w := fun w => run_at s i hlt rfl hc w
      have HC := Lib.hid hc
      clear hc
      by_cases a1 : c = 38
      · subst a1
        have HH := Lib.hid (h_amp (attr := true) hlt HC.out)
        have hz : out.size + (⟨#[38, 97, 109, 112, 59]⟩ : ByteArray).size ≤ maxLen := by show out.size + 5 ≤ 9223372036854775807; omega
        go_wp2_with fail
        go_round
        case rel => exact ⟨i + 1, out ++ ⟨#[38, 97, 109, 112, 59]⟩, rfl, by go_num, by omega, by rw [ByteArray.size_append]; show out.size + 5 ≤ _; omega, Lib.hid (HI.out.hit hlt HH.out rfl rfl)⟩
        case measure => simp [intOf]; omega
      · have q1 : ((c : Int) == 38) = false := by rw [beq_eq_false_iff_ne]; omega
        by_cases a2 : c = 60
        · subst a2
          have HH := Lib.hid (h_lt (attr := true) hlt HC.out)
          have hz : out.size + (⟨#[38, 108, 116, 59]⟩ : ByteArray).size ≤ maxLen := by show out.size + 4 ≤ 9223372036854775807; omega
          go_wp2_with fail
          go_round
          case rel => exact ⟨i + 1, out ++ ⟨#[38, 108, 116, 59]⟩, rfl, by go_num, by omega, by rw [ByteArray.size_append]; show out.size + 4 ≤ _; omega, Lib.hid (HI.out.hit hlt HH.out rfl rfl)⟩
          case measure => simp [intOf]; omega
        · have q2 : ((c : Int) == 60) = false := by rw [beq_eq_false_iff_ne]; omega
          by_cases a3 : c = 62
          · subst a3
            have HH := Lib.hid (h_gt (attr := true) hlt HC.out)
            have hz : out.size + (⟨#[38, 103, 116, 59]⟩ : ByteArray).size ≤ maxLen := by show out.size + 4 ≤ 9223372036854775807; omega
            go_wp2_with fail
            go_round
            case rel => exact ⟨i + 1, out ++ ⟨#[38, 103, 116, 59]⟩, rfl, by go_num, by omega, by rw [ByteArray.size_append]; show out.size + 4 ≤ _; omega, Lib.hid (HI.out.hit hlt HH.out rfl rfl)⟩
            case measure => simp [intOf]; omega
          · have q3 : ((c : Int) == 62) = false := by rw [beq_eq_false_iff_ne]; omega
            by_cases a4 : c = 34
            · subst a4
              have HH := Lib.hid (h_qu hlt HC.out)
              have hz : out.size + (⟨#[38, 113, 117, 111, 116, 59]⟩ : ByteArray).size ≤ maxLen := by show out.size + 6 ≤ 9223372036854775807; omega
              go_wp2_with fail
              go_round
              case rel => exact ⟨i + 1, out ++ ⟨#[38, 113, 117, 111, 116, 59]⟩, rfl, by go_num, by omega, by rw [ByteArray.size_append]; show out.size + 6 ≤ _; omega, Lib.hid (HI.out.hit hlt HH.out rfl rfl)⟩
              case measure => simp [intOf]; omega
            · have q4 : ((c : Int) == 34) = false := by rw [beq_eq_false_iff_ne]; omega
              by_cases a5 : c = 194
              · subst a5
                by_cases hl2 : i + 1 < s.size
                · obtain ⟨c2, hc2⟩ : ∃ c, s[i + 1].toNat = c := ⟨_, rfl⟩
                  have hi2 : ∀ w : World, (Instr.index 9 (.string s) (.int .i64 ((i : Int) + 1))).run Tryz.prog w = .ok (.int .u8 c2) w := fun w => run_at s (i + 1) hl2 (by omega) hc2 w
                  have HC2 := Lib.hid hc2
                  clear hc2
                  by_cases a6 : c2 = 160
                  · subst a6
                    have HH := Lib.hid (h_nb (attr := true) hl2 HC.out HC2.out)
                    have hz : out.size + (⟨#[38, 110, 98, 115, 112, 59]⟩ : ByteArray).size ≤ maxLen := by show out.size + 6 ≤ 9223372036854775807; omega
                    go_wp2_with fail
                    go_round
                    case rel => exact ⟨i + 2, out ++ ⟨#[38, 110, 98, 115, 112, 59]⟩, rfl, by go_num, by omega, by rw [ByteArray.size_append]; show out.size + 6 ≤ _; omega, Lib.hid (HI.out.hit hlt HH.out rfl rfl)⟩
                    case measure => simp [intOf]; omega
                  · have q6 : ((c2 : Int) == 160) = false := by rw [beq_eq_false_iff_ne]; omega
                    have HH := Lib.hid (h_none (attr := true) hlt (fun e => a1 (HC.out.symm.trans e)) (fun e => a2 (HC.out.symm.trans e)) (fun e => a3 (HC.out.symm.trans e)) (fun _ e => a4 (HC.out.symm.trans e)) (fun _ => by rw [pre_160 hl2, decide_eq_false (fun e => a6 (HC2.out.symm.trans e))]))
                    have hz : out.size + (s.extract i (i + 1)).size ≤ maxLen := by unfold maxLen; rw [ByteArray.size_extract]; omega
                    go_wp2_with fail
                    go_round
                    case rel => exact ⟨i + 1, out ++ s.extract i (i + 1), rfl, by go_num, by omega, by rw [ByteArray.size_append, ByteArray.size_extract]; omega, Lib.hid (HI.out.skip hlt HH.out)⟩
                    case measure => simp [intOf]; omega
                · have HH := Lib.hid (h_none (attr := true) hlt (fun e => a1 (HC.out.symm.trans e)) (fun e => a2 (HC.out.symm.trans e)) (fun e => a3 (HC.out.symm.trans e)) (fun _ e => a4 (HC.out.symm.trans e)) (fun _ => pre_160_end (by omega)))
                  have hz : out.size + (s.extract i (i + 1)).size ≤ maxLen := by unfold maxLen; rw [ByteArray.size_extract]; omega
                  go_wp2_with fail
                  go_round
                  case rel => exact ⟨i + 1, out ++ s.extract i (i + 1), rfl, by go_num, by omega, by rw [ByteArray.size_append, ByteArray.size_extract]; omega, Lib.hid (HI.out.skip hlt HH.out)⟩
                  case measure => simp [intOf]; omega
              · have q5 : ((c : Int) == 194) = false := by rw [beq_eq_false_iff_ne]; omega
                have HH := Lib.hid (h_none (attr := true) hlt (fun e => a1 (HC.out.symm.trans e)) (fun e => a2 (HC.out.symm.trans e)) (fun e => a3 (HC.out.symm.trans e)) (fun _ e => a4 (HC.out.symm.trans e)) (fun e => absurd (HC.out.symm.trans e) a5))
                have hz : out.size + (s.extract i (i + 1)).size ≤ maxLen := by unfold maxLen; rw [ByteArray.size_extract]; omega
                go_wp2_with fail
                go_round
                case rel => exact ⟨i + 1, out ++ s.extract i (i + 1), rfl, by go_num, by omega, by rw [ByteArray.size_append, ByteArray.size_extract]; omega, Lib.hid (HI.out.skip hlt HH.out)⟩
                case measure => simp [intOf]; omega
    · obtain rfl : i = s.size := by omega
      have HE := Lib.hid HI.out.done
      go_wp2_with fail
      go_ret
      exact ⟨Sr.ret_str HE.out, rfl⟩
theorem rescape_calls (s : ByteArray) (hs : s.size ≤ 1000000) (attr : Bool) (w : World) :
    Calls Tryz.prog 24 #[.string s, .bool attr] w fun e w' => e = .returned (.string (escB attr s)) ∧ w = w' := by
  cases attr
  · exact rescape_false s hs w
  · exact rescape_true s hs w
end Go.Proofs.YtbjcahhijfommaaGreatDoor.Ch
