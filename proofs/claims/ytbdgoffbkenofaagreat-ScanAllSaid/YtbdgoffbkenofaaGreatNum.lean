/- Texts compared; strings.HasPrefix. -/
import Derived.Test.YtbdgoffbkenofaaGreatProg
import Derived.WalkKit
import Derived.WalkLawsBesides
import Derived.WalkSpells
import Derived.Handy
import Derived.Lib.Hide
import Derived.IntWalk
namespace Go.Proofs.YtbdgoffbkenofaaGreat.Sr
open Go Go.RowKit
set_option linter.unusedVariables false

theorem bytes_eq {a b : ByteArray} : a.data.toList = b.data.toList ↔ a = b := by
  constructor
  · intro h; cases a; cases b; congr; exact Array.toList_inj.1 h
  · rintro rfl; rfl
theorem bytes_beq {a b : ByteArray} : (a == b) = true ↔ a = b := by
  rw [beq_toListBytes, beq_iff_eq, ByteArray.toList_eq, ByteArray.toList_eq]; exact bytes_eq
theorem str_eq (a b : ByteArray) : (a.toList == b.toList) = decide (a = b) := by
  rw [← beq_toListBytes]
  by_cases h : a = b
  · rw [decide_eq_true h]; exact bytes_beq.2 h
  · rw [decide_eq_false h, ← Bool.not_eq_true, bytes_beq]; exact h
theorem ret_str {a b : ByteArray} (h : a = b) : Ending.returned (.string a) = .returned (.string b) := by rw [h]
theorem ret_int {k : IntKind} {a b : Int} (h : a = b) : Ending.returned (.int k a) = .returned (.int k b) := by rw [h]
theorem ret_bool {a b : Bool} (h : a = b) : Ending.returned (.bool a) = .returned (.bool b) := by rw [h]
/-- One text begins another. -/
def hasPre (s p : ByteArray) : Bool := decide (p.size ≤ s.size) && decide (s.extract 0 p.size = p)
theorem hasPre_iff {s p : ByteArray} : hasPre s p = true ↔ p.data.toList <+: s.data.toList := by
  unfold hasPre
  rw [Bool.and_eq_true, decide_eq_true_eq, decide_eq_true_eq, ← bytes_eq]
  have e : (s.extract 0 p.size).data.toList = s.data.toList.take p.size := by
    rw [ByteArray.data_extract, Array.toList_extract, List.extract_eq_take_drop]; simp
  have ep : p.size = p.data.toList.length := rfl
  have es : s.size = s.data.toList.length := rfl
  rw [e, ep, es]
  constructor
  · rintro ⟨h1, h2⟩; rw [← h2]; exact List.take_prefix _ _
  · intro h; exact ⟨h.length_le, (List.prefix_iff_eq_take.1 h).symm⟩
theorem lite_calls (s p : ByteArray) (hs : s.size ≤ maxLen) (w : World) :
    Calls Tryz.prog 112 #[.string s, .string p] w fun e w' => e = .returned (.bool (hasPre s p)) ∧ w = w' := by
  have hs' := hs
  unfold maxLen at hs'
  by_cases h : p.size ≤ s.size
  · have q := str_eq (s.extract 0 p.size) p
    have H : Hid (hasPre s p = decide (s.extract 0 p.size = p)) := Lib.hid (by unfold hasPre; rw [decide_eq_true h, Bool.true_and])
    go_enter Tryz.func112, Tryz.ntmps112
    go_wp2_with fail
    go_ret
    exact ⟨ret_bool H.out.symm, rfl⟩
  · have H : Hid (hasPre s p = false) := Lib.hid (by unfold hasPre; rw [decide_eq_false h, Bool.false_and])
    go_enter Tryz.func112, Tryz.ntmps112
    go_wp2_with fail
    go_ret
    exact ⟨ret_bool H.out.symm, rfl⟩
theorem hasPrefix_calls (s p : ByteArray) (hs : s.size ≤ maxLen) (w : World) :
    Calls Tryz.prog 92 #[.string s, .string p] w fun e w' => e = .returned (.bool (hasPre s p)) ∧ w = w' := by
  go_enter Tryz.func92, Tryz.ntmps92
  go_wp2_with fail
  refine (lite_calls s p hs _).mono ?_
  rintro e w' ⟨rfl, rfl⟩
  go_wp2_with fail
  go_ret
  exact ⟨rfl, rfl⟩
theorem hasPrefix_is (s p : ByteArray) (hs : s.size ≤ maxLen) (b : Bool) (h : hasPre s p = b) (w : World) :
    Calls Tryz.prog 92 #[.string s, .string p] w fun e w' => e = .returned (.bool b) ∧ w = w' := h ▸ hasPrefix_calls s p hs w
attribute [irreducible] hasPre
end Go.Proofs.YtbdgoffbkenofaaGreat.Sr
namespace Go.Proofs.YtbdgoffbkenofaaGreat.Ch
open Go Go.RowKit Go.Proofs.YtbdgoffbkenofaaGreat.Sr
set_option linter.unusedVariables false

/-- A digit's number; below 0: it is none. -/
def digI (c : Nat) (hex : Bool) : Int :=
  if 48 ≤ c ∧ c ≤ 57 then (c : Int) - 48 else if hex = true ∧ 97 ≤ c ∧ c ≤ 102 then (c : Int) - 87 else if hex = true ∧ 65 ≤ c ∧ c ≤ 70 then (c : Int) - 55 else -1
def baseI (hex : Bool) : Int := cond hex 16 10
theorem dig_1 {c : Nat} (hex : Bool) (h : 48 ≤ c) (h2 : c ≤ 57) : digI c hex = (c : Int) - 48 := if_pos ⟨h, h2⟩
theorem dig_2 {c : Nat} (h : 97 ≤ c) (h2 : c ≤ 102) : digI c true = (c : Int) - 87 := by unfold digI; rw [if_neg (by omega), if_pos ⟨rfl, h, h2⟩]
theorem dig_3 {c : Nat} (h : 65 ≤ c) (h2 : c ≤ 70) : digI c true = (c : Int) - 55 := by unfold digI; rw [if_neg (by omega), if_neg (by omega), if_pos ⟨rfl, h, h2⟩]
theorem dig_no {c : Nat} (hex : Bool) (h : c < 48 ∨ 57 < c) (h2 : hex = false ∨ ((c < 97 ∨ 102 < c) ∧ (c < 65 ∨ 70 < c))) : digI c hex = -1 := by
  unfold digI
  rw [if_neg (by omega), if_neg, if_neg]
  · rintro ⟨rfl, _⟩; rcases h2 with h2 | h2
    · cases h2
    · omega
  · rintro ⟨rfl, _⟩; rcases h2 with h2 | h2
    · cases h2
    · omega
theorem dig_bd (c : Nat) (hex : Bool) : -1 ≤ digI c hex ∧ digI c hex ≤ 15 := by
  unfold digI
  repeat' split
  all_goals omega
theorem dig_cases (c : Nat) (hex : Bool) : (48 ≤ c ∧ c ≤ 57) ∨ (hex = true ∧ 97 ≤ c ∧ c ≤ 102) ∨ (hex = true ∧ 65 ≤ c ∧ c ≤ 70) ∨ ((c < 48 ∨ 57 < c) ∧ hex = false) ∨ ((c < 48 ∨ 57 < c) ∧ hex = true ∧ (c < 97 ∨ 102 < c) ∧ (c < 65 ∨ 70 < c)) := by
  cases hex <;> simp <;> omega
attribute [irreducible] digI
theorem digit_calls (c : Nat) (hc : c < 256) (hex : Bool) (w : World) :
    Calls Tryz.prog 122 #[.int .u8 c, .int .i64 (baseI hex)] w fun e w' => e = .returned (.int .i64 (digI c hex)) ∧ w = w' := by
  rcases dig_cases c hex with ⟨h1, h2⟩ | ⟨rfl, h1, h2⟩ | ⟨rfl, h1, h2⟩ | ⟨h1, rfl⟩ | ⟨h1, rfl, h2, h3⟩
  · have H := Lib.hid (dig_1 hex h1 h2)
    generalize baseI hex = b
    go_enter Tryz.func122, Tryz.ntmps122
    go_wp2_with fail
    go_ret
    exact ⟨ret_int (by rw [H.out]), rfl⟩
  · have H := Lib.hid (dig_2 h1 h2)
    unfold baseI
    go_enter Tryz.func122, Tryz.ntmps122
    go_wp2_with fail
    go_ret
    exact ⟨ret_int (by rw [H.out]; omega), rfl⟩
  · have H := Lib.hid (dig_3 h1 h2)
    unfold baseI
    go_enter Tryz.func122, Tryz.ntmps122
    go_wp2_with fail
    go_ret
    exact ⟨ret_int (by rw [H.out]; omega), rfl⟩
  · have H := Lib.hid (dig_no false h1 (.inl rfl))
    unfold baseI
    rcases h1 with h1 | h1
    all_goals
      go_enter Tryz.func122, Tryz.ntmps122
      go_wp2_with fail
      go_ret
      exact ⟨ret_int (by rw [H.out]), rfl⟩
  · have H := Lib.hid (dig_no true h1 (.inr ⟨h2, h3⟩))
    unfold baseI
    go_enter Tryz.func122, Tryz.ntmps122
    go_wp2_with fail
    all_goals first | (go_ret; exact ⟨ret_int (by rw [H.out]), rfl⟩) | (exfalso; omega)
theorem rdigit_calls (c : Nat) (hc : c < 256) (hex : Bool) (w : World) :
    Calls Tryz.prog 45 #[.int .u8 c, .bool hex] w fun e w' => e = .returned (.int .i64 (digI c hex)) ∧ w = w' := by
  rcases dig_cases c hex with ⟨h1, h2⟩ | ⟨rfl, h1, h2⟩ | ⟨rfl, h1, h2⟩ | ⟨h1, rfl⟩ | ⟨h1, rfl, h2, h3⟩
  · have H := Lib.hid (dig_1 hex h1 h2)
    go_enter Tryz.func45, Tryz.ntmps45
    go_wp2_with fail
    go_ret
    exact ⟨ret_int (by rw [H.out]), rfl⟩
  · have H := Lib.hid (dig_2 h1 h2)
    go_enter Tryz.func45, Tryz.ntmps45
    go_wp2_with fail
    go_ret
    exact ⟨ret_int (by rw [H.out]; omega), rfl⟩
  · have H := Lib.hid (dig_3 h1 h2)
    go_enter Tryz.func45, Tryz.ntmps45
    go_wp2_with fail
    go_ret
    exact ⟨ret_int (by rw [H.out]; omega), rfl⟩
  · have H := Lib.hid (dig_no false h1 (.inl rfl))
    rcases h1 with h1 | h1
    all_goals
      go_enter Tryz.func45, Tryz.ntmps45
      go_wp2_with fail
      go_ret
      exact ⟨ret_int (by rw [H.out]), rfl⟩
  · have H := Lib.hid (dig_no true h1 (.inr ⟨h2, h3⟩))
    go_enter Tryz.func45, Tryz.ntmps45
    go_wp2_with fail
    all_goals first | (go_ret; exact ⟨ret_int (by rw [H.out]), rfl⟩) | (exfalso; omega)
end Go.Proofs.YtbdgoffbkenofaaGreat.Ch
namespace Go.Proofs.YtbdgoffbkenofaaGreat.Ch
open Go Go.RowKit Go.Proofs.YtbdgoffbkenofaaGreat.Sr
set_option linter.unusedVariables false

/-- A number's value, and how many digits it has. -/
def numL (hex : Bool) : List UInt8 → Int → Int × Nat
  | [], v => (v, 0)
  | c :: l, v => if digI c.toNat hex < 0 then (v, 0) else ((numL hex l (min (v * baseI hex + digI c.toNat hex) 1114112)).1, (numL hex l (min (v * baseI hex + digI c.toNat hex) 1114112)).2 + 1)
theorem numL_len (hex : Bool) : ∀ (l : List UInt8) (v : Int), (numL hex l v).2 ≤ l.length
  | [], v => Nat.le_refl 0
  | c :: l, v => by
    unfold numL
    split
    · exact Nat.zero_le _
    · exact Nat.succ_le_succ (numL_len hex l _)
theorem numL_bd (hex : Bool) : ∀ (l : List UInt8) (v : Int), 0 ≤ v → v ≤ 1114112 → 0 ≤ (numL hex l v).1 ∧ (numL hex l v).1 ≤ 1114112
  | [], v, h0, h1 => ⟨h0, h1⟩
  | c :: l, v, h0, h1 => by
    unfold numL
    split
    · exact ⟨h0, h1⟩
    · have hd : 0 ≤ v * baseI hex := Int.mul_nonneg h0 (by cases hex <;> decide)
      exact numL_bd hex l _ (by omega) (by omega)
theorem numL_stop {hex : Bool} {s : ByteArray} {k : Nat} {v : Int} (h : k < s.size) (hd : digI s[k].toNat hex < 0) : numL hex (s.data.toList.drop k) v = (v, 0) := by
  rw [List.drop_eq_getElem_cons (show k < s.data.toList.length from h)]
  show numL hex (s[k] :: _) v = _
  unfold numL; rw [if_pos hd]
theorem numL_go {hex : Bool} {s : ByteArray} {k : Nat} {v : Int} (h : k < s.size) (hd : 0 ≤ digI s[k].toNat hex) :
    numL hex (s.data.toList.drop k) v = ((numL hex (s.data.toList.drop (k + 1)) (min (v * baseI hex + digI s[k].toNat hex) 1114112)).1, (numL hex (s.data.toList.drop (k + 1)) (min (v * baseI hex + digI s[k].toNat hex) 1114112)).2 + 1) := by
  rw [List.drop_eq_getElem_cons (show k < s.data.toList.length from h)]
  show numL hex (s[k] :: _) v = _
  conv => lhs; unfold numL
  rw [if_neg (by omega)]
theorem numL_end {hex : Bool} {s : ByteArray} {k : Nat} {v : Int} (h : s.size ≤ k) : numL hex (s.data.toList.drop k) v = (v, 0) := by
  rw [List.drop_eq_nil_of_le h]; rfl
attribute [irreducible] numL
theorem number_dec (s : ByteArray) (hs : s.size ≤ 1000000000) (f : Nat) (hf : f ≤ s.size) (w : World) :
    Calls Tryz.prog 118 #[.string s, .int .i64 f, .int .i64 10] w fun e w' => e = .returned (.tuple #[.int .i64 (numL false (s.data.toList.drop f) 0).1, .int .i64 ((f : Int) + (numL false (s.data.toList.drop f) 0).2)]) ∧ w = w' := by
  go_enter Tryz.func118, Tryz.ntmps118
  go_wp2_with fail
  go_loop [1, 8, 9] (fun a v _ => ∃ (k : Nat) (n : Int), k ≤ s.size ∧ f ≤ k ∧ 0 ≤ n ∧ n ≤ 1114112 ∧ a = .int .i64 k ∧ v = .int .i64 n ∧ Hid ((numL false (s.data.toList.drop f) 0).1 = (numL false (s.data.toList.drop k) n).1 ∧ ((f : Int) + (numL false (s.data.toList.drop f) 0).2) = (k : Int) + (numL false (s.data.toList.drop k) n).2)) (fun a _ _ => s.size - (intOf a).toNat)
  case atStart => exact ⟨f, 0, hf, Nat.le_refl _, by decide, by decide, rfl, rfl, Lib.hid ⟨rfl, rfl⟩⟩
  case round =>
    obtain ⟨k, n, hk, hfk, hn0, hn1, rfl, rfl, HR⟩ := hrel
    by_cases hlt : k < s.size
    · obtain ⟨c, hc⟩ : ∃ c, s[k].toNat = c := ⟨_, rfl⟩
      have hcb : c < 256 := by have := s[k].toNat_lt; omega
      have C := Lib.hid (digit_calls c hcb false w)
      obtain ⟨hd0, hd1⟩ := dig_bd c false
      by_cases hd : digI c false < 0
      · have ST := Lib.hid (numL_stop (hex := false) (v := n) hlt (by rw [hc]; exact hd))
        go_wp2_with fail
        refine C.out.mono ?_
        rintro e w' ⟨rfl, rfl⟩
        clear C
        go_wp2_with fail
        go_ret2
        have h := HR.out
        rw [ST.out] at h
        obtain ⟨h1, h2⟩ := h
        rw [h1, h2]
        exact ⟨by simp, rfl⟩
      · have GO := Lib.hid (numL_go (hex := false) (v := n) hlt (by rw [hc]; omega))
        have hd2 : 0 ≤ digI c false := by omega
        go_wp2_with fail
        refine C.out.mono ?_
        rintro e w' ⟨rfl, rfl⟩
        clear C
        go_wp2_with fail
        go_round
        case rel =>
          refine ⟨k + 1, min (n * 10 + digI c false) 1114112, by omega, by omega, by omega, by omega, by go_num, congrArg (Value.int .i64) (by split <;> omega), Lib.hid ?_⟩
          have h := HR.out
          rw [GO.out, hc] at h
          obtain ⟨h1, h2⟩ := h
          exact ⟨h1, by rw [h2]; simp only [baseI, cond]; omega⟩
        case measure => simp [intOf]; omega
    · have EN := Lib.hid (numL_end (hex := false) (v := n) (show s.size ≤ k by omega))
      go_wp2_with fail
      go_ret2
      have h := HR.out
      rw [EN.out] at h
      obtain ⟨h1, h2⟩ := h
      rw [h1, h2]
      exact ⟨by simp, rfl⟩
theorem number_hex (s : ByteArray) (hs : s.size ≤ 1000000000) (f : Nat) (hf : f ≤ s.size) (w : World) :
    Calls Tryz.prog 118 #[.string s, .int .i64 f, .int .i64 16] w fun e w' => e = .returned (.tuple #[.int .i64 (numL true (s.data.toList.drop f) 0).1, .int .i64 ((f : Int) + (numL true (s.data.toList.drop f) 0).2)]) ∧ w = w' := by
  go_enter Tryz.func118, Tryz.ntmps118
  go_wp2_with fail
  go_loop [1, 8, 9] (fun a v _ => ∃ (k : Nat) (n : Int), k ≤ s.size ∧ f ≤ k ∧ 0 ≤ n ∧ n ≤ 1114112 ∧ a = .int .i64 k ∧ v = .int .i64 n ∧ Hid ((numL true (s.data.toList.drop f) 0).1 = (numL true (s.data.toList.drop k) n).1 ∧ ((f : Int) + (numL true (s.data.toList.drop f) 0).2) = (k : Int) + (numL true (s.data.toList.drop k) n).2)) (fun a _ _ => s.size - (intOf a).toNat)
  case atStart => exact ⟨f, 0, hf, Nat.le_refl _, by decide, by decide, rfl, rfl, Lib.hid ⟨rfl, rfl⟩⟩
  case round =>
    obtain ⟨k, n, hk, hfk, hn0, hn1, rfl, rfl, HR⟩ := hrel
    by_cases hlt : k < s.size
    · obtain ⟨c, hc⟩ : ∃ c, s[k].toNat = c := ⟨_, rfl⟩
      have hcb : c < 256 := by have := s[k].toNat_lt; omega
      have C := Lib.hid (digit_calls c hcb true w)
      obtain ⟨hd0, hd1⟩ := dig_bd c true
      by_cases hd : digI c true < 0
      · have ST := Lib.hid (numL_stop (hex := true) (v := n) hlt (by rw [hc]; exact hd))
        go_wp2_with fail
        refine C.out.mono ?_
        rintro e w' ⟨rfl, rfl⟩
        clear C
        go_wp2_with fail
        go_ret2
        have h := HR.out
        rw [ST.out] at h
        obtain ⟨h1, h2⟩ := h
        rw [h1, h2]
        exact ⟨by simp, rfl⟩
      · have GO := Lib.hid (numL_go (hex := true) (v := n) hlt (by rw [hc]; omega))
        have hd2 : 0 ≤ digI c true := by omega
        go_wp2_with fail
        refine C.out.mono ?_
        rintro e w' ⟨rfl, rfl⟩
        clear C
        go_wp2_with fail
        go_round
        case rel =>
          refine ⟨k + 1, min (n * 16 + digI c true) 1114112, by omega, by omega, by omega, by omega, by go_num, congrArg (Value.int .i64) (by split <;> omega), Lib.hid ?_⟩
          have h := HR.out
          rw [GO.out, hc] at h
          obtain ⟨h1, h2⟩ := h
          exact ⟨h1, by rw [h2]; simp only [baseI, cond]; omega⟩
        case measure => simp [intOf]; omega
    · have EN := Lib.hid (numL_end (hex := true) (v := n) (show s.size ≤ k by omega))
      go_wp2_with fail
      go_ret2
      have h := HR.out
      rw [EN.out] at h
      obtain ⟨h1, h2⟩ := h
      rw [h1, h2]
      exact ⟨by simp, rfl⟩
theorem number_calls (s : ByteArray) (hs : s.size ≤ 1000000000) (f : Nat) (hf : f ≤ s.size) (hex : Bool) (w : World) :
    Calls Tryz.prog 118 #[.string s, .int .i64 f, .int .i64 (baseI hex)] w fun e w' => e = .returned (.tuple #[.int .i64 (numL hex (s.data.toList.drop f) 0).1, .int .i64 ((f : Int) + (numL hex (s.data.toList.drop f) 0).2)]) ∧ w = w' := by
  cases hex
  · exact number_dec s hs f hf w
  · exact number_hex s hs f hf w
end Go.Proofs.YtbdgoffbkenofaaGreat.Ch
