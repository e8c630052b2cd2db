/- A number that stands at a place, by the program and by the document: its loop. -/
import Derived.Test.YtfjlpekoklmedaaNum
namespace Go.Proofs.Ytfjlpekoklmedaa.Ch
open Go Go.RowKit Go.Proofs.Ytfjlpekoklmedaa.Sr
set_option linter.unusedVariables false

/-- A number's value, and how many digits it has. -/
def numL (hex : Bool) : List UInt8 → Int → Int × Nat
  | [], v => (v, 0)
  | c :: l, v => if digI c.toNat hex < 0 then (v, 0) else ((numL hex l (min (v * baseI hex + digI c.toNat hex) 1114112)).1, (numL hex l (min (v * baseI hex + digI c.toNat hex) 1114112)).2 + 1)
theorem numL_len (hex : Bool) : ∀ (l : List UInt8) (v : Int), (numL hex l v).2 ≤ l.length
  | [], v => Nat.le_refl 0
  | c :: l, v => by
    unfold numL
    split
    · exact Nat.zero_le _
    · exact Nat.succ_le_succ (numL_len hex l _)
theorem numL_bd (hex : Bool) : ∀ (l : List UInt8) (v : Int), 0 ≤ v → v ≤ 1114112 → 0 ≤ (numL hex l v).1 ∧ (numL hex l v).1 ≤ 1114112
  | [], v, h0, h1 => ⟨h0, h1⟩
  | c :: l, v, h0, h1 => by
    unfold numL
    split
    · exact ⟨h0, h1⟩
    · have hd : 0 ≤ v * baseI hex := Int.mul_nonneg h0 (by cases hex <;> decide)
      exact numL_bd hex l _ (by omega) (by omega)
theorem numL_stop {hex : Bool} {s : ByteArray} {k : Nat} {v : Int} (h : k < s.size) (hd : digI s[k].toNat hex < 0) : numL hex (s.data.toList.drop k) v = (v, 0) := by
  rw [List.drop_eq_getElem_cons (show k < s.data.toList.length from h)]
  show numL hex (s[k] :: _) v = _
  unfold numL; rw [if_pos hd]
theorem numL_go {hex : Bool} {s : ByteArray} {k : Nat} {v : Int} (h : k < s.size) (hd : 0 ≤ digI s[k].toNat hex) :
    numL hex (s.data.toList.drop k) v = ((numL hex (s.data.toList.drop (k + 1)) (min (v * baseI hex + digI s[k].toNat hex) 1114112)).1, (numL hex (s.data.toList.drop (k + 1)) (min (v * baseI hex + digI s[k].toNat hex) 1114112)).2 + 1) := by
  rw [List.drop_eq_getElem_cons (show k < s.data.toList.length from h)]
  show numL hex (s[k] :: _) v = _
  conv => lhs; unfold numL
  rw [if_neg (by omega)]
theorem numL_end {hex : Bool} {s : ByteArray} {k : Nat} {v : Int} (h : s.size ≤ k) : numL hex (s.data.toList.drop k) v = (v, 0) := by
  rw [List.drop_eq_nil_of_le h]; rfl
attribute [irreducible] numL
theorem number_dec (s : ByteArray) (hs : s.size ≤ 1000000000) (f : Nat) (hf : f ≤ s.size) (w : World) :
    Calls Try.prog 41 #[.string s, .int .i64 f, .int .i64 10] w fun e w' => e = .returned (.tuple #[.int .i64 (numL false (s.data.toList.drop f) 0).1, .int .i64 ((f : Int) + (numL false (s.data.toList.drop f) 0).2)]) ∧ w = w' := by
  go_enter Try.func41, Try.ntmps41
  go_wp2_with fail
  go_loop [1, 8, 9] (fun a v _ => ∃ (k : Nat) (n : Int), k ≤ s.size ∧ f ≤ k ∧ 0 ≤ n ∧ n ≤ 1114112 ∧ a = .int .i64 k ∧ v = .int .i64 n ∧ Hid ((numL false (s.data.toList.drop f) 0).1 = (numL false (s.data.toList.drop k) n).1 ∧ ((f : Int) + (numL false (s.data.toList.drop f) 0).2) = (k : Int) + (numL false (s.data.toList.drop k) n).2)) (fun a _ _ => s.size - (intOf a).toNat)
  case atStart => exact ⟨f, 0, hf, Nat.le_refl _, by decide, by decide, rfl, rfl, Lib.hid ⟨rfl, rfl⟩⟩
  case round =>
    obtain ⟨k, n, hk, hfk, hn0, hn1, rfl, rfl, HR⟩ := hrel
    by_cases hlt : k < s.size
    · obtain ⟨c, hc⟩ : ∃ c, s[k].toNat = c := ⟨_, rfl⟩
      have hcb : c < 256 := by have := s[k].toNat_lt; omega
      have C := Lib.hid (digit_calls c hcb false w)
      obtain ⟨hd0, hd1⟩ := dig_bd c false
      by_cases hd : digI c false < 0
      · have ST := Lib.hid (numL_stop (hex := false) (v := n) hlt (by rw [hc]; exact hd))
        go_wp2_with fail
        refine C.out.mono ?_
        rintro e w' ⟨rfl, rfl⟩
        clear C
        go_wp2_with fail
        go_ret2
        have h := HR.out
        rw [ST.out] at h
        obtain ⟨h1, h2⟩ := h
        rw [h1, h2]
        exact ⟨by simp, rfl⟩
      · have GO := Lib.hid (numL_go (hex := false) (v := n) hlt (by rw [hc]; omega))
        have hd2 : 0 ≤ digI c false := by omega
        go_wp2_with fail
        refine C.out.mono ?_
        rintro e w' ⟨rfl, rfl⟩
        clear C
        go_wp2_with fail
        go_round
        case rel =>
          refine ⟨k + 1, min (n * 10 + digI c false) 1114112, by omega, by omega, by omega, by omega, by go_num, congrArg (Value.int .i64) (by split <;> omega), Lib.hid ?_⟩
          have h := HR.out
          rw [GO.out, hc] at h
          obtain ⟨h1, h2⟩ := h
          exact ⟨h1, by rw [h2]; simp only [baseI, cond]; omega⟩
        case measure => simp [intOf]; omega
    · have EN := Lib.hid (numL_end (hex := false) (v := n) (show s.size ≤ k by omega))
      go_wp2_with fail
      go_ret2
      have h := HR.out
      rw [EN.out] at h
      obtain ⟨h1, h2⟩ := h
      rw [h1, h2]
      exact ⟨by simp, rfl⟩
theorem number_hex (s : ByteArray) (hs : s.size ≤ 1000000000) (f : Nat) (hf : f ≤ s.size) (w : World) :
    Calls Try.prog 41 #[.string s, .int .i64 f, .int .i64 16] w fun e w' => e = .returned (.tuple #[.int .i64 (numL true (s.data.toList.drop f) 0).1, .int .i64 ((f : Int) + (numL true (s.data.toList.drop f) 0).2)]) ∧ w = w' := by
  go_enter Try.func41, Try.ntmps41
  go_wp2_with fail
  go_loop [1, 8, 9] (fun a v _ => ∃ (k : Nat) (n : Int), k ≤ s.size ∧ f ≤ k ∧ 0 ≤ n ∧ n ≤ 1114112 ∧ a = .int .i64 k ∧ v = .int .i64 n ∧ Hid ((numL true (s.data.toList.drop f) 0).1 = (numL true (s.data.toList.drop k) n).1 ∧ ((f : Int) + (numL true (s.data.toList.drop f) 0).2) = (k : Int) + (numL true (s.data.toList.drop k) n).2)) (fun a _ _ => s.size - (intOf a).toNat)
  case atStart => exact ⟨f, 0, hf, Nat.le_refl _, by decide, by decide, rfl, rfl, Lib.hid ⟨rfl, rfl⟩⟩
  case round =>
    obtain ⟨k, n, hk, hfk, hn0, hn1, rfl, rfl, HR⟩ := hrel
    by_cases hlt : k < s.size
    · obtain ⟨c, hc⟩ : ∃ c, s[k].toNat = c := ⟨_, rfl⟩
      have hcb : c < 256 := by have := s[k].toNat_lt; omega
      have C := Lib.hid (digit_calls c hcb true w)
      obtain ⟨hd0, hd1⟩ := dig_bd c true
      by_cases hd : digI c true < 0
      · have ST := Lib.hid (numL_stop (hex := true) (v := n) hlt (by rw [hc]; exact hd))
        go_wp2_with fail
        refine C.out.mono ?_
        rintro e w' ⟨rfl, rfl⟩
        clear C
        go_wp2_with fail
        go_ret2
        have h := HR.out
        rw [ST.out] at h
        obtain ⟨h1, h2⟩ := h
        rw [h1, h2]
        exact ⟨by simp, rfl⟩
      · have GO := Lib.hid (numL_go (hex := true) (v := n) hlt (by rw [hc]; omega))
        have hd2 : 0 ≤ digI c true := by omega
        go_wp2_with fail
        refine C.out.mono ?_
        rintro e w' ⟨rfl, rfl⟩
        clear C
        go_wp2_with fail
        go_round
        case rel =>
          refine ⟨k + 1, min (n * 16 + digI c true) 1114112, by omega, by omega, by omega, by omega, by go_num, congrArg (Value.int .i64) (by split <;> omega), Lib.hid ?_⟩
          have h := HR.out
          rw [GO.out, hc] at h
          obtain ⟨h1, h2⟩ := h
          exact ⟨h1, by rw [h2]; simp only [baseI, cond]; omega⟩
        case measure => simp [intOf]; omega
    · have EN := Lib.hid (numL_end (hex := true) (v := n) (show s.size ≤ k by omega))
      go_wp2_with fail
      go_ret2
      have h := HR.out
      rw [EN.out] at h
      obtain ⟨h1, h2⟩ := h
      rw [h1, h2]
      exact ⟨by simp, rfl⟩
theorem number_calls (s : ByteArray) (hs : s.size ≤ 1000000000) (f : Nat) (hf : f ≤ s.size) (hex : Bool) (w : World) :
    Calls Try.prog 41 #[.string s, .int .i64 f, .int .i64 (baseI hex)] w fun e w' => e = .returned (.tuple #[.int .i64 (numL hex (s.data.toList.drop f) 0).1, .int .i64 ((f : Int) + (numL hex (s.data.toList.drop f) 0).2)]) ∧ w = w' := by
  cases hex
  · exact number_dec s hs f hf w
  · exact number_hex s hs f hf w
end Go.Proofs.Ytfjlpekoklmedaa.Ch
