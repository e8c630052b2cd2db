/- CharrefPlain, walked. -/
import Derived.Test.YtfjlpekoklmedaaNums
import Derived.Test.YtfjlpekoklmedaaPlace
import Derived.Deep.DeepCutAuto
namespace Go.Proofs.Ytfjlpekoklmedaa.Wk
open Go Go.RowKit Go.Proofs.Ytfjlpekoklmedaa.Ch Go.Proofs.Ytfjlpekoklmedaa.Gr Go.Proofs.Ytfjlpekoklmedaa.Ct Go.Proofs.Ytfjlpekoklmedaa.Sr
set_option linter.unusedVariables false
set_option maxRecDepth 100000

def tenS : ByteArray := ⟨#[48, 49, 50, 51, 52, 53, 54, 55, 56, 57]⟩
theorem ten_cut (v : Nat) : ((⟨#[48, 49, 50, 51, 52, 53, 54, 55, 56, 57]⟩ : ByteArray).extract (v % 10) (v % 10 + 1)).data.toList = [dch (v % 10)] := by
  have h : ∀ k : Fin 10, ((⟨#[48, 49, 50, 51, 52, 53, 54, 55, 56, 57]⟩ : ByteArray).extract k.val (k.val + 1)).data.toList = [dch k.val] := by decide
  exact h ⟨v % 10, Nat.mod_lt _ (by decide)⟩
structure DigI (b : Nat) (ch : Nat → UInt8) (k m v : Nat) (d : ByteArray) : Prop where
  eq : dgF b ch m v ++ d.data.toList = dgF b ch 7 k
  lt : v < b ^ m
  le : m ≤ 7
  sz : d.size + m ≤ 7
set_option maxHeartbeats 4000000 in
theorem charrefPlain (a b : ByteArray) (n : Int) (w0 : a.size ≤ maxLen) (w1 : b.size ≤ maxLen) (w2 : (Lit.int .i64 n).wf = true) (w : World) :
    Calls Try.prog 10 #[.string a, .string b, .int .i64 n] w fun e w' => e = .returned (.bool true) ∧ Below w.heap.size w w' := by
  by_cases hl : 1000 < a.size
  · go_enter Try.func10, Try.ntmps10
    go_wp2_with fail
    refine (cawake_calls _).mono ?_
    rintro e w1 ⟨rfl, hb⟩
    go_wp2_with fail
    go_ret
    exact ⟨rfl, hb⟩
  by_cases hl2 : 1000 < b.size
  · go_enter Try.func10, Try.ntmps10
    go_wp2_with fail
    refine (cawake_calls _).mono ?_
    rintro e w1 ⟨rfl, hb⟩
    go_wp2_with fail
    go_ret
    exact ⟨rfl, hb⟩
  have has : a.size ≤ 1000 := by omega
  have hbs : b.size ≤ 1000 := by omega
  have z1 : a.size + b.size ≤ maxLen := by unfold maxLen; omega
  have hab : (a ++ b).size = a.size + b.size := ByteArray.size_append
  have HAB := Lib.hid hab
  clear w0 w1 hl hl2 hab
  go_enter Try.func10, Try.ntmps10
  go_wp2_with fail
  go_loop [7] (fun t => ∃ i : Nat, i ≤ a.size + b.size ∧ t = .int .i64 i ∧ Hid (∀ j (hj : j < (a ++ b).size), j < i → ¬ (a ++ b)[j].toNat = 38)) (fun t => a.size + b.size - (intOf t).toNat)
  case atStart => exact ⟨0, Nat.zero_le _, rfl, Lib.hid (fun j _ h => absurd h (Nat.not_lt_zero _))⟩
  case round =>
    obtain ⟨i, hi, rfl, HI⟩ := hrel
    by_cases hlt : i < a.size + b.size
    · have hlt2 : i < (a ++ b).size := by rw [HAB.out]; exact hlt
      obtain ⟨c, hc⟩ : ∃ c, (a ++ b)[i].toNat = c := ⟨_, rfl⟩
      have hi0 : ∀ w : World, (Instr.index 9 (.string (a ++ b)) (.int .i64 (i : Int))).run Try.prog w = .ok (.int .u8 c) w := fun w => run_at (a ++ b) i hlt2 rfl hc w
      have HC := Lib.hid hc
      clear hc
      by_cases h38 : c = 38
      · subst h38
        go_wp2_with fail
        refine (cawake_calls _).mono ?_
        rintro e w1 ⟨rfl, hb⟩
        go_wp2_with fail
        go_ret
        exact ⟨rfl, hb⟩
      · have q1 : ((c : Int) == 38) = false := by rw [beq_eq_false_iff_ne]; omega
        go_wp2_with fail
        go_round
        case rel => exact ⟨i + 1, hlt, by go_num, Lib.hid (fun j hj hji => by
          by_cases e : j = i
          · subst e; exact fun h => h38 (HC.out.symm.trans h)
          · exact HI.out j hj (by omega))⟩
        case measure => simp [intOf]; omega
    · obtain rfl : i = a.size + b.size := by omega
      have HA : Hid (∀ j (hj : j < a.size), ¬ a[j].toNat = 38) := Lib.hid (fun j hj => by
        have hj2 : j < (a ++ b).size := by rw [HAB.out]; omega
        have := HI.out j hj2 (by omega)
        have hg : (a ++ b)[j] = a[j] := by
          have h2 := byte_at hj2
          rw [app_list, List.getElem?_append_left (show j < a.data.toList.length from hj), byte_at hj] at h2
          injection h2 with h2; exact h2.symm
        rwa [hg] at this)
      have HBb : Hid (∀ j (hj : j < b.size), ¬ b[j].toNat = 38) := Lib.hid (fun j hj => by
        have hj2 : a.size + j < (a ++ b).size := by rw [HAB.out]; omega
        have := HI.out (a.size + j) hj2 (by omega)
        rwa [sh_get a b j hj hj2] at this)
      clear HI hi hlt
      go_wp2_with fail
      refine (place_calls _ 50000 (by decide) (by decide) _).mono ?_
      rintro e w6 ⟨⟨p, hp, rfl⟩, rfl⟩
      go_upto_region 9 with (fail)
      obtain ⟨k, hk⟩ : ∃ k : Nat, 256 + (p : Int) = (k : Int) := ⟨256 + p, by omega⟩
      have hk0 : (256 : Int) ≤ (k : Int) := by omega
      have hk1 : (k : Int) ≤ 50255 := by omega
      rw [hk]
      clear hk hp
      have KK := Lib.hid (And.intro hk0 hk1)
      have hk2 : (0 : Int) ≤ (k : Int) := by omega
      clear hk0
      by_cases hsur : (55296 : Int) ≤ (k : Int) ∧ (k : Int) ≤ 57343
      · exfalso; omega
      · have hs : (k : Int) < 55296 := by omega
        have q5 : decide ((55296 : Int) ≤ (k : Int)) = false := decide_eq_false (by omega)
        clear hsur
        go_wp2_with fail
        go_loop [9, 10] (fun t9 t10 => ∃ (m v : Nat) (d : ByteArray), t9 = .string d ∧ t10 = .int .i64 v ∧ d.size ≤ 7 ∧ Hid (DigI 10 dch k m v d)) (fun _ t10 => (intOf t10).toNat)
        case atStart => exact ⟨7, k, _, rfl, rfl, by decide, Lib.hid ⟨by simp, by have := KK.out; omega, Nat.le_refl _, by decide⟩⟩
        case round =>
          obtain ⟨m, v, d, rfl, rfl, hds, HD⟩ := hrel
          have hv9 := HD.out.lt
          have hml := HD.out.le
          by_cases hv0 : 0 < v
          · obtain ⟨m, rfl⟩ : ∃ m', m = m' + 1 := ⟨m - 1, by
              rcases Nat.eq_zero_or_pos m with h | h
              · subst h; simp at hv9; omega
              · omega⟩
            have hvb : v < 10000000 := Nat.lt_of_lt_of_le hv9 (Nat.pow_le_pow_right (by decide) hml)
            have hvb2 : (v : Int) < 10000000 := by omega
            clear hv9 hvb
            have hsz := HD.out.sz
            have hz : ((⟨#[48, 49, 50, 51, 52, 53, 54, 55, 56, 57]⟩ : ByteArray).extract (v % 10) (v % 10 + 1)).size + d.size ≤ maxLen := by rw [ByteArray.size_extract]; unfold maxLen; omega
            go_wp2_with fail
            refine ⟨⟨m, v / 10, _, rfl, slot_int (by omega), ?_, Lib.hid ⟨?_, ?_, ?_, ?_⟩⟩, ?_⟩
            · rw [ByteArray.size_append, ByteArray.size_extract]; omega
            · have h := HD.out.eq
              rw [dgF_succ _ _ _ _ hv0, List.append_assoc] at h
              rw [app_list, ten_cut]
              exact h
            · exact Nat.div_lt_of_lt_mul (by rw [← Nat.pow_succ']; exact HD.out.lt)
            · omega
            · rw [ByteArray.size_append, ByteArray.size_extract]; omega
            · simp [intOf]; omega
          · obtain rfl : v = 0 := by omega
            have hdl : d.data.toList = dgF 10 dch 7 k := by
              have h := HD.out.eq
              rwa [dgF_zero, List.nil_append] at h
            have hkn := KK.out
            have P1 := Lib.hid (plain_own a false HA.out)
            have P2 := Lib.hid (plain_num a b d k (by omega) (by omega) hdl HA.out HBb.out)
            have P3 := Lib.hid (plain_lt a b HA.out HBb.out)
            have he := enc_size (k : Int)
            have z2 : a.size + (⟨#[38, 35]⟩ : ByteArray).size ≤ maxLen := by show a.size + 2 ≤ 9223372036854775807; omega
            have z3 : (a ++ (⟨#[38, 35]⟩ : ByteArray)).size + d.size ≤ maxLen := by rw [ByteArray.size_append]; show a.size + 2 + d.size ≤ 9223372036854775807; omega
            have z4 : (a ++ (⟨#[38, 35]⟩ : ByteArray) ++ d).size + (⟨#[59]⟩ : ByteArray).size ≤ maxLen := by rw [ByteArray.size_append, ByteArray.size_append]; show a.size + 2 + d.size + 1 ≤ 9223372036854775807; omega
            have z5 : (a ++ (⟨#[38, 35]⟩ : ByteArray) ++ d ++ (⟨#[59]⟩ : ByteArray)).size + b.size ≤ maxLen := by rw [ByteArray.size_append, ByteArray.size_append, ByteArray.size_append]; show a.size + 2 + d.size + 1 + b.size ≤ 9223372036854775807; omega
            have z6 : a.size + (Utf8.encode (k : Int)).size ≤ maxLen := by unfold maxLen; omega
            have z7 : (a ++ Utf8.encode (k : Int)).size + b.size ≤ maxLen := by rw [ByteArray.size_append]; unfold maxLen; omega
            have z8 : a.size + (⟨#[38, 108, 116, 59]⟩ : ByteArray).size ≤ maxLen := by show a.size + 4 ≤ 9223372036854775807; omega
            have z9 : (a ++ (⟨#[38, 108, 116, 59]⟩ : ByteArray)).size + b.size ≤ maxLen := by rw [ByteArray.size_append]; show a.size + 4 + b.size ≤ 9223372036854775807; omega
            have za : a.size + (⟨#[60]⟩ : ByteArray).size ≤ maxLen := by show a.size + 1 ≤ 9223372036854775807; omega
            have zb : (a ++ (⟨#[60]⟩ : ByteArray)).size + b.size ≤ maxLen := by rw [ByteArray.size_append]; show a.size + 1 + b.size ≤ 9223372036854775807; omega
            have D1 := Lib.hid (decode_calls a (by omega) false)
            have D2 := Lib.hid (decode_calls (a ++ (⟨#[38, 35]⟩ : ByteArray) ++ d ++ (⟨#[59]⟩ : ByteArray) ++ b) (by rw [ByteArray.size_append, ByteArray.size_append, ByteArray.size_append, ByteArray.size_append]; show a.size + 2 + d.size + 1 + b.size ≤ 1000000; omega) false)
            have D3 := Lib.hid (decode_calls (a ++ (⟨#[38, 108, 116, 59]⟩ : ByteArray) ++ b) (by rw [ByteArray.size_append, ByteArray.size_append]; show a.size + 4 + b.size ≤ 1000000; omega) true)
            have HDL := Lib.hid hdl
            clear hdl hkn hv9 hml KK HD HDL
            generalize (k : Int) = kI at z6 z7 P2 he hk1 hk2 hs q5 ⊢
            go_wp2_with fail
            refine (D1.out _).mono ?_
            rintro e w1 ⟨rfl, hb⟩
            have HB1 := Lib.hid hb
            rw [P1.out]
            clear hb
            go_wp2_with fail
            refine (D2.out _).mono ?_
            rintro e w2 ⟨rfl, hb⟩
            have HB2 := Lib.hid (HB1.out.trans (hb.mono HB1.out.size))
            rw [P2.out]
            clear hb
            go_wp2_with fail
            refine (D3.out _).mono ?_
            rintro e w3 ⟨rfl, hb⟩
            have HB3 := Lib.hid (HB2.out.trans (hb.mono HB2.out.size))
            rw [P3.out]
            clear hb
            go_wp2_with fail
            refine (cawake_calls _).mono ?_
            rintro e w7 ⟨rfl, hb⟩
            have HB7 := Lib.hid (HB3.out.trans (hb.mono HB3.out.size))
            clear hb
            go_wp2_with fail
            go_ret
            exact ⟨rfl, HB7.out⟩
end Go.Proofs.Ytfjlpekoklmedaa.Wk
