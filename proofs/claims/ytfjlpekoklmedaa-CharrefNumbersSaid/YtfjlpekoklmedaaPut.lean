/- The document's Put: a rune's bytes, as the model's own encoding has them. -/
import Derived.Test.YtfjlpekoklmedaaProg
import Derived.WalkKit
import Derived.WalkLawsBesides
import Derived.WalkSpells
import Derived.Handy
import Derived.Lib.Hide
import Derived.Laws.BytesArg
namespace Go.Proofs.Ytfjlpekoklmedaa.Ct
open Go Go.RowKit

theorem ret_str {a b : ByteArray} (h : a = b) : Ending.returned (.string a) = .returned (.string b) := by rw [h]
theorem ret_int {k : IntKind} {a b : Int} (h : a = b) : Ending.returned (.int k a) = .returned (.int k b) := by rw [h]
/-- A new row of bytes, made a text. -/
theorem conv_new (xs : List Int) (n : Nat) (hn : xs.length = n) (w : World) (hc : ∀ i, i < n → (w.alloc (.cells (xs.map (Value.int .u8)).toArray 5)).cell? ⟨w.heap.size, i, none⟩ = some (.int .u8 (xs.getD i 0))) :
    (convert 48 9 (.slice (some ⟨w.heap.size, 0, none⟩) n n)).run Try.prog (w.alloc (.cells (xs.map (Value.int .u8)).toArray 5)) = .ok (.string (strOfNums xs)) (w.alloc (.cells (xs.map (Value.int .u8)).toArray 5)) :=
  run_convert_bytes_arg _ 48 5 Try.underlying48 Try.underlying5 w.heap.size 0 n n xs hn (fun i hi => by rw [Nat.zero_add]; exact hc i hi) 9 Try.underlying9
theorem conv_1 (w : World) (a : Int) :
    (convert 48 9 (.slice (some ⟨w.heap.size, 0, none⟩) 1 1)).run Try.prog (w.alloc (.cells #[.int .u8 a] 5)) = .ok (.string (strOfNums [a])) (w.alloc (.cells #[.int .u8 a] 5)) :=
  conv_new [a] 1 rfl w fun i hi => by
    match i, hi with
    | 0, _ => simp only [List.map, List.getD]; go_cell
theorem conv_2 (w : World) (a b : Int) :
    (convert 48 9 (.slice (some ⟨w.heap.size, 0, none⟩) 2 2)).run Try.prog (w.alloc (.cells #[.int .u8 a, .int .u8 b] 5)) = .ok (.string (strOfNums [a, b])) (w.alloc (.cells #[.int .u8 a, .int .u8 b] 5)) :=
  conv_new [a, b] 2 rfl w fun i hi => by
    match i, hi with
    | 0, _ => simp only [List.map, List.getD]; go_cell
    | 1, _ => simp only [List.map, List.getD]; go_cell
theorem conv_3 (w : World) (a b c : Int) :
    (convert 48 9 (.slice (some ⟨w.heap.size, 0, none⟩) 3 3)).run Try.prog (w.alloc (.cells #[.int .u8 a, .int .u8 b, .int .u8 c] 5)) = .ok (.string (strOfNums [a, b, c])) (w.alloc (.cells #[.int .u8 a, .int .u8 b, .int .u8 c] 5)) :=
  conv_new [a, b, c] 3 rfl w fun i hi => by
    match i, hi with
    | 0, _ => simp only [List.map, List.getD]; go_cell
    | 1, _ => simp only [List.map, List.getD]; go_cell
    | 2, _ => simp only [List.map, List.getD]; go_cell
theorem conv_4 (w : World) (a b c d : Int) :
    (convert 48 9 (.slice (some ⟨w.heap.size, 0, none⟩) 4 4)).run Try.prog (w.alloc (.cells #[.int .u8 a, .int .u8 b, .int .u8 c, .int .u8 d] 5)) = .ok (.string (strOfNums [a, b, c, d])) (w.alloc (.cells #[.int .u8 a, .int .u8 b, .int .u8 c, .int .u8 d] 5)) :=
  conv_new [a, b, c, d] 4 rfl w fun i hi => by
    match i, hi with
    | 0, _ => simp only [List.map, List.getD]; go_cell
    | 1, _ => simp only [List.map, List.getD]; go_cell
    | 2, _ => simp only [List.map, List.getD]; go_cell
    | 3, _ => simp only [List.map, List.getD]; go_cell
theorem valid_is (v : Int) : Utf8.valid v = true ↔ (0 ≤ v ∧ v < 55296) ∨ (57343 < v ∧ v ≤ 1114111) := by
  rw [validRune_eq]; simp [validRune]
theorem enc_bad (v : Int) (h : v < 0 ∨ 1114111 < v ∨ (55296 ≤ v ∧ v ≤ 57343)) : Utf8.encode v = ⟨#[239, 191, 189]⟩ := by
  have : Utf8.valid v = false := by
    rw [← Bool.not_eq_true, valid_is]; omega
  have e : Utf8.encode v = Utf8.encode (-1) := by unfold Utf8.encode; rw [this, show Utf8.valid (-1) = false from rfl]; rfl
  rw [e]; decide
theorem enc_1 (v : Int) (h0 : 0 ≤ v) (h1 : v < 128) : Utf8.encode v = strOfNums [v] := by
  have hv := (valid_is v).2 (by omega)
  unfold Utf8.encode; simp only [hv, if_true, show v.toNat < 128 by omega]; rfl
theorem enc_2 (v : Int) (h0 : 128 ≤ v) (h1 : v < 2048) : Utf8.encode v = strOfNums [192 + v / 64, 128 + v % 64] := by
  have hv := (valid_is v).2 (by omega)
  unfold Utf8.encode; simp only [hv, if_true, show ¬ v.toNat < 128 by omega, if_false, show v.toNat < 2048 by omega]
  unfold strOfNums
  rw [List.map_cons, List.map_cons, List.map_nil, show (192 + v / 64).toNat = 192 + v.toNat / 64 by omega, show (128 + v % 64).toNat = 128 + v.toNat % 64 by omega]
theorem enc_3 (v : Int) (h0 : 2048 ≤ v) (h1 : v < 65536) (h2 : v < 55296 ∨ 57343 < v) : Utf8.encode v = strOfNums [224 + v / 4096, 128 + v / 64 % 64, 128 + v % 64] := by
  have hv := (valid_is v).2 (by omega)
  unfold Utf8.encode; simp only [hv, if_true, show ¬ v.toNat < 128 by omega, if_false, show ¬ v.toNat < 2048 by omega, show v.toNat < 65536 by omega]
  unfold strOfNums
  rw [List.map_cons, List.map_cons, List.map_cons, List.map_nil, show (224 + v / 4096).toNat = 224 + v.toNat / 4096 by omega, show (128 + v / 64 % 64).toNat = 128 + v.toNat / 64 % 64 by omega, show (128 + v % 64).toNat = 128 + v.toNat % 64 by omega]
theorem enc_4 (v : Int) (h0 : 65536 ≤ v) (h1 : v ≤ 1114111) : Utf8.encode v = strOfNums [240 + v / 262144, 128 + v / 4096 % 64, 128 + v / 64 % 64, 128 + v % 64] := by
  have hv := (valid_is v).2 (by omega)
  unfold Utf8.encode; simp only [hv, if_true, show ¬ v.toNat < 128 by omega, if_false, show ¬ v.toNat < 2048 by omega, show ¬ v.toNat < 65536 by omega]
  unfold strOfNums
  rw [List.map_cons, List.map_cons, List.map_cons, List.map_cons, List.map_nil, show (240 + v / 262144).toNat = 240 + v.toNat / 262144 by omega, show (128 + v / 4096 % 64).toNat = 128 + v.toNat / 4096 % 64 by omega, show (128 + v / 64 % 64).toNat = 128 + v.toNat / 64 % 64 by omega, show (128 + v % 64).toNat = 128 + v.toNat % 64 by omega]
theorem rput_calls (v : Int) (_h0 : -2147483648 ≤ v) (_h1 : v ≤ 2147483647) (w : World) :
    Calls Try.prog 20 #[.int .i32 v] w fun e w' => e = .returned (.string (Utf8.encode v)) ∧ Below w.heap.size w w' := by
  by_cases c0 : v < 0
  · have H : Hid _ := Lib.hid (enc_bad v (by omega))
    go_enter Try.func20, Try.ntmps20
    go_wp2
    go_ret
    exact ⟨ret_str H.out.symm, Below.refl _ _⟩
  · by_cases c1 : 1114111 < v
    · have H : Hid _ := Lib.hid (enc_bad v (by omega))
      go_enter Try.func20, Try.ntmps20
      go_wp2
      go_ret
      exact ⟨ret_str H.out.symm, Below.refl _ _⟩
    · by_cases c2 : 55296 ≤ v ∧ v ≤ 57343
      · have H : Hid _ := Lib.hid (enc_bad v (by omega))
        obtain ⟨d0, d1⟩ := c2
        go_enter Try.func20, Try.ntmps20
        go_wp2
        go_ret
        exact ⟨ret_str H.out.symm, Below.refl _ _⟩
      · by_cases c3 : v < 128
        · have H : Hid _ := Lib.hid (enc_1 v (by omega) c3)
          have k1 := conv_1
          clear c2
          go_enter Try.func20, Try.ntmps20
          go_wp2
          go_ret
          exact ⟨ret_str H.out.symm, (Below.refl _ _).alloc (Nat.le_refl _) _⟩
        · by_cases c4 : v < 2048
          · have H : Hid _ := Lib.hid (enc_2 v (by omega) c4)
            have k1 := conv_2
            clear c2
            go_enter Try.func20, Try.ntmps20
            go_wp2
            go_ret
            exact ⟨ret_str H.out.symm, (Below.refl _ _).alloc (Nat.le_refl _) _⟩
          · by_cases c5 : v < 65536
            · have H : Hid _ := Lib.hid (enc_3 v (by omega) c5 (by omega))
              have k1 := conv_3
              rcases (show v < 55296 ∨ 57343 < v by omega) with d | d
              all_goals
                clear c2
                go_enter Try.func20, Try.ntmps20
                go_wp2
                go_ret
                exact ⟨ret_str H.out.symm, (Below.refl _ _).alloc (Nat.le_refl _) _⟩
            · have H : Hid _ := Lib.hid (enc_4 v (by omega) (by omega))
              have k1 := conv_4
              clear c2
              go_enter Try.func20, Try.ntmps20
              go_wp2
              go_ret
              exact ⟨ret_str H.out.symm, (Below.refl _ _).alloc (Nat.le_refl _) _⟩
end Go.Proofs.Ytfjlpekoklmedaa.Ct
