/- The document's Put: a rune's bytes, as the model's own encoding has them. -/
import Derived.Test.YtbdgoffbkenofaaGreatProg
import Derived.WalkKit
import Derived.WalkLawsBesides
import Derived.WalkSpells
import Derived.Handy
import Derived.Lib.Hide
import Derived.Laws.BytesArg
import Derived.Great.Walk
import Derived.Great.BuildSlice
import Derived.Deep.WholeRow
namespace Go.Proofs.YtbdgoffbkenofaaGreat.Ct
open Go Go.RowKit

theorem ret_str {a b : ByteArray} (h : a = b) : Ending.returned (.string a) = .returned (.string b) := by rw [h]
theorem ret_int {k : IntKind} {a b : Int} (h : a = b) : Ending.returned (.int k a) = .returned (.int k b) := by rw [h]
/-- A new row of bytes, made a text. -/
theorem conv_new (xs : List Int) (n : Nat) (hn : xs.length = n) (w : World) (hc : ∀ i, i < n → (w.alloc (.cells (xs.map (Value.int .u8)).toArray 5)).cell? ⟨w.heap.size, i, none⟩ = some (.int .u8 (xs.getD i 0))) :
    (convert 49 9 (.slice (some ⟨w.heap.size, 0, none⟩) n n)).run Tryz.prog (w.alloc (.cells (xs.map (Value.int .u8)).toArray 5)) = .ok (.string (strOfNums xs)) (w.alloc (.cells (xs.map (Value.int .u8)).toArray 5)) :=
  run_convert_bytes_arg _ 49 5 Tryz.underlying49 Tryz.underlying5 w.heap.size 0 n n xs hn (fun i hi => by rw [Nat.zero_add]; exact hc i hi) 9 Tryz.underlying9
theorem conv_1 (w : World) (a : Int) :
    (convert 49 9 (.slice (some ⟨w.heap.size, 0, none⟩) 1 1)).run Tryz.prog (w.alloc (.cells #[.int .u8 a] 5)) = .ok (.string (strOfNums [a])) (w.alloc (.cells #[.int .u8 a] 5)) :=
  conv_new [a] 1 rfl w fun i hi => by
    match i, hi with
    | 0, _ => simp only [List.map, List.getD]; go_cell
theorem conv_2 (w : World) (a b : Int) :
    (convert 49 9 (.slice (some ⟨w.heap.size, 0, none⟩) 2 2)).run Tryz.prog (w.alloc (.cells #[.int .u8 a, .int .u8 b] 5)) = .ok (.string (strOfNums [a, b])) (w.alloc (.cells #[.int .u8 a, .int .u8 b] 5)) :=
  conv_new [a, b] 2 rfl w fun i hi => by
    match i, hi with
    | 0, _ => simp only [List.map, List.getD]; go_cell
    | 1, _ => simp only [List.map, List.getD]; go_cell
theorem conv_3 (w : World) (a b c : Int) :
    (convert 49 9 (.slice (some ⟨w.heap.size, 0, none⟩) 3 3)).run Tryz.prog (w.alloc (.cells #[.int .u8 a, .int .u8 b, .int .u8 c] 5)) = .ok (.string (strOfNums [a, b, c])) (w.alloc (.cells #[.int .u8 a, .int .u8 b, .int .u8 c] 5)) :=
  conv_new [a, b, c] 3 rfl w fun i hi => by
    match i, hi with
    | 0, _ => simp only [List.map, List.getD]; go_cell
    | 1, _ => simp only [List.map, List.getD]; go_cell
    | 2, _ => simp only [List.map, List.getD]; go_cell
theorem conv_4 (w : World) (a b c d : Int) :
    (convert 49 9 (.slice (some ⟨w.heap.size, 0, none⟩) 4 4)).run Tryz.prog (w.alloc (.cells #[.int .u8 a, .int .u8 b, .int .u8 c, .int .u8 d] 5)) = .ok (.string (strOfNums [a, b, c, d])) (w.alloc (.cells #[.int .u8 a, .int .u8 b, .int .u8 c, .int .u8 d] 5)) :=
  conv_new [a, b, c, d] 4 rfl w fun i hi => by
    match i, hi with
    | 0, _ => simp only [List.map, List.getD]; go_cell
    | 1, _ => simp only [List.map, List.getD]; go_cell
    | 2, _ => simp only [List.map, List.getD]; go_cell
    | 3, _ => simp only [List.map, List.getD]; go_cell
theorem valid_is (v : Int) : Utf8.valid v = true ↔ (0 ≤ v ∧ v < 55296) ∨ (57343 < v ∧ v ≤ 1114111) := by
  rw [validRune_eq]; simp [validRune]
theorem enc_bad (v : Int) (h : v < 0 ∨ 1114111 < v ∨ (55296 ≤ v ∧ v ≤ 57343)) : Utf8.encode v = ⟨#[239, 191, 189]⟩ := by
  have : Utf8.valid v = false := by
    rw [← Bool.not_eq_true, valid_is]; omega
  have e : Utf8.encode v = Utf8.encode (-1) := by unfold Utf8.encode; rw [this, show Utf8.valid (-1) = false from rfl]; rfl
  rw [e]; decide
theorem enc_1 (v : Int) (h0 : 0 ≤ v) (h1 : v < 128) : Utf8.encode v = strOfNums [v] := by
  have hv := (valid_is v).2 (by omega)
  unfold Utf8.encode; simp only [hv, if_true, show v.toNat < 128 by omega]; rfl
theorem enc_2 (v : Int) (h0 : 128 ≤ v) (h1 : v < 2048) : Utf8.encode v = strOfNums [192 + v / 64, 128 + v % 64] := by
  have hv := (valid_is v).2 (by omega)
  unfold Utf8.encode; simp only [hv, if_true, show ¬ v.toNat < 128 by omega, if_false, show v.toNat < 2048 by omega]
  unfold strOfNums
  rw [List.map_cons, List.map_cons, List.map_nil, show (192 + v / 64).toNat = 192 + v.toNat / 64 by omega, show (128 + v % 64).toNat = 128 + v.toNat % 64 by omega]
theorem enc_3 (v : Int) (h0 : 2048 ≤ v) (h1 : v < 65536) (h2 : v < 55296 ∨ 57343 < v) : Utf8.encode v = strOfNums [224 + v / 4096, 128 + v / 64 % 64, 128 + v % 64] := by
  have hv := (valid_is v).2 (by omega)
  unfold Utf8.encode; simp only [hv, if_true, show ¬ v.toNat < 128 by omega, if_false, show ¬ v.toNat < 2048 by omega, show v.toNat < 65536 by omega]
  unfold strOfNums
  rw [List.map_cons, List.map_cons, List.map_cons, List.map_nil, show (224 + v / 4096).toNat = 224 + v.toNat / 4096 by omega, show (128 + v / 64 % 64).toNat = 128 + v.toNat / 64 % 64 by omega, show (128 + v % 64).toNat = 128 + v.toNat % 64 by omega]
theorem enc_4 (v : Int) (h0 : 65536 ≤ v) (h1 : v ≤ 1114111) : Utf8.encode v = strOfNums [240 + v / 262144, 128 + v / 4096 % 64, 128 + v / 64 % 64, 128 + v % 64] := by
  have hv := (valid_is v).2 (by omega)
  unfold Utf8.encode; simp only [hv, if_true, show ¬ v.toNat < 128 by omega, if_false, show ¬ v.toNat < 2048 by omega, show ¬ v.toNat < 65536 by omega]
  unfold strOfNums
  rw [List.map_cons, List.map_cons, List.map_cons, List.map_cons, List.map_nil, show (240 + v / 262144).toNat = 240 + v.toNat / 262144 by omega, show (128 + v / 4096 % 64).toNat = 128 + v.toNat / 4096 % 64 by omega, show (128 + v / 64 % 64).toNat = 128 + v.toNat / 64 % 64 by omega, show (128 + v % 64).toNat = 128 + v.toNat % 64 by omega]
theorem rput_calls (v : Int) (_h0 : -2147483648 ≤ v) (_h1 : v ≤ 2147483647) (w : World) :
    Calls Tryz.prog 71 #[.int .i32 v] w fun e w' => e = .returned (.string (Utf8.encode v)) ∧ Below w.heap.size w w' := by
  by_cases c0 : v < 0
  · have H : Hid _ := Lib.hid (enc_bad v (by omega))
    go_enter Tryz.func71, Tryz.ntmps71
    go_wp2
    go_ret
    exact ⟨ret_str H.out.symm, Below.refl _ _⟩
  · by_cases c1 : 1114111 < v
    · have H : Hid _ := Lib.hid (enc_bad v (by omega))
      go_enter Tryz.func71, Tryz.ntmps71
      go_wp2
      go_ret
      exact ⟨ret_str H.out.symm, Below.refl _ _⟩
    · by_cases c2 : 55296 ≤ v ∧ v ≤ 57343
      · have H : Hid _ := Lib.hid (enc_bad v (by omega))
        obtain ⟨d0, d1⟩ := c2
        go_enter Tryz.func71, Tryz.ntmps71
        go_wp2
        go_ret
        exact ⟨ret_str H.out.symm, Below.refl _ _⟩
      · by_cases c3 : v < 128
        · have H : Hid _ := Lib.hid (enc_1 v (by omega) c3)
          have k1 := conv_1
          clear c2
          go_enter Tryz.func71, Tryz.ntmps71
          go_wp2
          go_ret
          exact ⟨ret_str H.out.symm, (Below.refl _ _).alloc (Nat.le_refl _) _⟩
        · by_cases c4 : v < 2048
          · have H : Hid _ := Lib.hid (enc_2 v (by omega) c4)
            have k1 := conv_2
            clear c2
            go_enter Tryz.func71, Tryz.ntmps71
            go_wp2
            go_ret
            exact ⟨ret_str H.out.symm, (Below.refl _ _).alloc (Nat.le_refl _) _⟩
          · by_cases c5 : v < 65536
            · have H : Hid _ := Lib.hid (enc_3 v (by omega) c5 (by omega))
              have k1 := conv_3
              rcases (show v < 55296 ∨ 57343 < v by omega) with d | d
              all_goals
                clear c2
                go_enter Tryz.func71, Tryz.ntmps71
                go_wp2
                go_ret
                exact ⟨ret_str H.out.symm, (Below.refl _ _).alloc (Nat.le_refl _) _⟩
            · have H : Hid _ := Lib.hid (enc_4 v (by omega) (by omega))
              have k1 := conv_4
              clear c2
              go_enter Tryz.func71, Tryz.ntmps71
              go_wp2
              go_ret
              exact ⟨ret_str H.out.symm, (Below.refl _ _).alloc (Nat.le_refl _) _⟩
end Go.Proofs.YtbdgoffbkenofaaGreat.Ct
namespace Go.Proofs.YtbdgoffbkenofaaGreat.Ct
open Go Go.RowKit

/-! ### Code -/
def codes : List Int := [8364, 129, 8218, 402, 8222, 8230, 8224, 8225, 710, 8240, 352, 8249, 338, 141, 381, 143, 144, 8216, 8217, 8220, 8221, 8226, 8211, 8212, 732, 8482, 353, 8250, 339, 157, 382, 376]
def codeAt (k : Nat) : Int := codes.getD k 0
/-- A number's rune. -/
def code (n : Int) : Int := if n ≤ 0 ∨ 1114111 < n ∨ (55296 ≤ n ∧ n ≤ 57343) then 65533 else if 128 ≤ n ∧ n ≤ 159 then codeAt (n - 128).toNat else n
theorem code_bad {n : Int} (h : n ≤ 0 ∨ 1114111 < n ∨ (55296 ≤ n ∧ n ≤ 57343)) : code n = 65533 := if_pos h
theorem code_at128 (k : Nat) (h : k < 32) : code (128 + (k : Int)) = codeAt k := by
  unfold code; rw [if_neg (by omega), if_pos (by omega), show (128 + (k : Int) - 128).toNat = k by omega]
theorem code_own {n : Int} (h0 : 0 < n) (h1 : n ≤ 1114111) (h2 : n < 55296 ∨ 57343 < n) (h3 : n < 128 ∨ 159 < n) : code n = n := by
  unfold code; rw [if_neg (by omega), if_neg (by omega)]
theorem codes_small : ∀ x ∈ codes, 0 ≤ x ∧ x ≤ 65533 := by decide
theorem codeAt_small (k : Nat) : 0 ≤ codeAt k ∧ codeAt k ≤ 65533 := by
  unfold codeAt
  rcases Nat.lt_or_ge k codes.length with h | h
  · have e : codes.getD k 0 = codes[k] := by simp [List.getD, h]
    rw [e]; exact codes_small _ (List.getElem_mem h)
  · have e : codes.getD k 0 = 0 := by simp [List.getD, h]
    rw [e]; decide
theorem code_small (n : Int) : 0 ≤ code n ∧ code n ≤ 1114111 := by
  unfold code
  split
  · omega
  · split
    · have := codeAt_small (n - 128).toNat; omega
    · omega
theorem cell_new (w : World) (c : Array Value) (t : TypeId) (i : Nat) : (w.alloc (.cells c t)).cell? ⟨w.heap.size, i, none⟩ = c[i]? := by
  have h := (MapKept.heap_alloc w (.cells c t)).1
  show (match (w.alloc (.cells c t)).heap[w.heap.size]? with | some (.cells c _ _) => c[i]? | _ => none) = _
  rw [h]
def codeCells : Array Value := #[.int .i32 8364, .int .i32 129, .int .i32 8218, .int .i32 402, .int .i32 8222, .int .i32 8230, .int .i32 8224, .int .i32 8225, .int .i32 710, .int .i32 8240, .int .i32 352, .int .i32 8249, .int .i32 338, .int .i32 141, .int .i32 381, .int .i32 143, .int .i32 144, .int .i32 8216, .int .i32 8217, .int .i32 8220, .int .i32 8221, .int .i32 8226, .int .i32 8211, .int .i32 8212, .int .i32 732, .int .i32 8482, .int .i32 353, .int .i32 8250, .int .i32 339, .int .i32 157, .int .i32 382, .int .i32 376]
theorem code_at : ∀ k : Fin 32, codeCells[k.val]? = some (.int .i32 (codeAt k.val)) := by
  intro k
  rcases k with ⟨k, hk⟩
  rcases (show k = 0 ∨ k = 1 ∨ k = 2 ∨ k = 3 ∨ k = 4 ∨ k = 5 ∨ k = 6 ∨ k = 7 ∨ k = 8 ∨ k = 9 ∨ k = 10 ∨ k = 11 ∨ k = 12 ∨ k = 13 ∨ k = 14 ∨ k = 15 ∨ k = 16 ∨ k = 17 ∨ k = 18 ∨ k = 19 ∨ k = 20 ∨ k = 21 ∨ k = 22 ∨ k = 23 ∨ k = 24 ∨ k = 25 ∨ k = 26 ∨ k = 27 ∨ k = 28 ∨ k = 29 ∨ k = 30 ∨ k = 31 by omega) with rfl | rfl | rfl | rfl | rfl | rfl | rfl | rfl | rfl | rfl | rfl | rfl | rfl | rfl | rfl | rfl | rfl | rfl | rfl | rfl | rfl | rfl | rfl | rfl | rfl | rfl | rfl | rfl | rfl | rfl | rfl | rfl <;> rfl
theorem code_cell (k : Nat) (hk : k < 32) (w : World) : (w.alloc (.cells codeCells 107)).cell? ⟨w.heap.size, k, none⟩ = some (.int .i32 (codeAt k)) :=
  (cell_new ..).trans (code_at ⟨k, hk⟩)
def codeV : Value := .agg codeCells
theorem code_idx_0 (w : World) : (Instr.index 107 codeV (.int .i64 ((0 : Nat) : Int))).run Tryz.prog w = .ok (.int .i32 (codeAt 0)) w := by kernel_rfl
theorem code_idx_1 (w : World) : (Instr.index 107 codeV (.int .i64 ((1 : Nat) : Int))).run Tryz.prog w = .ok (.int .i32 (codeAt 1)) w := by kernel_rfl
theorem code_idx_2 (w : World) : (Instr.index 107 codeV (.int .i64 ((2 : Nat) : Int))).run Tryz.prog w = .ok (.int .i32 (codeAt 2)) w := by kernel_rfl
theorem code_idx_3 (w : World) : (Instr.index 107 codeV (.int .i64 ((3 : Nat) : Int))).run Tryz.prog w = .ok (.int .i32 (codeAt 3)) w := by kernel_rfl
theorem code_idx_4 (w : World) : (Instr.index 107 codeV (.int .i64 ((4 : Nat) : Int))).run Tryz.prog w = .ok (.int .i32 (codeAt 4)) w := by kernel_rfl
theorem code_idx_5 (w : World) : (Instr.index 107 codeV (.int .i64 ((5 : Nat) : Int))).run Tryz.prog w = .ok (.int .i32 (codeAt 5)) w := by kernel_rfl
theorem code_idx_6 (w : World) : (Instr.index 107 codeV (.int .i64 ((6 : Nat) : Int))).run Tryz.prog w = .ok (.int .i32 (codeAt 6)) w := by kernel_rfl
theorem code_idx_7 (w : World) : (Instr.index 107 codeV (.int .i64 ((7 : Nat) : Int))).run Tryz.prog w = .ok (.int .i32 (codeAt 7)) w := by kernel_rfl
theorem code_idx_8 (w : World) : (Instr.index 107 codeV (.int .i64 ((8 : Nat) : Int))).run Tryz.prog w = .ok (.int .i32 (codeAt 8)) w := by kernel_rfl
theorem code_idx_9 (w : World) : (Instr.index 107 codeV (.int .i64 ((9 : Nat) : Int))).run Tryz.prog w = .ok (.int .i32 (codeAt 9)) w := by kernel_rfl
theorem code_idx_10 (w : World) : (Instr.index 107 codeV (.int .i64 ((10 : Nat) : Int))).run Tryz.prog w = .ok (.int .i32 (codeAt 10)) w := by kernel_rfl
theorem code_idx_11 (w : World) : (Instr.index 107 codeV (.int .i64 ((11 : Nat) : Int))).run Tryz.prog w = .ok (.int .i32 (codeAt 11)) w := by kernel_rfl
theorem code_idx_12 (w : World) : (Instr.index 107 codeV (.int .i64 ((12 : Nat) : Int))).run Tryz.prog w = .ok (.int .i32 (codeAt 12)) w := by kernel_rfl
theorem code_idx_13 (w : World) : (Instr.index 107 codeV (.int .i64 ((13 : Nat) : Int))).run Tryz.prog w = .ok (.int .i32 (codeAt 13)) w := by kernel_rfl
theorem code_idx_14 (w : World) : (Instr.index 107 codeV (.int .i64 ((14 : Nat) : Int))).run Tryz.prog w = .ok (.int .i32 (codeAt 14)) w := by kernel_rfl
theorem code_idx_15 (w : World) : (Instr.index 107 codeV (.int .i64 ((15 : Nat) : Int))).run Tryz.prog w = .ok (.int .i32 (codeAt 15)) w := by kernel_rfl
theorem code_idx_16 (w : World) : (Instr.index 107 codeV (.int .i64 ((16 : Nat) : Int))).run Tryz.prog w = .ok (.int .i32 (codeAt 16)) w := by kernel_rfl
theorem code_idx_17 (w : World) : (Instr.index 107 codeV (.int .i64 ((17 : Nat) : Int))).run Tryz.prog w = .ok (.int .i32 (codeAt 17)) w := by kernel_rfl
theorem code_idx_18 (w : World) : (Instr.index 107 codeV (.int .i64 ((18 : Nat) : Int))).run Tryz.prog w = .ok (.int .i32 (codeAt 18)) w := by kernel_rfl
theorem code_idx_19 (w : World) : (Instr.index 107 codeV (.int .i64 ((19 : Nat) : Int))).run Tryz.prog w = .ok (.int .i32 (codeAt 19)) w := by kernel_rfl
theorem code_idx_20 (w : World) : (Instr.index 107 codeV (.int .i64 ((20 : Nat) : Int))).run Tryz.prog w = .ok (.int .i32 (codeAt 20)) w := by kernel_rfl
theorem code_idx_21 (w : World) : (Instr.index 107 codeV (.int .i64 ((21 : Nat) : Int))).run Tryz.prog w = .ok (.int .i32 (codeAt 21)) w := by kernel_rfl
theorem code_idx_22 (w : World) : (Instr.index 107 codeV (.int .i64 ((22 : Nat) : Int))).run Tryz.prog w = .ok (.int .i32 (codeAt 22)) w := by kernel_rfl
theorem code_idx_23 (w : World) : (Instr.index 107 codeV (.int .i64 ((23 : Nat) : Int))).run Tryz.prog w = .ok (.int .i32 (codeAt 23)) w := by kernel_rfl
theorem code_idx_24 (w : World) : (Instr.index 107 codeV (.int .i64 ((24 : Nat) : Int))).run Tryz.prog w = .ok (.int .i32 (codeAt 24)) w := by kernel_rfl
theorem code_idx_25 (w : World) : (Instr.index 107 codeV (.int .i64 ((25 : Nat) : Int))).run Tryz.prog w = .ok (.int .i32 (codeAt 25)) w := by kernel_rfl
theorem code_idx_26 (w : World) : (Instr.index 107 codeV (.int .i64 ((26 : Nat) : Int))).run Tryz.prog w = .ok (.int .i32 (codeAt 26)) w := by kernel_rfl
theorem code_idx_27 (w : World) : (Instr.index 107 codeV (.int .i64 ((27 : Nat) : Int))).run Tryz.prog w = .ok (.int .i32 (codeAt 27)) w := by kernel_rfl
theorem code_idx_28 (w : World) : (Instr.index 107 codeV (.int .i64 ((28 : Nat) : Int))).run Tryz.prog w = .ok (.int .i32 (codeAt 28)) w := by kernel_rfl
theorem code_idx_29 (w : World) : (Instr.index 107 codeV (.int .i64 ((29 : Nat) : Int))).run Tryz.prog w = .ok (.int .i32 (codeAt 29)) w := by kernel_rfl
theorem code_idx_30 (w : World) : (Instr.index 107 codeV (.int .i64 ((30 : Nat) : Int))).run Tryz.prog w = .ok (.int .i32 (codeAt 30)) w := by kernel_rfl
theorem code_idx_31 (w : World) : (Instr.index 107 codeV (.int .i64 ((31 : Nat) : Int))).run Tryz.prog w = .ok (.int .i32 (codeAt 31)) w := by kernel_rfl
theorem code_index (k : Nat) (hk : k < 32) (w : World) : (Instr.index 107 codeV (.int .i64 k)).run Tryz.prog w = .ok (.int .i32 (codeAt k)) w := by
  rcases (show k = 0 ∨ k = 1 ∨ k = 2 ∨ k = 3 ∨ k = 4 ∨ k = 5 ∨ k = 6 ∨ k = 7 ∨ k = 8 ∨ k = 9 ∨ k = 10 ∨ k = 11 ∨ k = 12 ∨ k = 13 ∨ k = 14 ∨ k = 15 ∨ k = 16 ∨ k = 17 ∨ k = 18 ∨ k = 19 ∨ k = 20 ∨ k = 21 ∨ k = 22 ∨ k = 23 ∨ k = 24 ∨ k = 25 ∨ k = 26 ∨ k = 27 ∨ k = 28 ∨ k = 29 ∨ k = 30 ∨ k = 31 by omega) with rfl | rfl | rfl | rfl | rfl | rfl | rfl | rfl | rfl | rfl | rfl | rfl | rfl | rfl | rfl | rfl | rfl | rfl | rfl | rfl | rfl | rfl | rfl | rfl | rfl | rfl | rfl | rfl | rfl | rfl | rfl | rfl
  · exact code_idx_0 w
  · exact code_idx_1 w
  · exact code_idx_2 w
  · exact code_idx_3 w
  · exact code_idx_4 w
  · exact code_idx_5 w
  · exact code_idx_6 w
  · exact code_idx_7 w
  · exact code_idx_8 w
  · exact code_idx_9 w
  · exact code_idx_10 w
  · exact code_idx_11 w
  · exact code_idx_12 w
  · exact code_idx_13 w
  · exact code_idx_14 w
  · exact code_idx_15 w
  · exact code_idx_16 w
  · exact code_idx_17 w
  · exact code_idx_18 w
  · exact code_idx_19 w
  · exact code_idx_20 w
  · exact code_idx_21 w
  · exact code_idx_22 w
  · exact code_idx_23 w
  · exact code_idx_24 w
  · exact code_idx_25 w
  · exact code_idx_26 w
  · exact code_idx_27 w
  · exact code_idx_28 w
  · exact code_idx_29 w
  · exact code_idx_30 w
  · exact code_idx_31 w
theorem codeV_is : codeV = .agg codeCells := rfl
attribute [irreducible] codeAt code codeV codeCells

theorem codeCells_size : codeCells.size = 32 := by kernel_rfl
theorem code_store (w : World) : (storeCells ⟨w.heap.size, 0, none⟩ codeCells.toList).run Tryz.prog (w.alloc (.cells #[.int .i32 0, .int .i32 0, .int .i32 0, .int .i32 0, .int .i32 0, .int .i32 0, .int .i32 0, .int .i32 0, .int .i32 0, .int .i32 0, .int .i32 0, .int .i32 0, .int .i32 0, .int .i32 0, .int .i32 0, .int .i32 0, .int .i32 0, .int .i32 0, .int .i32 0, .int .i32 0, .int .i32 0, .int .i32 0, .int .i32 0, .int .i32 0, .int .i32 0, .int .i32 0, .int .i32 0, .int .i32 0, .int .i32 0, .int .i32 0, .int .i32 0, .int .i32 0] 107)) = .ok () (w.alloc (.cells codeCells 107)) :=
  run_storeCells_new w 107 #[.int .i32 0, .int .i32 0, .int .i32 0, .int .i32 0, .int .i32 0, .int .i32 0, .int .i32 0, .int .i32 0, .int .i32 0, .int .i32 0, .int .i32 0, .int .i32 0, .int .i32 0, .int .i32 0, .int .i32 0, .int .i32 0, .int .i32 0, .int .i32 0, .int .i32 0, .int .i32 0, .int .i32 0, .int .i32 0, .int .i32 0, .int .i32 0, .int .i32 0, .int .i32 0, .int .i32 0, .int .i32 0, .int .i32 0, .int .i32 0, .int .i32 0, .int .i32 0] codeCells (by kernel_rfl) (by kernel_rfl) (by kernel_rfl)
theorem code_low (n : Int) (h0 : n ≤ 0) (w : World) :
    Calls Tryz.prog 120 #[.int .i64 n] w fun e w' => e = .returned (.int .i32 (code n)) ∧ Below w.heap.size w w' := by
  have H : Hid _ := Lib.hid (code_bad (n := n) (by omega))
  have hz := codeCells_size
  have hst := code_store w
  go_enter Tryz.func120, Tryz.ntmps120
  go_wp2_with ((with_reducible refine wpList_buildTo (o := ⟨some 4, _, _, _, _, _⟩) rfl 107 _ rfl (some 4) rfl codeCells (by kernel_rfl) ?_))
  go_ret
  exact ⟨ret_int H.out.symm, (Below.refl _ _).alloc (Nat.le_refl _) _⟩
theorem code_high (n : Int) (h0 : 1114111 < n) (w : World) :
    Calls Tryz.prog 120 #[.int .i64 n] w fun e w' => e = .returned (.int .i32 (code n)) ∧ Below w.heap.size w w' := by
  have H : Hid _ := Lib.hid (code_bad (n := n) (by omega))
  have hz := codeCells_size
  have hst := code_store w
  go_enter Tryz.func120, Tryz.ntmps120
  go_wp2_with ((with_reducible refine wpList_buildTo (o := ⟨some 4, _, _, _, _, _⟩) rfl 107 _ rfl (some 4) rfl codeCells (by kernel_rfl) ?_))
  go_ret
  exact ⟨ret_int H.out.symm, (Below.refl _ _).alloc (Nat.le_refl _) _⟩
theorem code_mid (n : Int) (h0 : 55296 ≤ n) (h1 : n ≤ 57343) (w : World) :
    Calls Tryz.prog 120 #[.int .i64 n] w fun e w' => e = .returned (.int .i32 (code n)) ∧ Below w.heap.size w w' := by
  have H : Hid _ := Lib.hid (code_bad (n := n) (by omega))
  have hz := codeCells_size
  have hst := code_store w
  go_enter Tryz.func120, Tryz.ntmps120
  go_wp2_with ((with_reducible refine wpList_buildTo (o := ⟨some 4, _, _, _, _, _⟩) rfl 107 _ rfl (some 4) rfl codeCells (by kernel_rfl) ?_))
  go_ret
  exact ⟨ret_int H.out.symm, (Below.refl _ _).alloc (Nat.le_refl _) _⟩
theorem code_tab (k : Nat) (hk : k < 32) (w : World) :
    Calls Tryz.prog 120 #[.int .i64 (128 + (k : Int))] w fun e w' => e = .returned (.int .i32 (code (128 + (k : Int)))) ∧ Below w.heap.size w w' := by
  have H : Hid _ := Lib.hid (code_at128 k hk)
  have hc := code_cell k hk w
  have hz := codeCells_size
  have hst := code_store w
  go_enter Tryz.func120, Tryz.ntmps120
  go_wp2_with ((with_reducible refine wpList_buildTo (o := ⟨some 4, _, _, _, _, _⟩) rfl 107 _ rfl (some 4) rfl codeCells (by kernel_rfl) ?_))
  go_ret
  exact ⟨ret_int H.out.symm, (Below.refl _ _).alloc (Nat.le_refl _) _⟩
theorem code_own1 (n : Int) (h0 : 0 < n) (h1 : n < 128) (w : World) :
    Calls Tryz.prog 120 #[.int .i64 n] w fun e w' => e = .returned (.int .i32 (code n)) ∧ Below w.heap.size w w' := by
  have H : Hid _ := Lib.hid (code_own (n := n) (by omega) (by omega) (by omega) (by omega))
  have hz := codeCells_size
  have hst := code_store w
  go_enter Tryz.func120, Tryz.ntmps120
  go_wp2_with ((with_reducible refine wpList_buildTo (o := ⟨some 4, _, _, _, _, _⟩) rfl 107 _ rfl (some 4) rfl codeCells (by kernel_rfl) ?_))
  go_ret
  exact ⟨ret_int H.out.symm, (Below.refl _ _).alloc (Nat.le_refl _) _⟩
theorem code_own2 (n : Int) (h0 : 159 < n) (h1 : n < 55296) (w : World) :
    Calls Tryz.prog 120 #[.int .i64 n] w fun e w' => e = .returned (.int .i32 (code n)) ∧ Below w.heap.size w w' := by
  have H : Hid _ := Lib.hid (code_own (n := n) (by omega) (by omega) (by omega) (by omega))
  have hz := codeCells_size
  have hst := code_store w
  go_enter Tryz.func120, Tryz.ntmps120
  go_wp2_with ((with_reducible refine wpList_buildTo (o := ⟨some 4, _, _, _, _, _⟩) rfl 107 _ rfl (some 4) rfl codeCells (by kernel_rfl) ?_))
  go_ret
  exact ⟨ret_int H.out.symm, (Below.refl _ _).alloc (Nat.le_refl _) _⟩
theorem code_own3 (n : Int) (h0 : 57343 < n) (h1 : n ≤ 1114111) (w : World) :
    Calls Tryz.prog 120 #[.int .i64 n] w fun e w' => e = .returned (.int .i32 (code n)) ∧ Below w.heap.size w w' := by
  have H : Hid _ := Lib.hid (code_own (n := n) (by omega) (by omega) (by omega) (by omega))
  have hz := codeCells_size
  have hst := code_store w
  go_enter Tryz.func120, Tryz.ntmps120
  go_wp2_with ((with_reducible refine wpList_buildTo (o := ⟨some 4, _, _, _, _, _⟩) rfl 107 _ rfl (some 4) rfl codeCells (by kernel_rfl) ?_))
  go_ret
  exact ⟨ret_int H.out.symm, (Below.refl _ _).alloc (Nat.le_refl _) _⟩
theorem code_calls (n : Int) (w : World) :
    Calls Tryz.prog 120 #[.int .i64 n] w fun e w' => e = .returned (.int .i32 (code n)) ∧ Below w.heap.size w w' := by
  rcases (show n ≤ 0 ∨ 1114111 < n ∨ (55296 ≤ n ∧ n ≤ 57343) ∨ (∃ k : Nat, k < 32 ∧ n = 128 + (k : Int)) ∨ (0 < n ∧ n < 128) ∨ (159 < n ∧ n < 55296) ∨ (57343 < n ∧ n ≤ 1114111) by
    by_cases h : 128 ≤ n ∧ n ≤ 159
    · exact .inr (.inr (.inr (.inl ⟨(n - 128).toNat, by omega, by omega⟩)))
    · omega) with h | h | ⟨h, h'⟩ | ⟨k, hk, rfl⟩ | ⟨h, h'⟩ | ⟨h, h'⟩ | ⟨h, h'⟩
  · exact code_low n h w
  · exact code_high n h w
  · exact code_mid n h h' w
  · exact code_tab k hk w
  · exact code_own1 n h h' w
  · exact code_own2 n h h' w
  · exact code_own3 n h h' w
theorem rcode_low (n : Int) (h0 : n ≤ 0) (w : World) :
    Calls Tryz.prog 72 #[.int .i64 n] w fun e w' => e = .returned (.int .i32 (code n)) ∧ w = w' := by
  have H : Hid _ := Lib.hid (code_bad (n := n) (by omega))
  go_enter Tryz.func72, Tryz.ntmps72
  go_wp2
  go_ret
  exact ⟨ret_int H.out.symm, rfl⟩
theorem rcode_high (n : Int) (h0 : 1114111 < n) (w : World) :
    Calls Tryz.prog 72 #[.int .i64 n] w fun e w' => e = .returned (.int .i32 (code n)) ∧ w = w' := by
  have H : Hid _ := Lib.hid (code_bad (n := n) (by omega))
  go_enter Tryz.func72, Tryz.ntmps72
  go_wp2
  go_ret
  exact ⟨ret_int H.out.symm, rfl⟩
theorem rcode_mid (n : Int) (h0 : 55296 ≤ n) (h1 : n ≤ 57343) (w : World) :
    Calls Tryz.prog 72 #[.int .i64 n] w fun e w' => e = .returned (.int .i32 (code n)) ∧ w = w' := by
  have H : Hid _ := Lib.hid (code_bad (n := n) (by omega))
  go_enter Tryz.func72, Tryz.ntmps72
  go_wp2
  go_ret
  exact ⟨ret_int H.out.symm, rfl⟩
set_option maxRecDepth 20000 in
theorem rcode_tab (k : Nat) (hk : k < 32) (w : World) :
    Calls Tryz.prog 72 #[.int .i64 (128 + (k : Int))] w fun e w' => e = .returned (.int .i32 (code (128 + (k : Int)))) ∧ w = w' := by
  have H : Hid _ := Lib.hid (code_at128 k hk)
  have hc : ∀ w, (Instr.index 107 (.agg codeCells) (.int .i64 (128 + (k : Int) - 128))).run Tryz.prog w = .ok (.int .i32 (codeAt k)) w := fun w => by
    rw [show 128 + (k : Int) - 128 = (k : Int) by omega, ← codeV_is]; exact code_index k hk w
  go_enter Tryz.func72, Tryz.ntmps72
  go_wp2_with (first | (with_reducible refine wpList_buildTo (o := ⟨some 25, _, _, _, _, _⟩) rfl 107 _ rfl (some 25) rfl codeCells (by kernel_rfl) ?_))
  go_ret
  exact ⟨ret_int H.out.symm, rfl⟩
theorem rcode_own1 (n : Int) (h0 : 0 < n) (h1 : n < 128) (w : World) :
    Calls Tryz.prog 72 #[.int .i64 n] w fun e w' => e = .returned (.int .i32 (code n)) ∧ w = w' := by
  have H : Hid _ := Lib.hid (code_own (n := n) (by omega) (by omega) (by omega) (by omega))
  go_enter Tryz.func72, Tryz.ntmps72
  go_wp2
  go_ret
  exact ⟨ret_int H.out.symm, rfl⟩
theorem rcode_own2 (n : Int) (h0 : 159 < n) (h1 : n < 55296) (w : World) :
    Calls Tryz.prog 72 #[.int .i64 n] w fun e w' => e = .returned (.int .i32 (code n)) ∧ w = w' := by
  have H : Hid _ := Lib.hid (code_own (n := n) (by omega) (by omega) (by omega) (by omega))
  go_enter Tryz.func72, Tryz.ntmps72
  go_wp2
  go_ret
  exact ⟨ret_int H.out.symm, rfl⟩
theorem rcode_own3 (n : Int) (h0 : 57343 < n) (h1 : n ≤ 1114111) (w : World) :
    Calls Tryz.prog 72 #[.int .i64 n] w fun e w' => e = .returned (.int .i32 (code n)) ∧ w = w' := by
  have H : Hid _ := Lib.hid (code_own (n := n) (by omega) (by omega) (by omega) (by omega))
  go_enter Tryz.func72, Tryz.ntmps72
  go_wp2
  go_ret
  exact ⟨ret_int H.out.symm, rfl⟩
theorem rcode_calls (n : Int) (w : World) :
    Calls Tryz.prog 72 #[.int .i64 n] w fun e w' => e = .returned (.int .i32 (code n)) ∧ w = w' := by
  rcases (show n ≤ 0 ∨ 1114111 < n ∨ (55296 ≤ n ∧ n ≤ 57343) ∨ (∃ k : Nat, k < 32 ∧ n = 128 + (k : Int)) ∨ (0 < n ∧ n < 128) ∨ (159 < n ∧ n < 55296) ∨ (57343 < n ∧ n ≤ 1114111) by
    by_cases h : 128 ≤ n ∧ n ≤ 159
    · exact .inr (.inr (.inr (.inl ⟨(n - 128).toNat, by omega, by omega⟩)))
    · omega) with h | h | ⟨h, h'⟩ | ⟨k, hk, rfl⟩ | ⟨h, h'⟩ | ⟨h, h'⟩ | ⟨h, h'⟩
  · exact rcode_low n h w
  · exact rcode_high n h w
  · exact rcode_mid n h h' w
  · exact rcode_tab k hk w
  · exact rcode_own1 n h h' w
  · exact rcode_own2 n h h' w
  · exact rcode_own3 n h h' w
end Go.Proofs.YtbdgoffbkenofaaGreat.Ct
namespace Go.Proofs.YtbdgoffbkenofaaGreat.Ct
open Go Go.RowKit

/-- How many steps till the first function returns. -/
def toRet (P : Program) : Nat → Machine → Nat
  | 0, _ => 0
  | k + 1, m => match m.gs[0]? with
    | some g => match g.frame.mode with
      | .returning => 0
      | _ => match step P m with
        | .next m' => toRet P k m' + 1
        | _ => 0
    | none => 0
def mRet (P : Program) (f : FuncId) (args : Array Value) (w : World) : Machine := lone (Frame.enter P f args .normal) [] w
def nRet (P : Program) (f : FuncId) (args : Array Value) (w : World) : Nat := toRet P 1000 (mRet P f args w)
/-- The frame as it returns. -/
def frRet (P : Program) (f : FuncId) (args : Array Value) (w : World) : Frame :=
  match runN P (nRet P f args w) (mRet P f args w) with
  | .next m => match m.gs[0]? with
    | some g => g.frame
    | none => Frame.enter P f args .normal
  | _ => Frame.enter P f args .normal
theorem calls_run {P : Program} {f : FuncId} {fn : Func} {args : Array Value} {w w' : World} {v : Value} (hf : P.funcs[f]? = some fn)
    (h : ∀ cs, runN P (nRet P f args w) (lone (Frame.enter P f args .normal) cs w) = .next (lone (frRet P f args w) cs w'))
    (hfn : (frRet P f args w).fn = f) (hm : (frRet P f args w).mode = .returning) (hd : (frRet P f args w).defers = []) (hk : (frRet P f args w).kind = .normal)
    (hr : (results fn (frRet P f args w).tmps).run P w' = .ok v w') : Calls P f args w fun e w1 => e = .returned v ∧ w1 = w' :=
  fun cs => ⟨.returned v, w', frRet P f args w, ⟨rfl, rfl⟩, ⟨_, h cs⟩, hfn, hm, hd, hk, fn, by rw [hfn]; exact hf, hr⟩
end Go.Proofs.YtbdgoffbkenofaaGreat.Ct
namespace Go.Proofs.YtbdgoffbkenofaaGreat.Ct
open Go Go.RowKit

/-! ### All -/
def ents : List (ByteArray × Int × Bool) := [
  (⟨#[97, 109, 112]⟩, 38, true),
  (⟨#[108, 116]⟩, 60, true),
  (⟨#[103, 116]⟩, 62, true),
  (⟨#[113, 117, 111, 116]⟩, 34, true),
  (⟨#[65, 77, 80]⟩, 38, true),
  (⟨#[76, 84]⟩, 60, true),
  (⟨#[71, 84]⟩, 62, true),
  (⟨#[110, 98, 115, 112]⟩, 160, true),
  (⟨#[99, 101, 110, 116]⟩, 162, true),
  (⟨#[112, 111, 117, 110, 100]⟩, 163, true),
  (⟨#[121, 101, 110]⟩, 165, true),
  (⟨#[115, 101, 99, 116]⟩, 167, true),
  (⟨#[99, 111, 112, 121]⟩, 169, true),
  (⟨#[110, 111, 116]⟩, 172, true),
  (⟨#[114, 101, 103]⟩, 174, true),
  (⟨#[100, 101, 103]⟩, 176, true),
  (⟨#[112, 108, 117, 115, 109, 110]⟩, 177, true),
  (⟨#[112, 97, 114, 97]⟩, 182, true),
  (⟨#[109, 105, 100, 100, 111, 116]⟩, 183, true),
  (⟨#[102, 114, 97, 99, 49, 50]⟩, 189, true),
  (⟨#[65, 117, 109, 108]⟩, 196, true),
  (⟨#[116, 105, 109, 101, 115]⟩, 215, true),
  (⟨#[79, 117, 109, 108]⟩, 214, true),
  (⟨#[85, 117, 109, 108]⟩, 220, true),
  (⟨#[115, 122, 108, 105, 103]⟩, 223, true),
  (⟨#[97, 97, 99, 117, 116, 101]⟩, 225, true),
  (⟨#[97, 117, 109, 108]⟩, 228, true),
  (⟨#[101, 103, 114, 97, 118, 101]⟩, 232, true),
  (⟨#[101, 97, 99, 117, 116, 101]⟩, 233, true),
  (⟨#[111, 117, 109, 108]⟩, 246, true),
  (⟨#[100, 105, 118, 105, 100, 101]⟩, 247, true),
  (⟨#[117, 117, 109, 108]⟩, 252, true),
  (⟨#[97, 112, 111, 115]⟩, 39, false),
  (⟨#[116, 114, 97, 100, 101]⟩, 8482, false),
  (⟨#[104, 101, 108, 108, 105, 112]⟩, 8230, false),
  (⟨#[109, 100, 97, 115, 104]⟩, 8212, false),
  (⟨#[110, 100, 97, 115, 104]⟩, 8211, false),
  (⟨#[108, 115, 113, 117, 111]⟩, 8216, false),
  (⟨#[114, 115, 113, 117, 111]⟩, 8217, false),
  (⟨#[108, 100, 113, 117, 111]⟩, 8220, false),
  (⟨#[114, 100, 113, 117, 111]⟩, 8221, false),
  (⟨#[98, 117, 108, 108]⟩, 8226, false),
  (⟨#[101, 117, 114, 111]⟩, 8364, false),
  (⟨#[97, 108, 112, 104, 97]⟩, 945, false),
  (⟨#[98, 101, 116, 97]⟩, 946, false),
  (⟨#[112, 105]⟩, 960, false),
  (⟨#[105, 110, 102, 105, 110]⟩, 8734, false),
  (⟨#[110, 111, 116, 105, 110]⟩, 8713, false),
  (⟨#[110, 111, 116, 110, 105]⟩, 8716, false),
  (⟨#[110, 101]⟩, 8800, false),
  (⟨#[108, 101]⟩, 8804, false),
  (⟨#[103, 101]⟩, 8805, false)]
def entN (k : Nat) : ByteArray := (ents.getD k (ByteArray.empty, 0, false)).1
def entS (k : Nat) : Int := (ents.getD k (ByteArray.empty, 0, false)).2.1
def entB (k : Nat) : Bool := (ents.getD k (ByteArray.empty, 0, false)).2.2
def entCells : Array Value := #[.string ⟨#[97, 109, 112]⟩, .int .i32 38, .bool true, .string ⟨#[108, 116]⟩, .int .i32 60, .bool true, .string ⟨#[103, 116]⟩, .int .i32 62, .bool true, .string ⟨#[113, 117, 111, 116]⟩, .int .i32 34, .bool true, .string ⟨#[65, 77, 80]⟩, .int .i32 38, .bool true, .string ⟨#[76, 84]⟩, .int .i32 60, .bool true, .string ⟨#[71, 84]⟩, .int .i32 62, .bool true, .string ⟨#[110, 98, 115, 112]⟩, .int .i32 160, .bool true, .string ⟨#[99, 101, 110, 116]⟩, .int .i32 162, .bool true, .string ⟨#[112, 111, 117, 110, 100]⟩, .int .i32 163, .bool true, .string ⟨#[121, 101, 110]⟩, .int .i32 165, .bool true, .string ⟨#[115, 101, 99, 116]⟩, .int .i32 167, .bool true, .string ⟨#[99, 111, 112, 121]⟩, .int .i32 169, .bool true, .string ⟨#[110, 111, 116]⟩, .int .i32 172, .bool true, .string ⟨#[114, 101, 103]⟩, .int .i32 174, .bool true, .string ⟨#[100, 101, 103]⟩, .int .i32 176, .bool true, .string ⟨#[112, 108, 117, 115, 109, 110]⟩, .int .i32 177, .bool true, .string ⟨#[112, 97, 114, 97]⟩, .int .i32 182, .bool true, .string ⟨#[109, 105, 100, 100, 111, 116]⟩, .int .i32 183, .bool true, .string ⟨#[102, 114, 97, 99, 49, 50]⟩, .int .i32 189, .bool true, .string ⟨#[65, 117, 109, 108]⟩, .int .i32 196, .bool true, .string ⟨#[116, 105, 109, 101, 115]⟩, .int .i32 215, .bool true, .string ⟨#[79, 117, 109, 108]⟩, .int .i32 214, .bool true, .string ⟨#[85, 117, 109, 108]⟩, .int .i32 220, .bool true, .string ⟨#[115, 122, 108, 105, 103]⟩, .int .i32 223, .bool true, .string ⟨#[97, 97, 99, 117, 116, 101]⟩, .int .i32 225, .bool true, .string ⟨#[97, 117, 109, 108]⟩, .int .i32 228, .bool true, .string ⟨#[101, 103, 114, 97, 118, 101]⟩, .int .i32 232, .bool true, .string ⟨#[101, 97, 99, 117, 116, 101]⟩, .int .i32 233, .bool true, .string ⟨#[111, 117, 109, 108]⟩, .int .i32 246, .bool true, .string ⟨#[100, 105, 118, 105, 100, 101]⟩, .int .i32 247, .bool true, .string ⟨#[117, 117, 109, 108]⟩, .int .i32 252, .bool true, .string ⟨#[97, 112, 111, 115]⟩, .int .i32 39, .bool false, .string ⟨#[116, 114, 97, 100, 101]⟩, .int .i32 8482, .bool false, .string ⟨#[104, 101, 108, 108, 105, 112]⟩, .int .i32 8230, .bool false, .string ⟨#[109, 100, 97, 115, 104]⟩, .int .i32 8212, .bool false, .string ⟨#[110, 100, 97, 115, 104]⟩, .int .i32 8211, .bool false, .string ⟨#[108, 115, 113, 117, 111]⟩, .int .i32 8216, .bool false, .string ⟨#[114, 115, 113, 117, 111]⟩, .int .i32 8217, .bool false, .string ⟨#[108, 100, 113, 117, 111]⟩, .int .i32 8220, .bool false, .string ⟨#[114, 100, 113, 117, 111]⟩, .int .i32 8221, .bool false, .string ⟨#[98, 117, 108, 108]⟩, .int .i32 8226, .bool false, .string ⟨#[101, 117, 114, 111]⟩, .int .i32 8364, .bool false, .string ⟨#[97, 108, 112, 104, 97]⟩, .int .i32 945, .bool false, .string ⟨#[98, 101, 116, 97]⟩, .int .i32 946, .bool false, .string ⟨#[112, 105]⟩, .int .i32 960, .bool false, .string ⟨#[105, 110, 102, 105, 110]⟩, .int .i32 8734, .bool false, .string ⟨#[110, 111, 116, 105, 110]⟩, .int .i32 8713, .bool false, .string ⟨#[110, 111, 116, 110, 105]⟩, .int .i32 8716, .bool false, .string ⟨#[110, 101]⟩, .int .i32 8800, .bool false, .string ⟨#[108, 101]⟩, .int .i32 8804, .bool false, .string ⟨#[103, 101]⟩, .int .i32 8805, .bool false]
theorem ents_small : ∀ p ∈ ents, p.1.size ≤ 6 ∧ 34 ≤ p.2.1 ∧ p.2.1 ≤ 9000 := by decide
theorem ent_small (k : Nat) (hk : k < 52) : (entN k).size ≤ 6 ∧ 34 ≤ entS k ∧ entS k ≤ 9000 := by
  have h : k < ents.length := hk
  have e : ents.getD k (ByteArray.empty, 0, false) = ents[k] := by simp [List.getD, h]
  unfold entN entS
  rw [e]; exact ents_small _ (List.getElem_mem h)
theorem flat3 {α : Type} (f g h : α → Value) : ∀ (l : List α) (k : Nat) (a : α), l[k]? = some a →
    (l.flatMap fun a => [f a, g a, h a])[3 * k]? = some (f a) ∧ (l.flatMap fun a => [f a, g a, h a])[3 * k + 1]? = some (g a) ∧ (l.flatMap fun a => [f a, g a, h a])[3 * k + 2]? = some (h a)
  | [], k, a, e => by simp at e
  | b :: r, 0, a, e => by
    simp at e; subst e; simp [List.flatMap_cons]
  | b :: r, k + 1, a, e => by
    have ih := flat3 f g h r k a (by simpa using e)
    rw [List.flatMap_cons]
    refine ⟨?_, ?_, ?_⟩
    · rw [show 3 * (k + 1) = 3 * k + 3 by omega]; exact ih.1
    · rw [show 3 * (k + 1) + 1 = 3 * k + 1 + 3 by omega]; exact ih.2.1
    · rw [show 3 * (k + 1) + 2 = 3 * k + 2 + 3 by omega]; exact ih.2.2
theorem entCells_flat : entCells = (ents.flatMap fun p => [Value.string p.1, Value.int .i32 p.2.1, Value.bool p.2.2]).toArray := by kernel_rfl
theorem entCells_at (k : Fin 52) : entCells[3 * k.val]? = some (.string (entN k.val)) ∧ entCells[3 * k.val + 1]? = some (.int .i32 (entS k.val)) ∧ entCells[3 * k.val + 2]? = some (.bool (entB k.val)) := by
  rw [entCells_flat]
  have hl : k.val < ents.length := k.isLt
  have h := flat3 (fun p => Value.string p.1) (fun p => Value.int .i32 p.2.1) (fun p => Value.bool p.2.2) ents k.val _ (List.getElem?_eq_getElem hl)
  have e : ents.getD k.val (ByteArray.empty, 0, false) = ents[k.val] := by simp [List.getD, hl]
  unfold entN entS entB
  rw [e]
  simpa using h
/-- The table's cells lie in a world. -/
structure Table (w : World) (b : Nat) : Prop where
  name : ∀ k, k < 52 → w.cell? ⟨b, 3 * k, none⟩ = some (.string (entN k))
  sign : ∀ k, k < 52 → w.cell? ⟨b, 3 * k + 1, none⟩ = some (.int .i32 (entS k))
  both : ∀ k, k < 52 → w.cell? ⟨b, 3 * k + 2, none⟩ = some (.bool (entB k))
theorem table_new (w : World) : Table (w.alloc (.cells entCells 111)) w.heap.size :=
  ⟨fun k hk => (cell_new ..).trans (entCells_at ⟨k, hk⟩).1, fun k hk => (cell_new ..).trans (entCells_at ⟨k, hk⟩).2.1, fun k hk => (cell_new ..).trans (entCells_at ⟨k, hk⟩).2.2⟩
theorem Table.below {w w' : World} {b B : Nat} (h : Table w b) (hb : Below B w w') (hB : b < B) : Table w' b :=
  ⟨fun k hk => (hb.cell (p := ⟨b, _, none⟩) hB).trans (h.name k hk), fun k hk => (hb.cell (p := ⟨b, _, none⟩) hB).trans (h.sign k hk), fun k hk => (hb.cell (p := ⟨b, _, none⟩) hB).trans (h.both k hk)⟩
attribute [irreducible] entN entS entB entCells
theorem all_steps (cs : List Frame) (w : World) : runN Tryz.prog (nRet Tryz.prog 100 #[] w) (lone (Frame.enter Tryz.prog 100 #[] .normal) cs w) = .next (lone (frRet Tryz.prog 100 #[] w) cs (w.alloc (.cells entCells 111))) := by kernel_rfl
theorem all_fn (w : World) : (frRet Tryz.prog 100 #[] w).fn = 100 := by kernel_rfl
theorem all_mode (w : World) : (frRet Tryz.prog 100 #[] w).mode = .returning := by kernel_rfl
theorem all_defers (w : World) : (frRet Tryz.prog 100 #[] w).defers = [] := by kernel_rfl
theorem all_kind (w : World) : (frRet Tryz.prog 100 #[] w).kind = .normal := by kernel_rfl
theorem all_results (w : World) : (results Tryz.f100 (frRet Tryz.prog 100 #[] w).tmps).run Tryz.prog (w.alloc (.cells entCells 111)) = .ok (.slice (some ⟨w.heap.size, 0, none⟩) 52 52) (w.alloc (.cells entCells 111)) := by kernel_rfl
theorem all_calls (w : World) :
    Calls Tryz.prog 100 #[] w fun e w' => e = .returned (.slice (some ⟨w.heap.size, 0, none⟩) 52 52) ∧ w' = w.alloc (.cells entCells 111) :=
  calls_run (fn := Tryz.f100) Tryz.func100 (fun cs => all_steps cs w) (all_fn w) (all_mode w) (all_defers w) (all_kind w) (all_results w)
end Go.Proofs.YtbdgoffbkenofaaGreat.Ct
