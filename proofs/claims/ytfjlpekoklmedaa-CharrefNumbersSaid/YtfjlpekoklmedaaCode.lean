/- What Code computes. -/
import Derived.Test.YtfjlpekoklmedaaPut
import Derived.Great.Walk
import Derived.Great.BuildSlice
import Derived.Deep.WholeRow
namespace Go.Proofs.Ytfjlpekoklmedaa.Ct
open Go Go.RowKit

/-! ### Code -/
def codes : List Int := [8364, 129, 8218, 402, 8222, 8230, 8224, 8225, 710, 8240, 352, 8249, 338, 141, 381, 143, 144, 8216, 8217, 8220, 8221, 8226, 8211, 8212, 732, 8482, 353, 8250, 339, 157, 382, 376]
def codeAt (k : Nat) : Int := codes.getD k 0
/-- A number's rune. -/
def code (n : Int) : Int := if n ≤ 0 ∨ 1114111 < n ∨ (55296 ≤ n ∧ n ≤ 57343) then 65533 else if 128 ≤ n ∧ n ≤ 159 then codeAt (n - 128).toNat else n
theorem code_bad {n : Int} (h : n ≤ 0 ∨ 1114111 < n ∨ (55296 ≤ n ∧ n ≤ 57343)) : code n = 65533 := if_pos h
theorem code_at128 (k : Nat) (h : k < 32) : code (128 + (k : Int)) = codeAt k := by
  unfold code; rw [if_neg (by omega), if_pos (by omega), show (128 + (k : Int) - 128).toNat = k by omega]
theorem code_own {n : Int} (h0 : 0 < n) (h1 : n ≤ 1114111) (h2 : n < 55296 ∨ 57343 < n) (h3 : n < 128 ∨ 159 < n) : code n = n := by
  unfold code; rw [if_neg (by omega), if_neg (by omega)]
theorem codes_small : ∀ x ∈ codes, 0 ≤ x ∧ x ≤ 65533 := by decide
theorem codeAt_small (k : Nat) : 0 ≤ codeAt k ∧ codeAt k ≤ 65533 := by
  unfold codeAt
  rcases Nat.lt_or_ge k codes.length with h | h
  · have e : codes.getD k 0 = codes[k] := by simp [List.getD, h]
    rw [e]; exact codes_small _ (List.getElem_mem h)
  · have e : codes.getD k 0 = 0 := by simp [List.getD, h]
    rw [e]; decide
theorem code_small (n : Int) : 0 ≤ code n ∧ code n ≤ 1114111 := by
  unfold code
  split
  · omega
  · split
    · have := codeAt_small (n - 128).toNat; omega
    · omega
theorem cell_new (w : World) (c : Array Value) (t : TypeId) (i : Nat) : (w.alloc (.cells c t)).cell? ⟨w.heap.size, i, none⟩ = c[i]? := by
  have h := (MapKept.heap_alloc w (.cells c t)).1
  show (match (w.alloc (.cells c t)).heap[w.heap.size]? with | some (.cells c _ _) => c[i]? | _ => none) = _
  rw [h]
def codeCells : Array Value := #[.int .i32 8364, .int .i32 129, .int .i32 8218, .int .i32 402, .int .i32 8222, .int .i32 8230, .int .i32 8224, .int .i32 8225, .int .i32 710, .int .i32 8240, .int .i32 352, .int .i32 8249, .int .i32 338, .int .i32 141, .int .i32 381, .int .i32 143, .int .i32 144, .int .i32 8216, .int .i32 8217, .int .i32 8220, .int .i32 8221, .int .i32 8226, .int .i32 8211, .int .i32 8212, .int .i32 732, .int .i32 8482, .int .i32 353, .int .i32 8250, .int .i32 339, .int .i32 157, .int .i32 382, .int .i32 376]
theorem code_at : ∀ k : Fin 32, codeCells[k.val]? = some (.int .i32 (codeAt k.val)) := by
  intro k
  rcases k with ⟨k, hk⟩
  rcases (show k = 0 ∨ k = 1 ∨ k = 2 ∨ k = 3 ∨ k = 4 ∨ k = 5 ∨ k = 6 ∨ k = 7 ∨ k = 8 ∨ k = 9 ∨ k = 10 ∨ k = 11 ∨ k = 12 ∨ k = 13 ∨ k = 14 ∨ k = 15 ∨ k = 16 ∨ k = 17 ∨ k = 18 ∨ k = 19 ∨ k = 20 ∨ k = 21 ∨ k = 22 ∨ k = 23 ∨ k = 24 ∨ k = 25 ∨ k = 26 ∨ k = 27 ∨ k = 28 ∨ k = 29 ∨ k = 30 ∨ k = 31 by omega) with rfl | rfl | rfl | rfl | rfl | rfl | rfl | rfl | rfl | rfl | rfl | rfl | rfl | rfl | rfl | rfl | rfl | rfl | rfl | rfl | rfl | rfl | rfl | rfl | rfl | rfl | rfl | rfl | rfl | rfl | rfl | rfl <;> rfl
theorem code_cell (k : Nat) (hk : k < 32) (w : World) : (w.alloc (.cells codeCells 45)).cell? ⟨w.heap.size, k, none⟩ = some (.int .i32 (codeAt k)) :=
  (cell_new ..).trans (code_at ⟨k, hk⟩)
def codeV : Value := .agg codeCells
theorem code_idx_0 (w : World) : (Instr.index 45 codeV (.int .i64 ((0 : Nat) : Int))).run Try.prog w = .ok (.int .i32 (codeAt 0)) w := by kernel_rfl
theorem code_idx_1 (w : World) : (Instr.index 45 codeV (.int .i64 ((1 : Nat) : Int))).run Try.prog w = .ok (.int .i32 (codeAt 1)) w := by kernel_rfl
theorem code_idx_2 (w : World) : (Instr.index 45 codeV (.int .i64 ((2 : Nat) : Int))).run Try.prog w = .ok (.int .i32 (codeAt 2)) w := by kernel_rfl
theorem code_idx_3 (w : World) : (Instr.index 45 codeV (.int .i64 ((3 : Nat) : Int))).run Try.prog w = .ok (.int .i32 (codeAt 3)) w := by kernel_rfl
theorem code_idx_4 (w : World) : (Instr.index 45 codeV (.int .i64 ((4 : Nat) : Int))).run Try.prog w = .ok (.int .i32 (codeAt 4)) w := by kernel_rfl
theorem code_idx_5 (w : World) : (Instr.index 45 codeV (.int .i64 ((5 : Nat) : Int))).run Try.prog w = .ok (.int .i32 (codeAt 5)) w := by kernel_rfl
theorem code_idx_6 (w : World) : (Instr.index 45 codeV (.int .i64 ((6 : Nat) : Int))).run Try.prog w = .ok (.int .i32 (codeAt 6)) w := by kernel_rfl
theorem code_idx_7 (w : World) : (Instr.index 45 codeV (.int .i64 ((7 : Nat) : Int))).run Try.prog w = .ok (.int .i32 (codeAt 7)) w := by kernel_rfl
theorem code_idx_8 (w : World) : (Instr.index 45 codeV (.int .i64 ((8 : Nat) : Int))).run Try.prog w = .ok (.int .i32 (codeAt 8)) w := by kernel_rfl
theorem code_idx_9 (w : World) : (Instr.index 45 codeV (.int .i64 ((9 : Nat) : Int))).run Try.prog w = .ok (.int .i32 (codeAt 9)) w := by kernel_rfl
theorem code_idx_10 (w : World) : (Instr.index 45 codeV (.int .i64 ((10 : Nat) : Int))).run Try.prog w = .ok (.int .i32 (codeAt 10)) w := by kernel_rfl
theorem code_idx_11 (w : World) : (Instr.index 45 codeV (.int .i64 ((11 : Nat) : Int))).run Try.prog w = .ok (.int .i32 (codeAt 11)) w := by kernel_rfl
theorem code_idx_12 (w : World) : (Instr.index 45 codeV (.int .i64 ((12 : Nat) : Int))).run Try.prog w = .ok (.int .i32 (codeAt 12)) w := by kernel_rfl
theorem code_idx_13 (w : World) : (Instr.index 45 codeV (.int .i64 ((13 : Nat) : Int))).run Try.prog w = .ok (.int .i32 (codeAt 13)) w := by kernel_rfl
theorem code_idx_14 (w : World) : (Instr.index 45 codeV (.int .i64 ((14 : Nat) : Int))).run Try.prog w = .ok (.int .i32 (codeAt 14)) w := by kernel_rfl
theorem code_idx_15 (w : World) : (Instr.index 45 codeV (.int .i64 ((15 : Nat) : Int))).run Try.prog w = .ok (.int .i32 (codeAt 15)) w := by kernel_rfl
theorem code_idx_16 (w : World) : (Instr.index 45 codeV (.int .i64 ((16 : Nat) : Int))).run Try.prog w = .ok (.int .i32 (codeAt 16)) w := by kernel_rfl
theorem code_idx_17 (w : World) : (Instr.index 45 codeV (.int .i64 ((17 : Nat) : Int))).run Try.prog w = .ok (.int .i32 (codeAt 17)) w := by kernel_rfl
theorem code_idx_18 (w : World) : (Instr.index 45 codeV (.int .i64 ((18 : Nat) : Int))).run Try.prog w = .ok (.int .i32 (codeAt 18)) w := by kernel_rfl
theorem code_idx_19 (w : World) : (Instr.index 45 codeV (.int .i64 ((19 : Nat) : Int))).run Try.prog w = .ok (.int .i32 (codeAt 19)) w := by kernel_rfl
theorem code_idx_20 (w : World) : (Instr.index 45 codeV (.int .i64 ((20 : Nat) : Int))).run Try.prog w = .ok (.int .i32 (codeAt 20)) w := by kernel_rfl
theorem code_idx_21 (w : World) : (Instr.index 45 codeV (.int .i64 ((21 : Nat) : Int))).run Try.prog w = .ok (.int .i32 (codeAt 21)) w := by kernel_rfl
theorem code_idx_22 (w : World) : (Instr.index 45 codeV (.int .i64 ((22 : Nat) : Int))).run Try.prog w = .ok (.int .i32 (codeAt 22)) w := by kernel_rfl
theorem code_idx_23 (w : World) : (Instr.index 45 codeV (.int .i64 ((23 : Nat) : Int))).run Try.prog w = .ok (.int .i32 (codeAt 23)) w := by kernel_rfl
theorem code_idx_24 (w : World) : (Instr.index 45 codeV (.int .i64 ((24 : Nat) : Int))).run Try.prog w = .ok (.int .i32 (codeAt 24)) w := by kernel_rfl
theorem code_idx_25 (w : World) : (Instr.index 45 codeV (.int .i64 ((25 : Nat) : Int))).run Try.prog w = .ok (.int .i32 (codeAt 25)) w := by kernel_rfl
theorem code_idx_26 (w : World) : (Instr.index 45 codeV (.int .i64 ((26 : Nat) : Int))).run Try.prog w = .ok (.int .i32 (codeAt 26)) w := by kernel_rfl
theorem code_idx_27 (w : World) : (Instr.index 45 codeV (.int .i64 ((27 : Nat) : Int))).run Try.prog w = .ok (.int .i32 (codeAt 27)) w := by kernel_rfl
theorem code_idx_28 (w : World) : (Instr.index 45 codeV (.int .i64 ((28 : Nat) : Int))).run Try.prog w = .ok (.int .i32 (codeAt 28)) w := by kernel_rfl
theorem code_idx_29 (w : World) : (Instr.index 45 codeV (.int .i64 ((29 : Nat) : Int))).run Try.prog w = .ok (.int .i32 (codeAt 29)) w := by kernel_rfl
theorem code_idx_30 (w : World) : (Instr.index 45 codeV (.int .i64 ((30 : Nat) : Int))).run Try.prog w = .ok (.int .i32 (codeAt 30)) w := by kernel_rfl
theorem code_idx_31 (w : World) : (Instr.index 45 codeV (.int .i64 ((31 : Nat) : Int))).run Try.prog w = .ok (.int .i32 (codeAt 31)) w := by kernel_rfl
theorem code_index (k : Nat) (hk : k < 32) (w : World) : (Instr.index 45 codeV (.int .i64 k)).run Try.prog w = .ok (.int .i32 (codeAt k)) w := by
  rcases (show k = 0 ∨ k = 1 ∨ k = 2 ∨ k = 3 ∨ k = 4 ∨ k = 5 ∨ k = 6 ∨ k = 7 ∨ k = 8 ∨ k = 9 ∨ k = 10 ∨ k = 11 ∨ k = 12 ∨ k = 13 ∨ k = 14 ∨ k = 15 ∨ k = 16 ∨ k = 17 ∨ k = 18 ∨ k = 19 ∨ k = 20 ∨ k = 21 ∨ k = 22 ∨ k = 23 ∨ k = 24 ∨ k = 25 ∨ k = 26 ∨ k = 27 ∨ k = 28 ∨ k = 29 ∨ k = 30 ∨ k = 31 by omega) with rfl | rfl | rfl | rfl | rfl | rfl | rfl | rfl | rfl | rfl | rfl | rfl | rfl | rfl | rfl | rfl | rfl | rfl | rfl | rfl | rfl | rfl | rfl | rfl | rfl | rfl | rfl | rfl | rfl | rfl | rfl | rfl
  · exact code_idx_0 w
  · exact code_idx_1 w
  · exact code_idx_2 w
  · exact code_idx_3 w
  · exact code_idx_4 w
  · exact code_idx_5 w
  · exact code_idx_6 w
  · exact code_idx_7 w
  · exact code_idx_8 w
  · exact code_idx_9 w
  · exact code_idx_10 w
  · exact code_idx_11 w
  · exact code_idx_12 w
  · exact code_idx_13 w
  · exact code_idx_14 w
  · exact code_idx_15 w
  · exact code_idx_16 w
  · exact code_idx_17 w
  · exact code_idx_18 w
  · exact code_idx_19 w
  · exact code_idx_20 w
  · exact code_idx_21 w
  · exact code_idx_22 w
  · exact code_idx_23 w
  · exact code_idx_24 w
  · exact code_idx_25 w
  · exact code_idx_26 w
  · exact code_idx_27 w
  · exact code_idx_28 w
  · exact code_idx_29 w
  · exact code_idx_30 w
  · exact code_idx_31 w
theorem codeV_is : codeV = .agg codeCells := rfl
attribute [irreducible] codeAt code codeV codeCells

theorem codeCells_size : codeCells.size = 32 := by kernel_rfl
theorem code_store (w : World) : (storeCells ⟨w.heap.size, 0, none⟩ codeCells.toList).run Try.prog (w.alloc (.cells #[.int .i32 0, .int .i32 0, .int .i32 0, .int .i32 0, .int .i32 0, .int .i32 0, .int .i32 0, .int .i32 0, .int .i32 0, .int .i32 0, .int .i32 0, .int .i32 0, .int .i32 0, .int .i32 0, .int .i32 0, .int .i32 0, .int .i32 0, .int .i32 0, .int .i32 0, .int .i32 0, .int .i32 0, .int .i32 0, .int .i32 0, .int .i32 0, .int .i32 0, .int .i32 0, .int .i32 0, .int .i32 0, .int .i32 0, .int .i32 0, .int .i32 0, .int .i32 0] 45)) = .ok () (w.alloc (.cells codeCells 45)) :=
  run_storeCells_new w 45 #[.int .i32 0, .int .i32 0, .int .i32 0, .int .i32 0, .int .i32 0, .int .i32 0, .int .i32 0, .int .i32 0, .int .i32 0, .int .i32 0, .int .i32 0, .int .i32 0, .int .i32 0, .int .i32 0, .int .i32 0, .int .i32 0, .int .i32 0, .int .i32 0, .int .i32 0, .int .i32 0, .int .i32 0, .int .i32 0, .int .i32 0, .int .i32 0, .int .i32 0, .int .i32 0, .int .i32 0, .int .i32 0, .int .i32 0, .int .i32 0, .int .i32 0, .int .i32 0] codeCells (by kernel_rfl) (by kernel_rfl) (by kernel_rfl)
theorem code_low (n : Int) (h0 : n ≤ 0) (w : World) :
    Calls Try.prog 12 #[.int .i64 n] w fun e w' => e = .returned (.int .i32 (code n)) ∧ Below w.heap.size w w' := by
  have H : Hid _ := Lib.hid (code_bad (n := n) (by omega))
  have hz := codeCells_size
  have hst := code_store w
  go_enter Try.func12, Try.ntmps12
  go_wp2_with ((with_reducible refine wpList_buildTo (o := ⟨some 4, _, _, _, _, _⟩) rfl 45 _ rfl (some 4) rfl codeCells (by kernel_rfl) ?_))
  go_ret
  exact ⟨ret_int H.out.symm, (Below.refl _ _).alloc (Nat.le_refl _) _⟩
theorem code_high (n : Int) (h0 : 1114111 < n) (w : World) :
    Calls Try.prog 12 #[.int .i64 n] w fun e w' => e = .returned (.int .i32 (code n)) ∧ Below w.heap.size w w' := by
  have H : Hid _ := Lib.hid (code_bad (n := n) (by omega))
  have hz := codeCells_size
  have hst := code_store w
  go_enter Try.func12, Try.ntmps12
  go_wp2_with ((with_reducible refine wpList_buildTo (o := ⟨some 4, _, _, _, _, _⟩) rfl 45 _ rfl (some 4) rfl codeCells (by kernel_rfl) ?_))
  go_ret
  exact ⟨ret_int H.out.symm, (Below.refl _ _).alloc (Nat.le_refl _) _⟩
theorem code_mid (n : Int) (h0 : 55296 ≤ n) (h1 : n ≤ 57343) (w : World) :
    Calls Try.prog 12 #[.int .i64 n] w fun e w' => e = .returned (.int .i32 (code n)) ∧ Below w.heap.size w w' := by
  have H : Hid _ := Lib.hid (code_bad (n := n) (by omega))
  have hz := codeCells_size
  have hst := code_store w
  go_enter Try.func12, Try.ntmps12
  go_wp2_with ((with_reducible refine wpList_buildTo (o := ⟨some 4, _, _, _, _, _⟩) rfl 45 _ rfl (some 4) rfl codeCells (by kernel_rfl) ?_))
  go_ret
  exact ⟨ret_int H.out.symm, (Below.refl _ _).alloc (Nat.le_refl _) _⟩
theorem code_tab (k : Nat) (hk : k < 32) (w : World) :
    Calls Try.prog 12 #[.int .i64 (128 + (k : Int))] w fun e w' => e = .returned (.int .i32 (code (128 + (k : Int)))) ∧ Below w.heap.size w w' := by
  have H : Hid _ := Lib.hid (code_at128 k hk)
  have hc := code_cell k hk w
  have hz := codeCells_size
  have hst := code_store w
  go_enter Try.func12, Try.ntmps12
  go_wp2_with ((with_reducible refine wpList_buildTo (o := ⟨some 4, _, _, _, _, _⟩) rfl 45 _ rfl (some 4) rfl codeCells (by kernel_rfl) ?_))
  go_ret
  exact ⟨ret_int H.out.symm, (Below.refl _ _).alloc (Nat.le_refl _) _⟩
theorem code_own1 (n : Int) (h0 : 0 < n) (h1 : n < 128) (w : World) :
    Calls Try.prog 12 #[.int .i64 n] w fun e w' => e = .returned (.int .i32 (code n)) ∧ Below w.heap.size w w' := by
  have H : Hid _ := Lib.hid (code_own (n := n) (by omega) (by omega) (by omega) (by omega))
  have hz := codeCells_size
  have hst := code_store w
  go_enter Try.func12, Try.ntmps12
  go_wp2_with ((with_reducible refine wpList_buildTo (o := ⟨some 4, _, _, _, _, _⟩) rfl 45 _ rfl (some 4) rfl codeCells (by kernel_rfl) ?_))
  go_ret
  exact ⟨ret_int H.out.symm, (Below.refl _ _).alloc (Nat.le_refl _) _⟩
theorem code_own2 (n : Int) (h0 : 159 < n) (h1 : n < 55296) (w : World) :
    Calls Try.prog 12 #[.int .i64 n] w fun e w' => e = .returned (.int .i32 (code n)) ∧ Below w.heap.size w w' := by
  have H : Hid _ := Lib.hid (code_own (n := n) (by omega) (by omega) (by omega) (by omega))
  have hz := codeCells_size
  have hst := code_store w
  go_enter Try.func12, Try.ntmps12
  go_wp2_with ((with_reducible refine wpList_buildTo (o := ⟨some 4, _, _, _, _, _⟩) rfl 45 _ rfl (some 4) rfl codeCells (by kernel_rfl) ?_))
  go_ret
  exact ⟨ret_int H.out.symm, (Below.refl _ _).alloc (Nat.le_refl _) _⟩
theorem code_own3 (n : Int) (h0 : 57343 < n) (h1 : n ≤ 1114111) (w : World) :
    Calls Try.prog 12 #[.int .i64 n] w fun e w' => e = .returned (.int .i32 (code n)) ∧ Below w.heap.size w w' := by
  have H : Hid _ := Lib.hid (code_own (n := n) (by omega) (by omega) (by omega) (by omega))
  have hz := codeCells_size
  have hst := code_store w
  go_enter Try.func12, Try.ntmps12
  go_wp2_with ((with_reducible refine wpList_buildTo (o := ⟨some 4, _, _, _, _, _⟩) rfl 45 _ rfl (some 4) rfl codeCells (by kernel_rfl) ?_))
  go_ret
  exact ⟨ret_int H.out.symm, (Below.refl _ _).alloc (Nat.le_refl _) _⟩
theorem code_calls (n : Int) (w : World) :
    Calls Try.prog 12 #[.int .i64 n] w fun e w' => e = .returned (.int .i32 (code n)) ∧ Below w.heap.size w w' := by
  rcases (show n ≤ 0 ∨ 1114111 < n ∨ (55296 ≤ n ∧ n ≤ 57343) ∨ (∃ k : Nat, k < 32 ∧ n = 128 + (k : Int)) ∨ (0 < n ∧ n < 128) ∨ (159 < n ∧ n < 55296) ∨ (57343 < n ∧ n ≤ 1114111) by
    by_cases h : 128 ≤ n ∧ n ≤ 159
    · exact .inr (.inr (.inr (.inl ⟨(n - 128).toNat, by omega, by omega⟩)))
    · omega) with h | h | ⟨h, h'⟩ | ⟨k, hk, rfl⟩ | ⟨h, h'⟩ | ⟨h, h'⟩ | ⟨h, h'⟩
  · exact code_low n h w
  · exact code_high n h w
  · exact code_mid n h h' w
  · exact code_tab k hk w
  · exact code_own1 n h h' w
  · exact code_own2 n h h' w
  · exact code_own3 n h h' w
theorem rcode_low (n : Int) (h0 : n ≤ 0) (w : World) :
    Calls Try.prog 18 #[.int .i64 n] w fun e w' => e = .returned (.int .i32 (code n)) ∧ w = w' := by
  have H : Hid _ := Lib.hid (code_bad (n := n) (by omega))
  go_enter Try.func18, Try.ntmps18
  go_wp2
  go_ret
  exact ⟨ret_int H.out.symm, rfl⟩
theorem rcode_high (n : Int) (h0 : 1114111 < n) (w : World) :
    Calls Try.prog 18 #[.int .i64 n] w fun e w' => e = .returned (.int .i32 (code n)) ∧ w = w' := by
  have H : Hid _ := Lib.hid (code_bad (n := n) (by omega))
  go_enter Try.func18, Try.ntmps18
  go_wp2
  go_ret
  exact ⟨ret_int H.out.symm, rfl⟩
theorem rcode_mid (n : Int) (h0 : 55296 ≤ n) (h1 : n ≤ 57343) (w : World) :
    Calls Try.prog 18 #[.int .i64 n] w fun e w' => e = .returned (.int .i32 (code n)) ∧ w = w' := by
  have H : Hid _ := Lib.hid (code_bad (n := n) (by omega))
  go_enter Try.func18, Try.ntmps18
  go_wp2
  go_ret
  exact ⟨ret_int H.out.symm, rfl⟩
set_option maxRecDepth 20000 in
theorem rcode_tab (k : Nat) (hk : k < 32) (w : World) :
    Calls Try.prog 18 #[.int .i64 (128 + (k : Int))] w fun e w' => e = .returned (.int .i32 (code (128 + (k : Int)))) ∧ w = w' := by
  have H : Hid _ := Lib.hid (code_at128 k hk)
  have hc : ∀ w, (Instr.index 45 (.agg codeCells) (.int .i64 (128 + (k : Int) - 128))).run Try.prog w = .ok (.int .i32 (codeAt k)) w := fun w => by
    rw [show 128 + (k : Int) - 128 = (k : Int) by omega, ← codeV_is]; exact code_index k hk w
  go_enter Try.func18, Try.ntmps18
  go_wp2_with (first | (with_reducible refine wpList_buildTo (o := ⟨some 25, _, _, _, _, _⟩) rfl 45 _ rfl (some 25) rfl codeCells (by kernel_rfl) ?_))
  go_ret
  exact ⟨ret_int H.out.symm, rfl⟩
theorem rcode_own1 (n : Int) (h0 : 0 < n) (h1 : n < 128) (w : World) :
    Calls Try.prog 18 #[.int .i64 n] w fun e w' => e = .returned (.int .i32 (code n)) ∧ w = w' := by
  have H : Hid _ := Lib.hid (code_own (n := n) (by omega) (by omega) (by omega) (by omega))
  go_enter Try.func18, Try.ntmps18
  go_wp2
  go_ret
  exact ⟨ret_int H.out.symm, rfl⟩
theorem rcode_own2 (n : Int) (h0 : 159 < n) (h1 : n < 55296) (w : World) :
    Calls Try.prog 18 #[.int .i64 n] w fun e w' => e = .returned (.int .i32 (code n)) ∧ w = w' := by
  have H : Hid _ := Lib.hid (code_own (n := n) (by omega) (by omega) (by omega) (by omega))
  go_enter Try.func18, Try.ntmps18
  go_wp2
  go_ret
  exact ⟨ret_int H.out.symm, rfl⟩
theorem rcode_own3 (n : Int) (h0 : 57343 < n) (h1 : n ≤ 1114111) (w : World) :
    Calls Try.prog 18 #[.int .i64 n] w fun e w' => e = .returned (.int .i32 (code n)) ∧ w = w' := by
  have H : Hid _ := Lib.hid (code_own (n := n) (by omega) (by omega) (by omega) (by omega))
  go_enter Try.func18, Try.ntmps18
  go_wp2
  go_ret
  exact ⟨ret_int H.out.symm, rfl⟩
theorem rcode_calls (n : Int) (w : World) :
    Calls Try.prog 18 #[.int .i64 n] w fun e w' => e = .returned (.int .i32 (code n)) ∧ w = w' := by
  rcases (show n ≤ 0 ∨ 1114111 < n ∨ (55296 ≤ n ∧ n ≤ 57343) ∨ (∃ k : Nat, k < 32 ∧ n = 128 + (k : Int)) ∨ (0 < n ∧ n < 128) ∨ (159 < n ∧ n < 55296) ∨ (57343 < n ∧ n ≤ 1114111) by
    by_cases h : 128 ≤ n ∧ n ≤ 159
    · exact .inr (.inr (.inr (.inl ⟨(n - 128).toNat, by omega, by omega⟩)))
    · omega) with h | h | ⟨h, h'⟩ | ⟨k, hk, rfl⟩ | ⟨h, h'⟩ | ⟨h, h'⟩ | ⟨h, h'⟩
  · exact rcode_low n h w
  · exact rcode_high n h w
  · exact rcode_mid n h h' w
  · exact rcode_tab k hk w
  · exact rcode_own1 n h h' w
  · exact rcode_own2 n h h' w
  · exact rcode_own3 n h h' w
end Go.Proofs.Ytfjlpekoklmedaa.Ct
