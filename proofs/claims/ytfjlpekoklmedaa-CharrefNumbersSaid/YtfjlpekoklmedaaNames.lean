/- The names and their signs, as the program's maker of its map stores them. -/
import Derived.Test.YtfjlpekoklmedaaSs
namespace Go.Proofs.Ytfjlpekoklmedaa.Ss
open Go Go.RowKit

def base : Pairs := [
  (⟨#[97, 112, 111, 115, 59]⟩, ⟨#[39]⟩),
  (⟨#[116, 114, 97, 100, 101, 59]⟩, ⟨#[226, 132, 162]⟩),
  (⟨#[104, 101, 108, 108, 105, 112, 59]⟩, ⟨#[226, 128, 166]⟩),
  (⟨#[109, 100, 97, 115, 104, 59]⟩, ⟨#[226, 128, 148]⟩),
  (⟨#[110, 100, 97, 115, 104, 59]⟩, ⟨#[226, 128, 147]⟩),
  (⟨#[108, 115, 113, 117, 111, 59]⟩, ⟨#[226, 128, 152]⟩),
  (⟨#[114, 115, 113, 117, 111, 59]⟩, ⟨#[226, 128, 153]⟩),
  (⟨#[108, 100, 113, 117, 111, 59]⟩, ⟨#[226, 128, 156]⟩),
  (⟨#[114, 100, 113, 117, 111, 59]⟩, ⟨#[226, 128, 157]⟩),
  (⟨#[98, 117, 108, 108, 59]⟩, ⟨#[226, 128, 162]⟩),
  (⟨#[101, 117, 114, 111, 59]⟩, ⟨#[226, 130, 172]⟩),
  (⟨#[97, 108, 112, 104, 97, 59]⟩, ⟨#[206, 177]⟩),
  (⟨#[98, 101, 116, 97, 59]⟩, ⟨#[206, 178]⟩),
  (⟨#[112, 105, 59]⟩, ⟨#[207, 128]⟩),
  (⟨#[105, 110, 102, 105, 110, 59]⟩, ⟨#[226, 136, 158]⟩),
  (⟨#[110, 111, 116, 105, 110, 59]⟩, ⟨#[226, 136, 137]⟩),
  (⟨#[110, 111, 116, 110, 105, 59]⟩, ⟨#[226, 136, 140]⟩),
  (⟨#[110, 101, 59]⟩, ⟨#[226, 137, 160]⟩),
  (⟨#[108, 101, 59]⟩, ⟨#[226, 137, 164]⟩),
  (⟨#[103, 101, 59]⟩, ⟨#[226, 137, 165]⟩),
  (⟨#[102, 106, 108, 105, 103, 59]⟩, ⟨#[102, 106]⟩)]
def tab : Pairs := [
  (⟨#[97, 109, 112]⟩, ⟨#[38]⟩),
  (⟨#[108, 116]⟩, ⟨#[60]⟩),
  (⟨#[103, 116]⟩, ⟨#[62]⟩),
  (⟨#[113, 117, 111, 116]⟩, ⟨#[34]⟩),
  (⟨#[65, 77, 80]⟩, ⟨#[38]⟩),
  (⟨#[76, 84]⟩, ⟨#[60]⟩),
  (⟨#[71, 84]⟩, ⟨#[62]⟩),
  (⟨#[110, 98, 115, 112]⟩, ⟨#[194, 160]⟩),
  (⟨#[99, 101, 110, 116]⟩, ⟨#[194, 162]⟩),
  (⟨#[112, 111, 117, 110, 100]⟩, ⟨#[194, 163]⟩),
  (⟨#[121, 101, 110]⟩, ⟨#[194, 165]⟩),
  (⟨#[115, 101, 99, 116]⟩, ⟨#[194, 167]⟩),
  (⟨#[99, 111, 112, 121]⟩, ⟨#[194, 169]⟩),
  (⟨#[110, 111, 116]⟩, ⟨#[194, 172]⟩),
  (⟨#[114, 101, 103]⟩, ⟨#[194, 174]⟩),
  (⟨#[100, 101, 103]⟩, ⟨#[194, 176]⟩),
  (⟨#[112, 108, 117, 115, 109, 110]⟩, ⟨#[194, 177]⟩),
  (⟨#[112, 97, 114, 97]⟩, ⟨#[194, 182]⟩),
  (⟨#[109, 105, 100, 100, 111, 116]⟩, ⟨#[194, 183]⟩),
  (⟨#[102, 114, 97, 99, 49, 50]⟩, ⟨#[194, 189]⟩),
  (⟨#[65, 117, 109, 108]⟩, ⟨#[195, 132]⟩),
  (⟨#[116, 105, 109, 101, 115]⟩, ⟨#[195, 151]⟩),
  (⟨#[79, 117, 109, 108]⟩, ⟨#[195, 150]⟩),
  (⟨#[85, 117, 109, 108]⟩, ⟨#[195, 156]⟩),
  (⟨#[115, 122, 108, 105, 103]⟩, ⟨#[195, 159]⟩),
  (⟨#[97, 97, 99, 117, 116, 101]⟩, ⟨#[195, 161]⟩),
  (⟨#[97, 117, 109, 108]⟩, ⟨#[195, 164]⟩),
  (⟨#[101, 103, 114, 97, 118, 101]⟩, ⟨#[195, 168]⟩),
  (⟨#[101, 97, 99, 117, 116, 101]⟩, ⟨#[195, 169]⟩),
  (⟨#[111, 117, 109, 108]⟩, ⟨#[195, 182]⟩),
  (⟨#[100, 105, 118, 105, 100, 101]⟩, ⟨#[195, 183]⟩),
  (⟨#[117, 117, 109, 108]⟩, ⟨#[195, 188]⟩)]
def nm (k : Nat) : ByteArray := (tab.getD k (ByteArray.empty, ByteArray.empty)).1
def sg (k : Nat) : ByteArray := (tab.getD k (ByteArray.empty, ByteArray.empty)).2
/-- What is stored behind k rounds. -/
def pairsTo : Nat → Pairs
  | 0 => base
  | k + 1 => pairsTo k ++ [(nm k, sg k)] ++ [(nm k ++ ⟨#[59]⟩, sg k)]
theorem pairs_zero : pairsTo 0 = base := rfl
theorem pairs_succ (k : Nat) : pairsTo (k + 1) = pairsTo k ++ [(nm k, sg k)] ++ [(nm k ++ ⟨#[59]⟩, sg k)] := rfl
theorem tab_small : ∀ p ∈ tab, p.1.size ≤ 6 ∧ p.2.size ≤ 2 := by decide
theorem nm_small (k : Nat) : (nm k).size ≤ 6 ∧ (sg k).size ≤ 2 := by
  unfold nm sg
  rcases Nat.lt_or_ge k tab.length with h | h
  · have e : tab.getD k (ByteArray.empty, ByteArray.empty) = tab[k] := by simp [List.getD, h]
    rw [e]; exact tab_small _ (List.getElem_mem h)
  · have e : tab.getD k (ByteArray.empty, ByteArray.empty) = (ByteArray.empty, ByteArray.empty) := by simp [List.getD, h]
    rw [e]; decide
theorem semi_small (k : Nat) : (nm k ++ (⟨#[59]⟩ : ByteArray)).size ≤ 7 := by
  have := (nm_small k).1
  rw [ByteArray.size_append]; show _ + 1 ≤ 7; omega
/-- The table as the program holds it. -/
def tabV : Value := .agg #[
  .string ⟨#[97, 109, 112]⟩, .string ⟨#[38]⟩,
  .string ⟨#[108, 116]⟩, .string ⟨#[60]⟩,
  .string ⟨#[103, 116]⟩, .string ⟨#[62]⟩,
  .string ⟨#[113, 117, 111, 116]⟩, .string ⟨#[34]⟩,
  .string ⟨#[65, 77, 80]⟩, .string ⟨#[38]⟩,
  .string ⟨#[76, 84]⟩, .string ⟨#[60]⟩,
  .string ⟨#[71, 84]⟩, .string ⟨#[62]⟩,
  .string ⟨#[110, 98, 115, 112]⟩, .string ⟨#[194, 160]⟩,
  .string ⟨#[99, 101, 110, 116]⟩, .string ⟨#[194, 162]⟩,
  .string ⟨#[112, 111, 117, 110, 100]⟩, .string ⟨#[194, 163]⟩,
  .string ⟨#[121, 101, 110]⟩, .string ⟨#[194, 165]⟩,
  .string ⟨#[115, 101, 99, 116]⟩, .string ⟨#[194, 167]⟩,
  .string ⟨#[99, 111, 112, 121]⟩, .string ⟨#[194, 169]⟩,
  .string ⟨#[110, 111, 116]⟩, .string ⟨#[194, 172]⟩,
  .string ⟨#[114, 101, 103]⟩, .string ⟨#[194, 174]⟩,
  .string ⟨#[100, 101, 103]⟩, .string ⟨#[194, 176]⟩,
  .string ⟨#[112, 108, 117, 115, 109, 110]⟩, .string ⟨#[194, 177]⟩,
  .string ⟨#[112, 97, 114, 97]⟩, .string ⟨#[194, 182]⟩,
  .string ⟨#[109, 105, 100, 100, 111, 116]⟩, .string ⟨#[194, 183]⟩,
  .string ⟨#[102, 114, 97, 99, 49, 50]⟩, .string ⟨#[194, 189]⟩,
  .string ⟨#[65, 117, 109, 108]⟩, .string ⟨#[195, 132]⟩,
  .string ⟨#[116, 105, 109, 101, 115]⟩, .string ⟨#[195, 151]⟩,
  .string ⟨#[79, 117, 109, 108]⟩, .string ⟨#[195, 150]⟩,
  .string ⟨#[85, 117, 109, 108]⟩, .string ⟨#[195, 156]⟩,
  .string ⟨#[115, 122, 108, 105, 103]⟩, .string ⟨#[195, 159]⟩,
  .string ⟨#[97, 97, 99, 117, 116, 101]⟩, .string ⟨#[195, 161]⟩,
  .string ⟨#[97, 117, 109, 108]⟩, .string ⟨#[195, 164]⟩,
  .string ⟨#[101, 103, 114, 97, 118, 101]⟩, .string ⟨#[195, 168]⟩,
  .string ⟨#[101, 97, 99, 117, 116, 101]⟩, .string ⟨#[195, 169]⟩,
  .string ⟨#[111, 117, 109, 108]⟩, .string ⟨#[195, 182]⟩,
  .string ⟨#[100, 105, 118, 105, 100, 101]⟩, .string ⟨#[195, 183]⟩,
  .string ⟨#[117, 117, 109, 108]⟩, .string ⟨#[195, 188]⟩]
theorem tab_0 (w : World) : (Instr.index 66 tabV (.int .i64 ((0 : Nat) : Int))).run Try.prog w = .ok (.agg #[.string (nm 0), .string (sg 0)]) w := by kernel_rfl
theorem tab_1 (w : World) : (Instr.index 66 tabV (.int .i64 ((1 : Nat) : Int))).run Try.prog w = .ok (.agg #[.string (nm 1), .string (sg 1)]) w := by kernel_rfl
theorem tab_2 (w : World) : (Instr.index 66 tabV (.int .i64 ((2 : Nat) : Int))).run Try.prog w = .ok (.agg #[.string (nm 2), .string (sg 2)]) w := by kernel_rfl
theorem tab_3 (w : World) : (Instr.index 66 tabV (.int .i64 ((3 : Nat) : Int))).run Try.prog w = .ok (.agg #[.string (nm 3), .string (sg 3)]) w := by kernel_rfl
theorem tab_4 (w : World) : (Instr.index 66 tabV (.int .i64 ((4 : Nat) : Int))).run Try.prog w = .ok (.agg #[.string (nm 4), .string (sg 4)]) w := by kernel_rfl
theorem tab_5 (w : World) : (Instr.index 66 tabV (.int .i64 ((5 : Nat) : Int))).run Try.prog w = .ok (.agg #[.string (nm 5), .string (sg 5)]) w := by kernel_rfl
theorem tab_6 (w : World) : (Instr.index 66 tabV (.int .i64 ((6 : Nat) : Int))).run Try.prog w = .ok (.agg #[.string (nm 6), .string (sg 6)]) w := by kernel_rfl
theorem tab_7 (w : World) : (Instr.index 66 tabV (.int .i64 ((7 : Nat) : Int))).run Try.prog w = .ok (.agg #[.string (nm 7), .string (sg 7)]) w := by kernel_rfl
theorem tab_8 (w : World) : (Instr.index 66 tabV (.int .i64 ((8 : Nat) : Int))).run Try.prog w = .ok (.agg #[.string (nm 8), .string (sg 8)]) w := by kernel_rfl
theorem tab_9 (w : World) : (Instr.index 66 tabV (.int .i64 ((9 : Nat) : Int))).run Try.prog w = .ok (.agg #[.string (nm 9), .string (sg 9)]) w := by kernel_rfl
theorem tab_10 (w : World) : (Instr.index 66 tabV (.int .i64 ((10 : Nat) : Int))).run Try.prog w = .ok (.agg #[.string (nm 10), .string (sg 10)]) w := by kernel_rfl
theorem tab_11 (w : World) : (Instr.index 66 tabV (.int .i64 ((11 : Nat) : Int))).run Try.prog w = .ok (.agg #[.string (nm 11), .string (sg 11)]) w := by kernel_rfl
theorem tab_12 (w : World) : (Instr.index 66 tabV (.int .i64 ((12 : Nat) : Int))).run Try.prog w = .ok (.agg #[.string (nm 12), .string (sg 12)]) w := by kernel_rfl
theorem tab_13 (w : World) : (Instr.index 66 tabV (.int .i64 ((13 : Nat) : Int))).run Try.prog w = .ok (.agg #[.string (nm 13), .string (sg 13)]) w := by kernel_rfl
theorem tab_14 (w : World) : (Instr.index 66 tabV (.int .i64 ((14 : Nat) : Int))).run Try.prog w = .ok (.agg #[.string (nm 14), .string (sg 14)]) w := by kernel_rfl
theorem tab_15 (w : World) : (Instr.index 66 tabV (.int .i64 ((15 : Nat) : Int))).run Try.prog w = .ok (.agg #[.string (nm 15), .string (sg 15)]) w := by kernel_rfl
theorem tab_16 (w : World) : (Instr.index 66 tabV (.int .i64 ((16 : Nat) : Int))).run Try.prog w = .ok (.agg #[.string (nm 16), .string (sg 16)]) w := by kernel_rfl
theorem tab_17 (w : World) : (Instr.index 66 tabV (.int .i64 ((17 : Nat) : Int))).run Try.prog w = .ok (.agg #[.string (nm 17), .string (sg 17)]) w := by kernel_rfl
theorem tab_18 (w : World) : (Instr.index 66 tabV (.int .i64 ((18 : Nat) : Int))).run Try.prog w = .ok (.agg #[.string (nm 18), .string (sg 18)]) w := by kernel_rfl
theorem tab_19 (w : World) : (Instr.index 66 tabV (.int .i64 ((19 : Nat) : Int))).run Try.prog w = .ok (.agg #[.string (nm 19), .string (sg 19)]) w := by kernel_rfl
theorem tab_20 (w : World) : (Instr.index 66 tabV (.int .i64 ((20 : Nat) : Int))).run Try.prog w = .ok (.agg #[.string (nm 20), .string (sg 20)]) w := by kernel_rfl
theorem tab_21 (w : World) : (Instr.index 66 tabV (.int .i64 ((21 : Nat) : Int))).run Try.prog w = .ok (.agg #[.string (nm 21), .string (sg 21)]) w := by kernel_rfl
theorem tab_22 (w : World) : (Instr.index 66 tabV (.int .i64 ((22 : Nat) : Int))).run Try.prog w = .ok (.agg #[.string (nm 22), .string (sg 22)]) w := by kernel_rfl
theorem tab_23 (w : World) : (Instr.index 66 tabV (.int .i64 ((23 : Nat) : Int))).run Try.prog w = .ok (.agg #[.string (nm 23), .string (sg 23)]) w := by kernel_rfl
theorem tab_24 (w : World) : (Instr.index 66 tabV (.int .i64 ((24 : Nat) : Int))).run Try.prog w = .ok (.agg #[.string (nm 24), .string (sg 24)]) w := by kernel_rfl
theorem tab_25 (w : World) : (Instr.index 66 tabV (.int .i64 ((25 : Nat) : Int))).run Try.prog w = .ok (.agg #[.string (nm 25), .string (sg 25)]) w := by kernel_rfl
theorem tab_26 (w : World) : (Instr.index 66 tabV (.int .i64 ((26 : Nat) : Int))).run Try.prog w = .ok (.agg #[.string (nm 26), .string (sg 26)]) w := by kernel_rfl
theorem tab_27 (w : World) : (Instr.index 66 tabV (.int .i64 ((27 : Nat) : Int))).run Try.prog w = .ok (.agg #[.string (nm 27), .string (sg 27)]) w := by kernel_rfl
theorem tab_28 (w : World) : (Instr.index 66 tabV (.int .i64 ((28 : Nat) : Int))).run Try.prog w = .ok (.agg #[.string (nm 28), .string (sg 28)]) w := by kernel_rfl
theorem tab_29 (w : World) : (Instr.index 66 tabV (.int .i64 ((29 : Nat) : Int))).run Try.prog w = .ok (.agg #[.string (nm 29), .string (sg 29)]) w := by kernel_rfl
theorem tab_30 (w : World) : (Instr.index 66 tabV (.int .i64 ((30 : Nat) : Int))).run Try.prog w = .ok (.agg #[.string (nm 30), .string (sg 30)]) w := by kernel_rfl
theorem tab_31 (w : World) : (Instr.index 66 tabV (.int .i64 ((31 : Nat) : Int))).run Try.prog w = .ok (.agg #[.string (nm 31), .string (sg 31)]) w := by kernel_rfl
theorem tab_index (k : Nat) (hk : k < 32) (w : World) : (Instr.index 66 tabV (.int .i64 k)).run Try.prog w = .ok (.agg #[.string (nm k), .string (sg k)]) w := by
  rcases (show k = 0 ∨ k = 1 ∨ k = 2 ∨ k = 3 ∨ k = 4 ∨ k = 5 ∨ k = 6 ∨ k = 7 ∨ k = 8 ∨ k = 9 ∨ k = 10 ∨ k = 11 ∨ k = 12 ∨ k = 13 ∨ k = 14 ∨ k = 15 ∨ k = 16 ∨ k = 17 ∨ k = 18 ∨ k = 19 ∨ k = 20 ∨ k = 21 ∨ k = 22 ∨ k = 23 ∨ k = 24 ∨ k = 25 ∨ k = 26 ∨ k = 27 ∨ k = 28 ∨ k = 29 ∨ k = 30 ∨ k = 31 by omega) with rfl | rfl | rfl | rfl | rfl | rfl | rfl | rfl | rfl | rfl | rfl | rfl | rfl | rfl | rfl | rfl | rfl | rfl | rfl | rfl | rfl | rfl | rfl | rfl | rfl | rfl | rfl | rfl | rfl | rfl | rfl | rfl
  · exact tab_0 w
  · exact tab_1 w
  · exact tab_2 w
  · exact tab_3 w
  · exact tab_4 w
  · exact tab_5 w
  · exact tab_6 w
  · exact tab_7 w
  · exact tab_8 w
  · exact tab_9 w
  · exact tab_10 w
  · exact tab_11 w
  · exact tab_12 w
  · exact tab_13 w
  · exact tab_14 w
  · exact tab_15 w
  · exact tab_16 w
  · exact tab_17 w
  · exact tab_18 w
  · exact tab_19 w
  · exact tab_20 w
  · exact tab_21 w
  · exact tab_22 w
  · exact tab_23 w
  · exact tab_24 w
  · exact tab_25 w
  · exact tab_26 w
  · exact tab_27 w
  · exact tab_28 w
  · exact tab_29 w
  · exact tab_30 w
  · exact tab_31 w
theorem tabV_is : tabV = .agg #[
  .string ⟨#[97, 109, 112]⟩, .string ⟨#[38]⟩,
  .string ⟨#[108, 116]⟩, .string ⟨#[60]⟩,
  .string ⟨#[103, 116]⟩, .string ⟨#[62]⟩,
  .string ⟨#[113, 117, 111, 116]⟩, .string ⟨#[34]⟩,
  .string ⟨#[65, 77, 80]⟩, .string ⟨#[38]⟩,
  .string ⟨#[76, 84]⟩, .string ⟨#[60]⟩,
  .string ⟨#[71, 84]⟩, .string ⟨#[62]⟩,
  .string ⟨#[110, 98, 115, 112]⟩, .string ⟨#[194, 160]⟩,
  .string ⟨#[99, 101, 110, 116]⟩, .string ⟨#[194, 162]⟩,
  .string ⟨#[112, 111, 117, 110, 100]⟩, .string ⟨#[194, 163]⟩,
  .string ⟨#[121, 101, 110]⟩, .string ⟨#[194, 165]⟩,
  .string ⟨#[115, 101, 99, 116]⟩, .string ⟨#[194, 167]⟩,
  .string ⟨#[99, 111, 112, 121]⟩, .string ⟨#[194, 169]⟩,
  .string ⟨#[110, 111, 116]⟩, .string ⟨#[194, 172]⟩,
  .string ⟨#[114, 101, 103]⟩, .string ⟨#[194, 174]⟩,
  .string ⟨#[100, 101, 103]⟩, .string ⟨#[194, 176]⟩,
  .string ⟨#[112, 108, 117, 115, 109, 110]⟩, .string ⟨#[194, 177]⟩,
  .string ⟨#[112, 97, 114, 97]⟩, .string ⟨#[194, 182]⟩,
  .string ⟨#[109, 105, 100, 100, 111, 116]⟩, .string ⟨#[194, 183]⟩,
  .string ⟨#[102, 114, 97, 99, 49, 50]⟩, .string ⟨#[194, 189]⟩,
  .string ⟨#[65, 117, 109, 108]⟩, .string ⟨#[195, 132]⟩,
  .string ⟨#[116, 105, 109, 101, 115]⟩, .string ⟨#[195, 151]⟩,
  .string ⟨#[79, 117, 109, 108]⟩, .string ⟨#[195, 150]⟩,
  .string ⟨#[85, 117, 109, 108]⟩, .string ⟨#[195, 156]⟩,
  .string ⟨#[115, 122, 108, 105, 103]⟩, .string ⟨#[195, 159]⟩,
  .string ⟨#[97, 97, 99, 117, 116, 101]⟩, .string ⟨#[195, 161]⟩,
  .string ⟨#[97, 117, 109, 108]⟩, .string ⟨#[195, 164]⟩,
  .string ⟨#[101, 103, 114, 97, 118, 101]⟩, .string ⟨#[195, 168]⟩,
  .string ⟨#[101, 97, 99, 117, 116, 101]⟩, .string ⟨#[195, 169]⟩,
  .string ⟨#[111, 117, 109, 108]⟩, .string ⟨#[195, 182]⟩,
  .string ⟨#[100, 105, 118, 105, 100, 101]⟩, .string ⟨#[195, 183]⟩,
  .string ⟨#[117, 117, 109, 108]⟩, .string ⟨#[195, 188]⟩] := rfl
attribute [irreducible] nm sg pairsTo tabV
end Go.Proofs.Ytfjlpekoklmedaa.Ss
