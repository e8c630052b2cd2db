/- A map from texts to texts that the call itself makes: one word for what it holds, a law for a store, one for a lookP-up. -/
import Derived.Test.YtbdgoffbkenofaaGreatProg
import Derived.WalkKit
import Derived.WalkLawsBesides
import Derived.WalkSpells
import Derived.Handy
import Derived.Lib.Hide
import Derived.Maps.OwnSet
import Derived.Maps.StringElems
namespace Go.Proofs.YtbdgoffbkenofaaGreat.Ss
open Go Go.RowKit Go.Maps Go.ChangeMaps Go.WideMaps Go.WideElems

/-- Pairs, the later ones over the earlier ones. -/
abbrev Pairs := List (ByteArray × ByteArray)
/-- What a map holds at a key, the pairs being stored one behind the other. -/
def lookP : Pairs → ByteArray → Option ByteArray
  | [], _ => none
  | p :: r, k => match lookP r k with
    | some v => some v
    | none => if p.1 = k then some p.2 else none
theorem lookP_append (L M : Pairs) (k : ByteArray) : lookP (L ++ M) k = match lookP M k with | some v => some v | none => lookP L k := by
  induction L with
  | nil => simp [lookP]; cases lookP M k <;> rfl
  | cons p r ih =>
    rw [List.cons_append, lookP, ih]
    cases h : lookP M k with
    | some v => rfl
    | none => rfl
theorem lookP_snoc (L : Pairs) (p : ByteArray × ByteArray) (k : ByteArray) : lookP (L ++ [p]) k = if p.1 = k then some p.2 else lookP L k := by
  rw [lookP_append]; simp only [lookP]; split <;> simp_all
theorem rev_ind {α : Type} {P : List α → Prop} (h0 : P []) (h1 : ∀ L p, P L → P (L ++ [p])) (L : List α) : P L := by
  have h : ∀ M : List α, P M.reverse := by
    intro M
    induction M with
    | nil => exact h0
    | cons a M ih => rw [List.reverse_cons]; exact h1 _ _ ih
  have := h L.reverse
  rwa [List.reverse_reverse] at this
def putAll (L : Pairs) : DataW Unit := L.foldl (fun m p => m.put (.string p.1.data.toList) (.lit (.string p.2.data.toList))) (.map [])
theorem putAll_snoc (L : Pairs) (p : ByteArray × ByteArray) : putAll (L ++ [p]) = (putAll L).put (.string p.1.data.toList) (.lit (.string p.2.data.toList)) := by
  simp [putAll, List.foldl_append]
theorem bytes_eq {a b : ByteArray} : a.data.toList = b.data.toList ↔ a = b := by
  constructor
  · intro h; cases a; cases b; congr; exact Array.toList_inj.1 h
  · rintro rfl; rfl
theorem isMap_putAll (L : Pairs) : IsMap (putAll L) := by
  refine rev_ind (P := fun L => IsMap (putAll L)) isMap_empty (fun L p ih => ?_) L
  rw [putAll_snoc]; exact ih.put _ _
theorem putAll_has (L : Pairs) (k : ByteArray) : Maps.has (putAll L) (.string k.data.toList) = (lookP L k).isSome := by
  refine rev_ind (P := fun L => Maps.has (putAll L) (.string k.data.toList) = (lookP L k).isSome) rfl (fun L p ih => ?_) L
  · rw [putAll_snoc, lookP_snoc]
    by_cases h : p.1 = k
    · subst h; rw [if_pos rfl, has_put_same (isMap_putAll L) (by trivial)]; rfl
    · rw [if_neg h, has_put_other (by intro e; injection e with e; exact h (bytes_eq.1 e.symm)), ih]
theorem putAll_at (L : Pairs) (k : ByteArray) (z : ByteArray) : (putAll L).atKey (.string k.data.toList) (.lit (.string z.data.toList)) = .lit (.string ((lookP L k).getD z).data.toList) := by
  refine rev_ind (P := fun L => (putAll L).atKey (.string k.data.toList) (.lit (.string z.data.toList)) = .lit (.string ((lookP L k).getD z).data.toList)) rfl (fun L p ih => ?_) L
  · rw [putAll_snoc, lookP_snoc]
    by_cases h : p.1 = k
    · subst h; rw [if_pos rfl, atKey_put_same (isMap_putAll L) (by trivial)]; rfl
    · rw [if_neg h, atKey_put_other (by intro e; injection e with e; exact h (bytes_eq.1 e.symm)), ih]

/-- Block b is a map that holds these pairs; it has at most n entries. -/
def owns (w : World) (b n : Nat) (L : Pairs) : Prop := w.ownsMap Tryz.prog 9 (plainElem Tryz.prog 9) b n (putAll L)
theorem keyed : Keyed Tryz.prog 9 := string_keyed Tryz.underlying9
theorem zeroS (w : World) : (zeroValue 9).run Tryz.prog w = .ok (.string ByteArray.empty) w := by kernel_rfl
theorem owns_made (w : World) : owns (w.alloc (.map #[] 0)) w.heap.size 0 [] := World.ownsMap_made w _ _ _
theorem put {w : World} {b n : Nat} {L : Pairs} (h : owns w b n L) (k v : ByteArray) (hk : k.size ≤ maxLen) (hv : v.size ≤ maxLen) (hn : n < maxLen) :
    ∃ w', (Instr.mapUpdate 98 (.map (some b)) (.string k) (.string v)).run Tryz.prog w = .ok () w' ∧ owns w' b (n + 1) (L ++ [(k, v)]) ∧ w.grownBy w' (some b) := by
  obtain ⟨w', hrun, ho, hg⟩ := World.ownsMap.update h keyed Tryz.underlying98 hn (keyOf_string_mk Tryz.underlying9 hk) (plainElem_string Tryz.underlying9 hv)
  exact ⟨w', hrun, by unfold owns; rw [putAll_snoc]; exact ho, hg⟩
theorem get {w : World} {b n : Nat} {L : Pairs} (h : owns w b n L) (k : ByteArray) (hk : k.size ≤ maxLen) :
    (Instr.lookup 98 (.map (some b)) (.string k) true).run Tryz.prog w = .ok (.tuple #[.string ((lookP L k).getD ByteArray.empty), .bool (lookP L k).isSome]) w := by
  obtain ⟨v, ps, hrun, hv⟩ := World.ownsMap.look_ok h keyed Tryz.underlying98 (zeroS w) (plainElem_string Tryz.underlying9 (by decide)) (keyOf_string_mk Tryz.underlying9 hk)
  rw [putAll_has] at hrun
  obtain ⟨s, rfl, he, _⟩ := plainElem_string_inv Tryz.underlying9 hv
  have e := (Prod.mk.inj he).1
  rw [putAll_at] at e
  rw [hrun, bytes_eq.1 (Lit.string.inj (DataW.lit.inj e))]
theorem owns.keep {w w' : World} {b n : Nat} {L : Pairs} (h : owns w b n L) {row : Option Nat} (hg : w.grownBy w' row) (hne : some b ≠ row) : owns w' b n L := World.ownsMap.kept h hg hne
theorem owns.alloc {w : World} {b n : Nat} {L : Pairs} (h : owns w b n L) (o : Obj) : owns (w.alloc o) b n L := World.ownsMap.alloc h o
theorem owns.drew {w : World} {b n : Nat} {L : Pairs} (h : owns w b n L) : owns w.drew b n L := h
theorem owns.below {w w' : World} {b n B : Nat} {L : Pairs} (h : owns w b n L) (hb : Below B w w') (hB : b < B) : owns w' b n L := by
  obtain ⟨es, clock, hh, r⟩ := h
  exact ⟨es, clock, (hb.block b hB).trans hh, r⟩
theorem owns.lt {w : World} {b n : Nat} {L : Pairs} (h : owns w b n L) : b < w.heap.size := World.ownsMap.lt h
end Go.Proofs.YtbdgoffbkenofaaGreat.Ss
namespace Go.Proofs.YtbdgoffbkenofaaGreat.Ss
open Go Go.RowKit

def base : Pairs := [
  (⟨#[97, 112, 111, 115, 59]⟩, ⟨#[39]⟩),
  (⟨#[116, 114, 97, 100, 101, 59]⟩, ⟨#[226, 132, 162]⟩),
  (⟨#[104, 101, 108, 108, 105, 112, 59]⟩, ⟨#[226, 128, 166]⟩),
  (⟨#[109, 100, 97, 115, 104, 59]⟩, ⟨#[226, 128, 148]⟩),
  (⟨#[110, 100, 97, 115, 104, 59]⟩, ⟨#[226, 128, 147]⟩),
  (⟨#[108, 115, 113, 117, 111, 59]⟩, ⟨#[226, 128, 152]⟩),
  (⟨#[114, 115, 113, 117, 111, 59]⟩, ⟨#[226, 128, 153]⟩),
  (⟨#[108, 100, 113, 117, 111, 59]⟩, ⟨#[226, 128, 156]⟩),
  (⟨#[114, 100, 113, 117, 111, 59]⟩, ⟨#[226, 128, 157]⟩),
  (⟨#[98, 117, 108, 108, 59]⟩, ⟨#[226, 128, 162]⟩),
  (⟨#[101, 117, 114, 111, 59]⟩, ⟨#[226, 130, 172]⟩),
  (⟨#[97, 108, 112, 104, 97, 59]⟩, ⟨#[206, 177]⟩),
  (⟨#[98, 101, 116, 97, 59]⟩, ⟨#[206, 178]⟩),
  (⟨#[112, 105, 59]⟩, ⟨#[207, 128]⟩),
  (⟨#[105, 110, 102, 105, 110, 59]⟩, ⟨#[226, 136, 158]⟩),
  (⟨#[110, 111, 116, 105, 110, 59]⟩, ⟨#[226, 136, 137]⟩),
  (⟨#[110, 111, 116, 110, 105, 59]⟩, ⟨#[226, 136, 140]⟩),
  (⟨#[110, 101, 59]⟩, ⟨#[226, 137, 160]⟩),
  (⟨#[108, 101, 59]⟩, ⟨#[226, 137, 164]⟩),
  (⟨#[103, 101, 59]⟩, ⟨#[226, 137, 165]⟩),
  (⟨#[102, 106, 108, 105, 103, 59]⟩, ⟨#[102, 106]⟩)]
def tab : Pairs := [
  (⟨#[97, 109, 112]⟩, ⟨#[38]⟩),
  (⟨#[108, 116]⟩, ⟨#[60]⟩),
  (⟨#[103, 116]⟩, ⟨#[62]⟩),
  (⟨#[113, 117, 111, 116]⟩, ⟨#[34]⟩),
  (⟨#[65, 77, 80]⟩, ⟨#[38]⟩),
  (⟨#[76, 84]⟩, ⟨#[60]⟩),
  (⟨#[71, 84]⟩, ⟨#[62]⟩),
  (⟨#[110, 98, 115, 112]⟩, ⟨#[194, 160]⟩),
  (⟨#[99, 101, 110, 116]⟩, ⟨#[194, 162]⟩),
  (⟨#[112, 111, 117, 110, 100]⟩, ⟨#[194, 163]⟩),
  (⟨#[121, 101, 110]⟩, ⟨#[194, 165]⟩),
  (⟨#[115, 101, 99, 116]⟩, ⟨#[194, 167]⟩),
  (⟨#[99, 111, 112, 121]⟩, ⟨#[194, 169]⟩),
  (⟨#[110, 111, 116]⟩, ⟨#[194, 172]⟩),
  (⟨#[114, 101, 103]⟩, ⟨#[194, 174]⟩),
  (⟨#[100, 101, 103]⟩, ⟨#[194, 176]⟩),
  (⟨#[112, 108, 117, 115, 109, 110]⟩, ⟨#[194, 177]⟩),
  (⟨#[112, 97, 114, 97]⟩, ⟨#[194, 182]⟩),
  (⟨#[109, 105, 100, 100, 111, 116]⟩, ⟨#[194, 183]⟩),
  (⟨#[102, 114, 97, 99, 49, 50]⟩, ⟨#[194, 189]⟩),
  (⟨#[65, 117, 109, 108]⟩, ⟨#[195, 132]⟩),
  (⟨#[116, 105, 109, 101, 115]⟩, ⟨#[195, 151]⟩),
  (⟨#[79, 117, 109, 108]⟩, ⟨#[195, 150]⟩),
  (⟨#[85, 117, 109, 108]⟩, ⟨#[195, 156]⟩),
  (⟨#[115, 122, 108, 105, 103]⟩, ⟨#[195, 159]⟩),
  (⟨#[97, 97, 99, 117, 116, 101]⟩, ⟨#[195, 161]⟩),
  (⟨#[97, 117, 109, 108]⟩, ⟨#[195, 164]⟩),
  (⟨#[101, 103, 114, 97, 118, 101]⟩, ⟨#[195, 168]⟩),
  (⟨#[101, 97, 99, 117, 116, 101]⟩, ⟨#[195, 169]⟩),
  (⟨#[111, 117, 109, 108]⟩, ⟨#[195, 182]⟩),
  (⟨#[100, 105, 118, 105, 100, 101]⟩, ⟨#[195, 183]⟩),
  (⟨#[117, 117, 109, 108]⟩, ⟨#[195, 188]⟩)]
def nm (k : Nat) : ByteArray := (tab.getD k (ByteArray.empty, ByteArray.empty)).1
def sg (k : Nat) : ByteArray := (tab.getD k (ByteArray.empty, ByteArray.empty)).2
/-- What is stored behind k rounds. -/
def pairsTo : Nat → Pairs
  | 0 => base
  | k + 1 => pairsTo k ++ [(nm k, sg k)] ++ [(nm k ++ ⟨#[59]⟩, sg k)]
theorem pairs_zero : pairsTo 0 = base := rfl
theorem pairs_succ (k : Nat) : pairsTo (k + 1) = pairsTo k ++ [(nm k, sg k)] ++ [(nm k ++ ⟨#[59]⟩, sg k)] := rfl
theorem tab_small : ∀ p ∈ tab, p.1.size ≤ 6 ∧ p.2.size ≤ 2 := by decide
theorem nm_small (k : Nat) : (nm k).size ≤ 6 ∧ (sg k).size ≤ 2 := by
  unfold nm sg
  rcases Nat.lt_or_ge k tab.length with h | h
  · have e : tab.getD k (ByteArray.empty, ByteArray.empty) = tab[k] := by simp [List.getD, h]
    rw [e]; exact tab_small _ (List.getElem_mem h)
  · have e : tab.getD k (ByteArray.empty, ByteArray.empty) = (ByteArray.empty, ByteArray.empty) := by simp [List.getD, h]
    rw [e]; decide
theorem semi_small (k : Nat) : (nm k ++ (⟨#[59]⟩ : ByteArray)).size ≤ 7 := by
  have := (nm_small k).1
  rw [ByteArray.size_append]; show _ + 1 ≤ 7; omega
/-- The table as the program holds it. -/
def tabV : Value := .agg #[
  .string ⟨#[97, 109, 112]⟩, .string ⟨#[38]⟩,
  .string ⟨#[108, 116]⟩, .string ⟨#[60]⟩,
  .string ⟨#[103, 116]⟩, .string ⟨#[62]⟩,
  .string ⟨#[113, 117, 111, 116]⟩, .string ⟨#[34]⟩,
  .string ⟨#[65, 77, 80]⟩, .string ⟨#[38]⟩,
  .string ⟨#[76, 84]⟩, .string ⟨#[60]⟩,
  .string ⟨#[71, 84]⟩, .string ⟨#[62]⟩,
  .string ⟨#[110, 98, 115, 112]⟩, .string ⟨#[194, 160]⟩,
  .string ⟨#[99, 101, 110, 116]⟩, .string ⟨#[194, 162]⟩,
  .string ⟨#[112, 111, 117, 110, 100]⟩, .string ⟨#[194, 163]⟩,
  .string ⟨#[121, 101, 110]⟩, .string ⟨#[194, 165]⟩,
  .string ⟨#[115, 101, 99, 116]⟩, .string ⟨#[194, 167]⟩,
  .string ⟨#[99, 111, 112, 121]⟩, .string ⟨#[194, 169]⟩,
  .string ⟨#[110, 111, 116]⟩, .string ⟨#[194, 172]⟩,
  .string ⟨#[114, 101, 103]⟩, .string ⟨#[194, 174]⟩,
  .string ⟨#[100, 101, 103]⟩, .string ⟨#[194, 176]⟩,
  .string ⟨#[112, 108, 117, 115, 109, 110]⟩, .string ⟨#[194, 177]⟩,
  .string ⟨#[112, 97, 114, 97]⟩, .string ⟨#[194, 182]⟩,
  .string ⟨#[109, 105, 100, 100, 111, 116]⟩, .string ⟨#[194, 183]⟩,
  .string ⟨#[102, 114, 97, 99, 49, 50]⟩, .string ⟨#[194, 189]⟩,
  .string ⟨#[65, 117, 109, 108]⟩, .string ⟨#[195, 132]⟩,
  .string ⟨#[116, 105, 109, 101, 115]⟩, .string ⟨#[195, 151]⟩,
  .string ⟨#[79, 117, 109, 108]⟩, .string ⟨#[195, 150]⟩,
  .string ⟨#[85, 117, 109, 108]⟩, .string ⟨#[195, 156]⟩,
  .string ⟨#[115, 122, 108, 105, 103]⟩, .string ⟨#[195, 159]⟩,
  .string ⟨#[97, 97, 99, 117, 116, 101]⟩, .string ⟨#[195, 161]⟩,
  .string ⟨#[97, 117, 109, 108]⟩, .string ⟨#[195, 164]⟩,
  .string ⟨#[101, 103, 114, 97, 118, 101]⟩, .string ⟨#[195, 168]⟩,
  .string ⟨#[101, 97, 99, 117, 116, 101]⟩, .string ⟨#[195, 169]⟩,
  .string ⟨#[111, 117, 109, 108]⟩, .string ⟨#[195, 182]⟩,
  .string ⟨#[100, 105, 118, 105, 100, 101]⟩, .string ⟨#[195, 183]⟩,
  .string ⟨#[117, 117, 109, 108]⟩, .string ⟨#[195, 188]⟩]
theorem tab_0 (w : World) : (Instr.index 146 tabV (.int .i64 ((0 : Nat) : Int))).run Tryz.prog w = .ok (.agg #[.string (nm 0), .string (sg 0)]) w := by kernel_rfl
theorem tab_1 (w : World) : (Instr.index 146 tabV (.int .i64 ((1 : Nat) : Int))).run Tryz.prog w = .ok (.agg #[.string (nm 1), .string (sg 1)]) w := by kernel_rfl
theorem tab_2 (w : World) : (Instr.index 146 tabV (.int .i64 ((2 : Nat) : Int))).run Tryz.prog w = .ok (.agg #[.string (nm 2), .string (sg 2)]) w := by kernel_rfl
theorem tab_3 (w : World) : (Instr.index 146 tabV (.int .i64 ((3 : Nat) : Int))).run Tryz.prog w = .ok (.agg #[.string (nm 3), .string (sg 3)]) w := by kernel_rfl
theorem tab_4 (w : World) : (Instr.index 146 tabV (.int .i64 ((4 : Nat) : Int))).run Tryz.prog w = .ok (.agg #[.string (nm 4), .string (sg 4)]) w := by kernel_rfl
theorem tab_5 (w : World) : (Instr.index 146 tabV (.int .i64 ((5 : Nat) : Int))).run Tryz.prog w = .ok (.agg #[.string (nm 5), .string (sg 5)]) w := by kernel_rfl
theorem tab_6 (w : World) : (Instr.index 146 tabV (.int .i64 ((6 : Nat) : Int))).run Tryz.prog w = .ok (.agg #[.string (nm 6), .string (sg 6)]) w := by kernel_rfl
theorem tab_7 (w : World) : (Instr.index 146 tabV (.int .i64 ((7 : Nat) : Int))).run Tryz.prog w = .ok (.agg #[.string (nm 7), .string (sg 7)]) w := by kernel_rfl
theorem tab_8 (w : World) : (Instr.index 146 tabV (.int .i64 ((8 : Nat) : Int))).run Tryz.prog w = .ok (.agg #[.string (nm 8), .string (sg 8)]) w := by kernel_rfl
theorem tab_9 (w : World) : (Instr.index 146 tabV (.int .i64 ((9 : Nat) : Int))).run Tryz.prog w = .ok (.agg #[.string (nm 9), .string (sg 9)]) w := by kernel_rfl
theorem tab_10 (w : World) : (Instr.index 146 tabV (.int .i64 ((10 : Nat) : Int))).run Tryz.prog w = .ok (.agg #[.string (nm 10), .string (sg 10)]) w := by kernel_rfl
theorem tab_11 (w : World) : (Instr.index 146 tabV (.int .i64 ((11 : Nat) : Int))).run Tryz.prog w = .ok (.agg #[.string (nm 11), .string (sg 11)]) w := by kernel_rfl
theorem tab_12 (w : World) : (Instr.index 146 tabV (.int .i64 ((12 : Nat) : Int))).run Tryz.prog w = .ok (.agg #[.string (nm 12), .string (sg 12)]) w := by kernel_rfl
theorem tab_13 (w : World) : (Instr.index 146 tabV (.int .i64 ((13 : Nat) : Int))).run Tryz.prog w = .ok (.agg #[.string (nm 13), .string (sg 13)]) w := by kernel_rfl
theorem tab_14 (w : World) : (Instr.index 146 tabV (.int .i64 ((14 : Nat) : Int))).run Tryz.prog w = .ok (.agg #[.string (nm 14), .string (sg 14)]) w := by kernel_rfl
theorem tab_15 (w : World) : (Instr.index 146 tabV (.int .i64 ((15 : Nat) : Int))).run Tryz.prog w = .ok (.agg #[.string (nm 15), .string (sg 15)]) w := by kernel_rfl
theorem tab_16 (w : World) : (Instr.index 146 tabV (.int .i64 ((16 : Nat) : Int))).run Tryz.prog w = .ok (.agg #[.string (nm 16), .string (sg 16)]) w := by kernel_rfl
theorem tab_17 (w : World) : (Instr.index 146 tabV (.int .i64 ((17 : Nat) : Int))).run Tryz.prog w = .ok (.agg #[.string (nm 17), .string (sg 17)]) w := by kernel_rfl
theorem tab_18 (w : World) : (Instr.index 146 tabV (.int .i64 ((18 : Nat) : Int))).run Tryz.prog w = .ok (.agg #[.string (nm 18), .string (sg 18)]) w := by kernel_rfl
theorem tab_19 (w : World) : (Instr.index 146 tabV (.int .i64 ((19 : Nat) : Int))).run Tryz.prog w = .ok (.agg #[.string (nm 19), .string (sg 19)]) w := by kernel_rfl
theorem tab_20 (w : World) : (Instr.index 146 tabV (.int .i64 ((20 : Nat) : Int))).run Tryz.prog w = .ok (.agg #[.string (nm 20), .string (sg 20)]) w := by kernel_rfl
theorem tab_21 (w : World) : (Instr.index 146 tabV (.int .i64 ((21 : Nat) : Int))).run Tryz.prog w = .ok (.agg #[.string (nm 21), .string (sg 21)]) w := by kernel_rfl
theorem tab_22 (w : World) : (Instr.index 146 tabV (.int .i64 ((22 : Nat) : Int))).run Tryz.prog w = .ok (.agg #[.string (nm 22), .string (sg 22)]) w := by kernel_rfl
theorem tab_23 (w : World) : (Instr.index 146 tabV (.int .i64 ((23 : Nat) : Int))).run Tryz.prog w = .ok (.agg #[.string (nm 23), .string (sg 23)]) w := by kernel_rfl
theorem tab_24 (w : World) : (Instr.index 146 tabV (.int .i64 ((24 : Nat) : Int))).run Tryz.prog w = .ok (.agg #[.string (nm 24), .string (sg 24)]) w := by kernel_rfl
theorem tab_25 (w : World) : (Instr.index 146 tabV (.int .i64 ((25 : Nat) : Int))).run Tryz.prog w = .ok (.agg #[.string (nm 25), .string (sg 25)]) w := by kernel_rfl
theorem tab_26 (w : World) : (Instr.index 146 tabV (.int .i64 ((26 : Nat) : Int))).run Tryz.prog w = .ok (.agg #[.string (nm 26), .string (sg 26)]) w := by kernel_rfl
theorem tab_27 (w : World) : (Instr.index 146 tabV (.int .i64 ((27 : Nat) : Int))).run Tryz.prog w = .ok (.agg #[.string (nm 27), .string (sg 27)]) w := by kernel_rfl
theorem tab_28 (w : World) : (Instr.index 146 tabV (.int .i64 ((28 : Nat) : Int))).run Tryz.prog w = .ok (.agg #[.string (nm 28), .string (sg 28)]) w := by kernel_rfl
theorem tab_29 (w : World) : (Instr.index 146 tabV (.int .i64 ((29 : Nat) : Int))).run Tryz.prog w = .ok (.agg #[.string (nm 29), .string (sg 29)]) w := by kernel_rfl
theorem tab_30 (w : World) : (Instr.index 146 tabV (.int .i64 ((30 : Nat) : Int))).run Tryz.prog w = .ok (.agg #[.string (nm 30), .string (sg 30)]) w := by kernel_rfl
theorem tab_31 (w : World) : (Instr.index 146 tabV (.int .i64 ((31 : Nat) : Int))).run Tryz.prog w = .ok (.agg #[.string (nm 31), .string (sg 31)]) w := by kernel_rfl
theorem tab_index (k : Nat) (hk : k < 32) (w : World) : (Instr.index 146 tabV (.int .i64 k)).run Tryz.prog w = .ok (.agg #[.string (nm k), .string (sg k)]) w := by
  rcases (show k = 0 ∨ k = 1 ∨ k = 2 ∨ k = 3 ∨ k = 4 ∨ k = 5 ∨ k = 6 ∨ k = 7 ∨ k = 8 ∨ k = 9 ∨ k = 10 ∨ k = 11 ∨ k = 12 ∨ k = 13 ∨ k = 14 ∨ k = 15 ∨ k = 16 ∨ k = 17 ∨ k = 18 ∨ k = 19 ∨ k = 20 ∨ k = 21 ∨ k = 22 ∨ k = 23 ∨ k = 24 ∨ k = 25 ∨ k = 26 ∨ k = 27 ∨ k = 28 ∨ k = 29 ∨ k = 30 ∨ k = 31 by omega) with rfl | rfl | rfl | rfl | rfl | rfl | rfl | rfl | rfl | rfl | rfl | rfl | rfl | rfl | rfl | rfl | rfl | rfl | rfl | rfl | rfl | rfl | rfl | rfl | rfl | rfl | rfl | rfl | rfl | rfl | rfl | rfl
  · exact tab_0 w
  · exact tab_1 w
  · exact tab_2 w
  · exact tab_3 w
  · exact tab_4 w
  · exact tab_5 w
  · exact tab_6 w
  · exact tab_7 w
  · exact tab_8 w
  · exact tab_9 w
  · exact tab_10 w
  · exact tab_11 w
  · exact tab_12 w
  · exact tab_13 w
  · exact tab_14 w
  · exact tab_15 w
  · exact tab_16 w
  · exact tab_17 w
  · exact tab_18 w
  · exact tab_19 w
  · exact tab_20 w
  · exact tab_21 w
  · exact tab_22 w
  · exact tab_23 w
  · exact tab_24 w
  · exact tab_25 w
  · exact tab_26 w
  · exact tab_27 w
  · exact tab_28 w
  · exact tab_29 w
  · exact tab_30 w
  · exact tab_31 w
theorem tabV_is : tabV = .agg #[
  .string ⟨#[97, 109, 112]⟩, .string ⟨#[38]⟩,
  .string ⟨#[108, 116]⟩, .string ⟨#[60]⟩,
  .string ⟨#[103, 116]⟩, .string ⟨#[62]⟩,
  .string ⟨#[113, 117, 111, 116]⟩, .string ⟨#[34]⟩,
  .string ⟨#[65, 77, 80]⟩, .string ⟨#[38]⟩,
  .string ⟨#[76, 84]⟩, .string ⟨#[60]⟩,
  .string ⟨#[71, 84]⟩, .string ⟨#[62]⟩,
  .string ⟨#[110, 98, 115, 112]⟩, .string ⟨#[194, 160]⟩,
  .string ⟨#[99, 101, 110, 116]⟩, .string ⟨#[194, 162]⟩,
  .string ⟨#[112, 111, 117, 110, 100]⟩, .string ⟨#[194, 163]⟩,
  .string ⟨#[121, 101, 110]⟩, .string ⟨#[194, 165]⟩,
  .string ⟨#[115, 101, 99, 116]⟩, .string ⟨#[194, 167]⟩,
  .string ⟨#[99, 111, 112, 121]⟩, .string ⟨#[194, 169]⟩,
  .string ⟨#[110, 111, 116]⟩, .string ⟨#[194, 172]⟩,
  .string ⟨#[114, 101, 103]⟩, .string ⟨#[194, 174]⟩,
  .string ⟨#[100, 101, 103]⟩, .string ⟨#[194, 176]⟩,
  .string ⟨#[112, 108, 117, 115, 109, 110]⟩, .string ⟨#[194, 177]⟩,
  .string ⟨#[112, 97, 114, 97]⟩, .string ⟨#[194, 182]⟩,
  .string ⟨#[109, 105, 100, 100, 111, 116]⟩, .string ⟨#[194, 183]⟩,
  .string ⟨#[102, 114, 97, 99, 49, 50]⟩, .string ⟨#[194, 189]⟩,
  .string ⟨#[65, 117, 109, 108]⟩, .string ⟨#[195, 132]⟩,
  .string ⟨#[116, 105, 109, 101, 115]⟩, .string ⟨#[195, 151]⟩,
  .string ⟨#[79, 117, 109, 108]⟩, .string ⟨#[195, 150]⟩,
  .string ⟨#[85, 117, 109, 108]⟩, .string ⟨#[195, 156]⟩,
  .string ⟨#[115, 122, 108, 105, 103]⟩, .string ⟨#[195, 159]⟩,
  .string ⟨#[97, 97, 99, 117, 116, 101]⟩, .string ⟨#[195, 161]⟩,
  .string ⟨#[97, 117, 109, 108]⟩, .string ⟨#[195, 164]⟩,
  .string ⟨#[101, 103, 114, 97, 118, 101]⟩, .string ⟨#[195, 168]⟩,
  .string ⟨#[101, 97, 99, 117, 116, 101]⟩, .string ⟨#[195, 169]⟩,
  .string ⟨#[111, 117, 109, 108]⟩, .string ⟨#[195, 182]⟩,
  .string ⟨#[100, 105, 118, 105, 100, 101]⟩, .string ⟨#[195, 183]⟩,
  .string ⟨#[117, 117, 109, 108]⟩, .string ⟨#[195, 188]⟩] := rfl
attribute [irreducible] nm sg pairsTo tabV
end Go.Proofs.YtbdgoffbkenofaaGreat.Ss
namespace Go.Proofs.YtbdgoffbkenofaaGreat.Ss
open Go Go.RowKit

theorem small {k : ByteArray} (h : k.size ≤ 100) : k.size ≤ maxLen := Nat.le_trans h (by unfold maxLen; omega)
theorem room {n : Nat} (h : n ≤ 1000) : n < maxLen := Nat.lt_of_le_of_lt h (by unfold maxLen; omega)
/-- The first ones, in a world that has just got the empty map. -/
theorem base_put (w : World) : ∃ W1 W2 W3 W4 W5 W6 W7 W8 W9 W10 W11 W12 W13 W14 W15 W16 W17 W18 W19 W20 W21,
    (Instr.mapUpdate 98 (.map (some w.heap.size)) (.string ⟨#[97, 112, 111, 115, 59]⟩) (.string ⟨#[39]⟩)).run Tryz.prog (w.alloc (.map #[] 0)) = .ok () W1 ∧
    (Instr.mapUpdate 98 (.map (some w.heap.size)) (.string ⟨#[116, 114, 97, 100, 101, 59]⟩) (.string ⟨#[226, 132, 162]⟩)).run Tryz.prog W1 = .ok () W2 ∧
    (Instr.mapUpdate 98 (.map (some w.heap.size)) (.string ⟨#[104, 101, 108, 108, 105, 112, 59]⟩) (.string ⟨#[226, 128, 166]⟩)).run Tryz.prog W2 = .ok () W3 ∧
    (Instr.mapUpdate 98 (.map (some w.heap.size)) (.string ⟨#[109, 100, 97, 115, 104, 59]⟩) (.string ⟨#[226, 128, 148]⟩)).run Tryz.prog W3 = .ok () W4 ∧
    (Instr.mapUpdate 98 (.map (some w.heap.size)) (.string ⟨#[110, 100, 97, 115, 104, 59]⟩) (.string ⟨#[226, 128, 147]⟩)).run Tryz.prog W4 = .ok () W5 ∧
    (Instr.mapUpdate 98 (.map (some w.heap.size)) (.string ⟨#[108, 115, 113, 117, 111, 59]⟩) (.string ⟨#[226, 128, 152]⟩)).run Tryz.prog W5 = .ok () W6 ∧
    (Instr.mapUpdate 98 (.map (some w.heap.size)) (.string ⟨#[114, 115, 113, 117, 111, 59]⟩) (.string ⟨#[226, 128, 153]⟩)).run Tryz.prog W6 = .ok () W7 ∧
    (Instr.mapUpdate 98 (.map (some w.heap.size)) (.string ⟨#[108, 100, 113, 117, 111, 59]⟩) (.string ⟨#[226, 128, 156]⟩)).run Tryz.prog W7 = .ok () W8 ∧
    (Instr.mapUpdate 98 (.map (some w.heap.size)) (.string ⟨#[114, 100, 113, 117, 111, 59]⟩) (.string ⟨#[226, 128, 157]⟩)).run Tryz.prog W8 = .ok () W9 ∧
    (Instr.mapUpdate 98 (.map (some w.heap.size)) (.string ⟨#[98, 117, 108, 108, 59]⟩) (.string ⟨#[226, 128, 162]⟩)).run Tryz.prog W9 = .ok () W10 ∧
    (Instr.mapUpdate 98 (.map (some w.heap.size)) (.string ⟨#[101, 117, 114, 111, 59]⟩) (.string ⟨#[226, 130, 172]⟩)).run Tryz.prog W10 = .ok () W11 ∧
    (Instr.mapUpdate 98 (.map (some w.heap.size)) (.string ⟨#[97, 108, 112, 104, 97, 59]⟩) (.string ⟨#[206, 177]⟩)).run Tryz.prog W11 = .ok () W12 ∧
    (Instr.mapUpdate 98 (.map (some w.heap.size)) (.string ⟨#[98, 101, 116, 97, 59]⟩) (.string ⟨#[206, 178]⟩)).run Tryz.prog W12 = .ok () W13 ∧
    (Instr.mapUpdate 98 (.map (some w.heap.size)) (.string ⟨#[112, 105, 59]⟩) (.string ⟨#[207, 128]⟩)).run Tryz.prog W13 = .ok () W14 ∧
    (Instr.mapUpdate 98 (.map (some w.heap.size)) (.string ⟨#[105, 110, 102, 105, 110, 59]⟩) (.string ⟨#[226, 136, 158]⟩)).run Tryz.prog W14 = .ok () W15 ∧
    (Instr.mapUpdate 98 (.map (some w.heap.size)) (.string ⟨#[110, 111, 116, 105, 110, 59]⟩) (.string ⟨#[226, 136, 137]⟩)).run Tryz.prog W15 = .ok () W16 ∧
    (Instr.mapUpdate 98 (.map (some w.heap.size)) (.string ⟨#[110, 111, 116, 110, 105, 59]⟩) (.string ⟨#[226, 136, 140]⟩)).run Tryz.prog W16 = .ok () W17 ∧
    (Instr.mapUpdate 98 (.map (some w.heap.size)) (.string ⟨#[110, 101, 59]⟩) (.string ⟨#[226, 137, 160]⟩)).run Tryz.prog W17 = .ok () W18 ∧
    (Instr.mapUpdate 98 (.map (some w.heap.size)) (.string ⟨#[108, 101, 59]⟩) (.string ⟨#[226, 137, 164]⟩)).run Tryz.prog W18 = .ok () W19 ∧
    (Instr.mapUpdate 98 (.map (some w.heap.size)) (.string ⟨#[103, 101, 59]⟩) (.string ⟨#[226, 137, 165]⟩)).run Tryz.prog W19 = .ok () W20 ∧
    (Instr.mapUpdate 98 (.map (some w.heap.size)) (.string ⟨#[102, 106, 108, 105, 103, 59]⟩) (.string ⟨#[102, 106]⟩)).run Tryz.prog W20 = .ok () W21 ∧
    owns W21 w.heap.size 21 base ∧ Below w.heap.size w W21 := by
  have B0 : Below w.heap.size w (w.alloc (.map #[] 0)) := (Below.refl _ _).alloc (Nat.le_refl _) _
  obtain ⟨W1, h1, o1, g1⟩ := put (owns_made w) ⟨#[97, 112, 111, 115, 59]⟩ ⟨#[39]⟩ (small (by decide)) (small (by decide)) (room (by decide))
  have B1 := B0.grown g1 B0.size (fun k hk => by cases hk; exact Nat.le_refl _)
  obtain ⟨W2, h2, o2, g2⟩ := put o1 ⟨#[116, 114, 97, 100, 101, 59]⟩ ⟨#[226, 132, 162]⟩ (small (by decide)) (small (by decide)) (room (by decide))
  have B2 := B1.grown g2 B1.size (fun k hk => by cases hk; exact Nat.le_refl _)
  obtain ⟨W3, h3, o3, g3⟩ := put o2 ⟨#[104, 101, 108, 108, 105, 112, 59]⟩ ⟨#[226, 128, 166]⟩ (small (by decide)) (small (by decide)) (room (by decide))
  have B3 := B2.grown g3 B2.size (fun k hk => by cases hk; exact Nat.le_refl _)
  obtain ⟨W4, h4, o4, g4⟩ := put o3 ⟨#[109, 100, 97, 115, 104, 59]⟩ ⟨#[226, 128, 148]⟩ (small (by decide)) (small (by decide)) (room (by decide))
  have B4 := B3.grown g4 B3.size (fun k hk => by cases hk; exact Nat.le_refl _)
  obtain ⟨W5, h5, o5, g5⟩ := put o4 ⟨#[110, 100, 97, 115, 104, 59]⟩ ⟨#[226, 128, 147]⟩ (small (by decide)) (small (by decide)) (room (by decide))
  have B5 := B4.grown g5 B4.size (fun k hk => by cases hk; exact Nat.le_refl _)
  obtain ⟨W6, h6, o6, g6⟩ := put o5 ⟨#[108, 115, 113, 117, 111, 59]⟩ ⟨#[226, 128, 152]⟩ (small (by decide)) (small (by decide)) (room (by decide))
  have B6 := B5.grown g6 B5.size (fun k hk => by cases hk; exact Nat.le_refl _)
  obtain ⟨W7, h7, o7, g7⟩ := put o6 ⟨#[114, 115, 113, 117, 111, 59]⟩ ⟨#[226, 128, 153]⟩ (small (by decide)) (small (by decide)) (room (by decide))
  have B7 := B6.grown g7 B6.size (fun k hk => by cases hk; exact Nat.le_refl _)
  obtain ⟨W8, h8, o8, g8⟩ := put o7 ⟨#[108, 100, 113, 117, 111, 59]⟩ ⟨#[226, 128, 156]⟩ (small (by decide)) (small (by decide)) (room (by decide))
  have B8 := B7.grown g8 B7.size (fun k hk => by cases hk; exact Nat.le_refl _)
  obtain ⟨W9, h9, o9, g9⟩ := put o8 ⟨#[114, 100, 113, 117, 111, 59]⟩ ⟨#[226, 128, 157]⟩ (small (by decide)) (small (by decide)) (room (by decide))
  have B9 := B8.grown g9 B8.size (fun k hk => by cases hk; exact Nat.le_refl _)
  obtain ⟨W10, h10, o10, g10⟩ := put o9 ⟨#[98, 117, 108, 108, 59]⟩ ⟨#[226, 128, 162]⟩ (small (by decide)) (small (by decide)) (room (by decide))
  have B10 := B9.grown g10 B9.size (fun k hk => by cases hk; exact Nat.le_refl _)
  obtain ⟨W11, h11, o11, g11⟩ := put o10 ⟨#[101, 117, 114, 111, 59]⟩ ⟨#[226, 130, 172]⟩ (small (by decide)) (small (by decide)) (room (by decide))
  have B11 := B10.grown g11 B10.size (fun k hk => by cases hk; exact Nat.le_refl _)
  obtain ⟨W12, h12, o12, g12⟩ := put o11 ⟨#[97, 108, 112, 104, 97, 59]⟩ ⟨#[206, 177]⟩ (small (by decide)) (small (by decide)) (room (by decide))
  have B12 := B11.grown g12 B11.size (fun k hk => by cases hk; exact Nat.le_refl _)
  obtain ⟨W13, h13, o13, g13⟩ := put o12 ⟨#[98, 101, 116, 97, 59]⟩ ⟨#[206, 178]⟩ (small (by decide)) (small (by decide)) (room (by decide))
  have B13 := B12.grown g13 B12.size (fun k hk => by cases hk; exact Nat.le_refl _)
  obtain ⟨W14, h14, o14, g14⟩ := put o13 ⟨#[112, 105, 59]⟩ ⟨#[207, 128]⟩ (small (by decide)) (small (by decide)) (room (by decide))
  have B14 := B13.grown g14 B13.size (fun k hk => by cases hk; exact Nat.le_refl _)
  obtain ⟨W15, h15, o15, g15⟩ := put o14 ⟨#[105, 110, 102, 105, 110, 59]⟩ ⟨#[226, 136, 158]⟩ (small (by decide)) (small (by decide)) (room (by decide))
  have B15 := B14.grown g15 B14.size (fun k hk => by cases hk; exact Nat.le_refl _)
  obtain ⟨W16, h16, o16, g16⟩ := put o15 ⟨#[110, 111, 116, 105, 110, 59]⟩ ⟨#[226, 136, 137]⟩ (small (by decide)) (small (by decide)) (room (by decide))
  have B16 := B15.grown g16 B15.size (fun k hk => by cases hk; exact Nat.le_refl _)
  obtain ⟨W17, h17, o17, g17⟩ := put o16 ⟨#[110, 111, 116, 110, 105, 59]⟩ ⟨#[226, 136, 140]⟩ (small (by decide)) (small (by decide)) (room (by decide))
  have B17 := B16.grown g17 B16.size (fun k hk => by cases hk; exact Nat.le_refl _)
  obtain ⟨W18, h18, o18, g18⟩ := put o17 ⟨#[110, 101, 59]⟩ ⟨#[226, 137, 160]⟩ (small (by decide)) (small (by decide)) (room (by decide))
  have B18 := B17.grown g18 B17.size (fun k hk => by cases hk; exact Nat.le_refl _)
  obtain ⟨W19, h19, o19, g19⟩ := put o18 ⟨#[108, 101, 59]⟩ ⟨#[226, 137, 164]⟩ (small (by decide)) (small (by decide)) (room (by decide))
  have B19 := B18.grown g19 B18.size (fun k hk => by cases hk; exact Nat.le_refl _)
  obtain ⟨W20, h20, o20, g20⟩ := put o19 ⟨#[103, 101, 59]⟩ ⟨#[226, 137, 165]⟩ (small (by decide)) (small (by decide)) (room (by decide))
  have B20 := B19.grown g20 B19.size (fun k hk => by cases hk; exact Nat.le_refl _)
  obtain ⟨W21, h21, o21, g21⟩ := put o20 ⟨#[102, 106, 108, 105, 103, 59]⟩ ⟨#[102, 106]⟩ (small (by decide)) (small (by decide)) (room (by decide))
  have B21 := B20.grown g21 B20.size (fun k hk => by cases hk; exact Nat.le_refl _)
  exact ⟨W1, W2, W3, W4, W5, W6, W7, W8, W9, W10, W11, W12, W13, W14, W15, W16, W17, W18, W19, W20, W21, h1, h2, h3, h4, h5, h6, h7, h8, h9, h10, h11, h12, h13, h14, h15, h16, h17, h18, h19, h20, h21, o21, B21⟩

set_option maxHeartbeats 1000000 in
set_option maxRecDepth 100000 in
theorem names_calls (w : World) :
    Calls Tryz.prog 121 #[] w fun e w' => e = .returned (.map (some w.heap.size)) ∧ owns w' w.heap.size 85 (pairsTo 32) ∧ Below w.heap.size w w' := by
  obtain ⟨W1, W2, W3, W4, W5, W6, W7, W8, W9, W10, W11, W12, W13, W14, W15, W16, W17, W18, W19, W20, W21, h1, h2, h3, h4, h5, h6, h7, h8, h9, h10, h11, h12, h13, h14, h15, h16, h17, h18, h19, h20, h21, o21, B21⟩ := base_put w
  have hmm := @run_makeMap Tryz.prog
  go_enter Tryz.func121, Tryz.ntmps121
  go_wp2
  rw [← tabV_is]
  clear h1 h2 h3 h4 h5 h6 h7 h8 h9 h10 h11 h12 h13 h14 h15 h16 h17 h18 h19 h20 h21 hmm
  go_loopw [39] (fun i wr => ∃ k : Nat, k ≤ 32 ∧ i = .int .i64 k ∧ owns wr w.heap.size (21 + 2 * k) (pairsTo k) ∧ Below w.heap.size w wr) (fun i _ => 32 - (intOf i).toNat)
  case atStart => exact ⟨0, by omega, rfl, by rw [pairs_zero]; exact o21, B21⟩
  case round =>
    obtain ⟨k, hk, rfl, hown, hbel⟩ := hrel
    have hbs := hbel.size
    by_cases hlt : k < 32
    · have hix := tab_index k hlt
      have hs := nm_small k
      have hs1 := hs.1
      have hs2 := hs.2
      obtain ⟨W1, h1, o1, g1⟩ := put ((hown.alloc (.cells #[.string (nm k), .string (sg k)] 101)).drew) (nm k) (sg k) (small (by omega)) (small (by omega)) (room (by omega))
      obtain ⟨W2, h2, o2, g2⟩ := put o1 (nm k ++ ⟨#[59]⟩) (sg k) (small (by have := semi_small k; omega)) (small (by omega)) (room (by omega))
      rw [← pairs_succ] at o2
      have B2 : Below w.heap.size w W2 := ((((hbel.alloc hbs _).drew).grown g1 (by simp; omega) (fun k hk => by cases hk; exact Nat.le_refl _)).grown g2 (Nat.le_trans (by simp; omega) g1.size) (fun k hk => by cases hk; exact Nat.le_refl _))
      have c0 : W1.cell? ⟨wr.heap.size, 0, none⟩ = some (.string (nm k)) := (World.cell?_of_block (g1.block wr.heap.size (by simp) (by have := hown.lt; simp; omega))).trans (by go_cell)
      have c1 : W1.cell? ⟨wr.heap.size, 1, none⟩ = some (.string (sg k)) := (World.cell?_of_block (g1.block wr.heap.size (by simp) (by have := hown.lt; simp; omega))).trans (by go_cell)
      clear o1 g1 g2 hown hbel hs
      go_wp2
      go_region
      all_goals go_wp2
      all_goals
        go_roundw
        case rel => exact ⟨k + 1, by omega, by go_num, by rw [show 21 + 2 * (k + 1) = 21 + 2 * k + 1 + 1 from by omega]; exact o2, B2⟩
        case measure => simp [intOf]; omega
    · obtain rfl : k = 32 := by omega
      go_wp2
      go_ret
      exact ⟨rfl, hown, hbel⟩
end Go.Proofs.YtbdgoffbkenofaaGreat.Ss
