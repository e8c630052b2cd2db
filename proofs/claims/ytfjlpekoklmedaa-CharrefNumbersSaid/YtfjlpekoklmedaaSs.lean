/- A map from texts to texts that the call itself makes: one word for what it holds, a law for a store, one for a lookP-up. -/
import Derived.Test.YtfjlpekoklmedaaProg
import Derived.WalkKit
import Derived.WalkLawsBesides
import Derived.WalkSpells
import Derived.Handy
import Derived.Lib.Hide
import Derived.Maps.OwnSet
import Derived.Maps.StringElems
namespace Go.Proofs.Ytfjlpekoklmedaa.Ss
open Go Go.RowKit Go.Maps Go.ChangeMaps Go.WideMaps Go.WideElems

/-- Pairs, the later ones over the earlier ones. -/
abbrev Pairs := List (ByteArray × ByteArray)
/-- What a map holds at a key, the pairs being stored one behind the other. -/
def lookP : Pairs → ByteArray → Option ByteArray
  | [], _ => none
  | p :: r, k => match lookP r k with
    | some v => some v
    | none => if p.1 = k then some p.2 else none
theorem lookP_append (L M : Pairs) (k : ByteArray) : lookP (L ++ M) k = match lookP M k with | some v => some v | none => lookP L k := by
  induction L with
  | nil => simp [lookP]; cases lookP M k <;> rfl
  | cons p r ih =>
    rw [List.cons_append, lookP, ih]
    cases h : lookP M k with
    | some v => rfl
    | none => rfl
theorem lookP_snoc (L : Pairs) (p : ByteArray × ByteArray) (k : ByteArray) : lookP (L ++ [p]) k = if p.1 = k then some p.2 else lookP L k := by
  rw [lookP_append]; simp only [lookP]; split <;> simp_all
theorem rev_ind {α : Type} {P : List α → Prop} (h0 : P []) (h1 : ∀ L p, P L → P (L ++ [p])) (L : List α) : P L := by
  have h : ∀ M : List α, P M.reverse := by
    intro M
    induction M with
    | nil => exact h0
    | cons a M ih => rw [List.reverse_cons]; exact h1 _ _ ih
  have := h L.reverse
  rwa [List.reverse_reverse] at this
def putAll (L : Pairs) : DataW Unit := L.foldl (fun m p => m.put (.string p.1.data.toList) (.lit (.string p.2.data.toList))) (.map [])
theorem putAll_snoc (L : Pairs) (p : ByteArray × ByteArray) : putAll (L ++ [p]) = (putAll L).put (.string p.1.data.toList) (.lit (.string p.2.data.toList)) := by
  simp [putAll, List.foldl_append]
theorem bytes_eq {a b : ByteArray} : a.data.toList = b.data.toList ↔ a = b := by
  constructor
  · intro h; cases a; cases b; congr; exact Array.toList_inj.1 h
  · rintro rfl; rfl
theorem isMap_putAll (L : Pairs) : IsMap (putAll L) := by
  refine rev_ind (P := fun L => IsMap (putAll L)) isMap_empty (fun L p ih => ?_) L
  rw [putAll_snoc]; exact ih.put _ _
theorem putAll_has (L : Pairs) (k : ByteArray) : Maps.has (putAll L) (.string k.data.toList) = (lookP L k).isSome := by
  refine rev_ind (P := fun L => Maps.has (putAll L) (.string k.data.toList) = (lookP L k).isSome) rfl (fun L p ih => ?_) L
  · rw [putAll_snoc, lookP_snoc]
    by_cases h : p.1 = k
    · subst h; rw [if_pos rfl, has_put_same (isMap_putAll L) (by trivial)]; rfl
    · rw [if_neg h, has_put_other (by intro e; injection e with e; exact h (bytes_eq.1 e.symm)), ih]
theorem putAll_at (L : Pairs) (k : ByteArray) (z : ByteArray) : (putAll L).atKey (.string k.data.toList) (.lit (.string z.data.toList)) = .lit (.string ((lookP L k).getD z).data.toList) := by
  refine rev_ind (P := fun L => (putAll L).atKey (.string k.data.toList) (.lit (.string z.data.toList)) = .lit (.string ((lookP L k).getD z).data.toList)) rfl (fun L p ih => ?_) L
  · rw [putAll_snoc, lookP_snoc]
    by_cases h : p.1 = k
    · subst h; rw [if_pos rfl, atKey_put_same (isMap_putAll L) (by trivial)]; rfl
    · rw [if_neg h, atKey_put_other (by intro e; injection e with e; exact h (bytes_eq.1 e.symm)), ih]

/-- Block b is a map that holds these pairs; it has at most n entries. -/
def owns (w : World) (b n : Nat) (L : Pairs) : Prop := w.ownsMap Try.prog 9 (plainElem Try.prog 9) b n (putAll L)
theorem keyed : Keyed Try.prog 9 := string_keyed Try.underlying9
theorem zeroS (w : World) : (zeroValue 9).run Try.prog w = .ok (.string ByteArray.empty) w := by kernel_rfl
theorem owns_made (w : World) : owns (w.alloc (.map #[] 0)) w.heap.size 0 [] := World.ownsMap_made w _ _ _
theorem put {w : World} {b n : Nat} {L : Pairs} (h : owns w b n L) (k v : ByteArray) (hk : k.size ≤ maxLen) (hv : v.size ≤ maxLen) (hn : n < maxLen) :
    ∃ w', (Instr.mapUpdate 46 (.map (some b)) (.string k) (.string v)).run Try.prog w = .ok () w' ∧ owns w' b (n + 1) (L ++ [(k, v)]) ∧ w.grownBy w' (some b) := by
  obtain ⟨w', hrun, ho, hg⟩ := World.ownsMap.update h keyed Try.underlying46 hn (keyOf_string_mk Try.underlying9 hk) (plainElem_string Try.underlying9 hv)
  exact ⟨w', hrun, by unfold owns; rw [putAll_snoc]; exact ho, hg⟩
theorem get {w : World} {b n : Nat} {L : Pairs} (h : owns w b n L) (k : ByteArray) (hk : k.size ≤ maxLen) :
    (Instr.lookup 46 (.map (some b)) (.string k) true).run Try.prog w = .ok (.tuple #[.string ((lookP L k).getD ByteArray.empty), .bool (lookP L k).isSome]) w := by
  obtain ⟨v, ps, hrun, hv⟩ := World.ownsMap.look_ok h keyed Try.underlying46 (zeroS w) (plainElem_string Try.underlying9 (by decide)) (keyOf_string_mk Try.underlying9 hk)
  rw [putAll_has] at hrun
  obtain ⟨s, rfl, he, _⟩ := plainElem_string_inv Try.underlying9 hv
  have e := (Prod.mk.inj he).1
  rw [putAll_at] at e
  rw [hrun, bytes_eq.1 (Lit.string.inj (DataW.lit.inj e))]
theorem owns.keep {w w' : World} {b n : Nat} {L : Pairs} (h : owns w b n L) {row : Option Nat} (hg : w.grownBy w' row) (hne : some b ≠ row) : owns w' b n L := World.ownsMap.kept h hg hne
theorem owns.alloc {w : World} {b n : Nat} {L : Pairs} (h : owns w b n L) (o : Obj) : owns (w.alloc o) b n L := World.ownsMap.alloc h o
theorem owns.drew {w : World} {b n : Nat} {L : Pairs} (h : owns w b n L) : owns w.drew b n L := h
theorem owns.below {w w' : World} {b n B : Nat} {L : Pairs} (h : owns w b n L) (hb : Below B w w') (hB : b < B) : owns w' b n L := by
  obtain ⟨es, clock, hh, r⟩ := h
  exact ⟨es, clock, (hb.block b hB).trans hh, r⟩
theorem owns.lt {w : World} {b n : Nat} {L : Pairs} (h : owns w b n L) : b < w.heap.size := World.ownsMap.lt h
end Go.Proofs.Ytfjlpekoklmedaa.Ss
