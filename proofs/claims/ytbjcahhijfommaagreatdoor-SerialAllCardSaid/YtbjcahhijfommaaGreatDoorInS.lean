/- A tree that lies in blocks of which something is known. -/
import Derived.Test.YtbjcahhijfommaaGreatDoorCmpS
import Derived.Test.YtbjcahhijfommaaGreatDoorCloS
namespace Go.Proofs.YtbjcahhijfommaaGreatDoor.Tr
open Go Go.RowKit
set_option linter.unusedVariables false
def AttrsIn (w : World) (S : Nat → Prop) (al : List (ByteArray × ByteArray)) (A : Option Addr) (ac : Nat) : Prop :=
  al.length ≤ ac ∧ ac ≤ maxLen ∧ (∀ a ∈ al, a.1.size ≤ maxLen ∧ a.2.size ≤ maxLen) ∧
    (al ≠ [] → ∃ b off, A = some ⟨b, off, none⟩ ∧ S b ∧ ∀ i x, al[i]? = some x → w.cell? ⟨b, off + i * 2, none⟩ = some (.string x.1) ∧ w.cell? ⟨b, off + i * 2 + 1, none⟩ = some (.string x.2))
section
variable (w : World) (S : Nat → Prop)
mutual
def TreeIn : Nd → Value → Value → Value → Value → Value → Prop
  | .mk k n s al ks, v0, v1, v2, v3, v4 => v0 = .int .i64 k ∧ v1 = .string n ∧ v2 = .string s ∧ (Lit.int .i64 k).wf = true ∧ n.size ≤ maxLen ∧ s.size ≤ maxLen ∧
      ∃ A ac K kc, v3 = .slice A al.length ac ∧ v4 = .slice K ks.length kc ∧ AttrsIn w S al A ac ∧ ks.length ≤ kc ∧ kc ≤ maxLen ∧ (ks ≠ [] → ∃ b off, K = some ⟨b, off, none⟩ ∧ S b ∧ KidsIn ks b off)
def KidsIn : List Nd → Nat → Nat → Prop
  | [], _, _ => True
  | t :: ts, b, off => (∃ v0 v1 v2 v3 v4, w.cell? ⟨b, off, none⟩ = some v0 ∧ w.cell? ⟨b, off + 1, none⟩ = some v1 ∧ w.cell? ⟨b, off + 2, none⟩ = some v2 ∧ w.cell? ⟨b, off + 3, none⟩ = some v3 ∧ w.cell? ⟨b, off + 4, none⟩ = some v4 ∧
      TreeIn t v0 v1 v2 v3 v4) ∧ KidsIn ts b (off + 5)
end
end
section
variable {w w' : World} {S S' : Nat → Prop}
theorem AttrsIn.keep {al : List (ByteArray × ByteArray)} {A : Option Addr} {ac : Nat} (h : AttrsIn w S al A ac) (hk : ∀ b, S b → S' b ∧ ∀ o, w'.cell? ⟨b, o, none⟩ = w.cell? ⟨b, o, none⟩) : AttrsIn w' S' al A ac := by
  obtain ⟨h1, h2, h3, h4⟩ := h
  refine ⟨h1, h2, h3, fun hn => ?_⟩
  obtain ⟨b, off, e, hb, hc⟩ := h4 hn
  exact ⟨b, off, e, (hk b hb).1, fun i x hx => ⟨((hk _ hb).2 _).trans (hc i x hx).1, ((hk _ hb).2 _).trans (hc i x hx).2⟩⟩
mutual
theorem TreeIn.keep {t : Nd} {v0 v1 v2 v3 v4 : Value} (h : TreeIn w S t v0 v1 v2 v3 v4) (hk : ∀ b, S b → S' b ∧ ∀ o, w'.cell? ⟨b, o, none⟩ = w.cell? ⟨b, o, none⟩) : TreeIn w' S' t v0 v1 v2 v3 v4 := by
  match t with
  | .mk k n s al ks =>
    unfold TreeIn at h ⊢
    obtain ⟨e0, e1, e2, h3, h4, h5, A, ac, K, kc, e6, e7, h8, h9, h10, h11⟩ := h
    refine ⟨e0, e1, e2, h3, h4, h5, A, ac, K, kc, e6, e7, h8.keep hk, h9, h10, fun hn => ?_⟩
    obtain ⟨b, off, e, hb, hc⟩ := h11 hn
    exact ⟨b, off, e, (hk b hb).1, KidsIn.keep hc hb hk⟩
theorem KidsIn.keep {l : List Nd} {b off : Nat} (h : KidsIn w S l b off) (hb : S b) (hk : ∀ b, S b → S' b ∧ ∀ o, w'.cell? ⟨b, o, none⟩ = w.cell? ⟨b, o, none⟩) : KidsIn w' S' l b off := by
  match l with
  | [] => unfold KidsIn; trivial
  | t :: ts =>
    unfold KidsIn at h ⊢
    obtain ⟨⟨v0, v1, v2, v3, v4, c0, c1, c2, c3, c4, ht⟩, hts⟩ := h
    exact ⟨⟨v0, v1, v2, v3, v4, ((hk _ hb).2 _).trans c0, ((hk _ hb).2 _).trans c1, ((hk _ hb).2 _).trans c2, ((hk _ hb).2 _).trans c3, ((hk _ hb).2 _).trans c4, TreeIn.keep ht hk⟩, KidsIn.keep hts hb hk⟩
end
mutual
theorem TreeIn.is {B : Nat} {t : Nd} {v0 v1 v2 v3 v4 : Value} (h : TreeIn w S t v0 v1 v2 v3 v4) (hS : ∀ b, S b → b < B) : IsTree w B t v0 v1 v2 v3 v4 := by
  match t with
  | .mk k n s al ks =>
    unfold TreeIn at h
    unfold IsTree
    obtain ⟨e0, e1, e2, h3, h4, h5, A, ac, K, kc, e6, e7, ⟨a1, a2, a3, a4⟩, h9, h10, h11⟩ := h
    refine ⟨e0, e1, e2, h3, h4, h5, A, ac, K, kc, e6, e7, ⟨a1, a2, a3, fun hn => ?_⟩, h9, h10, fun hn => ?_⟩
    · obtain ⟨b, off, e, hb, hc⟩ := a4 hn
      exact ⟨b, off, e, hS b hb, hc⟩
    · obtain ⟨b, off, e, hb, hc⟩ := h11 hn
      exact ⟨b, off, e, hS b hb, KidsIn.is hc hS⟩
theorem KidsIn.is {B : Nat} {l : List Nd} {b off : Nat} (h : KidsIn w S l b off) (hS : ∀ b, S b → b < B) : IsKids w B l b off := by
  match l with
  | [] => unfold IsKids; trivial
  | t :: ts =>
    unfold KidsIn at h
    unfold IsKids
    obtain ⟨⟨v0, v1, v2, v3, v4, c0, c1, c2, c3, c4, ht⟩, hts⟩ := h
    exact ⟨⟨v0, v1, v2, v3, v4, c0, c1, c2, c3, c4, TreeIn.is ht hS⟩, KidsIn.is hts hS⟩
end
theorem KidsIn.of_at {l : List Nd} {b off : Nat} (h : ∀ i t, l[i]? = some t → ∃ v0 v1 v2 v3 v4, w.cell? ⟨b, off + i * 5, none⟩ = some v0 ∧ w.cell? ⟨b, off + i * 5 + 1, none⟩ = some v1 ∧ w.cell? ⟨b, off + i * 5 + 2, none⟩ = some v2 ∧ w.cell? ⟨b, off + i * 5 + 3, none⟩ = some v3 ∧ w.cell? ⟨b, off + i * 5 + 4, none⟩ = some v4 ∧ TreeIn w S t v0 v1 v2 v3 v4) :
    KidsIn w S l b off := by
  induction l generalizing off with
  | nil => unfold KidsIn; trivial
  | cons x xs ih =>
    unfold KidsIn
    refine ⟨by simpa using h 0 x rfl, ih fun i t hi => ?_⟩
    have := h (i + 1) t (by simpa using hi)
    rw [show off + (i + 1) * 5 = off + 5 + i * 5 by omega] at this
    exact this
end
/-- Kids' cells, one behind the other, as a row of the call's own. -/
def KidRow (w : World) (S : Nat → Prop) (ks : List Nd) (xs : List Value) : Prop := ∀ i t, ks[i]? = some t → ∃ v0 v1 v2 v3 v4, xs[i * 5]? = some v0 ∧ xs[i * 5 + 1]? = some v1 ∧ xs[i * 5 + 2]? = some v2 ∧ xs[i * 5 + 3]? = some v3 ∧ xs[i * 5 + 4]? = some v4 ∧ TreeIn w S t v0 v1 v2 v3 v4
theorem KidRow.keep {w w' : World} {S S' : Nat → Prop} {ks : List Nd} {xs : List Value} (h : KidRow w S ks xs) (hk : ∀ b, S b → S' b ∧ ∀ o, w'.cell? ⟨b, o, none⟩ = w.cell? ⟨b, o, none⟩) : KidRow w' S' ks xs := fun i t ht => by
  obtain ⟨v0, v1, v2, v3, v4, c0, c1, c2, c3, c4, c5⟩ := h i t ht
  exact ⟨v0, v1, v2, v3, v4, c0, c1, c2, c3, c4, c5.keep hk⟩
theorem KidRow.snoc {w : World} {S : Nat → Prop} {ks : List Nd} {xs : List Value} {j : Nat} {u : Nd} {x0 x1 x2 x3 x4 : Value} (h : KidRow w S (ks.take j) xs) (hx : xs.length = j * 5) (hu : ks[j]? = some u) (ht : TreeIn w S u x0 x1 x2 x3 x4) : KidRow w S (ks.take (j + 1)) (xs ++ [x0, x1, x2, x3, x4]) := by
  intro i t hi
  have hj : j < ks.length := (List.getElem?_eq_some_iff.1 hu).1
  rcases Nat.lt_or_ge i j with hl | hl
  · rw [List.getElem?_take_of_lt (by omega)] at hi
    obtain ⟨v0, v1, v2, v3, v4, c0, c1, c2, c3, c4, c5⟩ := h i t (by rw [List.getElem?_take_of_lt hl]; exact hi)
    exact ⟨v0, v1, v2, v3, v4, by rw [List.getElem?_append_left (by omega)]; exact c0, by rw [List.getElem?_append_left (by omega)]; exact c1, by rw [List.getElem?_append_left (by omega)]; exact c2, by rw [List.getElem?_append_left (by omega)]; exact c3, by rw [List.getElem?_append_left (by omega)]; exact c4, c5⟩
  · have hlt := (List.getElem?_eq_some_iff.1 hi).1
    rw [List.length_take] at hlt
    obtain rfl : i = j := by omega
    rw [List.getElem?_take_of_lt (by omega), hu] at hi
    injection hi with hi
    subst hi
    refine ⟨x0, x1, x2, x3, x4, ?_, ?_, ?_, ?_, ?_, ht⟩ <;> (rw [List.getElem?_append_right (by omega), hx]; simp [Nat.add_sub_cancel_left])
theorem KidRow.length {w : World} {B : Nat} {T : TypeId} {v : Value} {n : Nat} {xs : List Value} (h : w.ownsRow B T 5 v n xs) : xs.length = n * 5 := h.1
/-- A row of kids, as a slice of a tree. -/
theorem kids_of_row {w : World} {B : Nat} {T : TypeId} {v : Value} {S S' : Nat → Prop} {ks : List Nd} {xs : List Value} (hrow : w.ownsRow B T 5 v ks.length xs) (hk : KidRow w S ks xs) (hS : ∀ b, S b → S' b) (hv : ∀ g, v.ownBlock = some g → S' g) :
    ∃ K kc, v = .slice K ks.length kc ∧ ks.length ≤ kc ∧ kc ≤ maxLen ∧ (ks ≠ [] → ∃ b off, K = some ⟨b, off, none⟩ ∧ S' b ∧ KidsIn w S' ks b off) := by
  have hc := fun g => hrow.cells (g := g)
  have hr := hrow.2
  rcases hr with ⟨h1, h2⟩ | ⟨g, cap, cur, h1, h5, h6, h7, h8, _⟩
  · refine ⟨none, 0, by rw [h1, h2], by omega, by unfold maxLen; omega, fun h => absurd (List.length_eq_zero_iff.1 h2) h⟩
  · subst h1
    refine ⟨_, cap, rfl, h7, h8, fun _ => ⟨g, 0, rfl, hv g rfl, KidsIn.of_at fun i t ht => ?_⟩⟩
    obtain ⟨v0, v1, v2, v3, v4, c0, c1, c2, c3, c4, c5⟩ := hk i t ht
    have e := hc g rfl
    refine ⟨v0, v1, v2, v3, v4, ?_, ?_, ?_, ?_, ?_, c5.keep fun b hb => ⟨hS b hb, fun _ => rfl⟩⟩
    · have := e _ _ c0; rwa [add_flat] at this
    · have := e _ _ c1; rw [add_flat] at this; rw [Nat.add_assoc]; exact this
    · have := e _ _ c2; rw [add_flat] at this; rw [Nat.add_assoc]; exact this
    · have := e _ _ c3; rw [add_flat] at this; rw [Nat.add_assoc]; exact this
    · have := e _ _ c4; rw [add_flat] at this; rw [Nat.add_assoc]; exact this
end Go.Proofs.YtbjcahhijfommaaGreatDoor.Tr
