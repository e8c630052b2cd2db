/- strings' generic replacer as it is built: what its table holds, key by key. -/
import Derived.Test.YtioaigedcoapcaaGreatDoorMk1
namespace Go.Proofs.YtioaigedcoapcaaGreatDoor.Gr
open Go Go.RowKit Go.Proofs.YtioaigedcoapcaaGreatDoor.Tr
set_option linter.unusedVariables false

def first (p : ByteArray × ByteArray) : Nat := (p.1.data.toList.headD 0).toNat
def rest (p : ByteArray × ByteArray) : ByteArray := p.1.extract 1 p.1.size
theorem first_of {p : ByteArray × ByteArray} (h : 0 < p.1.size) : p.1[0].toNat = first p := by
  unfold first
  obtain ⟨⟨⟨l⟩⟩, v⟩ := p
  cases l with
  | nil => exact absurd h (Nat.lt_irrefl 0)
  | cons b r => rfl
theorem Sub.keep {w w' : World} {b tb : Nat} {key v : ByteArray} {p : Int} (h : Sub w b key v p) (hF : Fr (· = tb) w.heap.size w w') (hb : tb < b) : Sub w' b key v p := by
  rcases h with ⟨h1, h2⟩ | ⟨h1, b2, h2, h3, h4⟩
  · exact .inl ⟨h1, h2.old (hF.block b h2.lt (by omega))⟩
  · exact .inr ⟨h1, b2, h2.old (hF.block b h2.lt (by omega)), h3.old (hF.block b2 h3.lt (by omega)), h4⟩
structure Built (w : World) (g tb n : Nat) (M : List Int) (N : Nat) (K : Prs) : Prop where
  gen : Gen w g (.slice (some ⟨tb, 0, none⟩) n n) n M
  tab : ∃ Tb : List Value, Tb.length = n ∧ Tabl w tb Tb ∧
    (∀ (k : Nat) p, K[k]? = some p → ∃ nb m : Nat, M[first p]? = some (m : Int) ∧ m < n ∧ Tb[m]? = some (.pointer (some ⟨nb, 0, none⟩)) ∧ tb < nb ∧ Sub w nb (rest p) p.2 ((N : Int) - 2 * k)) ∧
    (∀ m : Nat, m < n → (∀ p ∈ K, M[first p]? ≠ some (m : Int)) → Tb[m]? = some (.pointer none))
  lt : g < tb
theorem Built.keep {w w' : World} {g tb n N : Nat} {M : List Int} {K : Prs} (h : Built w g tb n M N K) (hb : Below w.heap.size w w') : Built w' g tb n M N K := by
  obtain ⟨hg, ⟨Tb, h1, h2, h3, h4⟩, h5⟩ := h
  refine ⟨hg.old (hb.block _ (lt_of_block hg.blk)), ⟨Tb, h1, ⟨(hb.block _ (lt_of_block h2.blk)).trans h2.blk⟩, fun k p hp => ?_, h4⟩, h5⟩
  obtain ⟨nb, m, q1, q2, q3, q4, q5⟩ := h3 k p hp
  refine ⟨nb, m, q1, q2, q3, q4, ?_⟩
  have hF : Fr (· = tb) w.heap.size w w' := (Fr.of_below (R := (· = tb)) hb)
  exact q5.keep hF q4
theorem Built.next {w w' : World} {g tb n N : Nat} {M : List Int} {K : Prs} {p : ByteArray × ByteArray} {m nb : Nat} {Tb : List Value} (hg : Gen w g (.slice (some ⟨tb, 0, none⟩) n n) n M) (hgt : g < tb)
    (hl : Tb.length = n) (h3 : ∀ (k : Nat) q, K[k]? = some q → ∃ nb m : Nat, M[first q]? = some (m : Int) ∧ m < n ∧ Tb[m]? = some (.pointer (some ⟨nb, 0, none⟩)) ∧ tb < nb ∧ Sub w nb (rest q) q.2 ((N : Int) - 2 * k))
    (h4 : ∀ m : Nat, m < n → (∀ q ∈ K, M[first q]? ≠ some (m : Int)) → Tb[m]? = some (.pointer none))
    (hm : M[first p]? = some (m : Int)) (hmn : m < n) (hd : ∀ q ∈ K, M[first q]? ≠ some (m : Int))
    (htb : tb < w.heap.size) (e1 : w.heap.size ≤ nb) (e2 : Tabl w' tb (Tb.set m (.pointer (some ⟨nb, 0, none⟩)))) (e3 : Sub w' nb (rest p) p.2 ((N : Int) - 2 * K.length)) (e4 : Fr (· = tb) w.heap.size w w') :
    Built w' g tb n M N (K ++ [p]) := by
  refine ⟨hg.old (e4.block _ (lt_of_block hg.blk) (by omega)), ⟨_, by rw [List.length_set]; exact hl, e2, fun k q hq => ?_, fun j hj hno => ?_⟩, hgt⟩
  · by_cases hk : k < K.length
    · rw [List.getElem?_append_left hk] at hq
      obtain ⟨b, i, q1, q2, q3, q4, q5⟩ := h3 k q hq
      refine ⟨b, i, q1, q2, ?_, q4, q5.keep e4 q4⟩
      rw [List.getElem?_set_ne]
      · exact q3
      · rintro rfl
        exact hd q (List.mem_of_getElem? hq) q1
    · rw [List.getElem?_append_right (by omega)] at hq
      have : k = K.length := by
        obtain ⟨h, _⟩ := List.getElem?_eq_some_iff.1 hq
        simp at h; omega
      subst this
      simp at hq
      subst hq
      exact ⟨nb, m, hm, hmn, List.getElem?_set_self (by omega), by omega, e3⟩
  · have hne : m ≠ j := by
      rintro rfl
      exact hno p (by simp) hm
    rw [List.getElem?_set_ne hne]
    exact h4 j hj fun q hq => hno q (by simp [hq])
theorem built_new {w : World} {g tb n N : Nat} {M : List Int} (hg : Gen w g (.slice (some ⟨tb, 0, none⟩) n n) n M) (ht : Tabl w tb (tcells n)) (hgt : g < tb) : Built w g tb n M N [] := by
  refine ⟨hg, ⟨_, by unfold tcells; simp, ht, fun k p hp => by simp at hp, fun m hm _ => by unfold tcells; rw [List.getElem?_replicate, if_pos hm]⟩, hgt⟩
end Go.Proofs.YtioaigedcoapcaaGreatDoor.Gr
