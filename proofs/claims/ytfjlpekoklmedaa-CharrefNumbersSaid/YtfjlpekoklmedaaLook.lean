/- Names looked up, by the program and by the document: plain facts, then the contracts. -/
import Derived.Test.YtfjlpekoklmedaaNamesW
import Derived.Test.YtfjlpekoklmedaaAll
namespace Go.Proofs.Ytfjlpekoklmedaa.Ct
open Go Go.RowKit Go.Proofs.Ytfjlpekoklmedaa.Ss

/-! ### The document's search: the first entry of its table that fits -/
def fits (name : ByteArray) (k : Nat) : Bool := (name == entN k ++ ⟨#[59]⟩) || ((name == entN k) && entB k)
def rfindFrom (name : ByteArray) : Nat → Nat → Option ByteArray
  | _, 0 => none
  | k, n + 1 => if fits name k then some (Utf8.encode (entS k)) else rfindFrom name (k + 1) n
def rfind (name : ByteArray) : Option ByteArray := if name = ⟨#[102, 106, 108, 105, 103, 59]⟩ then some ⟨#[102, 106]⟩ else rfindFrom name 0 52
/-- The pairs of the document's table. -/
def rpairs : List (ByteArray × ByteArray) :=
  (⟨#[102, 106, 108, 105, 103, 59]⟩, ⟨#[102, 106]⟩) :: ents.flatMap fun p => if p.2.2 then [(p.1 ++ ⟨#[59]⟩, Utf8.encode p.2.1), (p.1, Utf8.encode p.2.1)] else [(p.1 ++ ⟨#[59]⟩, Utf8.encode p.2.1)]
theorem bytes_beq {a b : ByteArray} : (a == b) = true ↔ a = b := by
  rw [beq_toListBytes, beq_iff_eq, ByteArray.toList_eq, ByteArray.toList_eq]; exact bytes_eq
def assoc : List (ByteArray × ByteArray) → ByteArray → Option ByteArray
  | [], _ => none
  | p :: r, k => if p.1 = k then some p.2 else assoc r k
theorem assoc_mem {L : List (ByteArray × ByteArray)} {k v : ByteArray} (h : assoc L k = some v) : (k, v) ∈ L := by
  induction L with
  | nil => cases h
  | cons p r ih =>
    unfold assoc at h
    split at h
    · rename_i e; cases h; subst e; exact List.mem_cons_self
    · exact List.mem_cons_of_mem _ (ih h)
theorem look_mem {L : Pairs} {k v : ByteArray} (h : lookP L k = some v) : (k, v) ∈ L := by
  induction L with
  | nil => cases h
  | cons p r ih =>
    unfold lookP at h
    split at h
    · rename_i e; cases h; exact List.mem_cons_of_mem _ (ih e)
    · split at h
      · rename_i e; cases h; subst e; exact List.mem_cons_self
      · cases h
theorem same_maps {L : Pairs} {M : List (ByteArray × ByteArray)} (h1 : ∀ p ∈ L, assoc M p.1 = some p.2) (h2 : ∀ p ∈ M, lookP L p.1 = some p.2) (k : ByteArray) : lookP L k = assoc M k := by
  cases h : lookP L k with
  | some v => exact (h1 _ (look_mem h)).symm
  | none =>
    cases g : assoc M k with
    | none => rfl
    | some v => have := h2 _ (assoc_mem g); rw [h] at this; cases this
theorem assoc_append (L M : List (ByteArray × ByteArray)) (k : ByteArray) : assoc (L ++ M) k = match assoc L k with | some v => some v | none => assoc M k := by
  induction L with
  | nil => rfl
  | cons p r ih =>
    rw [List.cons_append, assoc, assoc]
    split
    · rfl
    · exact ih
theorem assoc_one {q k x : ByteArray} (h1 : ¬ q = k) : assoc [(q, x)] k = none := by
  rw [assoc, if_neg h1]; rfl
theorem assoc_two {q p k x y : ByteArray} (h1 : ¬ q = k) (h2 : p = k) : assoc [(q, x), (p, y)] k = some y := by
  rw [assoc, if_neg h1, assoc, if_pos h2]
theorem assoc_no2 {q p k x y : ByteArray} (h1 : ¬ q = k) (h2 : ¬ p = k) : assoc [(q, x), (p, y)] k = none := by
  rw [assoc, if_neg h1, assoc, if_neg h2]; rfl
theorem ent_getD (k : Nat) (hk : k < 52) : ents.getD k (ByteArray.empty, 0, false) = ents[k]'hk := by
  have h : k < ents.length := hk
  unfold List.getD; rw [List.getElem?_eq_getElem h]; rfl
theorem rfindFrom_is (name : ByteArray) (n k : Nat) (h : k + n = 52) :
    rfindFrom name k n = assoc ((ents.drop k).flatMap fun p => if p.2.2 then [(p.1 ++ ⟨#[59]⟩, Utf8.encode p.2.1), (p.1, Utf8.encode p.2.1)] else [(p.1 ++ ⟨#[59]⟩, Utf8.encode p.2.1)]) name := by
  induction n generalizing k with
  | zero =>
    have e : ents.drop k = [] := List.drop_eq_nil_of_le (by show 52 ≤ k; omega)
    rw [e]; rfl
  | succ n ih =>
    have hk : k < ents.length := by show k < 52; omega
    rw [rfindFrom, ih (k + 1) (by omega), List.drop_eq_getElem_cons hk, List.flatMap_cons, assoc_append]
    unfold fits entN entB entS
    rw [ent_getD k hk]
    generalize ents[k] = p
    generalize (p.1 ++ ⟨#[59]⟩ : ByteArray) = q
    by_cases h1 : name = q
    · have : (name == q) = true := bytes_beq.2 h1
      rw [this, Bool.true_or, if_pos rfl]
      cases p.2.2 <;> simp [assoc, h1]
    · have e1 : (name == q) = false := by rw [← Bool.not_eq_true, bytes_beq]; exact h1
      have e1' : ¬ q = name := fun e => h1 e.symm
      by_cases h2 : name = p.1
      · have e2 : (name == p.1) = true := bytes_beq.2 h2
        rw [e1, e2, Bool.false_or, Bool.true_and]
        cases p.2.2
        · simp [assoc, e1']
        · rw [if_pos rfl, if_pos rfl, assoc_two e1' h2.symm]
      · have e2 : (name == p.1) = false := by rw [← Bool.not_eq_true, bytes_beq]; exact h2
        have e2' : ¬ p.1 = name := fun e => h2 e.symm
        rw [e1, e2, Bool.false_or, Bool.false_and]
        rw [if_neg (by decide)]
        cases p.2.2
        · rw [if_neg (by decide), assoc_one e1']
        · rw [if_pos rfl, assoc_no2 e1' e2']
theorem rfind_is (name : ByteArray) : rfind name = assoc rpairs name := by
  unfold rfind rpairs
  rw [assoc, rfindFrom_is name 52 0 rfl, List.drop_zero]
  by_cases h : name = ⟨#[102, 106, 108, 105, 103, 59]⟩
  · rw [if_pos h, if_pos h.symm]
  · rw [if_neg h, if_neg (fun e => h e.symm)]
instance : DecidableEq ByteArray := fun a b => decidable_of_iff (a.data = b.data) ⟨fun h => by cases a; cases b; simpa using h, fun h => by rw [h]⟩
theorem pairs_assoc : ∀ p ∈ pairsTo 32, assoc rpairs p.1 = some p.2 := by decide +kernel
theorem rpairs_look : ∀ p ∈ rpairs, lookP (pairsTo 32) p.1 = some p.2 := by decide +kernel
/-- The program's map and the document's search are one. -/
theorem finds (name : ByteArray) : lookP (pairsTo 32) name = rfind name := by
  rw [rfind_is]; exact same_maps pairs_assoc rpairs_look name
end Go.Proofs.Ytfjlpekoklmedaa.Ct
