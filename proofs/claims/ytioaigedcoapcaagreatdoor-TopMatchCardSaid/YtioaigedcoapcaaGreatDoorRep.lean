/- What a replacer makes of a text: the plain words. -/
import Derived.Test.YtioaigedcoapcaaGreatDoorBuilt
import Derived.Test.YtioaigedcoapcaaGreatDoorStr
namespace Go.Proofs.YtioaigedcoapcaaGreatDoor.Gr
open Go Go.RowKit Go.Proofs.YtioaigedcoapcaaGreatDoor.Tr Go.Proofs.YtioaigedcoapcaaGreatDoor.Sr
set_option linter.unusedVariables false

/-- The pair whose old text a text begins with. -/
def hitOf (K : Prs) (l : List UInt8) : Option (ByteArray × ByteArray) := K.find? fun p => p.1.data.toList.isPrefixOf l
/-- A text, and what it is replaced by. -/
inductive Rep (K : Prs) : List UInt8 → List UInt8 → Prop
  | nil : Rep K [] []
  | skip (c : UInt8) (l o : List UInt8) (h : hitOf K (c :: l) = none) (r : Rep K l o) : Rep K (c :: l) (c :: o)
  | hit (l o : List UInt8) (p : ByteArray × ByteArray) (hl : l ≠ []) (h : hitOf K l = some p) (r : Rep K (l.drop p.1.size) o) : Rep K l (p.2.data.toList ++ o)
theorem Rep.unique {K : Prs} {l o : List UInt8} (h : Rep K l o) : ∀ {o' : List UInt8}, Rep K l o' → o = o' := by
  induction h with
  | nil => intro o' h'; cases h' with | nil => rfl | hit _ _ _ hl => exact absurd rfl hl
  | skip c l o h r ih =>
    intro o' h'
    cases h' with
    | skip _ _ _ h2 r2 => rw [ih r2]
    | hit _ _ p hl h2 r2 => rw [h] at h2; cases h2
  | hit l o p hl h r ih =>
    intro o' h'
    cases h' with
    | nil => exact absurd rfl hl
    | skip _ _ _ h2 r2 => rw [h] at h2; cases h2
    | hit _ _ q _ h2 r2 => rw [h] at h2; injection h2 with h2; subst h2; rw [ih r2]
/-- What has been replaced, what stands between, and what comes. -/
def Done (K : Prs) (s : List UInt8) (out : List UInt8) (last i : Nat) : Prop := ∀ o, Rep K (s.drop i) o → Rep K s (out ++ ((s.drop last).take (i - last) ++ o))
theorem done_start (K : Prs) (s : List UInt8) : Done K s [] 0 0 := fun o h => by simpa using h
theorem Done.skip {K : Prs} {s out : List UInt8} {last i : Nat} (h : Done K s out last i) (hl : last ≤ i) (hi : i < s.length) (hn : hitOf K (s.drop i) = none) : Done K s out last (i + 1) := fun o ho => by
  have e : s.drop i = s[i] :: s.drop (i + 1) := List.drop_eq_getElem_cons hi
  have := h (s[i] :: o) (by rw [e] at hn ⊢; exact Rep.skip _ _ _ hn ho)
  have e2 : (s.drop last).take (i + 1 - last) = (s.drop last).take (i - last) ++ [s[i]] := by
    rw [show i + 1 - last = (i - last) + 1 by omega, List.take_succ_eq_append_getElem (by rw [List.length_drop]; omega), List.getElem_drop]
    simp only [show last + (i - last) = i by omega]
  rw [e2, List.append_assoc]
  exact this
theorem Done.hit {K : Prs} {s out : List UInt8} {last i : Nat} {p : ByteArray × ByteArray} (h : Done K s out last i) (hi : i < s.length) (hn : hitOf K (s.drop i) = some p) :
    Done K s (out ++ (s.drop last).take (i - last) ++ p.2.data.toList) (i + p.1.size) (i + p.1.size) := fun o ho => by
  have hne : s.drop i ≠ [] := fun e => by
    have := congrArg List.length e
    rw [List.length_drop] at this
    simp at this
    omega
  have := h (p.2.data.toList ++ o) (Rep.hit _ _ _ hne hn (by rw [List.drop_drop]; exact ho))
  simpa [List.append_assoc] using this
theorem Done.finish {K : Prs} {s out : List UInt8} {last i : Nat} (h : Done K s out last i) (hi : i = s.length) (hl : last ≤ i) : Rep K s (out ++ s.drop last) := by
  subst hi
  have := h [] (by rw [List.drop_length]; exact Rep.nil)
  rw [List.take_of_length_le (by rw [List.length_drop]; omega), List.append_nil] at this
  exact this
end Go.Proofs.YtioaigedcoapcaaGreatDoor.Gr
