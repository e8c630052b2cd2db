/- What the table tells of a byte: plain facts. -/
import Derived.Test.YtioaigedcoapcaaGreatDoorBuild
import Derived.Test.YtioaigedcoapcaaGreatDoorRep
namespace Go.Proofs.YtioaigedcoapcaaGreatDoor.Gr
open Go Go.RowKit Go.Proofs.YtioaigedcoapcaaGreatDoor.Tr Go.Proofs.YtioaigedcoapcaaGreatDoor.Sr
set_option linter.unusedVariables false

theorem key_cons {p : ByteArray × ByteArray} (h : 0 < p.1.size) : p.1.data.toList = UInt8.ofNat (first p) :: (rest p).data.toList := by
  unfold first rest
  rw [ByteArray.data_extract, Array.toList_extract, List.extract_eq_take_drop]
  have e : p.1.size = p.1.data.toList.length := rfl
  cases hl : p.1.data.toList with
  | nil => rw [e, hl] at h; exact absurd h (by decide)
  | cons b r =>
    rw [List.headD_cons, e, hl]
    simp
theorem rest_size {p : ByteArray × ByteArray} (h : 0 < p.1.size) : p.1.size = 1 + (rest p).size := by
  have := congrArg List.length (key_cons h)
  rw [List.length_cons] at this
  show p.1.data.toList.length = 1 + (rest p).data.toList.length
  omega
section
variable {K : Prs} {n N : Nat} {M : List Int}
theorem pre_iff {p : ByteArray × ByteArray} (h : 0 < p.1.size) {s : ByteArray} {i : Nat} (hi : i < s.size) :
    (p.1.data.toList.isPrefixOf (s.data.toList.drop i)) = (decide (s[i].toNat = first p) && hasPre (s.extract (i + 1) s.size) (rest p)) := by
  have hi' : i < s.data.toList.length := hi
  have e1 : s.data.toList.drop i = s[i] :: s.data.toList.drop (i + 1) := List.drop_eq_getElem_cons hi'
  have e2 : (s.extract (i + 1) s.size).data.toList = s.data.toList.drop (i + 1) := by
    rw [ByteArray.data_extract, Array.toList_extract, List.extract_eq_take_drop]
    have : s.size = s.data.toList.length := rfl
    rw [this, List.take_of_length_le]
    rw [List.length_drop]; omega
  rw [key_cons h, e1]
  have hb : (UInt8.ofNat (first p) == s[i]) = decide (s[i].toNat = first p) := by
    have hf : first p < 256 := by unfold first; exact UInt8.toNat_lt _
    rw [Bool.eq_iff_iff, beq_iff_eq, decide_eq_true_eq]
    constructor
    · intro e; rw [← e]; simp; omega
    · intro e; rw [← e]; simp
  show (UInt8.ofNat (first p) == s[i] && (rest p).data.toList.isPrefixOf (s.data.toList.drop (i + 1))) = _
  rw [hb]
  congr 1
  rw [Bool.eq_iff_iff, hasPre_iff, e2, List.isPrefixOf_iff_prefix]
theorem key_one (hG : GoodK K n M N) {j k : Nat} {p q : ByteArray × ByteArray} (hj : K[j]? = some q) (hk : K[k]? = some p) (e : first q = first p) : q = p := by
  rcases Nat.lt_trichotomy j k with h | rfl | h
  · exact absurd (by rw [e]) ((hG.first k p hk).2.2 q (List.mem_of_getElem? (i := j) (by rw [List.getElem?_take_of_lt h]; exact hj)))
  · exact Option.some.inj (hj.symm.trans hk)
  · exact absurd (by rw [e]) ((hG.first j q hj).2.2 p (List.mem_of_getElem? (i := k) (by rw [List.getElem?_take_of_lt h]; exact hk)))
theorem hit_none (hG : GoodK K n M N) {s : ByteArray} {i : Nat} (hi : i < s.size) (h : ∀ p ∈ K, s[i].toNat = first p → hasPre (s.extract (i + 1) s.size) (rest p) = false) : hitOf K (s.data.toList.drop i) = none := by
  unfold hitOf
  rw [List.find?_eq_none]
  intro p hp
  obtain ⟨k, hk⟩ := List.mem_iff_getElem?.1 hp
  rw [pre_iff (hG.first k p hk).1 hi]
  by_cases e : s[i].toNat = first p
  · rw [h p hp e]; simp
  · simp [e]
theorem hit_some (hG : GoodK K n M N) {s : ByteArray} {i k : Nat} {p : ByteArray × ByteArray} (hi : i < s.size) (hk : K[k]? = some p) (hc : s[i].toNat = first p) (hp : hasPre (s.extract (i + 1) s.size) (rest p) = true) : hitOf K (s.data.toList.drop i) = some p := by
  obtain ⟨h0, _, hd⟩ := hG.first k p hk
  obtain ⟨hkl, hk2⟩ := List.getElem?_eq_some_iff.1 hk
  have e : K = K.take k ++ (p :: K.drop (k + 1)) := by
    rw [← hk2, ← List.drop_eq_getElem_cons hkl, List.take_append_drop]
  unfold hitOf
  rw [e, List.find?_append, List.find?_eq_none.2, Option.none_or, List.find?_cons, pre_iff h0 hi, hp, decide_eq_true hc]
  · rfl
  · intro q hq
    obtain ⟨j, hj⟩ := List.mem_iff_getElem?.1 (List.mem_of_mem_take hq)
    rw [pre_iff (hG.first j q hj).1 hi]
    have : s[i].toNat ≠ first q := fun e => hd q hq (by rw [← e, hc])
    simp [this]
theorem rest_empty_pre (s : ByteArray) {p : ByteArray × ByteArray} (h : rest p = ⟨#[]⟩) : hasPre s (rest p) = true := by
  rw [h, hasPre_iff]; exact List.nil_prefix
/-- A byte that begins no key: the table tells. -/
theorem nil_entry (hG : GoodK K n M N) {w : World} {g tb c m : Nat} (hc : c < 256) (hB : Built w g tb n M N K) (hno : ∀ p ∈ K, c ≠ first p) (hm : M[c]? = some (m : Int)) (hlt : m < n) : w.cell? ⟨tb, m, none⟩ = some (.pointer none) := by
  obtain ⟨Tb, q1, q2, q3, q4⟩ := hB.tab
  rw [q2.at m]
  exact q4 m hlt fun p hp e => hG.inj p hp c hc (hno p hp) (hm.trans e.symm)
theorem has_place {w : World} {g tb k : Nat} {p : ByteArray × ByteArray} (hB : Built w g tb n M N K) (hk : K[k]? = some p) : ∃ m : Nat, M[first p]? = some (m : Int) ∧ m < n := by
  obtain ⟨Tb, q1, q2, q3, q4⟩ := hB.tab
  obtain ⟨nb, m, u1, u2, u3, u4, u5⟩ := q3 k p hk
  exact ⟨m, u1, u2⟩
theorem has_entry {w : World} {g tb k m : Nat} {p : ByteArray × ByteArray} (hB : Built w g tb n M N K) (hk : K[k]? = some p) (hm : M[first p]? = some (m : Int)) : ∃ nb, w.cell? ⟨tb, m, none⟩ = some (.pointer (some ⟨nb, 0, none⟩)) := by
  obtain ⟨Tb, q1, q2, q3, q4⟩ := hB.tab
  obtain ⟨nb, m', u1, u2, u3, u4, u5⟩ := q3 k p hk
  have : (m : Int) = (m' : Int) := Option.some.inj (hm.symm.trans u1)
  obtain rfl : m = m' := by omega
  exact ⟨nb, (q2.at m).trans u3⟩
end
end Go.Proofs.YtioaigedcoapcaaGreatDoor.Gr
