/- strings' generic replacer: the look-up, in one word. -/
import Derived.Test.YtioaigedcoapcaaGreatDoorLk
import Derived.Test.YtioaigedcoapcaaGreatDoorHit
namespace Go.Proofs.YtioaigedcoapcaaGreatDoor.Gr
open Go Go.RowKit Go.Proofs.YtioaigedcoapcaaGreatDoor.Tr Go.Proofs.YtioaigedcoapcaaGreatDoor.Sr
set_option linter.unusedVariables false

section
variable {K : Prs} {n N : Nat} {M : List Int}
theorem small_rest (hG : GoodK K n M N) {k : Nat} {p : ByteArray × ByteArray} (hk : K[k]? = some p) : (rest p).size ≤ 1000 := by
  have := rest_size (hG.first k p hk).1
  have := hG.size p (List.mem_of_getElem? hk)
  omega
theorem small_idx (hG : GoodK K n M N) {k : Nat} {p : ByteArray × ByteArray} (hk : K[k]? = some p) : 2 * k < N := by
  have := hG.cnt
  obtain ⟨h, _⟩ := List.getElem?_eq_some_iff.1 hk
  omega
theorem look_hit (hG : GoodK K n M N) (g tb : Nat) (k : Nat) (p : ByteArray × ByteArray) (s : ByteArray) (w : World) (hB : Built w g tb n M N K) (hk : K[k]? = some p) (hs : 0 < s.size) (hs2 : s.size ≤ 1000000000) (hc : s[0].toNat = first p) (hp : hasPre (s.extract 1 s.size) (rest p) = true) :
    Calls Tryz.prog 487 #[.pointer (some ⟨g, 0, none⟩), .string s, .bool false] w (LookEnd p.2 p.1.size true w) := by
  have hsz := rest_size (hG.first k p hk).1
  by_cases hr : rest p = ⟨#[]⟩
  · have : p.1.size = 1 := by rw [hsz, hr]; rfl
    rw [this]
    exact look_one g tb n N M K k p s w hB hG.n1 hk (small_idx hG hk) hG.small hs hs2 hc hr
  · rw [hsz]
    exact look_yes g tb n N M K k p s w hB hG.n1 hk (small_idx hG hk) hG.small hs hs2 hc hr (small_rest hG hk) hp
theorem look_miss (hG : GoodK K n M N) (g tb : Nat) (k : Nat) (p : ByteArray × ByteArray) (s : ByteArray) (w : World) (hB : Built w g tb n M N K) (hk : K[k]? = some p) (hs : 0 < s.size) (hs2 : s.size ≤ 1000000000) (hc : s[0].toNat = first p) (hp : hasPre (s.extract 1 s.size) (rest p) = false) :
    Calls Tryz.prog 487 #[.pointer (some ⟨g, 0, none⟩), .string s, .bool false] w (LookEnd ⟨#[]⟩ 0 false w) := by
  have hr : rest p ≠ ⟨#[]⟩ := fun e => by rw [rest_empty_pre _ e] at hp; cases hp
  exact look_no g tb n N M K k p s w hB hG.n1 hk (small_idx hG hk) hG.small hs hs2 hc hr (small_rest hG hk) hp
end
theorem cut_size (s : ByteArray) (i : Nat) : (s.extract i s.size).size = s.size - i := by rw [ByteArray.size_extract]; omega
theorem cut_zero (s : ByteArray) (i : Nat) (hi : i < s.size) (h : 0 < (s.extract i s.size).size) : (s.extract i s.size)[0] = s[i] := by
  simp [ByteArray.getElem_extract]
theorem cut_cut (s : ByteArray) (i : Nat) : (s.extract i s.size).extract 1 (s.extract i s.size).size = s.extract (i + 1) s.size := by
  rw [cut_size, ByteArray.extract_extract]
  congr 1
  omega
theorem cut_list (s : ByteArray) (i j : Nat) : (s.extract i j).data.toList = (s.data.toList.drop i).take (j - i) := by
  rw [ByteArray.data_extract, Array.toList_extract, List.extract_eq_take_drop]
theorem pre_size {s p : ByteArray} (h : hasPre s p = true) : p.size ≤ s.size := (hasPre_iff.1 h).length_le
end Go.Proofs.YtioaigedcoapcaaGreatDoor.Gr
