/- What a replacer makes of a text: the plain words. -/
import Derived.Test.YtbdgoffbkenofaaGreatBuilt
import Derived.Test.YtbdgoffbkenofaaGreatNum
import Derived.Test.YtbdgoffbkenofaaGreatBuild
import Derived.Test.YtbdgoffbkenofaaGreatLk
namespace Go.Proofs.YtbdgoffbkenofaaGreat.Gr
open Go Go.RowKit Go.Proofs.YtbdgoffbkenofaaGreat.Tr Go.Proofs.YtbdgoffbkenofaaGreat.Sr
set_option linter.unusedVariables false

/-- The pair whose old text a text begins with. -/
def hitOf (K : Prs) (l : List UInt8) : Option (ByteArray × ByteArray) := K.find? fun p => p.1.data.toList.isPrefixOf l
/-- A text, and what it is replaced by. -/
inductive Rep (K : Prs) : List UInt8 → List UInt8 → Prop
  | nil : Rep K [] []
  | skip (c : UInt8) (l o : List UInt8) (h : hitOf K (c :: l) = none) (r : Rep K l o) : Rep K (c :: l) (c :: o)
  | hit (l o : List UInt8) (p : ByteArray × ByteArray) (hl : l ≠ []) (h : hitOf K l = some p) (r : Rep K (l.drop p.1.size) o) : Rep K l (p.2.data.toList ++ o)
theorem Rep.unique {K : Prs} {l o : List UInt8} (h : Rep K l o) : ∀ {o' : List UInt8}, Rep K l o' → o = o' := by
  induction h with
  | nil => intro o' h'; cases h' with | nil => rfl | hit _ _ _ hl => exact absurd rfl hl
  | skip c l o h r ih =>
    intro o' h'
    cases h' with
    | skip _ _ _ h2 r2 => rw [ih r2]
    | hit _ _ p hl h2 r2 => rw [h] at h2; cases h2
  | hit l o p hl h r ih =>
    intro o' h'
    cases h' with
    | nil => exact absurd rfl hl
    | skip _ _ _ h2 r2 => rw [h] at h2; cases h2
    | hit _ _ q _ h2 r2 => rw [h] at h2; injection h2 with h2; subst h2; rw [ih r2]
/-- What has been replaced, what stands between, and what comes. -/
def Done (K : Prs) (s : List UInt8) (out : List UInt8) (last i : Nat) : Prop := ∀ o, Rep K (s.drop i) o → Rep K s (out ++ ((s.drop last).take (i - last) ++ o))
theorem done_start (K : Prs) (s : List UInt8) : Done K s [] 0 0 := fun o h => by simpa using h
theorem Done.skip {K : Prs} {s out : List UInt8} {last i : Nat} (h : Done K s out last i) (hl : last ≤ i) (hi : i < s.length) (hn : hitOf K (s.drop i) = none) : Done K s out last (i + 1) := fun o ho => by
  have e : s.drop i = s[i] :: s.drop (i + 1) := List.drop_eq_getElem_cons hi
  have := h (s[i] :: o) (by rw [e] at hn ⊢; exact Rep.skip _ _ _ hn ho)
  have e2 : (s.drop last).take (i + 1 - last) = (s.drop last).take (i - last) ++ [s[i]] := by
    rw [show i + 1 - last = (i - last) + 1 by omega, List.take_succ_eq_append_getElem (by rw [List.length_drop]; omega), List.getElem_drop]
    simp only [show last + (i - last) = i by omega]
  rw [e2, List.append_assoc]
  exact this
theorem Done.hit {K : Prs} {s out : List UInt8} {last i : Nat} {p : ByteArray × ByteArray} (h : Done K s out last i) (hi : i < s.length) (hn : hitOf K (s.drop i) = some p) :
    Done K s (out ++ (s.drop last).take (i - last) ++ p.2.data.toList) (i + p.1.size) (i + p.1.size) := fun o ho => by
  have hne : s.drop i ≠ [] := fun e => by
    have := congrArg List.length e
    rw [List.length_drop] at this
    simp at this
    omega
  have := h (p.2.data.toList ++ o) (Rep.hit _ _ _ hne hn (by rw [List.drop_drop]; exact ho))
  simpa [List.append_assoc] using this
theorem Done.finish {K : Prs} {s out : List UInt8} {last i : Nat} (h : Done K s out last i) (hi : i = s.length) (hl : last ≤ i) : Rep K s (out ++ s.drop last) := by
  subst hi
  have := h [] (by rw [List.drop_length]; exact Rep.nil)
  rw [List.take_of_length_le (by rw [List.length_drop]; omega), List.append_nil] at this
  exact this
end Go.Proofs.YtbdgoffbkenofaaGreat.Gr
namespace Go.Proofs.YtbdgoffbkenofaaGreat.Gr
open Go Go.RowKit Go.Proofs.YtbdgoffbkenofaaGreat.Tr Go.Proofs.YtbdgoffbkenofaaGreat.Sr
set_option linter.unusedVariables false

theorem key_cons {p : ByteArray × ByteArray} (h : 0 < p.1.size) : p.1.data.toList = UInt8.ofNat (first p) :: (rest p).data.toList := by
  unfold first rest
  rw [ByteArray.data_extract, Array.toList_extract, List.extract_eq_take_drop]
  have e : p.1.size = p.1.data.toList.length := rfl
  cases hl : p.1.data.toList with
  | nil => rw [e, hl] at h; exact absurd h (by decide)
  | cons b r =>
    rw [List.headD_cons, e, hl]
    simp
theorem rest_size {p : ByteArray × ByteArray} (h : 0 < p.1.size) : p.1.size = 1 + (rest p).size := by
  have := congrArg List.length (key_cons h)
  rw [List.length_cons] at this
  show p.1.data.toList.length = 1 + (rest p).data.toList.length
  omega
section
variable {K : Prs} {n N : Nat} {M : List Int}
theorem pre_iff {p : ByteArray × ByteArray} (h : 0 < p.1.size) {s : ByteArray} {i : Nat} (hi : i < s.size) :
    (p.1.data.toList.isPrefixOf (s.data.toList.drop i)) = (decide (s[i].toNat = first p) && hasPre (s.extract (i + 1) s.size) (rest p)) := by
  have hi' : i < s.data.toList.length := hi
  have e1 : s.data.toList.drop i = s[i] :: s.data.toList.drop (i + 1) := List.drop_eq_getElem_cons hi'
  have e2 : (s.extract (i + 1) s.size).data.toList = s.data.toList.drop (i + 1) := by
    rw [ByteArray.data_extract, Array.toList_extract, List.extract_eq_take_drop]
    have : s.size = s.data.toList.length := rfl
    rw [this, List.take_of_length_le]
    rw [List.length_drop]; omega
  rw [key_cons h, e1]
  have hb : (UInt8.ofNat (first p) == s[i]) = decide (s[i].toNat = first p) := by
    have hf : first p < 256 := by unfold first; exact UInt8.toNat_lt _
    rw [Bool.eq_iff_iff, beq_iff_eq, decide_eq_true_eq]
    constructor
    · intro e; rw [← e]; simp; omega
    · intro e; rw [← e]; simp
  show (UInt8.ofNat (first p) == s[i] && (rest p).data.toList.isPrefixOf (s.data.toList.drop (i + 1))) = _
  rw [hb]
  congr 1
  rw [Bool.eq_iff_iff, hasPre_iff, e2, List.isPrefixOf_iff_prefix]
theorem key_one (hG : GoodK K n M N) {j k : Nat} {p q : ByteArray × ByteArray} (hj : K[j]? = some q) (hk : K[k]? = some p) (e : first q = first p) : q = p := by
  rcases Nat.lt_trichotomy j k with h | rfl | h
  · exact absurd (by rw [e]) ((hG.first k p hk).2.2 q (List.mem_of_getElem? (i := j) (by rw [List.getElem?_take_of_lt h]; exact hj)))
  · exact Option.some.inj (hj.symm.trans hk)
  · exact absurd (by rw [e]) ((hG.first j q hj).2.2 p (List.mem_of_getElem? (i := k) (by rw [List.getElem?_take_of_lt h]; exact hk)))
theorem hit_none (hG : GoodK K n M N) {s : ByteArray} {i : Nat} (hi : i < s.size) (h : ∀ p ∈ K, s[i].toNat = first p → hasPre (s.extract (i + 1) s.size) (rest p) = false) : hitOf K (s.data.toList.drop i) = none := by
  unfold hitOf
  rw [List.find?_eq_none]
  intro p hp
  obtain ⟨k, hk⟩ := List.mem_iff_getElem?.1 hp
  rw [pre_iff (hG.first k p hk).1 hi]
  by_cases e : s[i].toNat = first p
  · rw [h p hp e]; simp
  · simp [e]
theorem hit_some (hG : GoodK K n M N) {s : ByteArray} {i k : Nat} {p : ByteArray × ByteArray} (hi : i < s.size) (hk : K[k]? = some p) (hc : s[i].toNat = first p) (hp : hasPre (s.extract (i + 1) s.size) (rest p) = true) : hitOf K (s.data.toList.drop i) = some p := by
  obtain ⟨h0, _, hd⟩ := hG.first k p hk
  obtain ⟨hkl, hk2⟩ := List.getElem?_eq_some_iff.1 hk
  have e : K = K.take k ++ (p :: K.drop (k + 1)) := by
    rw [← hk2, ← List.drop_eq_getElem_cons hkl, List.take_append_drop]
  unfold hitOf
  rw [e, List.find?_append, List.find?_eq_none.2, Option.none_or, List.find?_cons, pre_iff h0 hi, hp, decide_eq_true hc]
  · rfl
  · intro q hq
    obtain ⟨j, hj⟩ := List.mem_iff_getElem?.1 (List.mem_of_mem_take hq)
    rw [pre_iff (hG.first j q hj).1 hi]
    have : s[i].toNat ≠ first q := fun e => hd q hq (by rw [← e, hc])
    simp [this]
theorem rest_empty_pre (s : ByteArray) {p : ByteArray × ByteArray} (h : rest p = ⟨#[]⟩) : hasPre s (rest p) = true := by
  rw [h, hasPre_iff]; exact List.nil_prefix
/-- A byte that begins no key: the table tells. -/
theorem nil_entry (hG : GoodK K n M N) {w : World} {g tb c m : Nat} (hc : c < 256) (hB : Built w g tb n M N K) (hno : ∀ p ∈ K, c ≠ first p) (hm : M[c]? = some (m : Int)) (hlt : m < n) : w.cell? ⟨tb, m, none⟩ = some (.pointer none) := by
  obtain ⟨Tb, q1, q2, q3, q4⟩ := hB.tab
  rw [q2.at m]
  exact q4 m hlt fun p hp e => hG.inj p hp c hc (hno p hp) (hm.trans e.symm)
theorem has_place {w : World} {g tb k : Nat} {p : ByteArray × ByteArray} (hB : Built w g tb n M N K) (hk : K[k]? = some p) : ∃ m : Nat, M[first p]? = some (m : Int) ∧ m < n := by
  obtain ⟨Tb, q1, q2, q3, q4⟩ := hB.tab
  obtain ⟨nb, m, u1, u2, u3, u4, u5⟩ := q3 k p hk
  exact ⟨m, u1, u2⟩
theorem has_entry {w : World} {g tb k m : Nat} {p : ByteArray × ByteArray} (hB : Built w g tb n M N K) (hk : K[k]? = some p) (hm : M[first p]? = some (m : Int)) : ∃ nb, w.cell? ⟨tb, m, none⟩ = some (.pointer (some ⟨nb, 0, none⟩)) := by
  obtain ⟨Tb, q1, q2, q3, q4⟩ := hB.tab
  obtain ⟨nb, m', u1, u2, u3, u4, u5⟩ := q3 k p hk
  have : (m : Int) = (m' : Int) := Option.some.inj (hm.symm.trans u1)
  obtain rfl : m = m' := by omega
  exact ⟨nb, (q2.at m).trans u3⟩
end
end Go.Proofs.YtbdgoffbkenofaaGreat.Gr
namespace Go.Proofs.YtbdgoffbkenofaaGreat.Gr
open Go Go.RowKit Go.Proofs.YtbdgoffbkenofaaGreat.Tr Go.Proofs.YtbdgoffbkenofaaGreat.Sr
set_option linter.unusedVariables false

section
variable {K : Prs} {n N : Nat} {M : List Int}
theorem small_rest (hG : GoodK K n M N) {k : Nat} {p : ByteArray × ByteArray} (hk : K[k]? = some p) : (rest p).size ≤ 1000 := by
  have := rest_size (hG.first k p hk).1
  have := hG.size p (List.mem_of_getElem? hk)
  omega
theorem small_idx (hG : GoodK K n M N) {k : Nat} {p : ByteArray × ByteArray} (hk : K[k]? = some p) : 2 * k < N := by
  have := hG.cnt
  obtain ⟨h, _⟩ := List.getElem?_eq_some_iff.1 hk
  omega
theorem look_hit (hG : GoodK K n M N) (g tb : Nat) (k : Nat) (p : ByteArray × ByteArray) (s : ByteArray) (w : World) (hB : Built w g tb n M N K) (hk : K[k]? = some p) (hs : 0 < s.size) (hs2 : s.size ≤ 1000000000) (hc : s[0].toNat = first p) (hp : hasPre (s.extract 1 s.size) (rest p) = true) :
    Calls Tryz.prog 196 #[.pointer (some ⟨g, 0, none⟩), .string s, .bool false] w (LookEnd p.2 p.1.size true w) := by
  have hsz := rest_size (hG.first k p hk).1
  by_cases hr : rest p = ⟨#[]⟩
  · have : p.1.size = 1 := by rw [hsz, hr]; rfl
    rw [this]
    exact look_one g tb n N M K k p s w hB hG.n1 hk (small_idx hG hk) hG.small hs hs2 hc hr
  · rw [hsz]
    exact look_yes g tb n N M K k p s w hB hG.n1 hk (small_idx hG hk) hG.small hs hs2 hc hr (small_rest hG hk) hp
theorem look_miss (hG : GoodK K n M N) (g tb : Nat) (k : Nat) (p : ByteArray × ByteArray) (s : ByteArray) (w : World) (hB : Built w g tb n M N K) (hk : K[k]? = some p) (hs : 0 < s.size) (hs2 : s.size ≤ 1000000000) (hc : s[0].toNat = first p) (hp : hasPre (s.extract 1 s.size) (rest p) = false) :
    Calls Tryz.prog 196 #[.pointer (some ⟨g, 0, none⟩), .string s, .bool false] w (LookEnd ⟨#[]⟩ 0 false w) := by
  have hr : rest p ≠ ⟨#[]⟩ := fun e => by rw [rest_empty_pre _ e] at hp; cases hp
  exact look_no g tb n N M K k p s w hB hG.n1 hk (small_idx hG hk) hG.small hs hs2 hc hr (small_rest hG hk) hp
end
theorem cut_size (s : ByteArray) (i : Nat) : (s.extract i s.size).size = s.size - i := by rw [ByteArray.size_extract]; omega
theorem cut_zero (s : ByteArray) (i : Nat) (hi : i < s.size) (h : 0 < (s.extract i s.size).size) : (s.extract i s.size)[0] = s[i] := by
  simp [ByteArray.getElem_extract]
theorem cut_cut (s : ByteArray) (i : Nat) : (s.extract i s.size).extract 1 (s.extract i s.size).size = s.extract (i + 1) s.size := by
  rw [cut_size, ByteArray.extract_extract]
  congr 1
  omega
theorem cut_list (s : ByteArray) (i j : Nat) : (s.extract i j).data.toList = (s.data.toList.drop i).take (j - i) := by
  rw [ByteArray.data_extract, Array.toList_extract, List.extract_eq_take_drop]
theorem pre_size {s p : ByteArray} (h : hasPre s p = true) : p.size ≤ s.size := (hasPre_iff.1 h).length_le
end Go.Proofs.YtbdgoffbkenofaaGreat.Gr
