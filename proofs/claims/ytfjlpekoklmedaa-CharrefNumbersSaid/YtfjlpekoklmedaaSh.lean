/- A text that stands ahead of another one without an ampersand: plain laws. -/
import Derived.Test.YtfjlpekoklmedaaAwc
namespace Go.Proofs.Ytfjlpekoklmedaa.Ch
open Go Go.RowKit Go.Proofs.Ytfjlpekoklmedaa.Sr Go.Proofs.Ytfjlpekoklmedaa.Ct Go.Proofs.Ytfjlpekoklmedaa.Gr
set_option linter.unusedVariables false

section
variable (a b : ByteArray)
theorem sh_at (i : Nat) : (a ++ b).data.toList[a.size + i]? = b.data.toList[i]? := by
  rw [app_list, List.getElem?_append_right (show a.data.toList.length ≤ a.size + i from Nat.le_add_right _ _)]
  congr 1
  show a.size + i - a.size = i
  omega
theorem sh_drop (i : Nat) : (a ++ b).data.toList.drop (a.size + i) = b.data.toList.drop i := by
  rw [app_list, List.drop_append, List.drop_eq_nil_of_le (show a.data.toList.length ≤ a.size + i from Nat.le_add_right _ _), List.nil_append]
  congr 1
  show a.size + i - a.size = i
  omega
theorem sh_size : (a ++ b).size = a.size + b.size := ByteArray.size_append
theorem sh_get (i : Nat) (hi : i < b.size) (h : a.size + i < (a ++ b).size) : (a ++ b)[a.size + i] = b[i] := by
  have h1 := byte_at h
  rw [sh_at, byte_at hi] at h1
  injection h1 with h1
  exact h1.symm
theorem sh_extract (i j : Nat) : (a ++ b).extract (a.size + i) (a.size + j) = b.extract i j := by
  apply bytes_eq.1
  rw [cut_list, cut_list, sh_drop]
  congr 1
  omega
theorem sh_hex (f : Nat) : hexAt (a ++ b) (a.size + f) = hexAt b f := by unfold hexAt; rw [sh_at]
theorem sh_semi (f : Nat) : semiAt (a ++ b) (a.size + f) = semiAt b f := by unfold semiAt; rw [sh_at]
theorem sh_numAt (f : Nat) (hex : Bool) (k : Nat) : numAt (a ++ b) (a.size + f) hex (a.size + k) = numAt b f hex k := by
  unfold numAt
  rw [sh_drop]
  generalize numL hex (b.data.toList.drop f) 0 = r
  rw [show a.size + f + r.2 = a.size + (f + r.2) by omega, sh_semi]
  split
  · rfl
  · congr 1
    omega
theorem sh_numV (k : Nat) : numV (a ++ b) (a.size + k) = numV b k := by
  unfold numV
  rw [Nat.add_assoc, sh_hex, Nat.add_assoc]
  split
  · exact sh_numAt a b _ _ _
  · exact sh_numAt a b _ _ _
theorem sh_lon (k : Nat) : ∀ n, lon (a ++ b) (a.size + k) n = lon b k n
  | 0 => by rw [lon_zero, lon_zero]
  | n + 1 => by
    have e : (a ++ b).extract (a.size + k) (a.size + k + (n + 1)) = b.extract k (k + (n + 1)) := by
      rw [Nat.add_assoc]; exact sh_extract a b _ _
    cases h : rfind (b.extract k (k + (n + 1))) with
    | some v => rw [lon_hit h, lon_hit (by rw [e]; exact h)]
    | none => rw [lon_miss h, lon_miss (by rw [e]; exact h)]; exact sh_lon k n
theorem sh_longest (k : Nat) (hk : k ≤ b.size) : longest (a ++ b) ((a.size + k : Nat) : Int) = longest b k := by
  rw [longest_in _ _ (by rw [sh_size]; omega), longest_in _ _ hk, sh_lon, sh_size]
  congr 1
  omega
theorem sh_refV (k : Nat) (attr : Bool) (hk : k < b.size) : refV (a ++ b) (a.size + k) attr = refV b k attr := by
  have hl := sh_longest a b (k + 1) (by omega)
  have e1 : (((a.size + k : Nat) : Int) + 1) = ((a.size + (k + 1) : Nat) : Int) := by omega
  have e2 : (((k + 1 : Nat)) : Int) = (k : Int) + 1 := by omega
  unfold refV
  rw [e1, hl, e2]
  generalize longest b ((k : Int) + 1) = r
  rw [show a.size + k + 1 = a.size + (k + 1) by omega, sh_at, sh_numV, show a.size + k + r.1 = a.size + (k + r.1) by omega, sh_at, show a.size + (k + 1) + r.1 = a.size + (k + 1 + r.1) by omega, sh_at]
theorem sh_refI (k : Nat) (attr : Bool) (hk : k < b.size) : refI (a ++ b) ((a.size + k : Nat) : Int) attr = refI b k attr := by
  have h1 : a.size + k < (a ++ b).size := by rw [sh_size]; omega
  have hg := sh_get a b k hk h1
  by_cases h : b[k].toNat = 38
  · rw [refI_yes hk h, refI_yes h1 (by rw [hg]; exact h), sh_refV a b k attr hk]
  · rw [refI_no hk h, refI_no h1 (by rw [hg]; exact h)]
theorem sh_decK (attr : Bool) : ∀ (n k : Nat), b.size - k ≤ n → decK (a ++ b) attr (a.size + k) = decK b attr k
  | 0, k, h => by rw [decK_end (by rw [sh_size]; omega), decK_end (by omega)]
  | n + 1, k, h => by
    by_cases hk : k < b.size
    · have h1 : a.size + k < (a ++ b).size := by rw [sh_size]; omega
      have hg := sh_get a b k hk h1
      by_cases h38 : b[k].toNat = 38
      · have hn := (refI_bd b k attr hk).2.2.1 h38
        rw [decK_ref hk h38, decK_ref h1 (by rw [hg]; exact h38), sh_refI a b k attr hk, Nat.add_assoc, sh_decK attr n _ (by omega)]
      · rw [decK_one hk h38, decK_one h1 (by rw [hg]; exact h38), hg, Nat.add_assoc, sh_decK attr n _ (by omega)]
    · rw [decK_end (by rw [sh_size]; omega), decK_end (by omega)]
/-- Ahead of any text, one without an ampersand. -/
theorem plain_decK (attr : Bool) (ha : ∀ i (hi : i < a.size), ¬ a[i].toNat = 38) : ∀ (n k : Nat), k + n = a.size → decK (a ++ b) attr k = a.data.toList.drop k ++ decK b attr 0
  | 0, k, h => by
    have := sh_decK a b attr b.size 0 (by omega)
    rw [Nat.add_zero, show a.size = k by omega] at this
    rw [this, List.drop_eq_nil_of_le (show a.data.toList.length ≤ k by show a.size ≤ k; omega)]; rfl
  | n + 1, k, h => by
    have hk : k < a.size := by omega
    have h1 : k < (a ++ b).size := by rw [sh_size]; omega
    have hg : (a ++ b)[k] = a[k] := by
      have h2 := byte_at h1
      rw [app_list, List.getElem?_append_left (show k < a.data.toList.length from hk), byte_at hk] at h2
      injection h2 with h2; exact h2.symm
    have e : a.data.toList.drop k = a[k] :: a.data.toList.drop (k + 1) := List.drop_eq_getElem_cons (show k < a.data.toList.length from hk)
    rw [decK_one h1 (by rw [hg]; exact ha k hk), hg, plain_decK attr ha n (k + 1) (by omega), e]
    rfl
theorem plain_dec (attr : Bool) (ha : ∀ i (hi : i < a.size), ¬ a[i].toNat = 38) : decB (a ++ b) attr = a ++ decB b attr := by
  apply bytes_eq.1
  have h := plain_decK a b attr ha a.size 0 (by omega)
  unfold decB
  rw [app_list, h]
  rfl
theorem decB_nil (attr : Bool) : decB ⟨#[]⟩ attr = ⟨#[]⟩ := by
  unfold decB
  rw [decK_end (s := ⟨#[]⟩) (k := 0) (by decide)]
end
theorem plain_own (a : ByteArray) (attr : Bool) (ha : ∀ i (hi : i < a.size), ¬ a[i].toNat = 38) : decB a attr = a := by
  have h := plain_dec a ⟨#[]⟩ attr ha
  rw [decB_nil] at h
  have e : a ++ (⟨#[]⟩ : ByteArray) = a := by apply bytes_eq.1; rw [app_list]; simp
  rwa [e] at h
/-! ### Escaping -/
theorem hit_head (attr : Bool) (c : UInt8) (l : List UInt8) (h : c ≠ 194) : hitOf (kOf attr) (c :: l) = hitOf (kOf attr) [c] := by
  have h' : ((194 : UInt8) == c) = false := by rw [beq_eq_false_iff_ne]; exact fun e => h e.symm
  cases attr <;> simp [hitOf, kOf, k4, k5, List.find?_cons, List.isPrefixOf, h']
theorem hit_le {K : Prs} {l : List UInt8} {p : ByteArray × ByteArray} (h : hitOf K l = some p) : p.1.data.toList <+: l := by
  have := List.find?_some h
  rwa [List.isPrefixOf_iff_prefix] at this
theorem rep_append {attr : Bool} {a oa : List UInt8} (h : Rep (kOf attr) a oa) (hn : ∀ c ∈ a, c ≠ 194) {b ob : List UInt8} (hb : Rep (kOf attr) b ob) : Rep (kOf attr) (a ++ b) (oa ++ ob) := by
  induction h with
  | nil => exact hb
  | skip c l o h r ih =>
    refine Rep.skip _ _ _ ?_ (ih fun d hd => hn d (List.mem_cons_of_mem _ hd))
    have hc := hn c List.mem_cons_self
    rw [hit_head _ _ _ hc, ← hit_head _ c l hc]; exact h
  | hit l o p hl h r ih =>
    cases l with
    | nil => exact absurd rfl hl
    | cons c l =>
      have hc := hn c List.mem_cons_self
      have h2 : hitOf (kOf attr) (c :: (l ++ b)) = some p := by rw [hit_head _ _ _ hc, ← hit_head _ c l hc]; exact h
      have hle : p.1.size ≤ (c :: l).length := (hit_le h).length_le
      rw [List.append_assoc]
      refine Rep.hit _ _ p (by simp) h2 ?_
      have e : (c :: l ++ b).drop p.1.size = (c :: l).drop p.1.size ++ b := List.drop_append_of_le_length hle
      rw [e]
      exact ih fun d hd => hn d (List.mem_of_mem_drop hd)
theorem esc_append (attr : Bool) (a b : ByteArray) (hn : ∀ i (hi : i < a.size), ¬ a[i].toNat = 194) : escB attr (a ++ b) = escB attr a ++ escB attr b := by
  have hn' : ∀ c ∈ a.data.toList, c ≠ 194 := by
    intro c hc e
    obtain ⟨i, hi, h⟩ := List.mem_iff_getElem.1 hc
    refine hn i hi ?_
    have : a[i] = c := h
    rw [this, e]; rfl
  have h := rep_append (esc_rep attr a.data.toList) hn' (esc_rep attr b.data.toList)
  rw [← app_list] at h
  apply bytes_eq.1
  rw [← escB_of h, app_list]
  unfold escB
  rfl
/-! ### How long -/
theorem decK_len (s : ByteArray) (attr : Bool) : ∀ (n k : Nat), s.size - k ≤ n → (decK s attr k).length ≤ 4 * (s.size - k)
  | 0, k, h => by rw [decK_end (by omega)]; exact Nat.zero_le _
  | n + 1, k, h => by
    by_cases hk : k < s.size
    · obtain ⟨b1, b2, b3, _⟩ := refI_bd s k attr hk
      by_cases h38 : s[k].toNat = 38
      · have hn := b3 h38
        have ih := decK_len s attr n (k + (refI s k attr).2) (by omega)
        rw [decK_ref hk h38, List.length_append]
        have : (refI s k attr).1.data.toList.length = (refI s k attr).1.size := rfl
        omega
      · have ih := decK_len s attr n (k + 1) (by omega)
        rw [decK_one hk h38, List.length_cons]
        omega
    · rw [decK_end (by omega)]; exact Nat.zero_le _
theorem decB_size (s : ByteArray) (attr : Bool) : (decB s attr).size ≤ 4 * s.size := by
  have := decK_len s attr s.size 0 (by omega)
  unfold decB
  show (decK s attr 0).toArray.size ≤ _
  rw [List.size_toArray]
  omega
theorem kOf_val (attr : Bool) : ∀ p ∈ kOf attr, p.2.size ≤ 6 := by cases attr <;> decide
theorem rep_len {attr : Bool} {l o : List UInt8} (h : Rep (kOf attr) l o) : o.length ≤ 6 * l.length := by
  induction h with
  | nil => exact Nat.le_refl _
  | skip c l o h r ih => simp only [List.length_cons]; omega
  | hit l o p hl h r ih =>
    have h1 := kOf_pos attr p (hit_mem h)
    have h2 := kOf_val attr p (hit_mem h)
    have h3 : p.2.data.toList.length = p.2.size := rfl
    have h4 : p.1.size ≤ l.length := (hit_le h).length_le
    rw [List.length_drop] at ih
    rw [List.length_append]
    omega
theorem escB_size (attr : Bool) (s : ByteArray) : (escB attr s).size ≤ 6 * s.size := by
  have := rep_len (esc_rep attr s.data.toList)
  unfold escB
  show (escL attr s.data.toList).toArray.size ≤ _
  rw [List.size_toArray]
  exact this
end Go.Proofs.Ytfjlpekoklmedaa.Ch
