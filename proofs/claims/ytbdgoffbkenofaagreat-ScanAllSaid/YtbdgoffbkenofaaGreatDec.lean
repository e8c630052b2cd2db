/- A text without references: the plain words. -/
import Derived.Test.YtbdgoffbkenofaaGreatRef
namespace Go.Proofs.YtbdgoffbkenofaaGreat.Ch
open Go Go.RowKit Go.Proofs.YtbdgoffbkenofaaGreat.Sr Go.Proofs.YtbdgoffbkenofaaGreat.Ct
set_option linter.unusedVariables false

theorem enc_size (v : Int) : (Utf8.encode v).size ≤ 4 := by
  unfold Utf8.encode
  dsimp only
  repeat' split
  all_goals simp [ByteArray.size]
theorem rfind_size {name v : ByteArray} (h : rfind name = some v) : v.size ≤ 4 := by
  rw [rfind_is] at h
  have hm := assoc_mem h
  have key : ∀ p ∈ rpairs, p.2.size ≤ 4 := by decide +kernel
  exact key _ hm
theorem lon_size (s : ByteArray) (k : Nat) : ∀ n, (lon s k n).2.size ≤ 4
  | 0 => by rw [lon_zero]; decide
  | n + 1 => by
    cases h : rfind (s.extract k (k + (n + 1))) with
    | some v => rw [lon_hit h]; exact rfind_size h
    | none => rw [lon_miss h]; exact lon_size s k n
theorem longest_size (s : ByteArray) (k : Nat) (h : k ≤ s.size) : (longest s k).2.size ≤ 4 := by
  rw [longest_in s k h]; exact lon_size _ _ _
theorem semi_le {s : ByteArray} {e : Nat} (h : e ≤ s.size) : e + semiAt s e ≤ s.size ∧ semiAt s e ≤ 1 := by
  rcases Nat.lt_or_ge e s.size with h1 | h1
  · by_cases h2 : s[e].toNat = 59
    · rw [semi_yes h1 h2]; omega
    · rw [semi_no h1 h2]; omega
  · rw [semi_end h1]; omega
theorem numAt_bd (s : ByteArray) (f : Nat) (hex : Bool) (k : Nat) (hf : f ≤ s.size) (hk : k + 2 ≤ f) : 1 ≤ (numAt s f hex k).2 ∧ k + (numAt s f hex k).2 ≤ s.size ∧ (numAt s f hex k).1.size ≤ 4 := by
  obtain ⟨⟨v, n⟩, hR⟩ : ∃ r, numL hex (s.data.toList.drop f) 0 = r := ⟨_, rfl⟩
  have hn := numL_len hex (s.data.toList.drop f) 0
  rw [hR, List.length_drop] at hn
  have hs : s.data.toList.length = s.size := rfl
  rw [hs] at hn
  replace hn : n ≤ s.size - f := hn
  by_cases h0 : n = 0
  · rw [numAt_no ((congrArg Prod.snd hR).trans h0)]
    exact ⟨Nat.le_refl _, by show k + 1 ≤ s.size; omega, by decide⟩
  · have hsm := semi_le (s := s) (e := f + n) (by omega)
    rw [numAt_yes (by omega) hR rfl]
    exact ⟨by show 1 ≤ f + n + semiAt s (f + n) - k; omega, by show k + (f + n + semiAt s (f + n) - k) ≤ s.size; omega, enc_size _⟩
theorem numV_bd (s : ByteArray) (k : Nat) (hk : k + 2 ≤ s.size) : 1 ≤ (numV s k).2 ∧ k + (numV s k).2 ≤ s.size ∧ (numV s k).1.size ≤ 4 := by
  cases h : hexAt s (k + 2) with
  | false => rw [numV_dec h]; exact numAt_bd s _ _ k hk (Nat.le_refl _)
  | true =>
    rw [numV_hex h]
    refine numAt_bd s _ _ k ?_ (by omega)
    rcases Nat.lt_or_ge (k + 2) s.size with h1 | h1
    · omega
    · rw [hexAt_end h1] at h; cases h
theorem refV_bd (s : ByteArray) (k : Nat) (attr : Bool) (hk : k < s.size) : 1 ≤ (refV s k attr).2 ∧ k + (refV s k attr).2 ≤ s.size ∧ (refV s k attr).1.size ≤ 4 := by
  unfold refV
  split
  · rename_i h
    refine numV_bd s k ?_
    rcases Nat.lt_or_ge (k + 1) s.size with h1 | h1
    · omega
    · rw [List.getElem?_eq_none (show s.data.toList.length ≤ k + 1 from h1)] at h; cases h
  · have h1 := longest_le s (k + 1) (by omega)
    have h2 := longest_size s (k + 1) (by omega)
    rw [show (((k + 1 : Nat)) : Int) = (k : Int) + 1 by omega] at h1 h2
    split
    · exact ⟨Nat.le_refl _, by show k + 1 ≤ s.size; omega, by decide⟩
    · split
      · exact ⟨Nat.le_refl _, by show k + 1 ≤ s.size; omega, by decide⟩
      · exact ⟨by show 1 ≤ _ + 1; omega, by show k + (_ + 1) ≤ s.size; omega, h2⟩
theorem refI_bd (s : ByteArray) (k : Nat) (attr : Bool) (hk : k < s.size) : k + (refI s k attr).2 ≤ s.size ∧ (refI s k attr).1.size ≤ 4 ∧ (s[k].toNat = 38 → 1 ≤ (refI s k attr).2) ∧ (¬ s[k].toNat = 38 → refI s k attr = (⟨#[]⟩, 0)) := by
  by_cases h : s[k].toNat = 38
  · rw [refI_yes hk h]
    have := refV_bd s k attr hk
    exact ⟨this.2.1, this.2.2, fun _ => this.1, fun h' => absurd h h'⟩
  · rw [refI_no hk h]
    exact ⟨by show k + 0 ≤ s.size; omega, by decide, fun h' => absurd h' h, fun _ => rfl⟩
/-- A text from a place on, without references. -/
def decF (s : ByteArray) (attr : Bool) : Nat → Nat → List UInt8
  | 0, _ => []
  | f + 1, k => if h : k < s.size then (if s[k].toNat = 38 then (refI s k attr).1.data.toList ++ decF s attr f (k + (refI s k attr).2) else s[k] :: decF s attr f (k + 1)) else []
theorem decF_enough (s : ByteArray) (attr : Bool) : ∀ (f g k : Nat), s.size - k ≤ f → s.size - k ≤ g → decF s attr f k = decF s attr g k
  | 0, 0, k, _, _ => rfl
  | 0, g + 1, k, h, _ => by unfold decF; rw [dif_neg (by omega)]
  | f + 1, 0, k, _, h => by unfold decF; rw [dif_neg (by omega)]
  | f + 1, g + 1, k, h1, h2 => by
    unfold decF
    by_cases hk : k < s.size
    · rw [dif_pos hk, dif_pos hk]
      by_cases h : s[k].toNat = 38
      · rw [if_pos h, if_pos h]
        have := (refI_bd s k attr hk).2.2.1 h
        rw [decF_enough s attr f g _ (by omega) (by omega)]
      · rw [if_neg h, if_neg h, decF_enough s attr f g _ (by omega) (by omega)]
    · rw [dif_neg hk, dif_neg hk]
def decK (s : ByteArray) (attr : Bool) (k : Nat) : List UInt8 := decF s attr (s.size - k) k
theorem decK_end {s : ByteArray} {attr : Bool} {k : Nat} (h : s.size ≤ k) : decK s attr k = [] := by
  unfold decK; rw [show s.size - k = 0 by omega]; rfl
theorem decK_ref {s : ByteArray} {attr : Bool} {k : Nat} (hk : k < s.size) (h : s[k].toNat = 38) : decK s attr k = (refI s k attr).1.data.toList ++ decK s attr (k + (refI s k attr).2) := by
  have h1 := (refI_bd s k attr hk).2.2.1 h
  conv => lhs; unfold decK
  rw [show s.size - k = (s.size - k - 1) + 1 by omega]
  unfold decF
  rw [dif_pos hk, if_pos h]
  unfold decK
  rw [decF_enough s attr (s.size - k - 1) (s.size - (k + (refI s k attr).2)) _ (by omega) (by omega)]
theorem decK_one {s : ByteArray} {attr : Bool} {k : Nat} (hk : k < s.size) (h : ¬ s[k].toNat = 38) : decK s attr k = s[k] :: decK s attr (k + 1) := by
  conv => lhs; unfold decK
  rw [show s.size - k = (s.size - k - 1) + 1 by omega]
  unfold decF
  rw [dif_pos hk, if_neg h]
  unfold decK
  rw [decF_enough s attr (s.size - k - 1) (s.size - (k + 1)) _ (by omega) (by omega)]
def decB (s : ByteArray) (attr : Bool) : ByteArray := ⟨(decK s attr 0).toArray⟩
theorem cut_one (s : ByteArray) (k : Nat) (hk : k < s.size) : (s.extract k (k + 1)).data.toList = [s[k]] := by
  have hk' : k < s.data.toList.length := hk
  have h1 : s.data.toList.drop k = s[k] :: s.data.toList.drop (k + 1) := List.drop_eq_getElem_cons hk'
  rw [ByteArray.data_extract, Array.toList_extract, List.extract_eq_take_drop, h1, show k + 1 - k = 1 by omega]
  rfl
attribute [irreducible] decK decB
theorem ref_as (F : FuncId) (hF : ∀ (s : ByteArray) (hs : s.size ≤ 1000000000) (a : Int) (h0 : -9223372036854775808 ≤ a) (h1 : a ≤ 9223372036854775807) (attr : Bool) (w : World), Calls Tryz.prog F #[.string s, .int .i64 a, .bool attr] w (RefEnd s a attr w))
    (s : ByteArray) (hs : s.size ≤ 1000000000) (k : Nat) (hk : k ≤ s.size) (attr : Bool) (t : ByteArray) (n : Nat) (h : refI s k attr = (t, n)) (w : World) :
    Calls Tryz.prog F #[.string s, .int .i64 k, .bool attr] w fun e w' => e = .returned (.tuple #[.string t, .int .i64 n]) ∧ Below w.heap.size w w' := by
  have := hF s hs k (by omega) (by omega) attr w
  unfold RefEnd at this
  rw [h] at this
  exact this
end Go.Proofs.YtbdgoffbkenofaaGreat.Ch
