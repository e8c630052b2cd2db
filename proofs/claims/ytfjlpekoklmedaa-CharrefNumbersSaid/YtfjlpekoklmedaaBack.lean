/- What is escaped is decoded to itself: plain laws. -/
import Derived.Test.YtfjlpekoklmedaaSh
namespace Go.Proofs.Ytfjlpekoklmedaa.Ch
open Go Go.RowKit Go.Proofs.Ytfjlpekoklmedaa.Sr Go.Proofs.Ytfjlpekoklmedaa.Ct Go.Proofs.Ytfjlpekoklmedaa.Gr
set_option linter.unusedVariables false

/-! ### A name with its semicolon is the longest one, whatever stands about it -/
theorem semi_last' : ∀ p ∈ rpairs, (59 : UInt8) ∉ p.1.data.toList.dropLast := by decide +kernel
theorem rfind_semi' {x : ByteArray} {N R : List UInt8} {r : UInt8} (h : x.data.toList = N ++ 59 :: r :: R) : rfind x = none := by
  cases e : rfind x with
  | none => rfl
  | some v =>
    rw [rfind_is] at e
    refine absurd ?_ (semi_last' _ (assoc_mem e))
    show (59 : UInt8) ∈ x.data.toList.dropLast
    rw [h, List.dropLast_append_of_ne_nil (by simp)]
    simp
theorem cut_is' (a n b : ByteArray) (m : Nat) : ((a ++ n ++ b).extract a.size (a.size + m)).data.toList = (n.data.toList ++ b.data.toList).take m := by
  rw [ByteArray.data_extract, Array.toList_extract, ByteArray.data_append, ByteArray.data_append, Array.toList_append, Array.toList_append, List.extract_eq_take_drop, List.append_assoc, Nat.add_sub_cancel_left]
  rw [List.drop_left' (show a.data.toList.length = a.size from rfl)]
theorem cut_own' (a n b : ByteArray) : (a ++ n ++ b).extract a.size (a.size + n.size) = n := by
  apply ByteArray.ext
  apply Array.ext'
  rw [cut_is']
  have e : n.size = n.data.toList.length := rfl
  rw [e, List.take_left']
  rfl
theorem lon_down' (a n b v : ByteArray) (N : List UInt8) (hn : n.data.toList = N ++ [59]) (hv : rfind n = some v) (d : Nat) (h : d ≤ b.size) :
    lon (a ++ n ++ b) a.size (n.size + d) = (n.size, v) := by
  induction d with
  | zero =>
    have e : n.size = n.data.toList.length := rfl
    obtain ⟨j, hj⟩ : ∃ j, n.size = j + 1 := ⟨n.size - 1, by rw [e, hn]; simp⟩
    have := cut_own' a n b
    rw [hj] at this
    rw [Nat.add_zero, hj]
    exact lon_hit (by rw [this, hv])
  | succ d ih =>
    have hx := cut_is' a n b (n.size + (d + 1))
    have e : n.size = n.data.toList.length := rfl
    have eb : b.size = b.data.toList.length := rfl
    cases hb : b.data.toList with
    | nil => rw [hb] at eb; replace eb : b.size = 0 := eb; omega
    | cons r R =>
      have hm : rfind ((a ++ n ++ b).extract a.size (a.size + (n.size + d + 1))) = none := by
        refine rfind_semi' (N := N) (r := r) (R := R.take d) ?_
        rw [show n.size + d + 1 = n.size + (d + 1) by omega, hx, e, hn, hb]
        rw [List.length_append, show N.length + [(59 : UInt8)].length + (d + 1) = (N ++ [59]).length + (d + 1) by rw [List.length_append], List.take_length_add_append, List.take_succ_cons, List.append_assoc]
        rfl
      rw [← Nat.add_assoc, lon_miss hm]
      exact ih (by omega)
theorem longest_semi (a n b v : ByteArray) (N : List UInt8) (hn : n.data.toList = N ++ [59]) (hs : n.size ≤ 8) (hv : rfind n = some v) : longest (a ++ n ++ b) (a.size : Nat) = (n.size, v) := by
  have ht : (a ++ n ++ b).size = a.size + n.size + b.size := by rw [ByteArray.size_append, ByteArray.size_append]
  rw [longest_in _ _ (by omega), show min 8 ((a ++ n ++ b).size - a.size) = n.size + (min 8 ((a ++ n ++ b).size - a.size) - n.size) by omega]
  exact lon_down' a n b _ _ hn hv _ (by omega)
/-! ### The references of the escape -/
/-- A reference by a name with its semicolon, and whatever stands behind it. -/
theorem ref_named (n b v : ByteArray) (N : List UInt8) (attr : Bool) (hn : n.data.toList = N ++ [59]) (hN : N ≠ []) (h35 : n.data.toList[0]? ≠ some 35) (hs : n.size ≤ 8) (hv : rfind n = some v) :
    refI ((⟨#[38]⟩ : ByteArray) ++ n ++ b) ((0 : Nat) : Int) attr = (v, n.size + 1) := by
  have hsz : ((⟨#[38]⟩ : ByteArray) ++ n ++ b).size = 1 + n.size + b.size := by rw [ByteArray.size_append, ByteArray.size_append]; rfl
  have h0 : 0 < ((⟨#[38]⟩ : ByteArray) ++ n ++ b).size := by omega
  have hl : ((⟨#[38]⟩ : ByteArray) ++ n ++ b).data.toList = 38 :: (n.data.toList ++ b.data.toList) := by rw [app_list, app_list]; rfl
  have hc : ((⟨#[38]⟩ : ByteArray) ++ n ++ b)[0].toNat = 38 := (byte_lit h0 (n := 38) (by decide)).1 (by rw [hl]; rfl)
  have hn1 : 0 < n.size := by
    have e : n.size = n.data.toList.length := rfl
    rw [e, hn]; simp
  have hL := longest_semi ⟨#[38]⟩ n b v N hn hs hv
  rw [refI_yes h0 hc]
  refine refV_hit ?_ hn1 hL ?_
  · unfold noNum
    rw [hl]
    show (n.data.toList ++ b.data.toList)[0]? ≠ some 35
    rw [List.getElem?_append_left (show 0 < n.data.toList.length from hn1)]
    exact h35
  · rintro ⟨_, h2, _⟩
    refine h2 ?_
    rw [hl, Nat.zero_add]
    obtain ⟨j, hj⟩ : ∃ j, n.size = j + 1 := ⟨n.size - 1, by omega⟩
    rw [hj, List.getElem?_cons_succ, List.getElem?_append_left (show j < n.data.toList.length by show j < n.size; omega), hn]
    have e : n.size = n.data.toList.length := rfl
    have hj2 : N.length = j := by rw [e, hn, List.length_append] at hj; simpa using hj
    rw [List.getElem?_append_right (by omega), hj2]
    simp
def nameOf (p : ByteArray × ByteArray) : ByteArray := p.2.extract 1 p.2.size
theorem k_names (attr : Bool) : ∀ p ∈ kOf attr, p.2 = ⟨#[38]⟩ ++ nameOf p ∧ (nameOf p).data.toList = (nameOf p).data.toList.dropLast ++ [59] ∧ (nameOf p).data.toList.dropLast ≠ [] ∧ (nameOf p).data.toList[0]? ≠ some 35 ∧ (nameOf p).size ≤ 8 ∧ rfind (nameOf p) = some p.1 := by
  cases attr <;> decide +kernel
theorem k_ref {attr : Bool} {p : ByteArray × ByteArray} (hp : p ∈ kOf attr) (b : ByteArray) (attr2 : Bool) : refI (p.2 ++ b) ((0 : Nat) : Int) attr2 = (p.1, p.2.size) := by
  obtain ⟨h1, h2, h3, h4, h5, h6⟩ := k_names attr p hp
  have e : p.2.size = (nameOf p).size + 1 := by
    have := congrArg ByteArray.size h1
    rw [ByteArray.size_append] at this
    rw [this]
    show 1 + (nameOf p).size = _
    omega
  rw [e]
  have := ref_named (nameOf p) b p.1 _ attr2 h2 h3 h4 h5 h6
  rwa [← h1] at this
theorem k_first (attr : Bool) : ∀ p ∈ kOf attr, p.2.data.toList[0]? = some 38 := by cases attr <;> decide
theorem mk_app (x y : List UInt8) : (⟨(x ++ y).toArray⟩ : ByteArray) = ⟨x.toArray⟩ ++ ⟨y.toArray⟩ := by
  apply bytes_eq.1
  rw [app_list]
theorem hit_amp (attr : Bool) (l : List UInt8) : (hitOf (kOf attr) (38 :: l)).isSome = true := by
  rw [hit_head attr 38 l (by decide)]
  cases attr <;> rfl
theorem back_dec {attr : Bool} {l o : List UInt8} (h : Rep (kOf attr) l o) (attr2 : Bool) : decK ⟨o.toArray⟩ attr2 0 = l := by
  induction h with
  | nil => exact decK_end (Nat.le_refl _)
  | skip c l o h r ih =>
    have e : (⟨(c :: o).toArray⟩ : ByteArray) = ⟨#[c]⟩ ++ ⟨o.toArray⟩ := mk_app [c] o
    have hc : c ≠ 38 := by
      rintro rfl
      have := hit_amp attr l
      rw [h] at this; cases this
    rw [e]
    have := plain_decK ⟨#[c]⟩ ⟨o.toArray⟩ attr2 (fun i hi e => by
      have : i = 0 := by have : i < 1 := hi; omega
      subst this
      exact hc ((byte_is (n := 38) (by decide)).1 e)) 1 0 rfl
    rw [this, ih]
    rfl
  | hit l o p hl h r ih =>
    have hp := hit_mem h
    have e : (⟨(p.2.data.toList ++ o).toArray⟩ : ByteArray) = p.2 ++ ⟨o.toArray⟩ := mk_app p.2.data.toList o
    have hv := kOf_pos attr p hp
    have h0 : 0 < (p.2 ++ (⟨o.toArray⟩ : ByteArray)).size := by
      have h1 := k_first attr p hp
      have : 0 < p.2.size := by
        rcases Nat.eq_zero_or_pos p.2.size with h | h
        · rw [List.getElem?_eq_none (show p.2.data.toList.length ≤ 0 from Nat.le_of_eq h)] at h1; cases h1
        · exact h
      rw [ByteArray.size_append]; omega
    have hc : (p.2 ++ (⟨o.toArray⟩ : ByteArray))[0].toNat = 38 := (byte_lit h0 (n := 38) (by decide)).1 (by
      have h1 := k_first attr p hp
      rw [app_list, List.getElem?_append_left]
      · exact h1
      · rcases Nat.eq_zero_or_pos p.2.data.toList.length with h | h
        · rw [List.getElem?_eq_none (Nat.le_of_eq h)] at h1; cases h1
        · exact h)
    rw [e, decK_ref h0 hc, k_ref hp]
    have hs := sh_decK p.2 ⟨o.toArray⟩ attr2 _ 0 (Nat.le_refl _)
    rw [Nat.add_zero] at hs
    show p.1.data.toList ++ decK (p.2 ++ ⟨o.toArray⟩) attr2 (0 + p.2.size) = l
    rw [Nat.zero_add, hs, ih]
    obtain ⟨t, ht⟩ := hit_le h
    rw [← ht]
    have : p.1.size = p.1.data.toList.length := rfl
    rw [this, List.drop_left]
theorem back_all (attr attr2 : Bool) (s : ByteArray) : decB (escB attr s) attr2 = s := by
  have h := back_dec (esc_rep attr s.data.toList) attr2
  have e : escB attr s = ⟨(escL attr s.data.toList).toArray⟩ := by unfold escB; rfl
  unfold decB
  rw [e, h]
/-- No sign of a tag is left. -/
theorem esc_signs {attr : Bool} {l o : List UInt8} (h : Rep (kOf attr) l o) : ∀ c ∈ o, c ≠ 60 ∧ c ≠ 62 ∧ (attr = true → c ≠ 34) := by
  induction h with
  | nil => intro c hc; cases hc
  | skip c l o h r ih =>
    intro d hd
    rcases List.mem_cons.1 hd with rfl | hd
    · refine ⟨?_, ?_, ?_⟩
      · rintro rfl
        rw [hit_head attr 60 l (by decide)] at h
        cases attr <;> cases h
      · rintro rfl
        rw [hit_head attr 62 l (by decide)] at h
        cases attr <;> cases h
      · rintro rfl rfl
        rw [hit_head true 34 l (by decide)] at h
        cases h
    · exact ih d hd
  | hit l o p hl h r ih =>
    intro d hd
    rcases List.mem_append.1 hd with hd | hd
    · have key : ∀ q ∈ kOf attr, ∀ c ∈ q.2.data.toList, c ≠ 60 ∧ c ≠ 62 ∧ (attr = true → c ≠ 34) := by cases attr <;> decide
      exact key p (hit_mem h) d hd
    · exact ih d hd
theorem escB_signs (attr : Bool) (s : ByteArray) (i : Nat) (hi : i < (escB attr s).size) : ¬ (escB attr s)[i].toNat = 60 ∧ ¬ (escB attr s)[i].toNat = 62 ∧ (attr = true → ¬ (escB attr s)[i].toNat = 34) := by
  have h := esc_signs (esc_rep attr s.data.toList) (escB attr s)[i] (by
    have e : (escB attr s).data.toList = escL attr s.data.toList := by unfold escB; rfl
    rw [← e]
    exact List.mem_of_getElem? (byte_at hi))
  exact ⟨fun e => h.1 ((byte_is (n := 60) (by decide)).1 e), fun e => h.2.1 ((byte_is (n := 62) (by decide)).1 e), fun ha e => h.2.2 ha ((byte_is (n := 34) (by decide)).1 e)⟩
end Go.Proofs.Ytfjlpekoklmedaa.Ch
