/- Numbers by digits: plain laws. -/
import Derived.Test.YtfjlpekoklmedaaBack
namespace Go.Proofs.Ytfjlpekoklmedaa.Ch
open Go Go.RowKit Go.Proofs.Ytfjlpekoklmedaa.Sr Go.Proofs.Ytfjlpekoklmedaa.Ct Go.Proofs.Ytfjlpekoklmedaa.Gr
set_option linter.unusedVariables false

/-- A number's digits, at most n. -/
def dgF (b : Nat) (ch : Nat → UInt8) : Nat → Nat → List UInt8
  | 0, _ => []
  | n + 1, v => if v = 0 then [] else dgF b ch n (v / b) ++ [ch (v % b)]
theorem dgF_zero (b : Nat) (ch : Nat → UInt8) (n : Nat) : dgF b ch n 0 = [] := by cases n <;> rfl
theorem dgF_succ (b : Nat) (ch : Nat → UInt8) (n v : Nat) (h : 0 < v) : dgF b ch (n + 1) v = dgF b ch n (v / b) ++ [ch (v % b)] := by
  conv => lhs; unfold dgF
  rw [if_neg (by omega)]
theorem dgF_len (b : Nat) (ch : Nat → UInt8) : ∀ n v, (dgF b ch n v).length ≤ n
  | 0, _ => Nat.le_refl _
  | n + 1, v => by
    unfold dgF
    split
    · exact Nat.zero_le _
    · rw [List.length_append]
      have := dgF_len b ch n (v / b)
      simp; omega
theorem dgF_pos (b : Nat) (ch : Nat → UInt8) (n v : Nat) (h : 0 < v) : dgF b ch (n + 1) v ≠ [] := by rw [dgF_succ _ _ _ _ h]; simp
/-- The same number of digits, whatever they look like. -/
theorem dgF_same (b : Nat) (ch ch' : Nat → UInt8) : ∀ n v, (dgF b ch n v).length = (dgF b ch' n v).length
  | 0, _ => rfl
  | n + 1, v => by
    unfold dgF
    split
    · rfl
    · rw [List.length_append, List.length_append, dgF_same b ch ch' n (v / b)]; rfl
def bN (hex : Bool) : Nat := cond hex 16 10
theorem numL_cons (hex : Bool) (c : UInt8) (l : List UInt8) (v : Int) {d : Nat} (hd : digI c.toNat hex = (d : Int)) :
    numL hex (c :: l) v = ((numL hex l (min (v * baseI hex + d) 1114112)).1, (numL hex l (min (v * baseI hex + d) 1114112)).2 + 1) := by
  conv => lhs; unfold numL
  rw [if_neg (by omega), hd]
theorem numL_dgs (hex : Bool) (ch : Nat → UInt8) (hch : ∀ i, i < bN hex → digI (ch i).toNat hex = (i : Int)) : ∀ (n v : Nat) (l : List UInt8), v < bN hex ^ n →
    numL hex (dgF (bN hex) ch n v ++ l) 0 = ((numL hex l (min (v : Int) 1114112)).1, (numL hex l (min (v : Int) 1114112)).2 + (dgF (bN hex) ch n v).length)
  | 0, v, l, h => by
    obtain rfl : v = 0 := by simpa using h
    rfl
  | n + 1, v, l, h => by
    by_cases h0 : v = 0
    · subst h0
      rw [dgF_zero]
      rfl
    · have hb : 0 < bN hex := by cases hex <;> decide
      have hlt : v / bN hex < bN hex ^ n := Nat.div_lt_of_lt_mul (by rw [← Nat.pow_succ']; exact h)
      have hm := Nat.mod_lt v hb
      have ih := numL_dgs hex ch hch n (v / bN hex) (ch (v % bN hex) :: l) hlt
      rw [dgF_succ _ _ _ _ (by omega), List.append_assoc]
      show numL hex (_ ++ (ch (v % bN hex) :: l)) 0 = _
      rw [ih, numL_cons hex _ _ _ (hch _ hm)]
      have e : min (min ((v / bN hex : Nat) : Int) 1114112 * baseI hex + ((v % bN hex : Nat) : Int)) 1114112 = min (v : Int) 1114112 := by
        cases hex
        · show min (min ((v / 10 : Nat) : Int) 1114112 * 10 + ((v % 10 : Nat) : Int)) 1114112 = _
          omega
        · show min (min ((v / 16 : Nat) : Int) 1114112 * 16 + ((v % 16 : Nat) : Int)) 1114112 = _
          omega
      rw [e, List.length_append]
      simp only [List.length_cons, List.length_nil]
      congr 1
      omega
theorem numL_zeros (hex : Bool) (l : List UInt8) : ∀ j : Nat, numL hex (List.replicate j 48 ++ l) 0 = ((numL hex l 0).1, (numL hex l 0).2 + j)
  | 0 => rfl
  | j + 1 => by
    have ih := numL_zeros hex l j
    rw [List.replicate_succ, List.cons_append, numL_cons hex 48 _ 0 (d := 0) (by cases hex <;> decide +kernel)]
    have e : min ((0 : Int) * baseI hex + ((0 : Nat) : Int)) 1114112 = 0 := by cases hex <;> decide
    rw [e, ih]
    simp only [Nat.add_assoc]
def dch : Nat → UInt8 := fun i => UInt8.ofNat (48 + i)
def hch : Nat → UInt8 := fun i => if i < 10 then UInt8.ofNat (48 + i) else UInt8.ofNat (87 + i)
def uch : Nat → UInt8 := fun i => if i < 10 then UInt8.ofNat (48 + i) else UInt8.ofNat (55 + i)
theorem dch_is : ∀ i, i < bN false → digI (dch i).toNat false = (i : Int) := by
  intro i hi
  have : ∀ k : Fin 10, digI (dch k.val).toNat false = (k.val : Int) := by decide +kernel
  exact this ⟨i, hi⟩
theorem hch_is : ∀ i, i < bN true → digI (hch i).toNat true = (i : Int) := by
  intro i hi
  have : ∀ k : Fin 16, digI (hch k.val).toNat true = (k.val : Int) := by decide +kernel
  exact this ⟨i, hi⟩
theorem uch_is : ∀ i, i < bN true → digI (uch i).toNat true = (i : Int) := by
  intro i hi
  have : ∀ k : Fin 16, digI (uch k.val).toNat true = (k.val : Int) := by decide +kernel
  exact this ⟨i, hi⟩
theorem numL_semi (hex : Bool) (l : List UInt8) (v : Int) : numL hex (59 :: l) v = (v, 0) := by
  unfold numL
  rw [if_pos (by cases hex <;> decide +kernel)]
theorem numL_nil (hex : Bool) (v : Int) : numL hex [] v = (v, 0) := by unfold numL; rfl
/-- A number that stands at the head of a text, digits ds of value v behind j zeros, with its semicolon. -/
theorem num_at0 {s : ByteArray} {pre ds r : List UInt8} {hex : Bool} {f : Nat} {v : Int} {n : Nat} (hs : s.data.toList = 38 :: 35 :: (pre ++ (ds ++ r))) (hf : f = 2 + pre.length)
    (hx : numV s 0 = numAt s f hex 0) (hv : numL hex (ds ++ r) 0 = (v, n)) (hn : 0 < n) (hnl : n = ds.length) (t : Nat) (ht : (if r[0]? = some 59 then 1 else 0) = t) (attr : Bool) :
    refI s ((0 : Nat) : Int) attr = (Utf8.encode (code v), f + n + t) := by
  have hsz : 1 < s.size := by
    show 1 < s.data.toList.length
    rw [hs]; simp
  have h0 : s[0].toNat = 38 := (byte_lit (by omega) (n := 38) (by decide)).1 (by rw [hs]; rfl)
  have h1 : s[0 + 1].toNat = 35 := (byte_lit hsz (n := 35) (by decide)).1 (by rw [hs]; rfl)
  have hd : s.data.toList.drop f = ds ++ r := by
    rw [hs, hf, show 2 + pre.length = pre.length + 1 + 1 by omega, List.drop_succ_cons, List.drop_succ_cons, List.drop_left]
  have hsm : semiAt s (f + n) = t := by
    have e : s.data.toList[f + n]? = r[0]? := by
      have : (s.data.toList.drop f)[n]? = s.data.toList[f + n]? := by rw [List.getElem?_drop]
      rw [← this, hd, List.getElem?_append_right (by omega), hnl, Nat.sub_self]
    unfold semiAt
    rw [e, ht]
  rw [refI_yes (k := 0) (by omega) h0, refV_num (k := 0) hsz h1, hx, numAt_yes hn (by rw [hd]; exact hv) hsm, Nat.sub_zero]
/-- Behind a reference at the head the rest is decoded. -/
theorem dec_then {x b t : ByteArray} {attr : Bool} (h0 : x.data.toList[0]? = some 38) (hr : refI (x ++ b) ((0 : Nat) : Int) attr = (t, x.size)) : decB (x ++ b) attr = t ++ decB b attr := by
  have hx : 0 < x.size := by
    rcases Nat.eq_zero_or_pos x.size with h | h
    · rw [List.getElem?_eq_none (show x.data.toList.length ≤ 0 from Nat.le_of_eq h)] at h0; cases h0
    · exact h
  have hl : 0 < (x ++ b).size := by rw [ByteArray.size_append]; omega
  have hc : (x ++ b)[0].toNat = 38 := (byte_lit hl (n := 38) (by decide)).1 (by rw [app_list, List.getElem?_append_left (show 0 < x.data.toList.length from hx)]; exact h0)
  have hs := sh_decK x b attr _ 0 (Nat.le_refl _)
  rw [Nat.add_zero] at hs
  have e := decK_ref (attr := attr) hl hc
  rw [hr] at e
  rw [show (0 + (t, x.size).2) = x.size by show 0 + x.size = x.size; omega, hs] at e
  apply bytes_eq.1
  rw [app_list]
  unfold decB
  exact e
theorem dgF_mem (b : Nat) (hb : 0 < b) (ch : Nat → UInt8) : ∀ n v c, c ∈ dgF b ch n v → ∃ i, i < b ∧ c = ch i
  | 0, _, _, h => by cases h
  | n + 1, v, c, h => by
    unfold dgF at h
    split at h
    · cases h
    · rcases List.mem_append.1 h with h | h
      · exact dgF_mem b hb ch n _ c h
      · exact ⟨v % b, Nat.mod_lt _ hb, by simpa using h⟩
theorem dch_no : ∀ i, i < 10 → dch i ≠ 120 ∧ dch i ≠ 88 := by
  intro i hi
  have : ∀ k : Fin 10, dch k.val ≠ 120 ∧ dch k.val ≠ 88 := by decide
  exact this ⟨i, hi⟩
theorem hexAt_not {s : ByteArray} {f : Nat} {c : UInt8} (h : s.data.toList[f]? = some c) (h1 : c ≠ 120) (h2 : c ≠ 88) : hexAt s f = false := by
  unfold hexAt
  rw [h, Bool.or_eq_false_iff, decide_eq_false_iff_not, decide_eq_false_iff_not]
  exact ⟨fun e => h1 (Option.some.inj e), fun e => h2 (Option.some.inj e)⟩
/-- A decimal number with its semicolon between two texts without an ampersand. -/
theorem plain_num (a b d : ByteArray) (k : Nat) (hk : 256 ≤ k) (hk2 : k < 55296) (hd : d.data.toList = dgF 10 dch 7 k) (ha : ∀ j (hj : j < a.size), ¬ a[j].toNat = 38) (hb : ∀ j (hj : j < b.size), ¬ b[j].toNat = 38) :
    decB (a ++ (⟨#[38, 35]⟩ : ByteArray) ++ d ++ (⟨#[59]⟩ : ByteArray) ++ b) false = a ++ Utf8.encode k ++ b := by
  have e1 : a ++ (⟨#[38, 35]⟩ : ByteArray) ++ d ++ (⟨#[59]⟩ : ByteArray) ++ b = a ++ (((⟨#[38, 35]⟩ : ByteArray) ++ d ++ (⟨#[59]⟩ : ByteArray)) ++ b) := by
    apply bytes_eq.1
    simp only [app_list, List.append_assoc]
  have hs : (((⟨#[38, 35]⟩ : ByteArray) ++ d ++ (⟨#[59]⟩ : ByteArray)) ++ b).data.toList = 38 :: 35 :: ([] ++ (dgF 10 dch 7 k ++ (59 :: b.data.toList))) := by
    simp only [app_list, hd, List.append_assoc]
    rfl
  have hne := dgF_pos 10 dch 6 k (by omega)
  have hlen : 0 < (dgF 10 dch 7 k).length := List.length_pos_iff.2 hne
  have hx : numV (((⟨#[38, 35]⟩ : ByteArray) ++ d ++ (⟨#[59]⟩ : ByteArray)) ++ b) 0 = numAt (((⟨#[38, 35]⟩ : ByteArray) ++ d ++ (⟨#[59]⟩ : ByteArray)) ++ b) 2 false 0 := by
    refine numV_dec ?_
    obtain ⟨c, hc⟩ : ∃ c, (dgF 10 dch 7 k)[0]? = some c := ⟨_, List.getElem?_eq_getElem hlen⟩
    obtain ⟨i, hi, rfl⟩ := dgF_mem 10 (by decide) dch 7 k c (List.mem_of_getElem? hc)
    refine hexAt_not (c := dch i) ?_ (dch_no i hi).1 (dch_no i hi).2
    rw [hs]
    show ([] ++ (dgF 10 dch 7 k ++ (59 :: b.data.toList)))[0]? = _
    rw [List.nil_append, List.getElem?_append_left hlen]
    exact hc
  have hL := numL_dgs false dch dch_is 7 k (59 :: b.data.toList) (by show k < 10 ^ 7; omega)
  rw [numL_semi] at hL
  have hm : min (k : Int) 1114112 = k := by omega
  have hv : numL false (dgF 10 dch 7 k ++ (59 :: b.data.toList)) 0 = ((k : Int), (dgF 10 dch 7 k).length) := by
    rw [show dgF 10 dch 7 k = dgF (bN false) dch 7 k from rfl, hL, hm]
    simp
  have hr := num_at0 (f := 2) hs rfl hx hv hlen rfl 1 rfl false
  have hcode : code (k : Int) = k := code_own (by omega) (by omega) (.inl (by omega)) (.inr (by omega))
  rw [hcode] at hr
  have hsz : ((⟨#[38, 35]⟩ : ByteArray) ++ d ++ (⟨#[59]⟩ : ByteArray)).size = 2 + (dgF 10 dch 7 k).length + 1 := by
    rw [ByteArray.size_append, ByteArray.size_append]
    have : d.size = d.data.toList.length := rfl
    rw [this, hd]; rfl
  rw [← hsz] at hr
  have h0 : ((⟨#[38, 35]⟩ : ByteArray) ++ d ++ (⟨#[59]⟩ : ByteArray)).data.toList[0]? = some 38 := by
    simp only [app_list, List.append_assoc]; rfl
  rw [e1, plain_dec a _ false ha, dec_then h0 hr, plain_own b false hb]
  apply bytes_eq.1
  simp only [app_list, List.append_assoc]
theorem plain_lt (a b : ByteArray) (ha : ∀ j (hj : j < a.size), ¬ a[j].toNat = 38) (hb : ∀ j (hj : j < b.size), ¬ b[j].toNat = 38) :
    decB (a ++ (⟨#[38, 108, 116, 59]⟩ : ByteArray) ++ b) true = a ++ (⟨#[60]⟩ : ByteArray) ++ b := by
  have e1 : a ++ (⟨#[38, 108, 116, 59]⟩ : ByteArray) ++ b = a ++ ((⟨#[38, 108, 116, 59]⟩ : ByteArray) ++ b) := by
    apply bytes_eq.1
    simp only [app_list, List.append_assoc]
  have hr := k_ref (attr := true) (p := (⟨#[60]⟩, ⟨#[38, 108, 116, 59]⟩)) (List.mem_of_getElem? (k_lt true)) b true
  rw [e1, plain_dec a _ true ha, dec_then rfl hr, plain_own b true hb]
  apply bytes_eq.1
  simp only [app_list, List.append_assoc]
end Go.Proofs.Ytfjlpekoklmedaa.Ch
