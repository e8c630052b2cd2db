/- A number by ten digits, or by sixteen: the same sign. Plain laws. -/
import Derived.Test.YtfjlpekoklmedaaNums
namespace Go.Proofs.Ytfjlpekoklmedaa.Ch
open Go Go.RowKit Go.Proofs.Ytfjlpekoklmedaa.Sr Go.Proofs.Ytfjlpekoklmedaa.Ct Go.Proofs.Ytfjlpekoklmedaa.Gr
set_option linter.unusedVariables false

/-- A number's digits; 0 has one. -/
def dgZ (b : Nat) (ch : Nat → UInt8) (k : Nat) : List UInt8 := if k = 0 then [ch 0] else dgF b ch 7 k
theorem dgZ_pos (b : Nat) (ch : Nat → UInt8) (k : Nat) : 0 < (dgZ b ch k).length := by
  unfold dgZ
  split
  · exact Nat.one_pos
  · exact List.length_pos_iff.2 (dgF_pos b ch 6 k (by omega))
theorem numL_dgZ (hex : Bool) (ch : Nat → UInt8) (hch : ∀ i, i < bN hex → digI (ch i).toNat hex = (i : Int)) (v : Nat) (l : List UInt8) (hv : v < bN hex ^ 7) :
    numL hex (dgZ (bN hex) ch v ++ l) 0 = ((numL hex l (min (v : Int) 1114112)).1, (numL hex l (min (v : Int) 1114112)).2 + (dgZ (bN hex) ch v).length) := by
  unfold dgZ
  split
  · rename_i h
    subst h
    rw [List.cons_append, List.nil_append, numL_cons hex (ch 0) l 0 (d := 0) (by rw [hch 0 (by cases hex <;> decide)])]
    have e : min ((0 : Int) * baseI hex + ((0 : Nat) : Int)) 1114112 = min ((0 : Nat) : Int) 1114112 := by cases hex <;> decide
    rw [e]; rfl
  · exact numL_dgs hex ch hch 7 v l hv
theorem dgZ_mem (b : Nat) (hb : 0 < b) (ch : Nat → UInt8) (v : Nat) (c : UInt8) (h : c ∈ dgZ b ch v) : ∃ i, i < b ∧ c = ch i := by
  unfold dgZ at h
  split at h
  · exact ⟨0, hb, by simpa using h⟩
  · exact dgF_mem b hb ch 7 v c h
theorem enc_pos (v : Int) : (Utf8.encode v).size ≠ 0 := by
  unfold Utf8.encode
  dsimp only
  repeat' split
  all_goals simp [ByteArray.size]
theorem hexAt_yes {s : ByteArray} {f : Nat} (h : s.data.toList[f]? = some 120 ∨ s.data.toList[f]? = some 88) : hexAt s f = true := by
  unfold hexAt
  rw [Bool.or_eq_true, decide_eq_true_eq, decide_eq_true_eq]
  exact h
theorem zeros_dgs (hex : Bool) (ch : Nat → UInt8) (hch : ∀ i, i < bN hex → digI (ch i).toNat hex = (i : Int)) (k j : Nat) (l : List UInt8) (hk : k < bN hex ^ 7) (hl : ∀ v, numL hex l v = (v, 0)) :
    numL hex ((List.replicate j 48 ++ dgZ (bN hex) ch k) ++ l) 0 = (min (k : Int) 1114112, (List.replicate j 48 ++ dgZ (bN hex) ch k).length) := by
  rw [List.append_assoc, numL_zeros, numL_dgZ hex ch hch k l hk, hl]
  simp only [List.length_append, List.length_replicate, Nat.zero_add, Nat.add_comm]
/-- The sign of a number. -/
def signOf (k : Nat) : ByteArray := Utf8.encode (code (min (k : Int) 1114112))
theorem num_dec (z d : ByteArray) (k j : Nat) (hk : k < 1179648) (hz : z.data.toList = List.replicate j 48) (hd : d.data.toList = dgZ 10 dch k) :
    refI ((⟨#[38, 35]⟩ : ByteArray) ++ z ++ d ++ (⟨#[59]⟩ : ByteArray)) ((0 : Nat) : Int) false = (signOf k, 3 + z.size + d.size) := by
  have hs : ((⟨#[38, 35]⟩ : ByteArray) ++ z ++ d ++ (⟨#[59]⟩ : ByteArray)).data.toList = 38 :: 35 :: ([] ++ ((List.replicate j 48 ++ dgZ 10 dch k) ++ [59])) := by
    simp only [app_list, hz, hd, List.append_assoc]
    rfl
  have hzs : z.size = j := by
    show z.data.toList.length = j
    rw [hz, List.length_replicate]
  have hds : d.size = (dgZ 10 dch k).length := by
    show d.data.toList.length = _
    rw [hd]
  have hpos := dgZ_pos 10 dch k
  have hlen : 0 < (List.replicate j 48 ++ dgZ 10 dch k).length := by rw [List.length_append]; omega
  have hx : numV ((⟨#[38, 35]⟩ : ByteArray) ++ z ++ d ++ (⟨#[59]⟩ : ByteArray)) 0 = numAt ((⟨#[38, 35]⟩ : ByteArray) ++ z ++ d ++ (⟨#[59]⟩ : ByteArray)) 2 false 0 := by
    refine numV_dec ?_
    obtain ⟨c, hc⟩ : ∃ c, (List.replicate j 48 ++ dgZ 10 dch k)[0]? = some c := ⟨_, List.getElem?_eq_getElem hlen⟩
    have hcc : c ≠ 120 ∧ c ≠ 88 := by
      rcases List.mem_append.1 (List.mem_of_getElem? hc) with h | h
      · rw [List.eq_of_mem_replicate h]; decide
      · obtain ⟨i, hi, rfl⟩ := dgZ_mem 10 (by decide) dch k c h
        exact dch_no i hi
    refine hexAt_not (c := c) ?_ hcc.1 hcc.2
    rw [hs]
    show ([] ++ ((List.replicate j 48 ++ dgZ 10 dch k) ++ [59]))[0]? = _
    rw [List.nil_append, List.getElem?_append_left hlen]
    exact hc
  have hv := zeros_dgs false dch dch_is k j [59] (by show k < 10 ^ 7; omega) (fun v => numL_semi false [] v)
  have hr := num_at0 (f := 2) hs rfl hx hv hlen rfl 1 rfl false
  rw [hr, List.length_append, List.length_replicate]
  unfold signOf
  congr 1
  show 2 + (j + (dgZ 10 dch k).length) + 1 = _
  omega
theorem num_hex (z h : ByteArray) (k j : Nat) (hk : k < 1179648) (hz : z.data.toList = List.replicate j 48) (hd : h.data.toList = dgZ 16 hch k) :
    refI ((⟨#[38, 35, 120]⟩ : ByteArray) ++ z ++ h ++ (⟨#[59]⟩ : ByteArray)) ((0 : Nat) : Int) true = (signOf k, 4 + z.size + h.size) := by
  have hs : ((⟨#[38, 35, 120]⟩ : ByteArray) ++ z ++ h ++ (⟨#[59]⟩ : ByteArray)).data.toList = 38 :: 35 :: ([120] ++ ((List.replicate j 48 ++ dgZ 16 hch k) ++ [59])) := by
    simp only [app_list, hz, hd, List.append_assoc]
    rfl
  have hzs : z.size = j := by
    show z.data.toList.length = j
    rw [hz, List.length_replicate]
  have hds : h.size = (dgZ 16 hch k).length := by
    show h.data.toList.length = _
    rw [hd]
  have hpos := dgZ_pos 16 hch k
  have hlen : 0 < (List.replicate j 48 ++ dgZ 16 hch k).length := by rw [List.length_append]; omega
  have hx : numV ((⟨#[38, 35, 120]⟩ : ByteArray) ++ z ++ h ++ (⟨#[59]⟩ : ByteArray)) 0 = numAt ((⟨#[38, 35, 120]⟩ : ByteArray) ++ z ++ h ++ (⟨#[59]⟩ : ByteArray)) 3 true 0 :=
    numV_hex (hexAt_yes (.inl (by rw [hs]; rfl)))
  have hv := zeros_dgs true hch hch_is k j [59] (by show k < 16 ^ 7; omega) (fun v => numL_semi true [] v)
  have hr := num_at0 (f := 3) hs rfl hx hv hlen rfl 1 rfl true
  rw [hr, List.length_append, List.length_replicate]
  unfold signOf
  congr 1
  show 3 + (j + (dgZ 16 hch k).length) + 1 = _
  omega
theorem num_upper (u : ByteArray) (k : Nat) (hk : k < 1179648) (hd : u.data.toList = dgZ 16 uch k) :
    refI ((⟨#[38, 35, 88]⟩ : ByteArray) ++ u) ((0 : Nat) : Int) false = (signOf k, 3 + u.size) := by
  have hs : ((⟨#[38, 35, 88]⟩ : ByteArray) ++ u).data.toList = 38 :: 35 :: ([88] ++ ((List.replicate 0 48 ++ dgZ 16 uch k) ++ [])) := by
    simp only [app_list, hd]
    simp
  have hds : u.size = (dgZ 16 uch k).length := by
    show u.data.toList.length = _
    rw [hd]
  have hpos := dgZ_pos 16 uch k
  have hlen : 0 < (List.replicate 0 48 ++ dgZ 16 uch k).length := by rw [List.length_append]; omega
  have hx : numV ((⟨#[38, 35, 88]⟩ : ByteArray) ++ u) 0 = numAt ((⟨#[38, 35, 88]⟩ : ByteArray) ++ u) 3 true 0 :=
    numV_hex (hexAt_yes (.inr (by rw [hs]; rfl)))
  have hv := zeros_dgs true uch uch_is k 0 [] (by show k < 16 ^ 7; omega) (fun v => numL_nil true v)
  have hr := num_at0 (f := 3) hs rfl hx hv hlen rfl 0 rfl false
  rw [hr, List.length_append, List.length_replicate]
  unfold signOf
  congr 1
  show 3 + (0 + (dgZ 16 uch k).length) + 0 = _
  omega
/-! ### The digits, one by one -/
structure DigZ (b : Nat) (ch : Nat → UInt8) (k m v : Nat) (d : ByteArray) : Prop where
  eq : (d.data.toList = [] ∧ v = k ∧ m = 7) ∨ (d.data.toList ≠ [] ∧ dgF b ch m v ++ d.data.toList = dgZ b ch k)
  lt : v < b ^ m
  sz : d.size + m ≤ 7
theorem digZ_start (b : Nat) (ch : Nat → UInt8) (k : Nat) (h : k < b ^ 7) : DigZ b ch k 7 k ⟨#[]⟩ := ⟨.inl ⟨rfl, rfl, rfl⟩, h, Nat.le_refl _⟩
theorem digZ_step {b : Nat} (hb : 0 < b) {ch : Nat → UInt8} {k m v : Nat} {d c : ByteArray} (h : DigZ b ch k (m + 1) v d) (hgo : 0 < v ∨ d.data.toList = []) (hc : c.data.toList = [ch (v % b)]) : DigZ b ch k m (v / b) (c ++ d) := by
  have hsz : (c ++ d).size = 1 + d.size := by
    rw [ByteArray.size_append]
    have : c.size = c.data.toList.length := rfl
    rw [this, hc]; rfl
  refine ⟨.inr ⟨by rw [app_list, hc]; simp, ?_⟩, Nat.div_lt_of_lt_mul (by rw [← Nat.pow_succ']; exact h.lt), by have := h.sz; omega⟩
  rw [app_list, hc]
  rcases h.eq with ⟨e1, rfl, e3⟩ | ⟨e1, e2⟩
  · obtain rfl : m = 6 := by omega
    rw [e1]
    unfold dgZ
    split
    · rename_i h0
      subst h0
      rw [Nat.zero_div, Nat.zero_mod, dgF_zero]; rfl
    · have e6 : dgF b ch 7 v = dgF b ch 6 (v / b) ++ [ch (v % b)] := dgF_succ b ch 6 v (by omega)
      rw [e6]; simp
  · have hv : 0 < v := by
      rcases hgo with h | h
      · exact h
      · exact absurd h e1
    rw [dgF_succ _ _ _ _ hv, List.append_assoc] at e2
    exact e2
theorem digZ_done {b : Nat} {ch : Nat → UInt8} {k m : Nat} {d : ByteArray} (h : DigZ b ch k m 0 d) (hd : d.data.toList ≠ []) : d.data.toList = dgZ b ch k := by
  rcases h.eq with ⟨e1, _⟩ | ⟨_, e2⟩
  · exact absurd e1 hd
  · rwa [dgF_zero, List.nil_append] at e2
theorem digZ_some {b : Nat} {ch : Nat → UInt8} {k m v : Nat} {d : ByteArray} (h : DigZ b ch k m v d) (hgo : 0 < v ∨ d.data.toList = []) : ∃ m', m = m' + 1 := by
  rcases Nat.eq_zero_or_pos m with h0 | h0
  · subst h0
    have := h.lt
    rw [Nat.pow_zero] at this
    rcases hgo with h1 | h1
    · omega
    · rcases h.eq with ⟨_, _, e⟩ | ⟨e, _⟩
      · cases e
      · exact absurd h1 e
  · exact ⟨m - 1, by omega⟩
end Go.Proofs.Ytfjlpekoklmedaa.Ch
