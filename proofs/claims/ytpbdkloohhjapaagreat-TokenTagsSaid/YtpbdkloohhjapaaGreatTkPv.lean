/- TokenTags: its tables. -/
import Derived.Test.YtpbdkloohhjapaaGreatTkW
import Derived.Test.YtpbdkloohhjapaaGreatTkPu
import Derived.OpenShut
namespace Go.Proofs.YtpbdkloohhjapaaGreat.Wk
open Go Go.RowKit Go.Proofs.YtpbdkloohhjapaaGreat.Tk Go.Proofs.YtpbdkloohhjapaaGreat.Tr
set_option linter.unusedVariables false
set_option maxRecDepth 100000

/-- A row of numbers that came in. -/
def IsRow (k : IntKind) (w : World) (a : Option Addr) (len cap : Nat) (zs : List Int) : Prop :=
  (a = none ∧ len = 0 ∧ cap = 0 ∧ zs = []) ∨
    ∃ x, a = some x ∧ len ≤ cap ∧ cap ≤ maxLen ∧ zs.length = cap ∧ (∀ i, i < zs.length → w.cell? (x.add i) = some (.int k (zs.getD i 0))) ∧ ∀ n ∈ zs, (Lit.int k n).wf = true
theorem row_at {w : World} {a : Option Addr} {len cap : Nat} {zs : List Int} (h : IsRow .i64 w a len cap zs) {i : Nat} (hi : i < len) :
    ∃ b off z, a = some ⟨b, off, none⟩ ∧ b < w.heap.size ∧ w.cell? ⟨b, off + i, none⟩ = some (.int .i64 z) ∧ -9223372036854775808 ≤ z ∧ z ≤ 9223372036854775807 := by
  rcases h with ⟨rfl, rfl, rfl, rfl⟩ | ⟨x, rfl, h1, h2, h3, h4, h5⟩
  · omega
  · have hc := h4 i (by omega)
    have hc0 := h4 0 (by omega)
    have e : x.add 0 = x := by unfold Addr.add; rw [if_pos rfl]
    rw [e] at hc0
    have hx := flat_addr hc0
    obtain ⟨b, off, sp⟩ := x
    injection hx with _ _ hs
    subst hs
    rw [add_flat] at hc
    have hm : zs.getD i 0 ∈ zs := by
      rw [List.getD_eq_getElem?_getD, List.getElem?_eq_getElem (by omega)]
      exact List.getElem_mem _
    have hw := h5 _ hm
    have : -9223372036854775808 ≤ zs.getD i 0 ∧ zs.getD i 0 ≤ 9223372036854775807 := by
      unfold Lit.wf at hw
      simp at hw
      exact hw
    exact ⟨b, off, _, rfl, (cell_lt hc).1, hc, this.1, this.2⟩
theorem nm_ix (k : Nat) (hk : k < 5) : ∃ n : ByteArray, (∀ w : World, (Instr.index 31 (.agg #[.string ⟨#[97]⟩, .string ⟨#[100, 105, 118]⟩, .string ⟨#[104, 49]⟩, .string ⟨#[120, 45, 121]⟩, .string ⟨#[116, 97, 98, 108, 101]⟩]) (.int .i64 k)).run Tryz.prog w = .ok (.string n) w) ∧ NameOk n ∧ n.size ≤ 5 := by
  have h : k = 0 ∨ k = 1 ∨ k = 2 ∨ k = 3 ∨ k = 4 := by omega
  rcases h with rfl | rfl | rfl | rfl | rfl
  · exact ⟨⟨#[97]⟩, fun w => by kernel_rfl, ⟨by decide, by decide +kernel, by decide +kernel⟩, by decide⟩
  · exact ⟨⟨#[100, 105, 118]⟩, fun w => by kernel_rfl, ⟨by decide, by decide +kernel, by decide +kernel⟩, by decide⟩
  · exact ⟨⟨#[104, 49]⟩, fun w => by kernel_rfl, ⟨by decide, by decide +kernel, by decide +kernel⟩, by decide⟩
  · exact ⟨⟨#[120, 45, 121]⟩, fun w => by kernel_rfl, ⟨by decide, by decide +kernel, by decide +kernel⟩, by decide⟩
  · exact ⟨⟨#[116, 97, 98, 108, 101]⟩, fun w => by kernel_rfl, ⟨by decide, by decide +kernel, by decide +kernel⟩, by decide⟩
theorem qt_ix (k : Nat) (hk : k < 3) : ∃ q : ByteArray, (∀ w : World, (Instr.index 35 (.agg #[.string ⟨#[34]⟩, .string ⟨#[39]⟩, .string ⟨#[]⟩]) (.int .i64 k)).run Tryz.prog w = .ok (.string q) w) ∧ (q = ⟨#[]⟩ ∨ q = ⟨#[34]⟩ ∨ q = ⟨#[39]⟩) ∧ q.size ≤ 1 := by
  have h : k = 0 ∨ k = 1 ∨ k = 2 := by omega
  rcases h with rfl | rfl | rfl
  · exact ⟨⟨#[34]⟩, fun w => by kernel_rfl, .inr (.inl rfl), by decide⟩
  · exact ⟨⟨#[39]⟩, fun w => by kernel_rfl, .inr (.inr rfl), by decide⟩
  · exact ⟨⟨#[]⟩, fun w => by kernel_rfl, .inl rfl, by decide⟩
theorem sp_ix (k : Nat) (hk : k < 4) : ∃ s : ByteArray, (∀ w : World, (Instr.index 36 (.agg #[.string ⟨#[32]⟩, .string ⟨#[10]⟩, .string ⟨#[32, 47, 32]⟩, .string ⟨#[9, 32]⟩]) (.int .i64 k)).run Tryz.prog w = .ok (.string s) w) ∧ 0 < s.size ∧ blankN (bAt s 0) = true ∧ (∀ i, i < s.size → blkN (bAt s i) = true) ∧ s.size ≤ 3 := by
  have h : k = 0 ∨ k = 1 ∨ k = 2 ∨ k = 3 := by omega
  rcases h with rfl | rfl | rfl | rfl
  · exact ⟨⟨#[32]⟩, fun w => by kernel_rfl, by decide, by decide +kernel, by decide +kernel, by decide⟩
  · exact ⟨⟨#[10]⟩, fun w => by kernel_rfl, by decide, by decide +kernel, by decide +kernel, by decide⟩
  · exact ⟨⟨#[32, 47, 32]⟩, fun w => by kernel_rfl, by decide, by decide +kernel, by decide +kernel, by decide⟩
  · exact ⟨⟨#[9, 32]⟩, fun w => by kernel_rfl, by decide, by decide +kernel, by decide +kernel, by decide⟩
def valB : ByteArray := ⟨#[118, 97, 108, 117, 101]⟩
def digB : ByteArray := ⟨#[48, 49, 50, 51, 52, 53, 54, 55]⟩
def nmK (j : Nat) : ByteArray := (⟨#[107]⟩ : ByteArray) ++ digB.extract j (j + 1)
theorem vl_ok (k : Nat) (hk : k < 5) : 0 < (valB.extract 0 (k + 1)).size ∧ (∀ i, i < (valB.extract 0 (k + 1)).size → 97 ≤ bAt (valB.extract 0 (k + 1)) i ∧ bAt (valB.extract 0 (k + 1)) i ≤ 122) ∧ (valB.extract 0 (k + 1)).size ≤ 5 := by
  have h : k = 0 ∨ k = 1 ∨ k = 2 ∨ k = 3 ∨ k = 4 := by omega
  rcases h with rfl | rfl | rfl | rfl | rfl <;> exact ⟨by decide +kernel, by decide +kernel, by decide +kernel⟩
theorem nmK_ok : ∀ j, j < 8 → (nmK j).size = 2 ∧ bAt (nmK j) 0 = 107 ∧ 48 ≤ bAt (nmK j) 1 ∧ bAt (nmK j) 1 ≤ 57 := by decide +kernel
theorem nmK_lt : ∀ i, i < 8 → ∀ j, j < 8 → i < j → nmK i ≠ nmK j ∧ leB (nmK i) (nmK j) = true := by decide +kernel
/-- The attributes made so far. -/
structure Made (cs : List Chk) : Prop where
  ok : ∀ c ∈ cs, ChkOk c
  nm : ∀ j c, cs[j]? = some c → c.nm = nmK j
  sz : ∀ c ∈ cs, c.sep.size ≤ 3 ∧ c.nm.size ≤ 2 ∧ c.q.size ≤ 1 ∧ c.v.size ≤ 5
  len : cs.length ≤ 8
theorem Made.pair {cs : List Chk} (h : Made cs) : (cs.map atC).Pairwise (fun x y => x.1 ≠ y.1) ∧ (cs.map atC).Pairwise (fun x y => leB x.1 y.1 = true) := by
  have key : ∀ i j (hi : i < cs.length) (hj : j < cs.length), i < j → cs[i].nm ≠ cs[j].nm ∧ leB cs[i].nm cs[j].nm = true := fun i j hi hj hij => by
    have hl := h.len
    rw [h.nm i cs[i] (List.getElem?_eq_getElem hi), h.nm j cs[j] (List.getElem?_eq_getElem hj)]
    exact nmK_lt i (by omega) j (by omega) hij
  constructor
  · rw [List.pairwise_iff_getElem]
    intro i j hi hj hij
    rw [List.length_map] at hi hj
    simp only [List.getElem_map]
    exact (key i j hi hj hij).1
  · rw [List.pairwise_iff_getElem]
    intro i j hi hj hij
    rw [List.length_map] at hi hj
    simp only [List.getElem_map]
    exact (key i j hi hj hij).2
theorem Made.snoc {cs : List Chk} (h : Made cs) (hl : cs.length < 8) {c : Chk} (hc : ChkOk c) (hn : c.nm = nmK cs.length) (hz : c.sep.size ≤ 3 ∧ c.nm.size ≤ 2 ∧ c.q.size ≤ 1 ∧ c.v.size ≤ 5) : Made (cs ++ [c]) := by
  refine ⟨fun d hd => ?_, fun j d hj => ?_, fun d hd => ?_, by simp; omega⟩
  · rcases List.mem_append.1 hd with hd | hd
    · exact h.ok d hd
    · rw [List.mem_singleton.1 hd]; exact hc
  · rcases Nat.lt_or_ge j cs.length with hlt | hge
    · rw [List.getElem?_append_left hlt] at hj; exact h.nm j d hj
    · rw [List.getElem?_append_right hge] at hj
      have : j = cs.length := by
        rcases Nat.lt_or_ge (j - cs.length) 1 with h1 | h1
        · omega
        · rw [List.getElem?_eq_none (by simpa using h1)] at hj; cases hj
      subst this
      rw [Nat.sub_self] at hj
      simp at hj; subst hj; exact hn
  · rcases List.mem_append.1 hd with hd | hd
    · exact h.sz d hd
    · rw [List.mem_singleton.1 hd]; exact hz
theorem src_size : ∀ (cs : List Chk) (s : ByteArray), (∀ c ∈ cs, c.sep.size ≤ 3 ∧ c.nm.size ≤ 2 ∧ c.q.size ≤ 1 ∧ c.v.size ≤ 5) → (srcC s cs).size ≤ s.size + 13 * cs.length
  | [], s, _ => Nat.le_refl _
  | c :: cs, s, h => by
    have h1 := src_size cs (stepC s c) fun d hd => h d (List.mem_cons_of_mem _ hd)
    have h2 := h c (List.mem_cons_self ..)
    have h3 := stepC_size s c
    have e : srcC s (c :: cs) = srcC (stepC s c) cs := rfl
    rw [e]; simp only [List.length_cons]; omega
end Go.Proofs.YtpbdkloohhjapaaGreat.Wk
