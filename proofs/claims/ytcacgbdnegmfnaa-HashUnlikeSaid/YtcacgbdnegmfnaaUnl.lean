/- Nine trees that are unlike. -/
import Derived.Test.YtcacgbdnegmfnaaKey
namespace Go.Proofs.Ytcacgbdnegmfnaa.Ha
open Go Go.RowKit Go.Proofs.Ytcacgbdnegmfnaa.Pl Go.Proofs.Ytcacgbdnegmfnaa.Tr Go.Proofs.Ytcacgbdnegmfnaa.Wk
set_option linter.unusedVariables false
def ab : ByteArray := ⟨#[97, 98]⟩
def leafOf (k : Int) (n s : ByteArray) : Nd := .mk k n s [] []
def nine : List Nd := [leafOf 3 ⟨#[]⟩ ⟨#[97, 98]⟩, leafOf 4 ⟨#[]⟩ ⟨#[97, 98]⟩, leafOf 2 ⟨#[97, 98]⟩ ⟨#[]⟩, leafOf 5 ⟨#[97, 98]⟩ ⟨#[]⟩,
  .mk 2 ⟨#[97, 98]⟩ ⟨#[]⟩ [(⟨#[99]⟩, ⟨#[100]⟩)] [], .mk 2 ⟨#[97, 98]⟩ ⟨#[]⟩ [(⟨#[99, 100]⟩, ⟨#[]⟩)] [],
  .mk 2 ⟨#[97, 98]⟩ ⟨#[]⟩ [] [leafOf 3 ⟨#[]⟩ ⟨#[97]⟩, leafOf 3 ⟨#[]⟩ ⟨#[98]⟩], .mk 2 ⟨#[97, 98]⟩ ⟨#[]⟩ [] [leafOf 3 ⟨#[]⟩ ⟨#[98]⟩, leafOf 3 ⟨#[]⟩ ⟨#[97]⟩], leafOf 3 ⟨#[]⟩ ⟨#[97, 98, 0]⟩]
theorem unlike9 : ((List.range 9).all fun n => (List.range n).all fun m => !(un (treeH (nine.getD n default)) == un (treeH (nine.getD m default)))) = true := by kernel_rfl
theorem unlike_at {n m : Nat} (hn : n < 9) (hm : m < n) {x y : Nd} (hx : nine[n]? = some x) (hy : nine[m]? = some y) : (un (treeH x) == un (treeH y)) = false := by
  have h := List.all_eq_true.1 (List.all_eq_true.1 unlike9 n (List.mem_range.2 hn)) m (List.mem_range.2 hm)
  rw [List.getD_eq_getElem?_getD, List.getD_eq_getElem?_getD, hx, hy] at h
  simpa using h
theorem nine_ok : ∀ x ∈ nine, okT 0 x := by
  intro x hx
  simp only [nine, leafOf, List.mem_cons, List.not_mem_nil, or_false] at hx
  rcases hx with rfl | rfl | rfl | rfl | rfl | rfl | rfl | rfl | rfl <;> (simp [okT, okL]; try decide)
theorem nine_cnt : ∀ x ∈ nine, cntT x ≤ 1000000 := by
  intro x hx
  simp only [nine, leafOf, List.mem_cons, List.not_mem_nil, or_false] at hx
  rcases hx with rfl | rfl | rfl | rfl | rfl | rfl | rfl | rfl | rfl <;> decide
theorem isTree_attr {w : World} {B g : Nat} {k : Int} {n s x y : ByteArray} (hk : (Lit.int .i64 k).wf = true) (hn : n.size ≤ maxLen) (hs : s.size ≤ maxLen) (hx : x.size ≤ maxLen) (hy : y.size ≤ maxLen) (hg : g < B) {T : TypeId}
    (hb : w.heap[g]? = some (.cells #[.string x, .string y] T (0, 0))) : IsTree w B (.mk k n s [(x, y)] []) (.int .i64 k) (.string n) (.string s) (.slice (some ⟨g, 0, none⟩) 1 1) (.slice none 0 0) := by
  unfold IsTree
  refine ⟨rfl, rfl, rfl, hk, hn, hs, some ⟨g, 0, none⟩, 1, none, 0, rfl, rfl, ⟨Nat.le_refl _, by unfold maxLen; omega, fun a ha => by simp at ha; subst ha; exact ⟨hx, hy⟩, fun _ => ⟨g, 0, rfl, hg, fun i a ha => ?_⟩⟩, Nat.le_refl _, by unfold maxLen; omega, fun h => absurd rfl h⟩
  cases i with
  | zero => simp at ha; subst ha; exact ⟨by rw [block_cell hb]; rfl, by rw [block_cell hb]; rfl⟩
  | succ i => simp at ha
theorem isTree_two {w : World} {B g : Nat} {k : Int} {n s : ByteArray} {t u : Nd} {v0 v1 v2 v3 v4 u0 u1 u2 u3 u4 : Value} (hk : (Lit.int .i64 k).wf = true) (hn : n.size ≤ maxLen) (hs : s.size ≤ maxLen) (hg : g < B) {T : TypeId}
    (ht : IsTree w B t v0 v1 v2 v3 v4) (hu : IsTree w B u u0 u1 u2 u3 u4) (hb : w.heap[g]? = some (.cells #[v0, v1, v2, v3, v4, u0, u1, u2, u3, u4] T (0, 0))) : IsTree w B (.mk k n s [] [t, u]) (.int .i64 k) (.string n) (.string s) (.slice none 0 0) (.slice (some ⟨g, 0, none⟩) 2 2) := by
  unfold IsTree
  refine ⟨rfl, rfl, rfl, hk, hn, hs, none, 0, some ⟨g, 0, none⟩, 2, rfl, rfl, ⟨Nat.le_refl _, by unfold maxLen; omega, by simp, fun h => absurd rfl h⟩, Nat.le_refl _, by unfold maxLen; omega, fun _ => ⟨g, 0, rfl, hg, ?_⟩⟩
  unfold IsKids IsKids IsKids
  refine ⟨⟨v0, v1, v2, v3, v4, ?_, ?_, ?_, ?_, ?_, ht⟩, ⟨u0, u1, u2, u3, u4, ?_, ?_, ?_, ?_, ?_, hu⟩, trivial⟩ <;> (rw [block_cell hb]; rfl)
end Go.Proofs.Ytcacgbdnegmfnaa.Ha
