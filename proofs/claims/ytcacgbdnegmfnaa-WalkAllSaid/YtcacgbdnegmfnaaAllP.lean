/- What WalkAll compares: plain. -/
import Derived.Test.YtcacgbdnegmfnaaRPo
import Derived.Test.YtcacgbdnegmfnaaRTx
import Derived.Test.YtcacgbdnegmfnaaLawS
namespace Go.Proofs.Ytcacgbdnegmfnaa.Wk
open Go Go.RowKit Go.Proofs.Ytcacgbdnegmfnaa.Tr Go.Proofs.Ytcacgbdnegmfnaa.Ha
set_option linter.unusedVariables false
theorem attrs_is {w : World} {S : Nat → Prop} {B : Nat} {al : List (ByteArray × ByteArray)} {A : Option Addr} {ac : Nat} (h : AttrsIn w S al A ac) (hS : ∀ b, S b → b < B) : IsAttrs w B al A ac := by
  obtain ⟨a1, a2, a3, a4⟩ := h
  refine ⟨a1, a2, a3, fun hn => ?_⟩
  obtain ⟨b, off, e, hb, hc⟩ := a4 hn
  exact ⟨b, off, e, hS b hb, hc⟩
/-- A node without its kids. -/
def bareT (t : Nd) : Nd := .mk t.kind t.name t.text t.attrs []
theorem bare_is {w W0 : World} {B B0 : Nat} {t : Nd} {v0 v1 v2 v3 v4 : Value} (h : IsTree W0 B0 t v0 v1 v2 v3 v4) {A : Option Addr} {ac : Nat} (ha : IsAttrs w B t.attrs A ac) :
    IsTree w B (bareT t) (.int .i64 t.kind) (.string t.name) (.string t.text) (.slice A t.attrs.length ac) (.slice none 0 0) := by
  cases t with
  | mk k n s al ks =>
  unfold IsTree at h
  obtain ⟨_, _, _, h1, h2, h3, _⟩ := h
  unfold bareT IsTree
  exact ⟨rfl, rfl, rfl, h1, h2, h3, A, ac, none, 0, rfl, rfl, ha, Nat.le_refl _, Nat.zero_le _, fun h => absurd rfl h⟩
/-- The tree that is none. -/
def noneT : Nd := .mk 0 ⟨#[]⟩ ⟨#[]⟩ [] []
theorem none_is {w : World} {B : Nat} : IsTree w B noneT (.int .i64 0) (.string ⟨#[]⟩) (.string ⟨#[]⟩) (.slice none 0 0) (.slice none 0 0) := by
  unfold noneT IsTree
  exact ⟨rfl, rfl, rfl, by decide, Nat.zero_le _, Nat.zero_le _, none, 0, none, 0, rfl, rfl, ⟨Nat.le_refl _, Nat.zero_le _, by simp, fun h => absurd rfl h⟩, Nat.le_refl _, Nat.zero_le _, fun h => absurd rfl h⟩
/-- Numbers in a slice. -/
def SpNums (l : List Nat) (v : Value) (W : World) : Prop := ∃ A cap, v = .slice A l.length cap ∧ NumsAt W A l
theorem nums_row {l : List Nat} {w : World} {v : Value} {B n : Nat} (h : w.ownsRow B 3 1 v n (cellsN l)) (hn : l.length = n) (hp : 0 < n) : SpNums l v w := by
  obtain ⟨g, cap, rfl⟩ := row_form h hp
  refine ⟨some ⟨g, 0, none⟩, cap, by rw [hn], fun i x hx => ⟨g, rfl, (h.lt g rfl).2, ?_⟩⟩
  have := h.cells (g := g) rfl i (.int .i64 (x : Int)) (cellsN_at hx)
  rwa [add_flat, Nat.zero_add] at this
/-- The way to a number; none, if it is none. -/
def WayTo (t : Nd) (id : Int) (l : List Nat) : Prop := l.length ≤ 400000 ∧ ((¬ (0 ≤ id ∧ id < cntT t) ∧ l = []) ∨ (0 ≤ id ∧ id < cntT t ∧ IsPath t id.toNat l))
theorem way_ex (t : Nd) (id : Int) (hN : cntT t ≤ 400000) : ∃ l, WayTo t id l := by
  by_cases h : 0 ≤ id ∧ id < cntT t
  · obtain ⟨l, h1, h2⟩ := path_ex t id.toNat (by omega)
    obtain ⟨x, hx⟩ : ∃ x, (allP t)[id.toNat]? = some x := ⟨_, List.getElem?_eq_getElem (by rw [allP_length]; omega)⟩
    obtain ⟨dd, hd1, hd2, _⟩ := idx_T 0 (-1) 0 0 t _ x hx
    have := h2 x hx
    exact ⟨l, by omega, .inr ⟨h.1, h.2, h1⟩⟩
  · exact ⟨[], Nat.zero_le _, .inl ⟨h, rfl⟩⟩
theorem way_walk {t : Nd} {id : Int} {l : List Nat} {w w' : World} {e : Ending} (hl : WayTo t id l) (h : PathEnd t id w e w') : ∃ v, e = .returned v ∧ SpNums l v w' ∧ Below w.heap.size w w' := by
  obtain ⟨hb, h⟩ := h
  obtain ⟨hl0, hl⟩ := hl
  rcases h with ⟨h1, rfl⟩ | ⟨h1, h2, l', h3, _, h5⟩
  · rcases hl with ⟨_, rfl⟩ | ⟨g1, g2, _⟩
    · exact ⟨_, rfl, ⟨none, 0, rfl, fun i x hx => by simp at hx⟩, hb⟩
    · exact absurd ⟨g1, g2⟩ h1
  · rcases hl with ⟨g1, _⟩ | ⟨_, _, g3⟩
    · exact absurd ⟨h1, h2⟩ g1
    · obtain rfl := path_unique g3 h3
      rcases h5 with ⟨rfl, rfl⟩ | ⟨_, g, rfl, h6, h7, h8⟩
      · exact ⟨_, rfl, ⟨none, 0, rfl, fun i x hx => by simp at hx⟩, hb⟩
      · exact ⟨_, rfl, ⟨some ⟨g, 0, none⟩, l.length, rfl, fun i x hx => ⟨g, rfl, h7, h8 i x hx⟩⟩, hb⟩
theorem way_ref {t : Nd} {id : Int} {l : List Nat} {w w' : World} {e : Ending} (hl : WayTo t id l) (h : RPathEnd t id w e w') : ∃ v, e = .returned v ∧ SpNums l v w' ∧ Below w.heap.size w w' := by
  obtain ⟨hb, h⟩ := h
  obtain ⟨hl0, hl⟩ := hl
  rcases h with ⟨h1, rfl⟩ | ⟨h1, h2, l', A, cap, h3, _, rfl, h5⟩
  · rcases hl with ⟨_, rfl⟩ | ⟨g1, g2, _⟩
    · exact ⟨_, rfl, ⟨none, 0, rfl, fun i x hx => by simp at hx⟩, hb⟩
    · exact absurd ⟨g1, g2⟩ h1
  · rcases hl with ⟨g1, _⟩ | ⟨_, _, g3⟩
    · exact absurd ⟨h1, h2⟩ g1
    · obtain rfl := path_unique g3 h3
      exact ⟨_, rfl, ⟨A, cap, rfl, h5⟩, hb⟩
/-- Two slices of the same numbers. -/
theorem same_at {l : List Nat} {v1 v2 : Value} {W W1 W2 : World} (h1 : SpNums l v1 W1) (b1 : Below W1.heap.size W1 W) (h2 : SpNums l v2 W2) (b2 : Below W2.heap.size W2 W) (hN : l.length ≤ 1000000) :
    Calls Try.prog 37 #[v1, v2] W fun e w' => e = .returned (.bool true) ∧ Below W.heap.size W w' := by
  obtain ⟨A, ca, rfl, h1⟩ := h1
  obtain ⟨B, cb, rfl, h2⟩ := h2
  exact sameInts_calls l A B ca cb W hN (h1.keep b1) (h2.keep b2)
end Go.Proofs.Ytcacgbdnegmfnaa.Wk
