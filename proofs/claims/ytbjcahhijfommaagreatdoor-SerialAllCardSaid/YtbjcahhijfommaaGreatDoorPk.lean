/- Parts of the tree texts (by gen_slim.py): what the comparison, the copy and the size of a tree lean on. -/
import Derived.Test.YtbjcahhijfommaaGreatDoorSmall
import Derived.Test.YtbjcahhijfommaaGreatDoorCmp
import Derived.Test.YtbjcahhijfommaaGreatDoorCloS
import Derived.Test.YtbjcahhijfommaaGreatDoorStep
import Derived.Test.YtbjcahhijfommaaGreatDoorFr
import Derived.Test.YtbjcahhijfommaaGreatDoorKr
import Derived.BigRegion
import Derived.Laws.ResultCell
import Derived.Laws.Rows
import Derived.Deep.CutRange
import Derived.Deep.RegionLaw
import Derived.Deep.OwnRows
namespace Go.Proofs.YtbjcahhijfommaaGreatDoor.Tr
open Go Go.RowKit
set_option linter.unusedVariables false
section
variable {w w' : World} {b : Nat} {c0 c1 c2 c3 c4 : Value} {T : TypeId}
theorem cntL_ge : ∀ ts : List Nd, ts.length ≤ cntL ts
  | [] => Nat.le_refl _
  | t :: ts => by unfold cntL; have := cntT_pos t; have := cntL_ge ts; simp; omega
theorem size_alloc (w : World) (o : Obj) : w.heap.size ≤ ((w.alloc o).drew).heap.size := by show w.heap.size ≤ (w.alloc o).heap.size; simp
mutual
/-- Not too many attributes. -/
def attT : Nd → Prop | .mk _ _ _ al ks => al.length ≤ 1000000 ∧ attL ks
def attL : List Nd → Prop | [] => True | t :: ts => attT t ∧ attL ts
end
mutual
theorem okT_att (d : Nat) : ∀ t, okT d t → attT t
  | .mk k n s al ks, h => by unfold okT at h; unfold attT; exact ⟨by omega, okL_att (d + 1) ks h.2.2.2.2.2⟩
theorem okL_att (d : Nat) : ∀ ts, okL d ts → attL ts
  | [], _ => by unfold attL; trivial
  | t :: ts, h => by unfold okL at h; unfold attL; exact ⟨okT_att d t h.1, okL_att d ts h.2⟩
end
/-- A tree stored into its five cells. -/
theorem set5_blk (h : w.heap[b]? = some (.cells #[c0, c1, c2, c3, c4] T (0, 0))) (v0 v1 v2 v3 v4 : Value) :
    (((((w.setCell ⟨b, 0, none⟩ v0).setCell ⟨b, 1, none⟩ v1).setCell ⟨b, 2, none⟩ v2).setCell ⟨b, 3, none⟩ v3).setCell ⟨b, 4, none⟩ v4).heap[b]? = some (.cells #[v0, v1, v2, v3, v4] T (0, 0)) := by
  simp only [World.setCell, Array.getElem?_modify, ↓reduceIte, h, Option.map_some]
  rfl
theorem set5_other {k : Nat} (hk : k ≠ b) (v0 v1 v2 v3 v4 : Value) :
    (((((w.setCell ⟨b, 0, none⟩ v0).setCell ⟨b, 1, none⟩ v1).setCell ⟨b, 2, none⟩ v2).setCell ⟨b, 3, none⟩ v3).setCell ⟨b, 4, none⟩ v4).heap[k]? = w.heap[k]? := by
  rw [Below.heap_setCell _ _ _ k hk, Below.heap_setCell _ _ _ k hk, Below.heap_setCell _ _ _ k hk, Below.heap_setCell _ _ _ k hk, Below.heap_setCell _ _ _ k hk]
/-- The world behind such a store. -/
structure Set5 (w : World) (b : Nat) (T : TypeId) (v0 v1 v2 v3 v4 : Value) (w2 : World) : Prop where
  blk : w2.heap[b]? = some (.cells #[v0, v1, v2, v3, v4] T (0, 0))
  other : ∀ k, k ≠ b → w2.heap[k]? = w.heap[k]?
  size : w2.heap.size = w.heap.size
  fr : Fr (· = b) w.heap.size w w2
theorem set5 (h : w.heap[b]? = some (.cells #[c0, c1, c2, c3, c4] T (0, 0))) (v0 v1 v2 v3 v4 : Value) :
    Set5 w b T v0 v1 v2 v3 v4 (((((w.setCell ⟨b, 0, none⟩ v0).setCell ⟨b, 1, none⟩ v1).setCell ⟨b, 2, none⟩ v2).setCell ⟨b, 3, none⟩ v3).setCell ⟨b, 4, none⟩ v4) :=
  ⟨set5_blk h v0 v1 v2 v3 v4, fun k hk => set5_other hk v0 v1 v2 v3 v4, by simp, (((((Fr.refl (· = b) w.heap.size w).setCell (p := ⟨b, 0, none⟩) (.inr rfl) v0).setCell (p := ⟨b, 1, none⟩) (.inr rfl) v1).setCell (p := ⟨b, 2, none⟩) (.inr rfl) v2).setCell (p := ⟨b, 3, none⟩) (.inr rfl) v3).setCell (p := ⟨b, 4, none⟩) (.inr rfl) v4⟩
theorem set1_blk {w : World} {b : Nat} {c v : Value} {T : TypeId} (h : w.heap[b]? = some (.cells #[c] T (0, 0))) : (w.setCell ⟨b, 0, none⟩ v).heap[b]? = some (.cells #[v] T (0, 0)) := by
  simp only [World.setCell, Array.getElem?_modify, ↓reduceIte, h, Option.map_some]
  rfl
/-- A tree, told by one call to be small. -/
theorem small0_calls (t : Nd) (v0 v1 v2 v3 v4 : Value) (w : World) (h : IsTree w w.heap.size t v0 v1 v2 v3 v4) :
    Calls Tryz.prog 5 #[.agg #[v0, v1, v2, v3, v4]] w fun e w' => ∃ ok : Bool, e = .returned (.bool ok) ∧ (ok = true → okT 0 t ∧ cntT t ≤ 400) ∧ Below w.heap.size w w' := by
  have hb : Below w.heap.size w ((w.alloc (.cells #[v0, v1, v2, v3, v4] 25)).alloc (.cells #[.int .i64 0] 3)) := ((Below.refl _ w).alloc (Nat.le_refl _) _).alloc (by simp) _
  have hn : ((w.alloc (.cells #[v0, v1, v2, v3, v4] 25)).alloc (.cells #[.int .i64 0] 3)).heap[w.heap.size + 1]? = some (.cells #[.int .i64 0] 3 (0, 0)) := by
    have := alloc_new (w.alloc (.cells #[v0, v1, v2, v3, v4] 25)) (.cells #[.int .i64 0] 3)
    rwa [show (w.alloc (.cells #[v0, v1, v2, v3, v4] 25)).heap.size = w.heap.size + 1 by simp] at this
  have hs : w.heap.size + 2 = ((w.alloc (.cells #[v0, v1, v2, v3, v4] 25)).alloc (.cells #[.int .i64 0] 3)).heap.size := by simp
  have H : Hid (IsTree ((w.alloc (.cells #[v0, v1, v2, v3, v4] 25)).alloc (.cells #[.int .i64 0] 3)) w.heap.size t v0 v1 v2 v3 v4) := Lib.hid (h.keep (fun p hp => hb.cell hp) (Nat.le_refl _))
  have HB := Lib.hid hb
  have HN := Lib.hid hn
  have HS := Lib.hid hs
  clear h hb hn hs
  go_enter Tryz.func5, Tryz.ntmps5
  go_wp2_with fail
  refine (small_calls (cntT t) t v0 v1 v2 v3 v4 w.heap.size (w.heap.size + 1) 0 0 0 _ rfl (Nat.le_refl _) H.out (by omega) HN.out (by omega) (by omega) (by omega)).mono ?_
  rintro e w2 ⟨ok, n', rfl, h1, h2, h3⟩
  have H2 := Lib.hid h2
  have H3 := Lib.hid h3
  clear h1 h2 h3
  go_wp2_with fail
  go_ret
  refine ⟨ok, rfl, fun hok => ?_, ?_⟩
  · obtain ⟨a, b, c⟩ := H3.out hok
    exact ⟨a, by omega⟩
  · exact HB.out.trans (H2.out.below (fun k hk e => by omega) (by rw [← HS.out]; omega))

theorem isTree_leaf {w : World} {B : Nat} {k : Int} {n s : ByteArray} (hk : (Lit.int .i64 k).wf = true) (hn : n.size ≤ maxLen) (hs : s.size ≤ maxLen) : IsTree w B (.mk k n s [] []) (.int .i64 k) (.string n) (.string s) (.slice none 0 0) (.slice none 0 0) := by
  unfold IsTree
  exact ⟨rfl, rfl, rfl, hk, hn, hs, none, 0, none, 0, rfl, rfl, ⟨Nat.le_refl _, by unfold maxLen; omega, by simp, fun h => absurd rfl h⟩, Nat.le_refl _, by unfold maxLen; omega, fun h => absurd rfl h⟩
theorem isTree_one {w : World} {B b : Nat} {k : Int} {n s : ByteArray} {t : Nd} {v0 v1 v2 v3 v4 : Value} (hk : (Lit.int .i64 k).wf = true) (hn : n.size ≤ maxLen) (hs : s.size ≤ maxLen) (hb : b < B) (ht : IsTree w B t v0 v1 v2 v3 v4)
    (hc : w.heap[b]? = some (.cells #[v0, v1, v2, v3, v4] 25 (0, 0))) : IsTree w B (.mk k n s [] [t]) (.int .i64 k) (.string n) (.string s) (.slice none 0 0) (.slice (some ⟨b, 0, none⟩) 1 1) := by
  unfold IsTree
  refine ⟨rfl, rfl, rfl, hk, hn, hs, none, 0, some ⟨b, 0, none⟩, 1, rfl, rfl, ⟨Nat.le_refl _, by unfold maxLen; omega, by simp, fun h => absurd rfl h⟩, Nat.le_refl _, by unfold maxLen; omega, fun h => ⟨b, 0, rfl, hb, ?_⟩⟩
  unfold IsKids IsKids
  exact ⟨⟨v0, v1, v2, v3, v4, by rw [block_cell hc]; rfl, by rw [block_cell hc]; rfl, by rw [block_cell hc]; rfl, by rw [block_cell hc]; rfl, by rw [block_cell hc]; rfl, ht⟩, trivial⟩
theorem okL_at {d : Nat} : ∀ {ks : List Nd} {j : Nat} {t : Nd}, ks[j]? = some t → okL d ks → okT d t
  | [], _, _, h, _ => by simp at h
  | x :: xs, 0, t, h, hk => by simp at h; subst h; unfold okL at hk; exact hk.1
  | x :: xs, j + 1, t, h, hk => by unfold okL at hk; exact okL_at (ks := xs) (j := j) (by simpa using h) hk.2
theorem box5 {w : World} {b : Nat} {v0 v1 v2 v3 v4 : Value} {T : TypeId} (h : w.heap[b]? = some (.cells #[v0, v1, v2, v3, v4] T (0, 0))) : w.cell? ⟨b, 0, none⟩ = some v0 ∧ w.cell? ⟨b, 1, none⟩ = some v1 ∧ w.cell? ⟨b, 2, none⟩ = some v2 ∧ w.cell? ⟨b, 3, none⟩ = some v3 ∧ w.cell? ⟨b, 4, none⟩ = some v4 := by
  refine ⟨?_, ?_, ?_, ?_, ?_⟩ <;> rw [block_cell h] <;> rfl
end
end Go.Proofs.YtbjcahhijfommaaGreatDoor.Tr
