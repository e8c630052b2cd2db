/- Attributes copied. -/
import Derived.Test.YtcacgbdnegmfnaaPre
import Derived.Maps.AppendAt
import Derived.OwnWalk
import Derived.WalkSpells
import Derived.Lib.SliceRun
import Derived.WalkLawsBesides
import Derived.Outline
namespace Go.Proofs.Ytcacgbdnegmfnaa.Tr
open Go Go.RowKit
set_option linter.unusedVariables false

def cellsA (al : List (ByteArray × ByteArray)) : List Value := al.flatMap fun x => [.string x.1, .string x.2]
theorem cellsA_length : ∀ al, (cellsA al).length = al.length * 2
  | [] => rfl
  | x :: xs => by have := cellsA_length xs; simp [cellsA] at this ⊢; omega
theorem cellsA_at : ∀ (al : List (ByteArray × ByteArray)) (i : Nat) (x : ByteArray × ByteArray), al[i]? = some x → (cellsA al)[i * 2]? = some (.string x.1) ∧ (cellsA al)[i * 2 + 1]? = some (.string x.2)
  | [], i, x, h => by simp at h
  | y :: ys, 0, x, h => by simp at h; subst h; simp [cellsA]
  | y :: ys, i + 1, x, h => by
    have := cellsA_at ys i x (by simpa using h)
    have e : cellsA (y :: ys) = .string y.1 :: .string y.2 :: cellsA ys := by simp [cellsA]
    rw [e, show (i + 1) * 2 = i * 2 + 1 + 1 by omega, show i * 2 + 1 + 1 + 1 = (i * 2 + 1) + 1 + 1 by omega]
    simpa using this
theorem cellsA_of : ∀ (al : List (ByteArray × ByteArray)) (j : Nat) (u : Value), (cellsA al)[j]? = some u → ∃ i x, al[i]? = some x ∧ ((j = i * 2 ∧ u = .string x.1) ∨ (j = i * 2 + 1 ∧ u = .string x.2))
  | [], j, u, h => by simp [cellsA] at h
  | y :: ys, 0, u, h => by simp [cellsA] at h; exact ⟨0, y, rfl, .inl ⟨rfl, h.symm⟩⟩
  | y :: ys, 1, u, h => by simp [cellsA] at h; exact ⟨0, y, rfl, .inr ⟨rfl, h.symm⟩⟩
  | y :: ys, j + 2, u, h => by
    have e : cellsA (y :: ys) = .string y.1 :: .string y.2 :: cellsA ys := by simp [cellsA]
    rw [e] at h
    obtain ⟨i, x, hx, h2⟩ := cellsA_of ys j u (by simpa using h)
    exact ⟨i + 1, x, by simpa using hx, h2.imp (fun ⟨a, b⟩ => ⟨by omega, b⟩) (fun ⟨a, b⟩ => ⟨by omega, b⟩)⟩
theorem attr_info : (Try.prog.info? 51).map (fun i => (i.zero, i.size, i.bytes)) = some (some (.agg #[.string ByteArray.empty, .string ByteArray.empty]), 2, 32) := by kernel_rfl
theorem isAttrs_row {w : World} {B0 g cap : Nat} {al : List (ByteArray × ByteArray)} (hrow : w.ownsRow B0 51 2 (.slice (some ⟨g, 0, none⟩) al.length cap) al.length (cellsA al)) (hb : ∀ a ∈ al, a.1.size ≤ maxLen ∧ a.2.size ≤ maxLen) : IsAttrs w w.heap.size al (some ⟨g, 0, none⟩) cap := by
  have hg := (hrow.lt g rfl).2
  have hc := hrow.cells (g := g) rfl
  rcases hrow.2 with ⟨h1, _⟩ | ⟨g', cap', cur, h1, h5, h6, h7, h8, _⟩
  · cases h1
  · injection h1 with h1a h1b h1c
    subst h1c
    refine ⟨h7, h8, hb, fun _ => ⟨g, 0, rfl, hg, fun i x hx => ?_⟩⟩
    obtain ⟨e0, e1⟩ := cellsA_at al i x hx
    have a0 := hc _ _ e0
    have a1 := hc _ _ e1
    rw [add_flat] at a0 a1
    exact ⟨a0, by rw [Nat.add_assoc]; exact a1⟩
def CloneEnd (al : List (ByteArray × ByteArray)) (w : World) (e : Ending) (w' : World) : Prop :=
  ∃ A ac, e = .returned (.slice A al.length ac) ∧ IsAttrs w' w'.heap.size al A ac ∧ Below w.heap.size w w' ∧ ∀ g, (Value.slice A al.length ac).ownBlock = some g → w.heap.size ≤ g ∧ g < w'.heap.size
set_option maxHeartbeats 2000000 in
set_option maxRecDepth 100000 in
theorem clone_calls (al : List (ByteArray × ByteArray)) (A : Option Addr) (ac B : Nat) (w : World) (h : IsAttrs w B al A ac) (hB : B ≤ w.heap.size) (hl : al.length ≤ 1000000) :
    Calls Try.prog 44 #[.slice A al.length ac] w (CloneEnd al w) := by
  obtain ⟨h1, h2, h3, h4⟩ := h
  cases A with
  | none =>
    have hnil : al = [] := by
      cases al with
      | nil => rfl
      | cons x xs => obtain ⟨b, off, e, _⟩ := h4 (by simp); cases e
    subst hnil
    clear h4
    have heq := fun (w : World) (a : Option Addr) (l c : Nat) => Lib.run_eql_slice_nil (P := Try.prog) w 22 51 a l c 0 0 Try.underlying22
    go_enter Try.func44, Try.ntmps44
    go_wp2_with fail
    go_ret
    exact ⟨none, 0, rfl, ⟨Nat.le_refl _, by unfold maxLen; omega, fun a h => by simp at h, fun h => absurd rfl h⟩, Below.refl _ _, fun g hg => by cases hg⟩
  | some ad =>
    have hnews : ∀ j u, (cellsA al)[j]? = some u → w.cell? (ad.add j) = some u := by
      intro j u hj
      obtain ⟨i, x, hx, h5⟩ := cellsA_of al j u hj
      obtain ⟨b, off, e, _, hc⟩ := h4 (by rintro rfl; simp at hx)
      injection e with e
      subst e
      rw [add_flat]
      rcases h5 with ⟨rfl, rfl⟩ | ⟨rfl, rfl⟩
      · exact (hc i x hx).1
      · rw [← Nat.add_assoc]; exact (hc i x hx).2
    have HN := Lib.hid hnews
    have H3 := Lib.hid h3
    clear h3 h4 hnews
    obtain ⟨i0, hi, hz0, hz1, hz2⟩ := info_parts attr_info
    unfold maxLen at h2
    have heq := fun (w : World) (a : Option Addr) (l c : Nat) => Lib.run_eql_slice_nil (P := Try.prog) w 22 51 a l c 0 0 Try.underlying22
    go_enter Try.func44, Try.ntmps44
    have HROW : Hid ((w.alloc (.cells #[] 51)).ownsRow w.heap.size 51 2 (.slice (some ⟨w.heap.size, 0, none⟩) 0 0) 0 []) := Lib.hid ⟨rfl, .inr ⟨_, 0, _, rfl, Nat.le_refl _, alloc_new w _, Nat.le_refl _, by unfold maxLen; omega, rfl, rfl⟩⟩
    have HN2 : Hid (∀ j u, (cellsA al)[j]? = some u → (w.alloc (.cells #[] 51)).cell? (ad.add j) = some u) := Lib.hid fun j u hj => by
      have h := HN.out j u hj
      rw [World.cell?_of_block (Below.heap_alloc w _ _ (cell_lt h).1)]; exact h
    have HONE : Hid (∀ u ∈ cellsA al, u.oneCell' = true) := Lib.hid fun u hu => by
      obtain ⟨x, _, hx⟩ := List.mem_flatMap.1 hu
      simp at hx
      rcases hx with rfl | rfl <;> rfl
    have HLEN : Hid ((cellsA al).length = al.length * 2) := Lib.hid (cellsA_length al)
    go_wp2_with (at_builtin; refine wpList_append_own_at _ rfl (.tmp 5) (.tmp 6) 22 rfl w.heap.size 51 i0 _ 2 32 Try.underlying22 hi hz0 hz1 hz2 rfl (by decide) _ _ _ rfl HROW.out ad al.length ac (cellsA al) rfl HLEN.out HN2.out HONE.out (by unfold maxLen; omega) (by omega) (by simp) ?_)
    intro v' w2 g1 g2 _ g3
    have hbel : Below w.heap.size w w2 := ((Below.refl _ w).alloc (Nat.le_refl _) _).grown g2 (by simp) fun k hk => by
      injection hk with hk
      have e : w.heap.size = k := hk
      omega
    have hblk : ∃ g cap, v' = .slice (some ⟨g, 0, none⟩) al.length cap ∧ w.heap.size ≤ g := by
      rcases g1.2 with ⟨e, _⟩ | ⟨g, cap, cur, e, hg, _⟩
      · exfalso
        rw [e] at g3
        rcases g3 with g3 | g3 <;> cases g3
      · exact ⟨g, cap, e, hg⟩
    obtain ⟨g, cap, rfl, hg⟩ := hblk
    have HA := Lib.hid (isAttrs_row g1 H3.out)
    have HBel := Lib.hid hbel
    have hg2 := (g1.lt g rfl).2
    clear g1 g2 g3 hbel
    go_wp2_with fail
    go_ret
    exact ⟨_, _, rfl, HA.out, HBel.out, fun k hk => by injection hk with hk; subst hk; exact ⟨hg, hg2⟩⟩
end Go.Proofs.Ytcacgbdnegmfnaa.Tr
