/- Attributes in new memory. -/
import Derived.Test.YtbjcahhijfommaaGreatDoorCloS
namespace Go.Proofs.YtbjcahhijfommaaGreatDoor.Tr
open Go Go.RowKit
set_option linter.unusedVariables false
theorem run_append_nn {P : Program} {w : World} (t ty e : TypeId) (i : TypeInfo) (c : Nat) (ht : P.underlying t = some (.slice e)) (hi : P.info? e = some i) :
    (Builtin.append_ #[t, t] ty #[.slice none 0 0, .slice none 0 c]).run P w = .ok (.slice none 0 0) w := by
  simp [Builtin.append_, run_underlying ht, sizeOf, typeInfo, hi, Builtin.lenOf, Builtin.firstCells]
theorem wpList_append_nn {P : Program} {w : World} {ops : Array Oper} {rest : List Oper} {o : Oper} {a : Act} {Q : Exit → Act → World → Prop} (hgd : o.guard = none) (s x : Operand) (t : TypeId)
    (ho : o.op = .call { callee := .builtin .append, args := #[s, x], argTypes := #[t, t] })
    (e : TypeId) (i : TypeInfo) (c : Nat) (ht : P.underlying t = some (.slice e)) (hi : P.info? e = some i)
    (hs : a.eval s = .slice none 0 0) (hx : a.eval x = .slice none 0 c)
    (h : wpList P ops Q rest (a.put o.dst (.slice none 0 0)) w) : wpList P ops Q (o :: rest) a w := by
  refine wpList_plain hgd fun K hK => ?_
  have hrun := run_append_nn (P := P) (w := w) t o.type e i c ht hi
  unfold Oper.wp
  simp [execOp, ho, resolve, invoke, builtin, hs, hx, hrun, Result.andThen]
  exact hK _ _ h
/-- What a copy of attributes is. -/
def AttrCp (B : Nat) (al : List (ByteArray × ByteArray)) (v : Value) (W : World) : Prop :=
  ∃ A ac, v = .slice A al.length ac ∧ IsAttrs W W.heap.size al A ac ∧ ((A = none ∧ al = []) ∨ ∃ g cur, A = some ⟨g, 0, none⟩ ∧ B ≤ g ∧ W.heap[g]? = some (.cells cur 50 (0, 0)))
def AttrEnd (al : List (ByteArray × ByteArray)) (w : World) (e : Ending) (w' : World) : Prop := ∃ v, e = .returned v ∧ AttrCp w.heap.size al v w' ∧ Below w.heap.size w w'
set_option maxHeartbeats 2000000 in
set_option maxRecDepth 100000 in
theorem attrs_calls (al : List (ByteArray × ByteArray)) (A : Option Addr) (ac B : Nat) (w : World) (h : IsAttrs w B al A ac) (hB : B ≤ w.heap.size) (hl : al.length ≤ 1000000) :
    Calls Tryz.prog 16 #[.slice A al.length ac] w (AttrEnd al w) := by
  obtain ⟨h1, h2, h3, h4⟩ := h
  obtain ⟨i0, hi, hz0, hz1, hz2⟩ := info_parts attr_info
  cases A with
  | none =>
    have hnil : al = [] := by
      cases al with
      | nil => rfl
      | cons x xs => obtain ⟨b, off, e, _⟩ := h4 (by simp); cases e
    subst hnil
    clear h4
    go_enter Tryz.func16, Tryz.ntmps16
    go_wp2_with (at_builtin; refine wpList_append_nn rfl (.const (.slice none 0 0)) (.tmp 3) 22 rfl 50 i0 ac Tryz.underlying22 hi rfl rfl ?_)
    go_ret
    exact ⟨_, rfl, ⟨none, 0, rfl, ⟨Nat.le_refl _, by unfold maxLen; omega, fun a h => by simp at h, fun h => absurd rfl h⟩, .inl ⟨rfl, rfl⟩⟩, Below.refl _ _⟩
  | some ad =>
    by_cases hal : al = []
    · subst hal
      have HN2 : Hid (∀ (j : Nat) u, ([] : List Value)[j]? = some u → w.cell? (ad.add j) = some u) := Lib.hid fun j u hj => by simp at hj
      have HROW : Hid (w.ownsRow w.heap.size 50 2 (.slice none 0 0) 0 []) := Lib.hid ⟨rfl, .inl ⟨rfl, rfl⟩⟩
      clear h3 h4
      go_enter Tryz.func16, Tryz.ntmps16
      go_wp2_with (at_builtin; refine wpList_append_own_at _ rfl (.const (.slice none 0 0)) (.tmp 3) 22 rfl w.heap.size 50 i0 _ 2 32 Tryz.underlying22 hi hz0 hz1 hz2 rfl (by decide) _ _ _ rfl HROW.out ad 0 ac [] rfl rfl HN2.out (by simp) (by unfold maxLen; omega) (by omega) (Nat.le_refl _) ?_)
      intro v' w2 g1 g2 g3
      intros
      subst g3
      have HB : Hid (Below w.heap.size w w2) := Lib.hid ((Below.refl _ w).grown g2 (Nat.le_refl _) fun k hk => by cases hk)
      clear g1 g2
      go_wp2_with fail
      go_ret
      exact ⟨_, rfl, ⟨none, 0, rfl, ⟨Nat.le_refl _, by unfold maxLen; omega, fun a h => by simp at h, fun h => absurd rfl h⟩, .inl ⟨rfl, rfl⟩⟩, HB.out⟩
    · have hnews : ∀ j u, (cellsA al)[j]? = some u → w.cell? (ad.add j) = some u := by
        intro j u hj
        obtain ⟨i, x, hx, h5⟩ := cellsA_of al j u hj
        obtain ⟨b, off, e, _, hc⟩ := h4 hal
        injection e with e
        subst e
        rw [add_flat]
        rcases h5 with ⟨rfl, rfl⟩ | ⟨rfl, rfl⟩
        · exact (hc i x hx).1
        · rw [← Nat.add_assoc]; exact (hc i x hx).2
      have HN := Lib.hid hnews
      have H3 := Lib.hid h3
      have hpos : 0 < al.length := List.length_pos_iff.2 hal
      have HNE := Lib.hid hal
      clear h3 h4 hnews hal
      unfold maxLen at h2
      have HROW : Hid (w.ownsRow w.heap.size 50 2 (.slice none 0 0) 0 []) := Lib.hid ⟨rfl, .inl ⟨rfl, rfl⟩⟩
      have HONE : Hid (∀ u ∈ cellsA al, u.oneCell' = true) := Lib.hid fun u hu => by
        obtain ⟨x, _, hx⟩ := List.mem_flatMap.1 hu
        simp at hx
        rcases hx with rfl | rfl <;> rfl
      have HLEN : Hid ((cellsA al).length = al.length * 2) := Lib.hid (cellsA_length al)
      go_enter Tryz.func16, Tryz.ntmps16
      go_wp2_with (at_builtin; refine wpList_append_own_at _ rfl (.const (.slice none 0 0)) (.tmp 3) 22 rfl w.heap.size 50 i0 _ 2 32 Tryz.underlying22 hi hz0 hz1 hz2 rfl (by decide) _ _ _ rfl HROW.out ad al.length ac (cellsA al) rfl HLEN.out HN.out HONE.out (by unfold maxLen; omega) (by omega) (Nat.le_refl _) ?_)
      intro v' w2 g1 g2 g3 g4
      have hbel : Below w.heap.size w w2 := (Below.refl _ w).grown g2 (Nat.le_refl _) fun k hk => by cases hk
      have hblk : ∃ g cap cur, v' = .slice (some ⟨g, 0, none⟩) al.length cap ∧ w.heap.size ≤ g ∧ w2.heap[g]? = some (.cells cur 50 (0, 0)) := by
        rcases g1.2 with ⟨e, _⟩ | ⟨g, cap, cur, e, hg, hcur, _⟩
        · exfalso
          exact HNE.out (g3.1 e)
        · exact ⟨g, cap, cur, e, hg, hcur⟩
      obtain ⟨g, cap, cur, rfl, hg, hcur⟩ := hblk
      have HCUR := Lib.hid hcur
      clear hcur
      have HA := Lib.hid (isAttrs_row g1 H3.out)
      have HBel := Lib.hid hbel
      have hg2 := (g1.lt g rfl).2
      clear g1 g2 g3 g4 hbel
      go_wp2_with fail
      go_ret
      exact ⟨_, rfl, ⟨_, _, rfl, HA.out, .inr ⟨g, cur, rfl, hg, HCUR.out⟩⟩, HBel.out⟩
end Go.Proofs.YtbjcahhijfommaaGreatDoor.Tr
