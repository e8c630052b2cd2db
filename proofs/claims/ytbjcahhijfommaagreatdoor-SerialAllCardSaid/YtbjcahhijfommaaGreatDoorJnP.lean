/- serial.Join: texts put together: plain, and what the kids so far are in memory. -/
import Derived.Test.YtbjcahhijfommaaGreatDoorCopyS
import Derived.Laws.OwnMore
namespace Go.Proofs.YtbjcahhijfommaaGreatDoor.Tr
open Go Go.RowKit
set_option linter.unusedVariables false

/-- A node's text made longer. -/
def addText : Nd → ByteArray → Nd | .mk k n s al ks, x => .mk k n (s ++ x) al ks
def fitsOn (x : Nd) (s : ByteArray) : Bool := decide (x.kind = 3 ∧ x.text.size + s.size ≤ 4096)
/-- One kid more. -/
def joinAt (acc : List Nd) (k jk : Nd) : List Nd :=
  if k.kind = 3 then (if k.text = ⟨#[]⟩ then acc else
    match acc.getLast? with
    | some x => if fitsOn x k.text then acc.dropLast ++ [addText x k.text] else acc ++ [jk]
    | none => acc ++ [jk]) else acc ++ [jk]
mutual
/-- A tree, its texts put together. -/
def joinT : Nd → Nd | .mk k n s al ks => .mk k n s al (joinL ks [])
def joinL : List Nd → List Nd → List Nd
  | [], acc => acc
  | t :: ts, acc => joinL ts (joinAt acc t (joinT t))
end
theorem joinL_append (a b : List Nd) : ∀ acc, joinL (a ++ b) acc = joinL b (joinL a acc) := by
  induction a with
  | nil => intro acc; rw [show joinL [] acc = acc by unfold joinL; rfl]; rfl
  | cons x xs ih => intro acc; rw [List.cons_append]; simp only [joinL]; exact ih _
/-- The kids so far. -/
def accJ (ks : List Nd) (j : Nat) : List Nd := joinL (ks.take j) []
theorem accJ_zero (ks : List Nd) : accJ ks 0 = [] := by unfold accJ; rw [List.take_zero]; unfold joinL; rfl
theorem accJ_succ {ks : List Nd} {j : Nat} {t : Nd} (h : ks[j]? = some t) : accJ ks (j + 1) = joinAt (accJ ks j) t (joinT t) := by
  unfold accJ
  rw [List.take_add_one, h]
  show joinL (ks.take j ++ [t]) [] = _
  rw [joinL_append]
  simp only [joinL]
theorem accJ_all (ks : List Nd) : accJ ks ks.length = joinL ks [] := by unfold accJ; rw [List.take_length]
theorem joinAt_other {acc : List Nd} {k jk : Nd} (h : k.kind ≠ 3) : joinAt acc k jk = acc ++ [jk] := by unfold joinAt; rw [if_neg h]
theorem joinAt_none {acc : List Nd} {k jk : Nd} (h : k.kind = 3) (h2 : k.text = ⟨#[]⟩) : joinAt acc k jk = acc := by unfold joinAt; rw [if_pos h, if_pos h2]
theorem joinAt_first {k jk : Nd} (h : k.kind = 3) (h2 : k.text ≠ ⟨#[]⟩) : joinAt [] k jk = [jk] := by unfold joinAt; rw [if_pos h, if_neg h2]; rfl
theorem joinAt_on {acc : List Nd} {x k jk : Nd} (h : k.kind = 3) (h2 : k.text ≠ ⟨#[]⟩) (h3 : fitsOn x k.text = true) : joinAt (acc ++ [x]) k jk = acc ++ [addText x k.text] := by
  unfold joinAt; rw [if_pos h, if_neg h2]; simp [h3]
theorem joinAt_off {acc : List Nd} {x k jk : Nd} (h : k.kind = 3) (h2 : k.text ≠ ⟨#[]⟩) (h3 : fitsOn x k.text = false) : joinAt (acc ++ [x]) k jk = acc ++ [x] ++ [jk] := by
  unfold joinAt; rw [if_pos h, if_neg h2]; simp [h3]
theorem joinAt_len (acc : List Nd) (k jk : Nd) : (joinAt acc k jk).length ≤ acc.length + 1 := by
  unfold joinAt
  repeat' split
  all_goals simp
theorem joinL_len (ks : List Nd) : ∀ acc, (joinL ks acc).length ≤ acc.length + ks.length := by
  induction ks with
  | nil => intro acc; unfold joinL; simp
  | cons x xs ih => intro acc; unfold joinL; have := ih (joinAt acc x (joinT x)); have := joinAt_len acc x (joinT x); rw [List.length_cons]; omega
theorem accJ_len (ks : List Nd) (j : Nat) : (accJ ks j).length ≤ ks.length := by
  unfold accJ
  have := joinL_len (ks.take j) []
  rw [List.length_take] at this
  simp at this
  omega

/-- The blocks that the kids so far may lie in. -/
def JnS (Bt B : Nat) (wr : World) (kv : Value) (c : Nat) : Prop := (c < Bt ∨ B ≤ c) ∧ c < wr.heap.size ∧ kv.ownBlock ≠ some c
structure JRel (acc : List Nd) (Bt B : Nat) (kv : Value) (xs : List Value) (w1 wr : World) : Prop where
  row : wr.ownsRow B 25 5 kv acc.length xs
  kids : KidRow wr (JnS Bt B wr kv) acc xs
  BtB : Bt ≤ B
  BW : B = w1.heap.size
  bel : Below w1.heap.size w1 wr
theorem KidRow.push {w : World} {S : Nat → Prop} {ks : List Nd} {xs : List Value} {u : Nd} {x0 x1 x2 x3 x4 : Value} (h : KidRow w S ks xs) (hx : xs.length = ks.length * 5) (ht : TreeIn w S u x0 x1 x2 x3 x4) : KidRow w S (ks ++ [u]) (xs ++ [x0, x1, x2, x3, x4]) := by
  have h1 : KidRow w S ((ks ++ [u]).take ks.length) xs := by rw [List.take_left']; exact h; rfl
  have h2 := h1.snoc hx (by simp) ht
  rwa [List.take_of_length_le (by simp)] at h2
theorem jn_skip {acc : List Nd} {Bt B : Nat} {kv : Value} {xs : List Value} {w1 wr w3 : World} (h : JRel acc Bt B kv xs w1 wr) (hb3 : Below wr.heap.size wr w3) : JRel acc Bt B kv xs w1 w3 :=
  ⟨row_of_heap h.row fun g hg => hb3.block g (h.row.lt g hg).2, h.kids.keep fun c ⟨h1, h2, h3⟩ => ⟨⟨h1, Nat.lt_of_lt_of_le h2 hb3.size, h3⟩, fun o => hb3.cell h2⟩, h.BtB, h.BW, h.bel.trans (hb3.mono h.bel.size)⟩
theorem jn_push {acc : List Nd} {Bt B : Nat} {kv v' : Value} {xs : List Value} {w1 wr w3 w5 : World} {u : Nd} {x0 x1 x2 x3 x4 : Value}
    (h : JRel acc Bt B kv xs w1 wr) (hb3 : Below wr.heap.size wr w3) (ht : TreeIn w3 (fun c => (c < Bt ∨ wr.heap.size ≤ c) ∧ c < w3.heap.size) u x0 x1 x2 x3 x4)
    (hrow : w5.ownsRow B 25 5 v' (acc.length + 1) (xs ++ [x0, x1, x2, x3, x4])) (hg : w3.grownBy w5 kv.ownBlock) (hat : v'.ownBlock = kv.ownBlock ∨ v'.ownBlock = some w3.heap.size) :
    JRel (acc ++ [u]) Bt B v' (xs ++ [x0, x1, x2, x3, x4]) w1 w5 := by
  have hs3 := hb3.size
  have hs5 := hg.size
  have hB : B ≤ wr.heap.size := by rw [h.BW]; exact h.bel.size
  have hkl : ∀ g, kv.ownBlock = some g → B ≤ g ∧ g < wr.heap.size := fun g hg => h.row.lt g hg
  have hvc : ∀ c, c < w3.heap.size → kv.ownBlock ≠ some c → v'.ownBlock ≠ some c := fun c hc hck => by
    rcases hat with e | e <;> rw [e]
    · exact hck
    · intro e; injection e with e; omega
  have hBtB := h.BtB
  refine ⟨by rw [List.length_append]; exact hrow, (h.kids.keep fun c ⟨h1, h2, h3⟩ => ⟨⟨h1, by omega, hvc c (by omega) h3⟩, fun o => cell_of_heap ((hg.block c (by omega) fun e => h3 e.symm).trans (hb3.block c h2)) o⟩).push (by rw [h.row.1]) (ht.keep fun c ⟨h1, h2⟩ => ?_), h.BtB, h.BW, ?_⟩
  · have hck : kv.ownBlock ≠ some c := fun e => by have := hkl c e; omega
    exact ⟨⟨by omega, by omega, hvc c h2 hck⟩, fun o => cell_of_heap (hg.block c h2 fun e => hck e.symm) o⟩
  · have h3 : Below w1.heap.size w1 w3 := h.bel.trans (hb3.mono h.bel.size)
    exact h3.grown hg h3.size fun k hk => by rw [← h.BW]; exact (hkl k hk).1
theorem jn_add {acc : List Nd} {Bt B g cap : Nat} {xs : List Value} {w1 wr : World} {x : Nd} {s : ByteArray} (h : JRel (acc ++ [x]) Bt B (.slice (some ⟨g, 0, none⟩) (acc.length + 1) cap) xs w1 wr) (hs : (x.text ++ s).size ≤ maxLen) :
    JRel (acc ++ [addText x s]) Bt B (.slice (some ⟨g, 0, none⟩) (acc.length + 1) cap) (xs.set (acc.length * 5 + 2) (.string (x.text ++ s))) w1 (wr.setCell ⟨g, acc.length * 5 + 2, none⟩ (.string (x.text ++ s))) := by
  have hl : (acc ++ [x]).length = acc.length + 1 := by simp
  have hr := h.row
  rw [hl] at hr
  obtain ⟨h1, h2⟩ := hr.stored (acc.length * 5 + 2) (.string (x.text ++ s))
  have hkl := hr.lt g rfl
  have hK : KidRow (wr.setCell ⟨g, acc.length * 5 + 2, none⟩ (.string (x.text ++ s))) (JnS Bt B (wr.setCell ⟨g, acc.length * 5 + 2, none⟩ (.string (x.text ++ s))) (.slice (some ⟨g, 0, none⟩) (acc.length + 1) cap)) (acc ++ [x]) xs :=
    h.kids.keep fun c ⟨h3, h4, h5⟩ => ⟨⟨h3, Nat.lt_of_lt_of_le h4 h2.size, h5⟩, fun o => cell_of_heap (h2.block c h4 fun e => h5 e.symm) o⟩
  refine ⟨by rw [List.length_append]; exact h1, fun i t hi => ?_, h.BtB, h.BW, h.bel.grown h2 h.bel.size fun k hk => by rw [← h.BW]; injection hk with hk; omega⟩
  rcases Nat.lt_or_ge i acc.length with hil | hil
  · obtain ⟨v0, v1, v2, v3, v4, c0, c1, c2, c3, c4, c5⟩ := hK i t (by rw [List.getElem?_append_left hil] at hi ⊢; exact hi)
    exact ⟨v0, v1, v2, v3, v4, by rw [List.getElem?_set_ne (by omega)]; exact c0, by rw [List.getElem?_set_ne (by omega)]; exact c1, by rw [List.getElem?_set_ne (by omega)]; exact c2, by rw [List.getElem?_set_ne (by omega)]; exact c3, by rw [List.getElem?_set_ne (by omega)]; exact c4, c5⟩
  · have hi2 := (List.getElem?_eq_some_iff.1 hi).1
    rw [List.length_append] at hi2
    obtain rfl : i = acc.length := by simp at hi2; omega
    rw [List.getElem?_append_right (Nat.le_refl _), Nat.sub_self] at hi
    simp at hi
    subst hi
    obtain ⟨v0, v1, v2, v3, v4, c0, c1, c2, c3, c4, c5⟩ := hK acc.length x (by simp)
    have hlt : acc.length * 5 + 2 < xs.length := by rw [hr.1]; omega
    cases x with
    | mk k n tx al ks =>
      unfold addText
      unfold TreeIn at c5 ⊢
      obtain ⟨rfl, rfl, rfl, d3, d4, d5, A, ac, K, kc, rfl, rfl, d8, d9, d10, d11⟩ := c5
      exact ⟨_, _, _, _, _, by rw [List.getElem?_set_ne (by omega)]; exact c0, by rw [List.getElem?_set_ne (by omega)]; exact c1, by rw [List.getElem?_set_self hlt]; rfl, by rw [List.getElem?_set_ne (by omega)]; exact c3, by rw [List.getElem?_set_ne (by omega)]; exact c4, rfl, rfl, rfl, d3, d4, hs, A, ac, K, kc, rfl, rfl, d8, d9, d10, d11⟩
/-- The last kid so far, where it lies. -/
theorem jn_last {acc : List Nd} {Bt B : Nat} {kv : Value} {xs : List Value} {w1 wr : World} {x : Nd} (h : JRel (acc ++ [x]) Bt B kv xs w1 wr) :
    ∃ g cap, kv = .slice (some ⟨g, 0, none⟩) (acc.length + 1) cap ∧ wr.cell? ⟨g, acc.length * 5, none⟩ = some (.int .i64 x.kind) ∧ wr.cell? ⟨g, acc.length * 5 + 2, none⟩ = some (.string x.text) ∧ wr.frozen? ⟨g, acc.length * 5 + 2, none⟩ = false ∧ x.text.size ≤ maxLen := by
  have hr := h.row
  rw [show (acc ++ [x]).length = acc.length + 1 by simp] at hr
  obtain ⟨g, cap, rfl⟩ := row_form hr (by omega)
  obtain ⟨v0, v1, v2, v3, v4, c0, c1, c2, c3, c4, c5⟩ := h.kids acc.length x (by simp)
  refine ⟨g, cap, rfl, ?_, ?_, hr.frozenAt _, ?_⟩
  · rw [hr.cellAt _ (by omega), c0]
    cases x; unfold TreeIn at c5; rw [c5.1]; rfl
  · rw [hr.cellAt _ (by omega), c2]
    cases x; unfold TreeIn at c5; rw [c5.2.2.1]; rfl
  · cases x; unfold TreeIn at c5; exact c5.2.2.2.2.2.1
theorem attrs_low {w : World} {B : Nat} {al : List (ByteArray × ByteArray)} {A : Option Addr} {ac : Nat} (h : IsAttrs w B al A ac) : AttrsIn w (fun c => c < B) al A ac := by
  obtain ⟨h1, h2, h3, h4⟩ := h
  exact ⟨h1, h2, h3, fun hn => by obtain ⟨b, off, e, hb, hc⟩ := h4 hn; exact ⟨b, off, e, hb, hc⟩⟩
def JoinEnd (Bt : Nat) (t : Nd) (w : World) (e : Ending) (w' : World) : Prop := ∃ x0 x1 x2 x3 x4, e = .returned (.agg #[x0, x1, x2, x3, x4]) ∧ TreeIn w' (fun c => (c < Bt ∨ w.heap.size ≤ c) ∧ c < w'.heap.size) (joinT t) x0 x1 x2 x3 x4 ∧ Below w.heap.size w w'
theorem nil_or_snoc (l : List Nd) : l = [] ∨ ∃ init x, l = init ++ [x] := by
  rcases l.eq_nil_or_concat with h | ⟨i, x, h⟩
  · exact .inl h
  · exact .inr ⟨i, x, by rw [h, List.concat_eq_append]⟩
attribute [irreducible] accJ
end Go.Proofs.YtbjcahhijfommaaGreatDoor.Tr
