/- The document's Join, walked. -/
import Derived.Test.YtbjcahhijfommaaGreatDoorJnP
import Derived.Test.YtbjcahhijfommaaGreatDoorCopyS
import Derived.Test.YtbjcahhijfommaaGreatDoorSay
import Derived.Laws.OwnMore
import Derived.Test.YtbjcahhijfommaaGreatDoorKids
namespace Go.Proofs.YtbjcahhijfommaaGreatDoor.Tr
open Go Go.RowKit
set_option linter.unusedVariables false

theorem joinT_kind (t : Nd) : (joinT t).kind = t.kind := by cases t; unfold joinT; rfl
theorem joinT_text (t : Nd) : (joinT t).text = t.text := by cases t; unfold joinT; rfl
theorem addText_kind (x : Nd) (s : ByteArray) : (addText x s).kind = x.kind := by cases x; rfl
theorem addText_text (x : Nd) (s : ByteArray) : (addText x s).text = x.text ++ s := by cases x; rfl
theorem addText_join {x : Nd} (h : joinT x = x) (s : ByteArray) : joinT (addText x s) = addText x s := by
  cases x with
  | mk k n tx al ks =>
    unfold joinT at h
    unfold addText joinT
    simp only [Nd.mk.injEq, true_and] at h ⊢
    exact h
/-- What may stand behind these. -/
def okNext (l : List Nd) (y : Nd) : Prop := joinT y = y ∧ (y.kind = 3 → y.text ≠ ⟨#[]⟩ ∧ ∀ l' x, l = l' ++ [x] → fitsOn x y.text = false)
def stab (l : List Nd) : Prop := ∀ a y b, l = a ++ [y] ++ b → okNext a y
theorem stab_nil : stab [] := fun a y b h => by simp at h
theorem stab_snoc {l : List Nd} {y : Nd} (h : stab l) (hy : okNext l y) : stab (l ++ [y]) := by
  intro a z b e
  rcases nil_or_snoc b with rfl | ⟨b', w, rfl⟩
  · rw [List.append_nil] at e
    obtain ⟨h1, h2⟩ := List.append_inj' e rfl
    simp at h2
    subst h1 h2
    exact hy
  · rw [← List.append_assoc] at e
    obtain ⟨h1, h2⟩ := List.append_inj' e rfl
    exact h a z b' h1
theorem stab_init {l : List Nd} {y : Nd} (h : stab (l ++ [y])) : stab l ∧ okNext l y := by
  refine ⟨fun a z b e => h a z (b ++ [y]) (by rw [e]; simp), h l y [] (by simp)⟩
theorem stab_join (n : Nat) : ∀ l : List Nd, l.length = n → stab l → joinL l [] = l := by
  induction n with
  | zero => intro l hl _; obtain rfl := List.length_eq_zero_iff.1 hl; unfold joinL; rfl
  | succ n ih =>
    intro l hl h
    rcases nil_or_snoc l with rfl | ⟨i, y, rfl⟩
    · unfold joinL; rfl
    · obtain ⟨h1, h2, h3⟩ := stab_init h
      rw [joinL_append, ih i (by simpa using hl) h1]
      simp only [joinL]
      rw [h2]
      by_cases hk : y.kind = 3
      · obtain ⟨h4, h5⟩ := h3 hk
        rcases nil_or_snoc i with rfl | ⟨i', x, rfl⟩
        · exact joinAt_first hk h4
        · exact joinAt_off hk h4 (h5 i' x rfl)
      · exact joinAt_other hk
theorem size_ne {s : ByteArray} (h : s ≠ ⟨#[]⟩) : 0 < s.size := by
  rcases Nat.eq_zero_or_pos s.size with h0 | h0
  · exact absurd (by cases s with | mk d => simp [ByteArray.size] at h0; rw [h0]) h
  · exact h0
theorem stab_at {acc : List Nd} {k : Nd} (h : stab acc) (hk : joinT (joinT k) = joinT k) : stab (joinAt acc k (joinT k)) := by
  by_cases h3 : k.kind = 3
  · by_cases h4 : k.text = ⟨#[]⟩
    · rw [joinAt_none h3 h4]; exact h
    · rcases nil_or_snoc acc with rfl | ⟨init, x, rfl⟩
      · rw [joinAt_first h3 h4]
        refine stab_snoc (l := []) stab_nil ⟨hk, fun _ => ⟨by rw [joinT_text]; exact h4, fun l' x e => by simp at e⟩⟩
      · cases hf : fitsOn x k.text with
        | true =>
          rw [joinAt_on h3 h4 hf]
          obtain ⟨h1, h2, h5⟩ := stab_init h
          refine stab_snoc h1 ⟨addText_join h2 _, fun hx => ?_⟩
          rw [addText_kind] at hx
          obtain ⟨h6, h7⟩ := h5 hx
          rw [addText_text]
          refine ⟨fun e => ?_, fun l' z e => ?_⟩
          · have := congrArg ByteArray.size e
            rw [ByteArray.size_append] at this
            have h8 := size_ne h6
            have : x.text.size + k.text.size = 0 := this
            omega
          · have h8 := h7 l' z e
            unfold fitsOn at h8 ⊢
            have h9 := of_decide_eq_false h8
            refine decide_eq_false ?_
            rintro ⟨a1, a2⟩
            rw [ByteArray.size_append] at a2
            exact h9 ⟨a1, by omega⟩
        | false =>
          rw [joinAt_off h3 h4 hf]
          refine stab_snoc h ⟨hk, fun _ => ⟨by rw [joinT_text]; exact h4, fun l' z e => ?_⟩⟩
          obtain ⟨_, e2⟩ := List.append_inj' e rfl
          simp at e2
          subst e2
          rw [joinT_text]; exact hf
  · rw [joinAt_other h3]
    exact stab_snoc h ⟨hk, fun hx => by rw [joinT_kind] at hx; exact absurd hx h3⟩
mutual
/-- Joined twice is joined once. -/
theorem join_join : ∀ t, joinT (joinT t) = joinT t
  | .mk k n s al ks => by
    have h := joins_stab ks [] stab_nil
    unfold joinT
    simp only [joinT]
    rw [stab_join _ _ rfl h]
theorem joins_stab : ∀ ks acc, stab acc → stab (joinL ks acc)
  | [], acc, h => by unfold joinL; exact h
  | t :: ts, acc, h => by
    unfold joinL
    exact joins_stab ts _ (stab_at h (join_join t))
end
theorem cnt_add (x : Nd) (s : ByteArray) : cntT (addText x s) = cntT x := by cases x; unfold addText cntT; rfl
theorem cntL_app1 (l : List Nd) (y : Nd) : cntL (l ++ [y]) = cntL l + cntT y := by
  induction l with
  | nil => simp [cntL]
  | cons x xs ih => simp only [List.cons_append, cntL, ih]; omega
theorem cnt_at (acc : List Nd) (k jk : Nd) : cntL (joinAt acc k jk) ≤ cntL acc + cntT jk := by
  by_cases h3 : k.kind = 3
  · by_cases h4 : k.text = ⟨#[]⟩
    · rw [joinAt_none h3 h4]; omega
    · rcases nil_or_snoc acc with rfl | ⟨init, x, rfl⟩
      · rw [joinAt_first h3 h4]; simp [cntL]
      · cases hf : fitsOn x k.text with
        | true => rw [joinAt_on h3 h4 hf, cntL_app1, cntL_app1, cnt_add]; omega
        | false => rw [joinAt_off h3 h4 hf, cntL_app1]; omega
  · rw [joinAt_other h3, cntL_app1]; omega
mutual
theorem cnt_join : ∀ t, cntT (joinT t) ≤ cntT t
  | .mk k n s al ks => by unfold joinT cntT; have := cnt_joins ks []; simp [cntL] at this; omega
theorem cnt_joins : ∀ ks acc, cntL (joinL ks acc) ≤ cntL acc + cntL ks
  | [], acc => by unfold joinL; simp [cntL]
  | t :: ts, acc => by
    unfold joinL
    have h1 := cnt_joins ts (joinAt acc t (joinT t))
    have h2 := cnt_at acc t (joinT t)
    have h3 := cnt_join t
    simp only [cntL]
    omega
end
theorem attL_app {l : List Nd} {y : Nd} : attL (l ++ [y]) ↔ attL l ∧ attT y := by
  induction l with
  | nil => simp [attL]
  | cons x xs ih => simp only [List.cons_append, attL, ih]; constructor <;> intro h <;> simp_all
theorem att_add {x : Nd} (h : attT x) (s : ByteArray) : attT (addText x s) := by cases x; unfold addText; unfold attT at h ⊢; exact h
theorem att_at {acc : List Nd} {k jk : Nd} (h : attL acc) (hj : attT jk) : attL (joinAt acc k jk) := by
  by_cases h3 : k.kind = 3
  · by_cases h4 : k.text = ⟨#[]⟩
    · rw [joinAt_none h3 h4]; exact h
    · rcases nil_or_snoc acc with rfl | ⟨init, x, rfl⟩
      · rw [joinAt_first h3 h4]; unfold attL; exact ⟨hj, by unfold attL; trivial⟩
      · cases hf : fitsOn x k.text with
        | true => rw [joinAt_on h3 h4 hf]; obtain ⟨h5, h6⟩ := attL_app.1 h; exact attL_app.2 ⟨h5, att_add h6 _⟩
        | false => rw [joinAt_off h3 h4 hf]; exact attL_app.2 ⟨h, hj⟩
  · rw [joinAt_other h3]; exact attL_app.2 ⟨h, hj⟩
mutual
theorem att_join : ∀ t, attT t → attT (joinT t)
  | .mk k n s al ks, h => by unfold attT at h; unfold joinT attT; exact ⟨h.1, att_joins ks [] h.2 (by unfold attL; trivial)⟩
theorem att_joins : ∀ ks acc, attL ks → attL acc → attL (joinL ks acc)
  | [], acc, _, h => by unfold joinL; exact h
  | t :: ts, acc, hk, h => by
    unfold attL at hk
    unfold joinL
    exact att_joins ts _ hk.2 (att_at h (att_join t hk.1))
end
end Go.Proofs.YtbjcahhijfommaaGreatDoor.Tr
namespace Go.Proofs.YtbjcahhijfommaaGreatDoor.Tr
open Go Go.RowKit
set_option linter.unusedVariables false
set_option maxRecDepth 100000
/-- append of attributes to nothing. -/
theorem run_append_attrs (al : List (ByteArray × ByteArray)) (A : Option Addr) (ac B : Nat) (ty : TypeId) (w : World) (h : IsAttrs w B al A ac) (hl : al.length ≤ 1000000) :
    ∃ v' w', (Builtin.append_ #[22, 22] ty #[.slice none 0 0, .slice A al.length ac]).run Tryz.prog w = .ok v' w' ∧ AttrCp w.heap.size al v' w' ∧ Below w.heap.size w w' := by
  obtain ⟨h1, h2, h3, h4⟩ := h
  obtain ⟨i0, hi, hz0, hz1, hz2⟩ := info_parts attr_info
  cases A with
  | none =>
    have hnil : al = [] := by
      cases al with
      | nil => rfl
      | cons x xs => obtain ⟨b, off, e, _⟩ := h4 (by simp); cases e
    subst hnil
    exact ⟨_, _, run_append_nn 22 ty 50 i0 ac Tryz.underlying22 hi, ⟨none, 0, rfl, ⟨Nat.le_refl _, by unfold maxLen; omega, fun a h => by simp at h, fun h => absurd rfl h⟩, .inl ⟨rfl, rfl⟩⟩, Below.refl _ _⟩
  | some ad =>
    have hnews : ∀ j u, (cellsA al)[j]? = some u → w.cell? (ad.add j) = some u := by
      intro j u hj
      obtain ⟨i, x, hx, h5⟩ := cellsA_of al j u hj
      obtain ⟨b, off, e, _, hc⟩ := h4 (by rintro rfl; simp at hx)
      injection e with e
      subst e
      rw [add_flat]
      rcases h5 with ⟨rfl, rfl⟩ | ⟨rfl, rfl⟩
      · exact (hc i x hx).1
      · rw [← Nat.add_assoc]; exact (hc i x hx).2
    have hone : ∀ u ∈ cellsA al, u.oneCell' = true := fun u hu => by
      obtain ⟨x, _, hx⟩ := List.mem_flatMap.1 hu
      simp at hx
      rcases hx with rfl | rfl <;> rfl
    obtain ⟨v', w', hr, g1, g2, g3, g4⟩ := run_append_own_at (P := Tryz.prog) w w.heap.size 22 ty 50 i0 _ 2 32 Tryz.underlying22 hi hz0 hz1 hz2 rfl (by decide) (.slice none 0 0) 0 [] ⟨rfl, .inl ⟨rfl, rfl⟩⟩ ad al.length ac (cellsA al) (cellsA_length al) hnews hone (by unfold maxLen; omega) (by omega) (Nat.le_refl _)
    refine ⟨v', w', hr, ?_, (Below.refl _ w).grown g2 (Nat.le_refl _) fun k hk => by cases hk⟩
    rw [Nat.zero_add, List.nil_append] at g1
    rcases g1.2 with ⟨e, e2⟩ | ⟨g, cap, cur, e, hg, hcur, _⟩
    · have : al = [] := List.length_eq_zero_iff.1 e2
      subst this
      exact ⟨none, 0, e, ⟨Nat.le_refl _, by unfold maxLen; omega, fun a h => by simp at h, fun h => absurd rfl h⟩, .inl ⟨rfl, rfl⟩⟩
    · subst e
      exact ⟨_, _, rfl, isAttrs_row g1 h3, .inr ⟨g, cur, rfl, hg, hcur⟩⟩
theorem upMany_append {P : Program} {S : Kr.Spec} {W : World} {a : Act} {o : Oper} (s x : Operand) (t : TypeId) (ho : o.op = .call { callee := .builtin .append, args := #[s, x], argTypes := #[t, t] })
    (h : ∃ v' w', (Builtin.append_ #[t, t] o.type #[a.eval s, a.eval x]).run P W = .ok v' w' ∧ S v' w' ∧ Below W.heap.size W w') : Kr.upMany P S W ((execOp a.eval o).run P W) := by
  obtain ⟨v', w', hr, h1, h2⟩ := h
  unfold execOp
  simp only [ho, resolve, invoke, builtin, Sem.run_bind, Sem.run_pure, Result.andThen_ok, List.map_toArray, List.map_cons, List.map_nil, hr]
  exact ⟨h1, h2⟩
end Go.Proofs.YtbjcahhijfommaaGreatDoor.Tr
namespace Go.Proofs.YtbjcahhijfommaaGreatDoor.Tr
open Go Go.RowKit
set_option linter.unusedVariables false
def lowT (l : List Nd) : Prop := ∀ x ∈ l, x.text.size ≤ 6000
theorem low_app {l : List Nd} {y : Nd} : lowT (l ++ [y]) ↔ lowT l ∧ y.text.size ≤ 6000 := by
  constructor
  · intro h; exact ⟨fun x hx => h x (List.mem_append_left _ hx), h y (by simp)⟩
  · rintro ⟨h1, h2⟩ x hx
    rcases List.mem_append.1 hx with hx | hx
    · exact h1 x hx
    · simp at hx; subst hx; exact h2
theorem low_at {acc : List Nd} {k : Nd} (h : lowT acc) (hk : k.text.size ≤ 6000) : lowT (joinAt acc k (joinT k)) := by
  have hj : (joinT k).text.size ≤ 6000 := by rw [joinT_text]; exact hk
  by_cases h3 : k.kind = 3
  · by_cases h4 : k.text = ⟨#[]⟩
    · rw [joinAt_none h3 h4]; exact h
    · rcases nil_or_snoc acc with rfl | ⟨init, x, rfl⟩
      · rw [joinAt_first h3 h4]; intro y hy; simp at hy; subst hy; exact hj
      · cases hf : fitsOn x k.text with
        | true =>
          rw [joinAt_on h3 h4 hf]
          refine low_app.2 ⟨(low_app.1 h).1, ?_⟩
          rw [addText_text, ByteArray.size_append]
          unfold fitsOn at hf
          have := of_decide_eq_true hf
          omega
        | false => rw [joinAt_off h3 h4 hf]; exact low_app.2 ⟨h, hj⟩
  · rw [joinAt_other h3]; exact low_app.2 ⟨h, hj⟩
theorem fit_text {t : Nd} (h : fitT t) : t.text.size ≤ 6000 := by cases t; unfold fitT at h; exact h.2.2.1
theorem low_acc {ks : List Nd} (h : fitL ks) (j : Nat) (hj : j ≤ ks.length) : lowT (accJ ks j) := by
  induction j with
  | zero => rw [accJ_zero]; intro x hx; simp at hx
  | succ j ih =>
    obtain ⟨t, ht⟩ : ∃ t, ks[j]? = some t := ⟨_, List.getElem?_eq_getElem (by omega)⟩
    rw [accJ_succ ht]
    exact low_at (ih (by omega)) (fit_text (fitL_at h ht))
structure RJ (acc : List Nd) (al : List (ByteArray × ByteArray)) (c0 c1 c2 : Value) (A : Option Addr) (ac B b : Nat) (kv : Value) (xs : List Value) (w1 wr : World) : Prop where
  blk : wr.heap[b]? = some (.cells #[c0, c1, c2, .slice A al.length ac, kv] 25 (0, 0))
  row : wr.ownsRow B 25 5 kv acc.length xs
  ne : kv.ownBlock ≠ some b
  kids : KidRow wr (CpS B wr b kv) acc xs
  attrs : AttrsIn wr (CpS B wr b kv) al A ac
  bB : B ≤ b
  BW : B = w1.heap.size
  bel : Below w1.heap.size w1 wr
section
variable {acc : List Nd} {al : List (ByteArray × ByteArray)} {c0 c1 c2 : Value} {A : Option Addr} {ac B b : Nat} {kv : Value} {xs : List Value} {w1 wr : World}
theorem rj_skip {w3 : World} (h : RJ acc al c0 c1 c2 A ac B b kv xs w1 wr) (hb3 : Below wr.heap.size wr w3) : RJ acc al c0 c1 c2 A ac B b kv xs w1 w3 :=
  have S1 : ∀ c, CpS B wr b kv c → CpS B w3 b kv c ∧ ∀ o, w3.cell? ⟨c, o, none⟩ = wr.cell? ⟨c, o, none⟩ := fun c ⟨h1, h2, h3, h4⟩ => ⟨⟨h1, Nat.lt_of_lt_of_le h2 hb3.size, h3, h4⟩, fun o => hb3.cell h2⟩
  ⟨(hb3.block _ (lt_of_block h.blk)).trans h.blk, row_of_heap h.row fun g hg => hb3.block g (h.row.lt g hg).2, h.ne, h.kids.keep S1, h.attrs.keep S1, h.bB, h.BW, h.bel.trans (hb3.mono h.bel.size)⟩
theorem rj_push {v' : Value} {w3 w5 : World} {u : Nd} {x0 x1 x2 x3 x4 : Value}
    (h : RJ acc al c0 c1 c2 A ac B b kv xs w1 wr) (hb3 : Below wr.heap.size wr w3) (ht : TreeIn w3 (fun c => wr.heap.size ≤ c ∧ c < w3.heap.size) u x0 x1 x2 x3 x4)
    (hrow : w5.ownsRow B 25 5 v' (acc.length + 1) (xs ++ [x0, x1, x2, x3, x4])) (hg : w3.grownBy w5 kv.ownBlock) (hat : v'.ownBlock = kv.ownBlock ∨ v'.ownBlock = some w3.heap.size) :
    RJ (acc ++ [u]) al c0 c1 c2 A ac B b v' (xs ++ [x0, x1, x2, x3, x4]) w1 (w5.setCell ⟨b, 4, none⟩ v') := by
  have hbl := lt_of_block h.blk
  have hs3 := hb3.size
  have hs5 := hg.size
  have hkl : ∀ g, kv.ownBlock = some g → g < wr.heap.size := fun g hg => (h.row.lt g hg).2
  have hnb : v'.ownBlock ≠ some b := by
    rcases hat with e | e <;> rw [e]
    · exact h.ne
    · intro e; injection e with e; omega
  have old : ∀ c, c < wr.heap.size → c ≠ b → kv.ownBlock ≠ some c → (w5.setCell ⟨b, 4, none⟩ v').heap[c]? = wr.heap[c]? := fun c hc hcb hck =>
    (Below.heap_setCell _ _ _ c hcb).trans ((hg.block c (by omega) (fun e => hck e.symm)).trans (hb3.block c hc))
  have new : ∀ c, wr.heap.size ≤ c → c < w3.heap.size → (w5.setCell ⟨b, 4, none⟩ v').heap[c]? = w3.heap[c]? := fun c hc hc3 =>
    (Below.heap_setCell _ _ _ c (by show c ≠ b; omega)).trans (hg.block c hc3 (fun e => by have := hkl c e.symm; omega))
  have hsz : (w5.setCell ⟨b, 4, none⟩ v').heap.size = w5.heap.size := by simp
  have hvc : ∀ c, c < w3.heap.size → kv.ownBlock ≠ some c → v'.ownBlock ≠ some c := fun c hc hck => by
    rcases hat with e | e <;> rw [e]
    · exact hck
    · intro e; injection e with e; omega
  have hB : B ≤ wr.heap.size := by rw [h.BW]; exact h.bel.size
  have S1 : ∀ c, CpS B wr b kv c → CpS B (w5.setCell ⟨b, 4, none⟩ v') b v' c ∧ ∀ o, (w5.setCell ⟨b, 4, none⟩ v').cell? ⟨c, o, none⟩ = wr.cell? ⟨c, o, none⟩ := fun c ⟨h1, h2, h3, h4⟩ =>
    ⟨⟨h1, by omega, h3, hvc c (by omega) h4⟩, fun o => cell_of_heap (old c h2 h3 h4) o⟩
  refine ⟨?_, by rw [List.length_append]; exact row_of_heap hrow fun g hg' => Below.heap_setCell _ _ _ g (fun e => hnb (by rw [hg', e])), hnb, (h.kids.keep S1).push (by rw [h.row.1]) (ht.keep fun c ⟨h1, h2⟩ => ⟨⟨by omega, by omega, by omega, hvc c h2 fun e => by have := hkl c e; omega⟩, fun o => cell_of_heap (new c h1 h2) o⟩), h.attrs.keep S1, h.bB, h.BW, ?_⟩
  · have h5 : w5.heap[b]? = some (.cells #[c0, c1, c2, .slice A al.length ac, kv] 25 (0, 0)) := (hg.block b (by omega) (fun e => h.ne e.symm)).trans ((hb3.block b hbl).trans h.blk)
    simp only [World.setCell, Array.getElem?_modify, ↓reduceIte, h5, Option.map_some]
    rfl
  · have h3 : Below w1.heap.size w1 w3 := h.bel.trans (hb3.mono h.bel.size)
    have h5 := h3.grown hg h3.size fun k hk => by rw [← h.BW]; exact (h.row.lt k hk).1
    exact h5.setCell (by show _ ≤ b; rw [← h.BW]; exact h.bB) _
end
theorem rj_add {acc : List Nd} {al : List (ByteArray × ByteArray)} {c0 c1 c2 : Value} {A : Option Addr} {ac B b g cap : Nat} {xs : List Value} {w1 wr : World} {x : Nd} {s : ByteArray} (h : RJ (acc ++ [x]) al c0 c1 c2 A ac B b (.slice (some ⟨g, 0, none⟩) (acc.length + 1) cap) xs w1 wr) (hs : (x.text ++ s).size ≤ maxLen) :
    RJ (acc ++ [addText x s]) al c0 c1 c2 A ac B b (.slice (some ⟨g, 0, none⟩) (acc.length + 1) cap) (xs.set (acc.length * 5 + 2) (.string (x.text ++ s))) w1 (wr.setCell ⟨g, acc.length * 5 + 2, none⟩ (.string (x.text ++ s))) := by
  have hl : (acc ++ [x]).length = acc.length + 1 := by simp
  have hr := h.row
  rw [hl] at hr
  obtain ⟨h1, h2⟩ := hr.stored (acc.length * 5 + 2) (.string (x.text ++ s))
  have hkl := hr.lt g rfl
  have hgb : g ≠ b := fun e => h.ne (by rw [e]; rfl)
  have S1 : ∀ c, CpS B wr b (.slice (some ⟨g, 0, none⟩) (acc.length + 1) cap) c → CpS B (wr.setCell ⟨g, acc.length * 5 + 2, none⟩ (.string (x.text ++ s))) b (.slice (some ⟨g, 0, none⟩) (acc.length + 1) cap) c ∧ ∀ o, (wr.setCell ⟨g, acc.length * 5 + 2, none⟩ (.string (x.text ++ s))).cell? ⟨c, o, none⟩ = wr.cell? ⟨c, o, none⟩ :=
    fun c ⟨h3, h4, h5, h6⟩ => ⟨⟨h3, Nat.lt_of_lt_of_le h4 h2.size, h5, h6⟩, fun o => cell_of_heap (h2.block c h4 fun e => h6 e.symm) o⟩
  have hK := h.kids.keep S1
  refine ⟨(h2.block b (lt_of_block h.blk) (fun e => by injection e with e; exact hgb e.symm)).trans h.blk, by rw [List.length_append]; exact h1, h.ne, fun i t hi => ?_, h.attrs.keep S1, h.bB, h.BW, h.bel.grown h2 h.bel.size fun k hk => by rw [← h.BW]; injection hk with hk; omega⟩
  rcases Nat.lt_or_ge i acc.length with hil | hil
  · obtain ⟨v0, v1, v2, v3, v4, e0, e1, e2, e3, e4, e5⟩ := hK i t (by rw [List.getElem?_append_left hil] at hi ⊢; exact hi)
    exact ⟨v0, v1, v2, v3, v4, by rw [List.getElem?_set_ne (by omega)]; exact e0, by rw [List.getElem?_set_ne (by omega)]; exact e1, by rw [List.getElem?_set_ne (by omega)]; exact e2, by rw [List.getElem?_set_ne (by omega)]; exact e3, by rw [List.getElem?_set_ne (by omega)]; exact e4, e5⟩
  · have hi2 := (List.getElem?_eq_some_iff.1 hi).1
    rw [List.length_append] at hi2
    obtain rfl : i = acc.length := by simp at hi2; omega
    rw [List.getElem?_append_right (Nat.le_refl _), Nat.sub_self] at hi
    simp at hi
    subst hi
    obtain ⟨v0, v1, v2, v3, v4, e0, e1, e2, e3, e4, e5⟩ := hK acc.length x (by simp)
    have hlt : acc.length * 5 + 2 < xs.length := by rw [hr.1]; omega
    cases x with
    | mk k n tx al' ks =>
      unfold addText
      unfold TreeIn at e5 ⊢
      obtain ⟨rfl, rfl, rfl, d3, d4, d5, A', ac', K, kc, rfl, rfl, d8, d9, d10, d11⟩ := e5
      exact ⟨_, _, _, _, _, by rw [List.getElem?_set_ne (by omega)]; exact e0, by rw [List.getElem?_set_ne (by omega)]; exact e1, by rw [List.getElem?_set_self hlt]; rfl, by rw [List.getElem?_set_ne (by omega)]; exact e3, by rw [List.getElem?_set_ne (by omega)]; exact e4, rfl, rfl, rfl, d3, d4, hs, A', ac', K, kc, rfl, rfl, d8, d9, d10, d11⟩
theorem rj_last {acc : List Nd} {al : List (ByteArray × ByteArray)} {c0 c1 c2 : Value} {A : Option Addr} {ac B b : Nat} {kv : Value} {xs : List Value} {w1 wr : World} {x : Nd} (h : RJ (acc ++ [x]) al c0 c1 c2 A ac B b kv xs w1 wr) :
    ∃ g cap, kv = .slice (some ⟨g, 0, none⟩) (acc.length + 1) cap ∧ wr.cell? ⟨g, acc.length * 5, none⟩ = some (.int .i64 x.kind) ∧ wr.cell? ⟨g, acc.length * 5 + 2, none⟩ = some (.string x.text) ∧ wr.frozen? ⟨g, acc.length * 5 + 2, none⟩ = false := by
  have hr := h.row
  rw [show (acc ++ [x]).length = acc.length + 1 by simp] at hr
  obtain ⟨g, cap, rfl⟩ := row_form hr (by omega)
  obtain ⟨v0, v1, v2, v3, v4, e0, e1, e2, e3, e4, e5⟩ := h.kids acc.length x (by simp)
  refine ⟨g, cap, rfl, ?_, ?_, hr.frozenAt _⟩
  · rw [hr.cellAt _ (by omega), e0]
    cases x; unfold TreeIn at e5; rw [e5.1]; rfl
  · rw [hr.cellAt _ (by omega), e2]
    cases x; unfold TreeIn at e5; rw [e5.2.2.1]; rfl
theorem slice_row {w : World} {base size n : Nat} {e : TypeId} {v : Value} {xs : List Value} (h : w.ownsRow base e size v n xs) : ∃ ao cp, v = .slice ao n cp := by
  rcases h.2 with ⟨h1, h2⟩ | ⟨g, cap, cur, h1, _⟩
  · exact ⟨none, 0, by rw [h2]; exact h1⟩
  · exact ⟨_, _, h1⟩
def RJEnd (t : Nd) (w : World) (e : Ending) (w' : World) : Prop := ∃ x0 x1 x2 x3 x4, e = .returned (.agg #[x0, x1, x2, x3, x4]) ∧ TreeIn w' (fun c => w.heap.size ≤ c ∧ c < w'.heap.size) (joinT t) x0 x1 x2 x3 x4 ∧ Below w.heap.size w w'
end Go.Proofs.YtbjcahhijfommaaGreatDoor.Tr
namespace Go.Proofs.YtbjcahhijfommaaGreatDoor.Tr
open Go Go.RowKit
set_option linter.unusedVariables false
set_option maxHeartbeats 8000000 in
set_option maxRecDepth 100000 in
theorem rjoin_calls (mm : Nat) (hmm : mm ≤ 1000000) : ∀ (t : Nd) (v0 v1 v2 v3 v4 : Value) (w : World), cntT t ≤ mm → fitT t → IsTree w w.heap.size t v0 v1 v2 v3 v4 →
    Calls Tryz.prog 14 #[.agg #[v0, v1, v2, v3, v4]] w (RJEnd t w) := by
  induction mm with
  | zero => intro t _ _ _ _ _ _ h; have := cntT_pos t; omega
  | succ mm IH =>
  intro t v0 v1 v2 v3 v4 w hm hfit ht
  match t with
  | .mk k n s al ks =>
  unfold IsTree at ht
  obtain ⟨rfl, rfl, rfl, wk, bn, bs, A, ac, K, kc, rfl, rfl, hat, p1, p2, hkk⟩ := ht
  unfold fitT at hfit
  obtain ⟨hal20, _, _, _, hfk⟩ := hfit
  have hal : al.length ≤ 1000000 := by omega
  have HFK := Lib.hid hfk
  have HBN := Lib.hid bn
  have HBS := Lib.hid bs
  have HWK := Lib.hid wk
  clear bn bs hfk wk
  unfold maxLen at p2
  have HK := Lib.hid hkk
  have HA := Lib.hid hat
  have HIH := Lib.hid (IH (by omega))
  have HM : Hid (cntL ks ≤ mm) := Lib.hid (by unfold cntT at hm; omega)
  clear hkk hat IH hm
  have HW := two_boxes w (.int .i64 k) (.string n) (.string s) (.slice A al.length ac) (.slice K ks.length kc) (.int .i64 0) (.string ⟨#[]⟩) (.string ⟨#[]⟩) (.slice none 0 0) (.slice none 0 0)
  have HRB : Hid (((w.alloc (.cells #[.int .i64 k, .string n, .string s, .slice A al.length ac, .slice K ks.length kc] 25)).alloc (.cells #[.int .i64 0, .string ⟨#[]⟩, .string ⟨#[]⟩, .slice none 0 0, .slice none 0 0] 25)).heap[w.heap.size + 1]? = some (.cells #[.int .i64 0, .string ⟨#[]⟩, .string ⟨#[]⟩, .slice none 0 0, .slice none 0 0] 25 (0, 0))) := Lib.hid (by
    have := alloc_new (w.alloc (.cells #[.int .i64 k, .string n, .string s, .slice A al.length ac, .slice K ks.length kc] 25)) (.cells #[.int .i64 0, .string ⟨#[]⟩, .string ⟨#[]⟩, .slice none 0 0, .slice none 0 0] 25)
    rwa [show (w.alloc (.cells #[.int .i64 k, .string n, .string s, .slice A al.length ac, .slice K ks.length kc] 25)).heap.size = w.heap.size + 1 by simp] at this)
  have HBX : Hid (((w.alloc (.cells #[.int .i64 k, .string n, .string s, .slice A al.length ac, .slice K ks.length kc] 25)).alloc (.cells #[.int .i64 0, .string ⟨#[]⟩, .string ⟨#[]⟩, .slice none 0 0, .slice none 0 0] 25)).heap[w.heap.size]? = some (.cells #[.int .i64 k, .string n, .string s, .slice A al.length ac, .slice K ks.length kc] 25 (0, 0))) := Lib.hid (alloc_old (alloc_new w _) _)
  go_enter Tryz.func14, Tryz.ntmps14
  go_wp2_with fail
  generalize (w.alloc (.cells #[.int .i64 k, .string n, .string s, .slice A al.length ac, .slice K ks.length kc] 25)).alloc (.cells #[.int .i64 0, .string ⟨#[]⟩, .string ⟨#[]⟩, .slice none 0 0, .slice none 0 0] 25) = w0 at HW HRB HBX ⊢
  have HB0 := Lib.hid HW.bel
  have hs0 := HW.size
  clear HW
  obtain ⟨w1, hw1⟩ : ∃ w1, w1 = w0.drew := ⟨_, rfl⟩
  have HB1 : Hid (Below w.heap.size w w1) := Lib.hid (hw1 ▸ HB0.out.drew)
  have HR1 : Hid (w1.heap[w.heap.size + 1]? = some (.cells #[.int .i64 0, .string ⟨#[]⟩, .string ⟨#[]⟩, .slice none 0 0, .slice none 0 0] 25 (0, 0))) := Lib.hid (hw1 ▸ HRB.out)
  have HX1 : Hid (w1.heap[w.heap.size]? = some (.cells #[.int .i64 k, .string n, .string s, .slice A al.length ac, .slice K ks.length kc] 25 (0, 0))) := Lib.hid (hw1 ▸ HBX.out)
  have hs1 : w.heap.size + 1 < w1.heap.size := by rw [hw1]; exact hs0
  obtain ⟨b0, b1, b2, b3, b4⟩ := box5 HX1.out
  have r0 := cell_regrown b0
  have r1 := cell_regrown b1
  have r2 := cell_regrown b2
  have r3 := cell_regrown b3
  have r4 := cell_regrown b4
  clear b0 b1 b2 b3 b4
  refine Kr.wp_region_T 11 [11] [(8, AttrCp w1.heap.size al), (10, fun v W => ∃ b, v = .pointer (some ⟨b, 0, none⟩) ∧ w1.heap.size ≤ b ∧ W.heap[b]? = some (.cells #[.int .i64 0, .string ⟨#[]⟩, .string ⟨#[]⟩, .slice none 0 0, .slice none 0 0] 25 (0, 0)))]
    (by simp only [List.take_succ_cons, List.take_zero] <;> rfl) (by simp only [Kr.takeI, List.getElem?_cons_succ, List.getElem?_cons_zero] <;> rfl) mixed2 (by kernel_rfl) ?_
  rw [← hw1]
  clear hw1
  repeat (refine Kr.wpR_one rfl rfl ?_; go_big_quiet_step (fail); refine wpQuiet_nil ?_)
  refine Kr.wpR_call _ rfl rfl rfl ?_ ?_
  · intro W hW hk
    have hbw := Kr.later_iff.1 hW
    have HIA := Lib.hid (HA.out.keep (fun p hp => (HB1.out.trans (hbw.mono HB1.out.size)).cell hp) (HB1.out.trans (hbw.mono HB1.out.size)).size)
    refine upMany_append (.const (.slice none 0 0)) (.tmp 14) 22 rfl ?_
    obtain ⟨v', w', h1, h2, h3⟩ := run_append_attrs al A ac _ 22 W HIA.out hal
    exact ⟨v', w', h1, h2.mono hbw.size, h3⟩
  rintro v ⟨_, _, _, _, hS, _⟩
  obtain ⟨A', ac', rfl, _, _⟩ := hS
  go_frame
  repeat (refine Kr.wpR_one rfl rfl ?_; go_big_quiet_step (fail); refine wpQuiet_nil ?_)
  refine Kr.wpR_call _ rfl rfl rfl ?_ ?_
  · intro W hW hk
    have HBW := Lib.hid (Kr.later_iff.1 hW).size
    go_simp
    exact upMany_value ⟨_, rfl, HBW.out, alloc_new W _⟩ ((Below.refl _ W).alloc (Nat.le_refl _) _)
  rintro v ⟨_, _, _, _, hS, _⟩
  obtain ⟨b, rfl, hb1, _⟩ := hS
  go_frame
  refine Kr.wpR_nil ?_
  intro w3 hb3 hH
  have fB := hH _ _ (.inl ⟨rfl, rfl⟩)
  have fA := hH _ _ (.inr (.inl ⟨rfl, rfl⟩))
  have HB3 : Hid (Below w1.heap.size w1 w3) := Lib.hid hb3
  have hblk : w3.heap[b]? = some (.cells #[.int .i64 0, .string ⟨#[]⟩, .string ⟨#[]⟩, .slice none 0 0, .slice none 0 0] 25 (0, 0)) := by
    obtain ⟨W0, ⟨b', e, _, h2⟩, hbel⟩ := fB
    injection e with e
    injection e with e
    injection e with e _ _
    subst e
    exact (hbel.block _ (lt_of_block h2)).trans h2
  have HAI := Lib.hid (attr_later fA hblk)
  have HBLK := Lib.hid hblk
  have hbl := lt_of_block hblk
  clear hb3 hH fA fB hblk r0 r1 r2 r3 r4
  obtain ⟨c0, c1, c2, c3, c4⟩ := box5 HBLK.out
  have f0 : w3.frozen? ⟨b, 0, none⟩ = false := Lib.frozen_of_heap HBLK.out 0
  have f1 : w3.frozen? ⟨b, 1, none⟩ = false := Lib.frozen_of_heap HBLK.out 1
  have f2 : w3.frozen? ⟨b, 2, none⟩ = false := Lib.frozen_of_heap HBLK.out 2
  have f3 : w3.frozen? ⟨b, 3, none⟩ = false := Lib.frozen_of_heap HBLK.out 3
  have f4 : w3.frozen? ⟨b, 4, none⟩ = false := Lib.frozen_of_heap HBLK.out 4
  have hS := set5 HBLK.out (.int .i64 k) (.string n) (.string s) (.slice A' al.length ac') (.slice none 0 0)
  go_wp2_with fail
  generalize ((((w3.setCell ⟨b, 0, none⟩ (.int .i64 k)).setCell ⟨b, 1, none⟩ (.string n)).setCell ⟨b, 2, none⟩ (.string s)).setCell ⟨b, 3, none⟩ (.slice A' al.length ac')).setCell ⟨b, 4, none⟩ (.slice none 0 0) = w4 at hS ⊢
  have HR4 : Hid (RJ (accJ ks 0) al (.int .i64 k) (.string n) (.string s) A' ac' w1.heap.size b (.slice none 0 0) [] w1 w4) := Lib.hid (by
    rw [accJ_zero]
    exact ⟨hS.blk, World.ownsRow_nil _ _ _ _, by simp [Value.ownBlock], (fun i t hi => by simp at hi),
    HAI.out.keep fun c ⟨h1, h2, h3⟩ => ⟨⟨h1, by rw [hS.size]; exact h2, h3, by simp [Value.ownBlock]⟩, fun o => cell_of_heap (hS.other c h3) o⟩, hb1, rfl, HB3.out.trans (hS.fr.below (fun c hc e => by omega) (by have := HB3.out.size; omega))⟩)
  clear hS HAI HBLK c0 c1 c2 c3 c4 f0 f1 f2 f3 f4 hbl HB3
  go_loopw [4] (fun i wr => ∃ (j : Nat) (kv : Value) (xs : List Value), j ≤ ks.length ∧ i = .int .i64 (j : Int) ∧ RJ (accJ ks j) al (.int .i64 k) (.string n) (.string s) A' ac' w1.heap.size b kv xs w1 wr) (fun i _ => ks.length - (intOf i).toNat)
  case atStart => exact ⟨0, _, _, Nat.zero_le _, rfl, HR4.out⟩
  case round =>
    obtain ⟨j, kv, xs, hj, rfl, hR⟩ := hrel
    have HR := Lib.hid hR
    have HXR := Lib.hid ((hR.bel.block _ (lt_of_block HX1.out)).trans HX1.out)
    have HBZ : Hid (Below w.heap.size w wr) := Lib.hid (HB1.out.trans (hR.bel.mono HB1.out.size))
    clear hR
    obtain ⟨b0, b1, b2, b3, b4⟩ := box5 HXR.out
    obtain ⟨q0, q1, q2, q3, q4⟩ := box5 HR.out.blk
    rcases Nat.lt_or_ge j ks.length with hl2 | hl2
    · obtain ⟨u, hu⟩ : ∃ u, ks[j]? = some u := ⟨_, List.getElem?_eq_getElem hl2⟩
      obtain ⟨kb, ko, u0, u1, u2, u3, u4, rfl, hkb, e0, e1, e2, e3, e4, hut⟩ := kid_cells HK.out hu wr HBZ.out
      have HUT := Lib.hid hut
      have hjl : (j : Int) < (ks.length : Int) := by omega
      have hcm : Hid (cntT u ≤ mm) := Lib.hid (by have := cntL_mem hu; have := HM.out; omega)
      have HFU : Hid (fitT u) := Lib.hid (fitL_at HFK.out hu)
      have HLOW := Lib.hid (low_acc HFK.out j (by omega))
      have HACC := Lib.hid (accJ_succ hu)
      have hut6 := fit_text HFU.out
      have hjb : (accJ ks j).length ≤ 1000000 := by have := cntL_ge ks; have := HM.out; have := accJ_len ks j; omega
      have HCALL := Lib.hid (HIH.out u u0 u1 u2 u3 u4 wr hcm.out HFU.out (HUT.out _ HBZ.out))
      obtain ⟨i0, ii, hz0, hz1, hz2⟩ := info_parts tree_info
      clear hut hu
      generalize accJ ks j = acc at *
      cases u with
      | mk k' n' s' al' ks' =>
      replace hut6 : s'.size ≤ 6000 := hut6
      have hit := HUT.out _ HBZ.out
      unfold IsTree at hit
      obtain ⟨rfl, rfl, rfl, _, _, _, A3, ac3, K3, kc3, rfl, rfl, _, _, _, _⟩ := hit
      go_wp2_with fail
      refine HCALL.out.mono ?_
      rintro e w3 ⟨x0, x1, x2, x3, x4, rfl, hti, hb3⟩
      have HTI := Lib.hid hti
      have HB3 := Lib.hid hb3
      unfold joinT TreeIn at hti
      obtain ⟨rfl, rfl, rfl, _, _, _, A2, ac2, K2, kc2, rfl, rfl, _, _, _, _⟩ := hti
      have HBX4 : Hid (Below wr.heap.size wr (w3.alloc (.cells #[.int .i64 k', .string n', .string s', .slice A2 al'.length ac2, .slice K2 (joinL ks' []).length kc2] 25))) := Lib.hid (hb3.alloc hb3.size _)
      have HBN4 := Lib.hid (alloc_new w3 (.cells #[.int .i64 k', .string n', .string s', .slice A2 al'.length ac2, .slice K2 (joinL ks' []).length kc2] 25))
      have HTI4 : Hid (TreeIn (w3.alloc (.cells #[.int .i64 k', .string n', .string s', .slice A2 al'.length ac2, .slice K2 (joinL ks' []).length kc2] 25)) (fun c => wr.heap.size ≤ c ∧ c < (w3.alloc (.cells #[.int .i64 k', .string n', .string s', .slice A2 al'.length ac2, .slice K2 (joinL ks' []).length kc2] 25)).heap.size) (joinT (.mk k' n' s' al' ks')) (.int .i64 k') (.string n') (.string s') (.slice A2 al'.length ac2) (.slice K2 (joinL ks' []).length kc2)) :=
        Lib.hid (HTI.out.keep fun c ⟨h1, h2⟩ => ⟨⟨h1, by simp; omega⟩, fun o => cell_of_heap (Below.heap_alloc _ _ _ h2) o⟩)
      clear hb3 b0 b1 b2 b3 b4 q0 q1 q2 q3 q4 e0 e1 e2 e3 e4 HCALL
      go_upto_region 6 with (fail)
      generalize w3.alloc (.cells #[.int .i64 k', .string n', .string s', .slice A2 al'.length ac2, .slice K2 (joinL ks' []).length kc2] 25) = w4 at HBX4 HBN4 HTI4 ⊢
      have HR4 := Lib.hid (rj_skip HR.out HBX4.out)
      have k0 := (box5 HBN4.out).1
      have k2 := (box5 HBN4.out).2.2.1
      have q4 := (box5 HR4.out.blk).2.2.2.2
      by_cases hk3 : k' = 3
      · subst hk3
        by_cases htx : s' = ⟨#[]⟩
        · subst htx
          have HACA : Hid (accJ ks (j + 1) = acc) := Lib.hid (by rw [HACC.out]; exact joinAt_none rfl rfl)
          have HST := Lib.hid HR4.out
          rw [← HACA.out] at HST
          obtain ⟨ao, cp, rfl⟩ := slice_row HR.out.row
          go_wp2_with fail
          go_roundw
          case rel => exact ⟨j + 1, _, _, by omega, by go_num, HST.out⟩
          case measure => simp [intOf]; omega
        · have htl : (s'.toList == []) = false := by
            rw [beq_eq_false_iff_ne]; intro e; exact htx (str_same (by rw [e]; decide +kernel))
          rcases nil_or_snoc acc with rfl | ⟨init, x, rfl⟩
          · have HACA : Hid (accJ ks (j + 1) = [] ++ [joinT (.mk 3 n' s' al' ks')]) := Lib.hid (by rw [HACC.out]; exact joinAt_first rfl htx)
            have HLEN : Hid (([] : List Nd).length = 0) := Lib.hid rfl
            obtain ⟨ao, cp, hkv⟩ : ∃ ao cp, kv = .slice ao 0 cp := slice_row HR.out.row
            subst hkv
            clear htx
            go_upto_region 9 with (fail)
            replace k0 := cell_regrown k0
            replace k2 := cell_regrown k2
            replace q4 := cell_regrown q4
            refine wp_region_quiet_below mixed2 (by kernel_rfl) ?_
            repeat (go_big_quiet_step (fail))
            refine wpQuiet_nil ?_
            rintro w9 ⟨g9, hg9⟩
            have HB9 : Hid (Below w4.heap.size w4 w9) := Lib.hid (hg9 ▸ below_regrown w4 g9.d g9.os : Below w4.heap.size w4 w9)
            replace HTI4 := Lib.hid (show TreeIn w9 (fun c => wr.heap.size ≤ c ∧ c < w9.heap.size) _ _ _ _ _ _ from HTI4.out.keep fun c ⟨h1, h2⟩ => ⟨⟨h1, Nat.lt_of_lt_of_le h2 HB9.out.size⟩, fun o => HB9.out.cell h2⟩)
            replace HBX4 := Lib.hid (HBX4.out.trans (HB9.out.mono HBX4.out.size))
            replace HBN4 := Lib.hid ((HB9.out.block _ (lt_of_block HBN4.out)).trans HBN4.out)
            replace HR4 := Lib.hid (rj_skip HR4.out HB9.out)
            clear hg9 HB9 k0 k2 q4
            clear w4
            generalize w9 = w4 at *
            obtain ⟨b0, b1, b2, b3, b4⟩ := box5 HBN4.out
            have q4 := (box5 HR4.out.blk).2.2.2.2
            have HB5 : Hid (Below w4.heap.size w4 (w4.alloc (.cells #[.int .i64 3, .string n', .string s', .slice A2 al'.length ac2, .slice K2 (joinL ks' []).length kc2] 25))) := Lib.hid ((Below.refl _ w4).alloc (Nat.le_refl _) _)
            have HG1 := Lib.hid (alloc_new w4 (.cells #[.int .i64 3, .string n', .string s', .slice A2 al'.length ac2, .slice K2 (joinL ks' []).length kc2] 25))
            have HR5 := Lib.hid (rj_skip HR4.out HB5.out)
            have HROW : Hid ((w4.alloc (.cells #[.int .i64 3, .string n', .string s', .slice A2 al'.length ac2, .slice K2 (joinL ks' []).length kc2] 25)).ownsRow w1.heap.size 25 5 (.slice ao 0 cp) 0 xs) := Lib.hid (row_of_heap (by have := HR4.out.row; rwa [HLEN.out] at this) fun c hc => HB5.out.block c (HR4.out.row.lt c hc).2)
            have HNEWS : Hid (∀ (i : Nat) v, [Value.int .i64 3, .string n', .string s', .slice A2 al'.length ac2, .slice K2 (joinL ks' []).length kc2][i]? = some v → (w4.alloc (.cells #[.int .i64 3, .string n', .string s', .slice A2 al'.length ac2, .slice K2 (joinL ks' []).length kc2] 25)).cell? ((⟨w4.heap.size, 0, none⟩ : Addr).add i) = some v) := Lib.hid fun i v hi => by
              rw [add_flat, Nat.zero_add, block_cell HG1.out]; rw [← List.getElem?_toArray] at hi; exact hi
            have HONE : Hid (∀ v ∈ [Value.int .i64 3, .string n', .string s', .slice A2 al'.length ac2, .slice K2 (joinL ks' []).length kc2], v.oneCell' = true) := Lib.hid (by simp [Value.oneCell'])
            have HBSZ : Hid (w1.heap.size ≤ (w4.alloc (.cells #[.int .i64 3, .string n', .string s', .slice A2 al'.length ac2, .slice K2 (joinL ks' []).length kc2] 25)).heap.size) := Lib.hid (Nat.le_trans HR4.out.bel.size HB5.out.size)
            go_wp2_with (at_builtin; refine wpList_append_own_at _ rfl (.tmp 34) (.tmp 36) 23 rfl w1.heap.size 25 i0 _ 5 88 Tryz.underlying23 ii hz0 hz1 hz2 rfl (by decide) _ _ xs rfl HROW.out ⟨w4.heap.size, 0, none⟩ 1 1 _ rfl rfl HNEWS.out HONE.out (by unfold maxLen; omega) (by omega) HBSZ.out ?_)
            intro v' w5 h1 h2 h3 h4
            obtain ⟨gv, cv, rfl⟩ := row_form h1 (by omega)
            have HST := Lib.hid (rj_push HR.out (HBX4.out.trans (HB5.out.mono HBX4.out.size)) (HTI4.out.keep fun c ⟨q1, q2⟩ => ⟨⟨q1, by simp; omega⟩, fun o => cell_of_heap (Below.heap_alloc _ _ _ q2) o⟩) (by rw [HLEN.out]; exact h1) h2 (by rw [World.size_alloc]; exact h4))
            rw [← HACA.out] at HST
            have HK5 : Hid (w5.heap[b]? = _) := Lib.hid ((h2.block _ (lt_of_block HR5.out.blk) (fun e => HR5.out.ne e.symm)).trans HR5.out.blk)
            have q5 := (box5 HK5.out).2.2.2.2
            have f5 : w5.frozen? ⟨b, 4, none⟩ = false := Lib.frozen_of_heap HK5.out 4
            clear h1 h2 h3 h4 q4 b0 b1 b2 b3 b4 HNEWS HONE HBSZ HROW HG1
            go_wp2_with fail
            go_roundw
            case rel => exact ⟨j + 1, _, _, by omega, by go_num, HST.out⟩
            case measure => simp [intOf]; omega
          · obtain ⟨g, cap, hkv, l0, l2, lf⟩ := rj_last HR4.out
            subst hkv
            have hjb2 : init.length + 1 ≤ 1000000 := by simpa using hjb
            have hxl := (low_app.1 HLOW.out).2
            have g0 := cell_regrown l0
            have g2 := cell_regrown l2
            clear hjb
            by_cases hx3 : x.kind = 3
            · rw [hx3] at g0 l0
              have hw1 : IntKind.i64.wrap ((s'.size : Int) + (x.text.size : Int)) = (s'.size : Int) + (x.text.size : Int) := IntWalk.i64_in _ (by omega)
              by_cases hsz : x.text.size + s'.size ≤ 4096
              · have HACA : Hid (accJ ks (j + 1) = init ++ [addText x s']) := Lib.hid (by rw [HACC.out]; exact joinAt_on rfl htx (by unfold fitsOn; exact decide_eq_true ⟨hx3, hsz⟩))
                have HXT := Lib.hid (show (x.text ++ s').size ≤ maxLen by rw [ByteArray.size_append]; unfold maxLen; omega)
                have hw2 : (s'.size : Int) + (x.text.size : Int) ≤ 4096 := by omega
                have hz1' : x.text.size ≤ 4096 := by omega
                have hz2' : s'.size ≤ 4096 := by omega
                clear htx hx3 hxl hut6
                generalize hxt : x.text = xt at *
                clear lf
                go_upto_region 9 with (fail)
                replace k0 := cell_regrown k0
                replace k2 := cell_regrown k2
                replace q4 := cell_regrown q4
                refine wp_region_quiet_below mixed2 (by kernel_rfl) ?_
                repeat (go_big_quiet_step (fail))
                refine wpQuiet_nil ?_
                rintro w9 ⟨g9, hg9⟩
                have HB9 : Hid (Below w4.heap.size w4 w9) := Lib.hid (hg9 ▸ below_regrown w4 g9.d g9.os : Below w4.heap.size w4 w9)
                replace HTI4 := Lib.hid (show TreeIn w9 (fun c => wr.heap.size ≤ c ∧ c < w9.heap.size) _ _ _ _ _ _ from HTI4.out.keep fun c ⟨h1, h2⟩ => ⟨⟨h1, Nat.lt_of_lt_of_le h2 HB9.out.size⟩, fun o => HB9.out.cell h2⟩)
                replace HBX4 := Lib.hid (HBX4.out.trans (HB9.out.mono HBX4.out.size))
                replace HBN4 := Lib.hid ((HB9.out.block _ (lt_of_block HBN4.out)).trans HBN4.out)
                replace HR4 := Lib.hid (rj_skip HR4.out HB9.out)
                clear hg9 HB9 k0 k2 q4 g0 g2 l0 l2
                clear w4
                generalize w9 = w4 at *
                go_upto_region 10 with (fail)
                obtain ⟨g', cap', hkv', l0, l2, lf⟩ := rj_last HR4.out
                injection hkv' with e1 _ e3
                injection e1 with e1
                injection e1 with e1 _
                subst e1
                subst e3
                have k2 := (box5 HBN4.out).2.2.1
                have q4 := (box5 HR4.out.blk).2.2.2.2
                rw [hxt] at l2
                obtain ⟨wd, hwd⟩ : ∃ wd, wd = w4.drew := ⟨_, rfl⟩
                have HBD : Hid (Below w4.heap.size w4 wd) := Lib.hid (hwd ▸ (Below.refl _ w4).drew)
                replace l2 := cell_regrown ((HBD.out.cell (cell_lt l2).1).trans l2)
                replace k2 := cell_regrown ((HBD.out.cell (cell_lt k2).1).trans k2)
                replace q4 := cell_regrown ((HBD.out.cell (cell_lt q4).1).trans q4)
                refine Kr.wp_region_T 16 [16] []
                  (by simp only [List.take_succ_cons, List.take_zero] <;> rfl) (by simp only [Kr.takeI, List.getElem?_cons_succ, List.getElem?_cons_zero] <;> rfl) mixed2 (by kernel_rfl) ?_
                rw [← hwd]
                clear hwd
                repeat (refine Kr.wpR_one rfl rfl ?_; go_big_quiet_step (fail); refine wpQuiet_nil ?_)
                refine Kr.wpR_nil ?_
                intro w5 hb5 hH
                have HR5 := Lib.hid (rj_skip HR4.out (HBD.out.trans (hb5.mono HBD.out.size)))
                obtain ⟨g', cap', hkv', m0, m2, mf⟩ := rj_last HR5.out
                injection hkv' with e1 _ e3
                injection e1 with e1
                injection e1 with e1 _
                subst e1
                subst e3
                have HST := Lib.hid (rj_add HR5.out (by rw [hxt]; exact HXT.out))
                rw [hxt, ← HACA.out] at HST
                clear hb5 hH l2 k2 q4 l0
                go_wp2_with fail
                go_roundw
                case rel => exact ⟨j + 1, _, _, by omega, by go_num, HST.out⟩
                case measure => simp [intOf]; omega
              · have HACA : Hid (accJ ks (j + 1) = init ++ [x] ++ [joinT (.mk 3 n' s' al' ks')]) := Lib.hid (by rw [HACC.out]; exact joinAt_off rfl htx (by unfold fitsOn; exact decide_eq_false (by intro h; have h2 : x.text.size + s'.size ≤ 4096 := h.2; omega)))
                have HLEN : Hid ((init ++ [x]).length = init.length + 1) := Lib.hid (by simp)
                have hw2 : ¬ ((s'.size : Int) + (x.text.size : Int) ≤ 4096) := by omega
                clear hx3
                clear htx
                generalize x.text = xt at *
                go_upto_region 9 with (fail)
                replace k0 := cell_regrown k0
                replace k2 := cell_regrown k2
                replace q4 := cell_regrown q4
                refine wp_region_quiet_below mixed2 (by kernel_rfl) ?_
                repeat (go_big_quiet_step (fail))
                refine wpQuiet_nil ?_
                rintro w9 ⟨g9, hg9⟩
                have HB9 : Hid (Below w4.heap.size w4 w9) := Lib.hid (hg9 ▸ below_regrown w4 g9.d g9.os : Below w4.heap.size w4 w9)
                replace HTI4 := Lib.hid (show TreeIn w9 (fun c => wr.heap.size ≤ c ∧ c < w9.heap.size) _ _ _ _ _ _ from HTI4.out.keep fun c ⟨h1, h2⟩ => ⟨⟨h1, Nat.lt_of_lt_of_le h2 HB9.out.size⟩, fun o => HB9.out.cell h2⟩)
                replace HBX4 := Lib.hid (HBX4.out.trans (HB9.out.mono HBX4.out.size))
                replace HBN4 := Lib.hid ((HB9.out.block _ (lt_of_block HBN4.out)).trans HBN4.out)
                replace HR4 := Lib.hid (rj_skip HR4.out HB9.out)
                clear hg9 HB9 k0 k2 q4 g0 g2 l0 l2 lf
                clear w4
                generalize w9 = w4 at *
                obtain ⟨b0, b1, b2, b3, b4⟩ := box5 HBN4.out
                have q4 := (box5 HR4.out.blk).2.2.2.2
                have HB5 : Hid (Below w4.heap.size w4 (w4.alloc (.cells #[.int .i64 3, .string n', .string s', .slice A2 al'.length ac2, .slice K2 (joinL ks' []).length kc2] 25))) := Lib.hid ((Below.refl _ w4).alloc (Nat.le_refl _) _)
                have HG1 := Lib.hid (alloc_new w4 (.cells #[.int .i64 3, .string n', .string s', .slice A2 al'.length ac2, .slice K2 (joinL ks' []).length kc2] 25))
                have HR5 := Lib.hid (rj_skip HR4.out HB5.out)
                have HROW : Hid ((w4.alloc (.cells #[.int .i64 3, .string n', .string s', .slice A2 al'.length ac2, .slice K2 (joinL ks' []).length kc2] 25)).ownsRow w1.heap.size 25 5 (.slice (some ⟨g, 0, none⟩) (init.length + 1) cap) (init.length + 1) xs) := Lib.hid (row_of_heap (by have := HR4.out.row; rwa [HLEN.out] at this) fun c hc => HB5.out.block c (HR4.out.row.lt c hc).2)
                have HNEWS : Hid (∀ (i : Nat) v, [Value.int .i64 3, .string n', .string s', .slice A2 al'.length ac2, .slice K2 (joinL ks' []).length kc2][i]? = some v → (w4.alloc (.cells #[.int .i64 3, .string n', .string s', .slice A2 al'.length ac2, .slice K2 (joinL ks' []).length kc2] 25)).cell? ((⟨w4.heap.size, 0, none⟩ : Addr).add i) = some v) := Lib.hid fun i v hi => by
                  rw [add_flat, Nat.zero_add, block_cell HG1.out]; rw [← List.getElem?_toArray] at hi; exact hi
                have HONE : Hid (∀ v ∈ [Value.int .i64 3, .string n', .string s', .slice A2 al'.length ac2, .slice K2 (joinL ks' []).length kc2], v.oneCell' = true) := Lib.hid (by simp [Value.oneCell'])
                have HBSZ : Hid (w1.heap.size ≤ (w4.alloc (.cells #[.int .i64 3, .string n', .string s', .slice A2 al'.length ac2, .slice K2 (joinL ks' []).length kc2] 25)).heap.size) := Lib.hid (Nat.le_trans HR4.out.bel.size HB5.out.size)
                go_wp2_with (at_builtin; refine wpList_append_own_at _ rfl (.tmp 34) (.tmp 36) 23 rfl w1.heap.size 25 i0 _ 5 88 Tryz.underlying23 ii hz0 hz1 hz2 rfl (by decide) _ _ xs rfl HROW.out ⟨w4.heap.size, 0, none⟩ 1 1 _ rfl rfl HNEWS.out HONE.out (by unfold maxLen; omega) (by omega) HBSZ.out ?_)
                intro v' w5 h1 h2 h3 h4
                obtain ⟨gv, cv, rfl⟩ := row_form h1 (by omega)
                have HST := Lib.hid (rj_push HR.out (HBX4.out.trans (HB5.out.mono HBX4.out.size)) (HTI4.out.keep fun c ⟨q1, q2⟩ => ⟨⟨q1, by simp; omega⟩, fun o => cell_of_heap (Below.heap_alloc _ _ _ q2) o⟩) (by rw [HLEN.out]; exact h1) h2 (by rw [World.size_alloc]; exact h4))
                rw [← HACA.out] at HST
                have HK5 : Hid (w5.heap[b]? = _) := Lib.hid ((h2.block _ (lt_of_block HR5.out.blk) (fun e => HR5.out.ne e.symm)).trans HR5.out.blk)
                have q5 := (box5 HK5.out).2.2.2.2
                have f5 : w5.frozen? ⟨b, 4, none⟩ = false := Lib.frozen_of_heap HK5.out 4
                clear h1 h2 h3 h4 q4 b0 b1 b2 b3 b4 HNEWS HONE HBSZ HROW HG1
                go_wp2_with fail
                go_roundw
                case rel => exact ⟨j + 1, _, _, by omega, by go_num, HST.out⟩
                case measure => simp [intOf]; omega
            · have HACA : Hid (accJ ks (j + 1) = init ++ [x] ++ [joinT (.mk 3 n' s' al' ks')]) := Lib.hid (by rw [HACC.out]; exact joinAt_off rfl htx (by unfold fitsOn; exact decide_eq_false (by intro h; exact hx3 h.1)))
              have HLEN : Hid ((init ++ [x]).length = init.length + 1) := Lib.hid (by simp)
              have hx4 : (x.kind == 3) = false := beq_eq_false_iff_ne.2 hx3
              generalize x.kind = xk at *
              clear hx3
              clear htx
              generalize x.text = xt at *
              go_upto_region 9 with (fail)
              replace k0 := cell_regrown k0
              replace k2 := cell_regrown k2
              replace q4 := cell_regrown q4
              refine wp_region_quiet_below mixed2 (by kernel_rfl) ?_
              repeat (go_big_quiet_step (fail))
              refine wpQuiet_nil ?_
              rintro w9 ⟨g9, hg9⟩
              have HB9 : Hid (Below w4.heap.size w4 w9) := Lib.hid (hg9 ▸ below_regrown w4 g9.d g9.os : Below w4.heap.size w4 w9)
              replace HTI4 := Lib.hid (show TreeIn w9 (fun c => wr.heap.size ≤ c ∧ c < w9.heap.size) _ _ _ _ _ _ from HTI4.out.keep fun c ⟨h1, h2⟩ => ⟨⟨h1, Nat.lt_of_lt_of_le h2 HB9.out.size⟩, fun o => HB9.out.cell h2⟩)
              replace HBX4 := Lib.hid (HBX4.out.trans (HB9.out.mono HBX4.out.size))
              replace HBN4 := Lib.hid ((HB9.out.block _ (lt_of_block HBN4.out)).trans HBN4.out)
              replace HR4 := Lib.hid (rj_skip HR4.out HB9.out)
              clear hg9 HB9 k0 k2 q4 g0 g2 l0 l2 lf
              clear w4
              generalize w9 = w4 at *
              obtain ⟨b0, b1, b2, b3, b4⟩ := box5 HBN4.out
              have q4 := (box5 HR4.out.blk).2.2.2.2
              have HB5 : Hid (Below w4.heap.size w4 (w4.alloc (.cells #[.int .i64 3, .string n', .string s', .slice A2 al'.length ac2, .slice K2 (joinL ks' []).length kc2] 25))) := Lib.hid ((Below.refl _ w4).alloc (Nat.le_refl _) _)
              have HG1 := Lib.hid (alloc_new w4 (.cells #[.int .i64 3, .string n', .string s', .slice A2 al'.length ac2, .slice K2 (joinL ks' []).length kc2] 25))
              have HR5 := Lib.hid (rj_skip HR4.out HB5.out)
              have HROW : Hid ((w4.alloc (.cells #[.int .i64 3, .string n', .string s', .slice A2 al'.length ac2, .slice K2 (joinL ks' []).length kc2] 25)).ownsRow w1.heap.size 25 5 (.slice (some ⟨g, 0, none⟩) (init.length + 1) cap) (init.length + 1) xs) := Lib.hid (row_of_heap (by have := HR4.out.row; rwa [HLEN.out] at this) fun c hc => HB5.out.block c (HR4.out.row.lt c hc).2)
              have HNEWS : Hid (∀ (i : Nat) v, [Value.int .i64 3, .string n', .string s', .slice A2 al'.length ac2, .slice K2 (joinL ks' []).length kc2][i]? = some v → (w4.alloc (.cells #[.int .i64 3, .string n', .string s', .slice A2 al'.length ac2, .slice K2 (joinL ks' []).length kc2] 25)).cell? ((⟨w4.heap.size, 0, none⟩ : Addr).add i) = some v) := Lib.hid fun i v hi => by
                rw [add_flat, Nat.zero_add, block_cell HG1.out]; rw [← List.getElem?_toArray] at hi; exact hi
              have HONE : Hid (∀ v ∈ [Value.int .i64 3, .string n', .string s', .slice A2 al'.length ac2, .slice K2 (joinL ks' []).length kc2], v.oneCell' = true) := Lib.hid (by simp [Value.oneCell'])
              have HBSZ : Hid (w1.heap.size ≤ (w4.alloc (.cells #[.int .i64 3, .string n', .string s', .slice A2 al'.length ac2, .slice K2 (joinL ks' []).length kc2] 25)).heap.size) := Lib.hid (Nat.le_trans HR4.out.bel.size HB5.out.size)
              go_wp2_with (at_builtin; refine wpList_append_own_at _ rfl (.tmp 34) (.tmp 36) 23 rfl w1.heap.size 25 i0 _ 5 88 Tryz.underlying23 ii hz0 hz1 hz2 rfl (by decide) _ _ xs rfl HROW.out ⟨w4.heap.size, 0, none⟩ 1 1 _ rfl rfl HNEWS.out HONE.out (by unfold maxLen; omega) (by omega) HBSZ.out ?_)
              intro v' w5 h1 h2 h3 h4
              obtain ⟨gv, cv, rfl⟩ := row_form h1 (by omega)
              have HST := Lib.hid (rj_push HR.out (HBX4.out.trans (HB5.out.mono HBX4.out.size)) (HTI4.out.keep fun c ⟨q1, q2⟩ => ⟨⟨q1, by simp; omega⟩, fun o => cell_of_heap (Below.heap_alloc _ _ _ q2) o⟩) (by rw [HLEN.out]; exact h1) h2 (by rw [World.size_alloc]; exact h4))
              rw [← HACA.out] at HST
              have HK5 : Hid (w5.heap[b]? = _) := Lib.hid ((h2.block _ (lt_of_block HR5.out.blk) (fun e => HR5.out.ne e.symm)).trans HR5.out.blk)
              have q5 := (box5 HK5.out).2.2.2.2
              have f5 : w5.frozen? ⟨b, 4, none⟩ = false := Lib.frozen_of_heap HK5.out 4
              clear h1 h2 h3 h4 q4 b0 b1 b2 b3 b4 HNEWS HONE HBSZ HROW HG1
              go_wp2_with fail
              go_roundw
              case rel => exact ⟨j + 1, _, _, by omega, by go_num, HST.out⟩
              case measure => simp [intOf]; omega
      · have hne : (k' == 3) = false := beq_eq_false_iff_ne.2 hk3
        have HACA : Hid (accJ ks (j + 1) = acc ++ [joinT (.mk k' n' s' al' ks')]) := Lib.hid (by rw [HACC.out]; exact joinAt_other hk3)
        obtain ⟨ao, cp, hkv⟩ := slice_row HR.out.row
        subst hkv
        clear hk3
        go_upto_region 9 with (fail)
        replace k0 := cell_regrown k0
        replace k2 := cell_regrown k2
        replace q4 := cell_regrown q4
        refine wp_region_quiet_below mixed2 (by kernel_rfl) ?_
        repeat (go_big_quiet_step (fail))
        refine wpQuiet_nil ?_
        rintro w9 ⟨g9, hg9⟩
        have HB9 : Hid (Below w4.heap.size w4 w9) := Lib.hid (hg9 ▸ below_regrown w4 g9.d g9.os : Below w4.heap.size w4 w9)
        replace HTI4 := Lib.hid (show TreeIn w9 (fun c => wr.heap.size ≤ c ∧ c < w9.heap.size) _ _ _ _ _ _ from HTI4.out.keep fun c ⟨h1, h2⟩ => ⟨⟨h1, Nat.lt_of_lt_of_le h2 HB9.out.size⟩, fun o => HB9.out.cell h2⟩)
        replace HBX4 := Lib.hid (HBX4.out.trans (HB9.out.mono HBX4.out.size))
        replace HBN4 := Lib.hid ((HB9.out.block _ (lt_of_block HBN4.out)).trans HBN4.out)
        replace HR4 := Lib.hid (rj_skip HR4.out HB9.out)
        clear hg9 HB9 k0 k2 q4
        clear w4
        generalize w9 = w4 at *
        obtain ⟨b0, b1, b2, b3, b4⟩ := box5 HBN4.out
        have q4 := (box5 HR4.out.blk).2.2.2.2
        have HB5 : Hid (Below w4.heap.size w4 (w4.alloc (.cells #[.int .i64 k', .string n', .string s', .slice A2 al'.length ac2, .slice K2 (joinL ks' []).length kc2] 25))) := Lib.hid ((Below.refl _ w4).alloc (Nat.le_refl _) _)
        have HG1 := Lib.hid (alloc_new w4 (.cells #[.int .i64 k', .string n', .string s', .slice A2 al'.length ac2, .slice K2 (joinL ks' []).length kc2] 25))
        have HR5 := Lib.hid (rj_skip HR4.out HB5.out)
        have HROW : Hid ((w4.alloc (.cells #[.int .i64 k', .string n', .string s', .slice A2 al'.length ac2, .slice K2 (joinL ks' []).length kc2] 25)).ownsRow w1.heap.size 25 5 (.slice ao acc.length cp) acc.length xs) := Lib.hid (row_of_heap HR4.out.row fun c hc => HB5.out.block c (HR4.out.row.lt c hc).2)
        have HNEWS : Hid (∀ (i : Nat) v, [Value.int .i64 k', .string n', .string s', .slice A2 al'.length ac2, .slice K2 (joinL ks' []).length kc2][i]? = some v → (w4.alloc (.cells #[.int .i64 k', .string n', .string s', .slice A2 al'.length ac2, .slice K2 (joinL ks' []).length kc2] 25)).cell? ((⟨w4.heap.size, 0, none⟩ : Addr).add i) = some v) := Lib.hid fun i v hi => by
          rw [add_flat, Nat.zero_add, block_cell HG1.out]; rw [← List.getElem?_toArray] at hi; exact hi
        have HONE : Hid (∀ v ∈ [Value.int .i64 k', .string n', .string s', .slice A2 al'.length ac2, .slice K2 (joinL ks' []).length kc2], v.oneCell' = true) := Lib.hid (by simp [Value.oneCell'])
        have HBSZ : Hid (w1.heap.size ≤ (w4.alloc (.cells #[.int .i64 k', .string n', .string s', .slice A2 al'.length ac2, .slice K2 (joinL ks' []).length kc2] 25)).heap.size) := Lib.hid (Nat.le_trans HR4.out.bel.size HB5.out.size)
        go_wp2_with (at_builtin; refine wpList_append_own_at _ rfl (.tmp 34) (.tmp 36) 23 rfl w1.heap.size 25 i0 _ 5 88 Tryz.underlying23 ii hz0 hz1 hz2 rfl (by decide) _ _ xs rfl HROW.out ⟨w4.heap.size, 0, none⟩ 1 1 _ rfl rfl HNEWS.out HONE.out (by unfold maxLen; omega) (by omega) HBSZ.out ?_)
        intro v' w5 h1 h2 h3 h4
        obtain ⟨gv, cv, rfl⟩ := row_form h1 (by omega)
        have HST := Lib.hid (rj_push HR.out (HBX4.out.trans (HB5.out.mono HBX4.out.size)) (HTI4.out.keep fun c ⟨q1, q2⟩ => ⟨⟨q1, by simp; omega⟩, fun o => cell_of_heap (Below.heap_alloc _ _ _ q2) o⟩) h1 h2 (by rw [World.size_alloc]; exact h4))
        rw [← HACA.out] at HST
        have HK5 : Hid (w5.heap[b]? = _) := Lib.hid ((h2.block _ (lt_of_block HR5.out.blk) (fun e => HR5.out.ne e.symm)).trans HR5.out.blk)
        have q5 := (box5 HK5.out).2.2.2.2
        have f5 : w5.frozen? ⟨b, 4, none⟩ = false := Lib.frozen_of_heap HK5.out 4
        clear h1 h2 h3 h4 q4 b0 b1 b2 b3 b4 HNEWS HONE HBSZ HROW HG1
        go_wp2_with fail
        go_roundw
        case rel => exact ⟨j + 1, _, _, by omega, by go_num, HST.out⟩
        case measure => simp [intOf]; omega
    · obtain rfl : j = ks.length := by omega
      have HB9 := Lib.hid ((HR.out.bel.block _ (lt_of_block HR1.out)).trans HR1.out)
      obtain ⟨z0, z1, z2, z3, z4⟩ := box5 HB9.out
      have z5 : wr.frozen? ⟨w.heap.size + 1, 0, none⟩ = false := Lib.frozen_of_heap HB9.out 0
      have z6 : wr.frozen? ⟨w.heap.size + 1, 1, none⟩ = false := Lib.frozen_of_heap HB9.out 1
      have z7 : wr.frozen? ⟨w.heap.size + 1, 2, none⟩ = false := Lib.frozen_of_heap HB9.out 2
      have z8 : wr.frozen? ⟨w.heap.size + 1, 3, none⟩ = false := Lib.frozen_of_heap HB9.out 3
      have z9 : wr.frozen? ⟨w.heap.size + 1, 4, none⟩ = false := Lib.frozen_of_heap HB9.out 4
      have hrw := HR.out.row
      have hks := HR.out.kids
      rw [accJ_all] at hrw hks
      obtain ⟨K', kc', rfl, m1, m2, m3⟩ := kids_of_row (S' := fun c => w.heap.size ≤ c ∧ c < wr.heap.size ∧ c ≠ w.heap.size + 1) hrw hks (fun c ⟨h1, h2, h3, h4⟩ => ⟨by omega, h2, by omega⟩) (fun g hg => by have := hrw.lt g hg; exact ⟨by omega, this.2, by omega⟩)
      have HT : Hid (TreeIn wr (fun c => w.heap.size ≤ c ∧ c < wr.heap.size ∧ c ≠ w.heap.size + 1) (joinT (.mk k n s al ks)) (.int .i64 k) (.string n) (.string s) (.slice A' al.length ac') (.slice K' (joinL ks []).length kc')) := Lib.hid (by
        unfold joinT TreeIn
        exact ⟨rfl, rfl, rfl, HWK.out, HBN.out, HBS.out, A', ac', K', kc', rfl, rfl, HR.out.attrs.keep fun c ⟨h1, h2, h3, h4⟩ => ⟨⟨by omega, h2, by omega⟩, fun _ => rfl⟩, m1, m2, m3⟩)
      have hS := set5 HB9.out (.int .i64 k) (.string n) (.string s) (.slice A' al.length ac') (.slice K' (joinL ks []).length kc')
      have HBZ2 := Lib.hid HBZ.out
      have hjl : ¬ ((ks.length : Int) < (ks.length : Int)) := by omega
      clear hks hrw m3
      go_wp2_with fail
      generalize ((((wr.setCell ⟨w.heap.size + 1, 0, none⟩ (.int .i64 k)).setCell ⟨w.heap.size + 1, 1, none⟩ (.string n)).setCell ⟨w.heap.size + 1, 2, none⟩ (.string s)).setCell ⟨w.heap.size + 1, 3, none⟩ (.slice A' al.length ac')).setCell ⟨w.heap.size + 1, 4, none⟩ (.slice K' (joinL ks []).length kc') = w9 at hS ⊢
      have hld := run_loadVar_row (P := Tryz.prog) w9 (w.heap.size + 1) 25 25 _ _ _ hS.blk Tryz.underlying25 rfl (by kernel_rfl)
      (try simp only [Exit.inBlock, Exit.then])
      refine bodyPost_ret (v := .agg #[.int .i64 k, .string n, .string s, .slice A' al.length ac', .slice K' (joinL ks []).length kc']) ?_ rfl ⟨_, _, _, _, _, rfl, ?_, ?_⟩
      · rw [results_one rfl]
        simp [asAddr, Result.andThen, hld]
      · exact HT.out.keep fun c ⟨h1, h2, h3⟩ => ⟨⟨h1, by rw [hS.size]; exact h2⟩, fun o => cell_of_heap (hS.other c h3) o⟩
      · exact HBZ2.out.trans (hS.fr.below (fun c hc e => by omega) (by have := HBZ2.out.size; omega))
end Go.Proofs.YtbjcahhijfommaaGreatDoor.Tr
