/- A node without its kids. -/
import Derived.Test.YtcacgbdnegmfnaaCopyT
namespace Go.Proofs.Ytcacgbdnegmfnaa.Tr
open Go Go.RowKit Wk
set_option linter.unusedVariables false
/-- append of attributes to nothing. -/
theorem run_append_attrs (al : List (ByteArray × ByteArray)) (A : Option Addr) (ac B : Nat) (ty : TypeId) (w : World) (h : IsAttrs w B al A ac) (hl : al.length ≤ 1000000) :
    ∃ v' w', (Builtin.append_ #[22, 22] ty #[.slice none 0 0, .slice A al.length ac]).run Try.prog w = .ok v' w' ∧ AttrCp w.heap.size al v' w' ∧ Below w.heap.size w w' := by
  obtain ⟨h1, h2, h3, h4⟩ := h
  obtain ⟨i0, hi, hz0, hz1, hz2⟩ := info_parts attr_info
  cases A with
  | none =>
    have hnil : al = [] := by
      cases al with
      | nil => rfl
      | cons x xs => obtain ⟨b, off, e, _⟩ := h4 (by simp); cases e
    subst hnil
    exact ⟨_, _, run_append_nn 22 ty 51 i0 ac Try.underlying22 hi, ⟨none, 0, rfl, ⟨Nat.le_refl _, by unfold maxLen; omega, fun a h => by simp at h, fun h => absurd rfl h⟩, .inl ⟨rfl, rfl⟩⟩, Below.refl _ _⟩
  | some ad =>
    have hnews : ∀ j u, (cellsA al)[j]? = some u → w.cell? (ad.add j) = some u := by
      intro j u hj
      obtain ⟨i, x, hx, h5⟩ := cellsA_of al j u hj
      obtain ⟨b, off, e, _, hc⟩ := h4 (by rintro rfl; simp at hx)
      injection e with e
      subst e
      rw [add_flat]
      rcases h5 with ⟨rfl, rfl⟩ | ⟨rfl, rfl⟩
      · exact (hc i x hx).1
      · rw [← Nat.add_assoc]; exact (hc i x hx).2
    have hone : ∀ u ∈ cellsA al, u.oneCell' = true := fun u hu => by
      obtain ⟨x, _, hx⟩ := List.mem_flatMap.1 hu
      simp at hx
      rcases hx with rfl | rfl <;> rfl
    obtain ⟨v', w', hr, g1, g2, g3, g4⟩ := run_append_own_at (P := Try.prog) w w.heap.size 22 ty 51 i0 _ 2 32 Try.underlying22 hi hz0 hz1 hz2 rfl (by decide) (.slice none 0 0) 0 [] ⟨rfl, .inl ⟨rfl, rfl⟩⟩ ad al.length ac (cellsA al) (cellsA_length al) hnews hone (by unfold maxLen; omega) (by omega) (Nat.le_refl _)
    refine ⟨v', w', hr, ?_, (Below.refl _ w).grown g2 (Nat.le_refl _) fun k hk => by cases hk⟩
    rw [Nat.zero_add, List.nil_append] at g1
    rcases g1.2 with ⟨e, e2⟩ | ⟨g, cap, cur, e, hg, hcur, _⟩
    · have : al = [] := List.length_eq_zero_iff.1 e2
      subst this
      exact ⟨none, 0, e, ⟨Nat.le_refl _, by unfold maxLen; omega, fun a h => by simp at h, fun h => absurd rfl h⟩, .inl ⟨rfl, rfl⟩⟩
    · subst e
      exact ⟨_, _, rfl, isAttrs_row g1 h3, .inr ⟨g, cur, rfl, hg, hcur⟩⟩
theorem upMany_append {P : Program} {S : Kr.Spec} {W : World} {a : Act} {o : Oper} (s x : Operand) (t : TypeId) (ho : o.op = .call { callee := .builtin .append, args := #[s, x], argTypes := #[t, t] })
    (h : ∃ v' w', (Builtin.append_ #[t, t] o.type #[a.eval s, a.eval x]).run P W = .ok v' w' ∧ S v' w' ∧ Below W.heap.size W w') : Kr.upMany P S W ((execOp a.eval o).run P W) := by
  obtain ⟨v', w', hr, h1, h2⟩ := h
  unfold execOp
  simp only [ho, resolve, invoke, builtin, Sem.run_bind, Sem.run_pure, Result.andThen_ok, List.map_toArray, List.map_cons, List.map_nil, hr]
  exact ⟨h1, h2⟩
/-- What Bare hands back. -/
def BareEnd (t : Nd) (w : World) (e : Ending) (w' : World) : Prop := ∃ av, e = .returned (.agg #[.int .i64 t.kind, .string t.name, .string t.text, av, .slice none 0 0]) ∧ AttrCp w.heap.size t.attrs av w' ∧ Below w.heap.size w w'
theorem attrCp_keep {B : Nat} {al : List (ByteArray × ByteArray)} {v : Value} {w w' : World} (h : AttrCp B al v w) (hk : ∀ c, c < w.heap.size → (∃ g cur, v.ownBlock = some g ∧ w.heap[g]? = some (.cells cur 51 (0, 0)) ∧ c = g) → w'.heap[c]? = w.heap[c]?) (hs : w.heap.size ≤ w'.heap.size) : AttrCp B al v w' := by
  obtain ⟨A, ac, rfl, h1, h2⟩ := h
  obtain ⟨i1, i2, i3, i4⟩ := h1
  refine ⟨A, ac, rfl, ⟨i1, i2, i3, fun hn => ?_⟩, ?_⟩
  · obtain ⟨b, off, e, hb, hc⟩ := i4 hn
    rcases h2 with ⟨_, he⟩ | ⟨g, cur, hg, hle, hcur⟩
    · exact absurd he hn
    · have : b = g := by rw [e] at hg; injection hg with hg; injection hg
      subst this
      have hh := hk b hb ⟨b, cur, by rw [hg]; rfl, hcur, rfl⟩
      exact ⟨b, off, e, by omega, fun i x hx => ⟨(World.cell?_of_block hh).trans (hc i x hx).1, (World.cell?_of_block hh).trans (hc i x hx).2⟩⟩
  · rcases h2 with h2 | ⟨g, cur, hg, hle, hcur⟩
    · exact .inl h2
    · have hlt := lt_of_block hcur
      exact .inr ⟨g, cur, hg, hle, (hk g hlt ⟨g, cur, by rw [hg]; rfl, hcur, rfl⟩).trans hcur⟩
set_option maxHeartbeats 8000000 in
set_option maxRecDepth 100000 in
theorem bare_calls (t : Nd) (v0 v1 v2 v3 v4 : Value) (w : World) (h : IsTree w w.heap.size t v0 v1 v2 v3 v4) (hatt : t.attrs.length ≤ 1000000) :
    Calls Try.prog 66 #[.agg #[v0, v1, v2, v3, v4]] w (BareEnd t w) := by
  match t with
  | .mk k n s al ks =>
  unfold IsTree at h
  obtain ⟨rfl, rfl, rfl, wk, bn, bs, A, ac, K, kc, rfl, rfl, hat, p1, p2, hkk⟩ := h
  have hal : al.length ≤ 1000000 := hatt
  have HA := Lib.hid hat
  clear hkk hat wk bn bs p2 hatt
  have HW := two_boxes w (.int .i64 k) (.string n) (.string s) (.slice A al.length ac) (.slice K ks.length kc) (.int .i64 0) (.string ⟨#[]⟩) (.string ⟨#[]⟩) (.slice none 0 0) (.slice none 0 0)
  have HRB : Hid (((w.alloc (.cells #[.int .i64 k, .string n, .string s, .slice A al.length ac, .slice K ks.length kc] 25)).alloc (.cells #[.int .i64 0, .string ⟨#[]⟩, .string ⟨#[]⟩, .slice none 0 0, .slice none 0 0] 25)).heap[w.heap.size + 1]? = some (.cells #[.int .i64 0, .string ⟨#[]⟩, .string ⟨#[]⟩, .slice none 0 0, .slice none 0 0] 25 (0, 0))) := Lib.hid (by
    have := alloc_new (w.alloc (.cells #[.int .i64 k, .string n, .string s, .slice A al.length ac, .slice K ks.length kc] 25)) (.cells #[.int .i64 0, .string ⟨#[]⟩, .string ⟨#[]⟩, .slice none 0 0, .slice none 0 0] 25)
    rwa [show (w.alloc (.cells #[.int .i64 k, .string n, .string s, .slice A al.length ac, .slice K ks.length kc] 25)).heap.size = w.heap.size + 1 by simp] at this)
  have HBX : Hid (((w.alloc (.cells #[.int .i64 k, .string n, .string s, .slice A al.length ac, .slice K ks.length kc] 25)).alloc (.cells #[.int .i64 0, .string ⟨#[]⟩, .string ⟨#[]⟩, .slice none 0 0, .slice none 0 0] 25)).heap[w.heap.size]? = some (.cells #[.int .i64 k, .string n, .string s, .slice A al.length ac, .slice K ks.length kc] 25 (0, 0))) := Lib.hid (alloc_old (alloc_new w _) _)
  go_enter Try.func66, Try.ntmps66
  go_wp2_with fail
  generalize (w.alloc (.cells #[.int .i64 k, .string n, .string s, .slice A al.length ac, .slice K ks.length kc] 25)).alloc (.cells #[.int .i64 0, .string ⟨#[]⟩, .string ⟨#[]⟩, .slice none 0 0, .slice none 0 0] 25) = w0 at HW HRB HBX ⊢
  have HB0 := Lib.hid HW.bel
  have hs0 := HW.size
  clear HW
  obtain ⟨w1, hw1⟩ : ∃ w1, w1 = w0.drew := ⟨_, rfl⟩
  have HB1 : Hid (Below w.heap.size w w1) := Lib.hid (hw1 ▸ HB0.out.drew)
  have HR1 : Hid (w1.heap[w.heap.size + 1]? = some (.cells #[.int .i64 0, .string ⟨#[]⟩, .string ⟨#[]⟩, .slice none 0 0, .slice none 0 0] 25 (0, 0))) := Lib.hid (hw1 ▸ HRB.out)
  have HX1 : Hid (w1.heap[w.heap.size]? = some (.cells #[.int .i64 k, .string n, .string s, .slice A al.length ac, .slice K ks.length kc] 25 (0, 0))) := Lib.hid (hw1 ▸ HBX.out)
  have hs1 : w.heap.size + 1 < w1.heap.size := by rw [hw1]; exact hs0
  obtain ⟨b0, b1, b2, b3, b4⟩ := box5 HX1.out
  have r0 := cell_regrown b0
  have r1 := cell_regrown b1
  have r2 := cell_regrown b2
  have r3 := cell_regrown b3
  have r4 := cell_regrown b4
  clear b0 b1 b2 b3 b4
  refine Kr.wp_region_T 10 [10] [(8, AttrCp w1.heap.size al)]
    (by simp only [List.take_succ_cons, List.take_zero] <;> rfl) (by simp only [Kr.takeI, List.getElem?_cons_succ, List.getElem?_cons_zero] <;> rfl) mixed2 (by kernel_rfl) ?_
  rw [← hw1]
  clear hw1
  repeat (refine Kr.wpR_one rfl rfl ?_; go_big_quiet_step (fail); refine wpQuiet_nil ?_)
  refine Kr.wpR_call _ rfl rfl rfl ?_ ?_
  · intro W hW hk
    have hbw := Kr.later_iff.1 hW
    have HIA := Lib.hid (HA.out.keep (fun p hp => (HB1.out.trans (hbw.mono HB1.out.size)).cell hp) (HB1.out.trans (hbw.mono HB1.out.size)).size)
    refine upMany_append (.const (.slice none 0 0)) (.tmp 10) 22 rfl ?_
    obtain ⟨v', w', h1, h2, h3⟩ := run_append_attrs al A ac _ 22 W HIA.out hal
    exact ⟨v', w', h1, h2.mono hbw.size, h3⟩
  rintro v ⟨_, _, _, _, hS, _⟩
  obtain ⟨A', ac', rfl, _, _⟩ := hS
  go_frame
  repeat (refine Kr.wpR_one rfl rfl ?_; go_big_quiet_step (fail); refine wpQuiet_nil ?_)
  refine Kr.wpR_nil ?_
  intro w3 hb3 hH
  obtain ⟨W0, hcp, hbel⟩ := hH _ _ (.inl ⟨rfl, rfl⟩)
  have HCP : Hid (AttrCp w1.heap.size al (.slice A' al.length ac') w3) := Lib.hid (attrCp_keep hcp (fun c hc _ => hbel.block c hc) hbel.size)
  have HB3 : Hid (Below w.heap.size w w3) := Lib.hid (HB1.out.trans (hb3.mono HB1.out.size))
  have HBLK := Lib.hid ((hb3.block _ (lt_of_block HR1.out)).trans HR1.out)
  clear hb3 hH hcp hbel r0 r1 r2 r3 r4
  obtain ⟨c0, c1, c2, c3, c4⟩ := box5 HBLK.out
  have f0 : w3.frozen? ⟨w.heap.size + 1, 0, none⟩ = false := Lib.frozen_of_heap HBLK.out 0
  have f1 : w3.frozen? ⟨w.heap.size + 1, 1, none⟩ = false := Lib.frozen_of_heap HBLK.out 1
  have f2 : w3.frozen? ⟨w.heap.size + 1, 2, none⟩ = false := Lib.frozen_of_heap HBLK.out 2
  have f3 : w3.frozen? ⟨w.heap.size + 1, 3, none⟩ = false := Lib.frozen_of_heap HBLK.out 3
  have f4 : w3.frozen? ⟨w.heap.size + 1, 4, none⟩ = false := Lib.frozen_of_heap HBLK.out 4
  have hS := set5 HBLK.out (.int .i64 k) (.string n) (.string s) (.slice A' al.length ac') (.slice none 0 0)
  go_wp2_with fail
  generalize ((((w3.setCell ⟨w.heap.size + 1, 0, none⟩ (.int .i64 k)).setCell ⟨w.heap.size + 1, 1, none⟩ (.string n)).setCell ⟨w.heap.size + 1, 2, none⟩ (.string s)).setCell ⟨w.heap.size + 1, 3, none⟩ (.slice A' al.length ac')).setCell ⟨w.heap.size + 1, 4, none⟩ (.slice none 0 0) = w9 at hS ⊢
  have hld := run_loadVar_row (P := Try.prog) w9 (w.heap.size + 1) 25 25 _ _ _ hS.blk Try.underlying25 rfl (by kernel_rfl)
  (try simp only [Exit.inBlock, Exit.then])
  refine bodyPost_ret (v := .agg #[.int .i64 k, .string n, .string s, .slice A' al.length ac', .slice none 0 0]) ?_ rfl ⟨_, rfl, ?_, ?_⟩
  · rw [results_one rfl]
    simp [asAddr, Result.andThen, hld]
  · refine (attrCp_keep HCP.out (fun c hc ⟨g, cur, hg, hcur, e⟩ => hS.other c fun e2 => ?_) (Nat.le_of_eq hS.size.symm)).mono (by omega)
    subst e2; subst e
    have := HBLK.out
    rw [hcur] at this
    injection this with this
    injection this with _ this _
    cases this
  · exact HB3.out.trans (hS.fr.below (fun c hc e => by omega) (by have := HB3.out.size; omega))
end Go.Proofs.Ytcacgbdnegmfnaa.Tr
