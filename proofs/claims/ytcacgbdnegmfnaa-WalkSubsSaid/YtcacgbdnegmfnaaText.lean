/- walk.Text: all texts in a tree. -/
import Derived.Test.YtcacgbdnegmfnaaEach
import Derived.Test.YtcacgbdnegmfnaaBw
namespace Go.Proofs.Ytcacgbdnegmfnaa.Tr
open Go Go.RowKit
set_option linter.unusedVariables false

mutual
/-- A tree's texts, one behind the other. -/
def textT : Nd → List UInt8 | .mk k _ s _ ks => (if k = 3 then s.data.toList else []) ++ textL ks
def textL : List Nd → List UInt8 | [] => [] | t :: ts => textT t ++ textL ts
end
def textN (t : Nd) : List UInt8 := if t.kind = 3 then t.text.data.toList else []
def textOf (vis : List Pn) : List UInt8 := vis.flatMap fun x => textN x.t
theorem textOf_append (a b : List Pn) : textOf (a ++ b) = textOf a ++ textOf b := by simp [textOf]
mutual
theorem textOf_preT (id : Nat) (par dep pl : Int) : ∀ t, textOf (preT id par dep pl t) = textT t
  | .mk k n s al ks => by
    unfold preT textT
    show textN _ ++ textOf _ = _
    rw [textOf_preL]; rfl
theorem textOf_preL (id : Nat) (par dep pl : Int) : ∀ ts, textOf (preL id par dep pl ts) = textL ts
  | [] => by unfold preL textL; rfl
  | t :: ts => by unfold preL textL; rw [textOf_append, textOf_preT, textOf_preL]
end
theorem textOf_all (t : Nd) : textOf (allP t) = textT t := textOf_preT _ _ _ _ _

def TxEnd (B b : Nat) (v : Value) (l : List UInt8) (t : Nd) (w : World) (e : Ending) (w' : World) : Prop :=
  ∃ v', e = .returned (.bool true) ∧ Bld w' B b v' (l ++ textN t) ∧ Fr (bOwn b v) w.heap.size w w' ∧ ∀ k, bOwn b v' k → bOwn b v k ∨ w.heap.size ≤ k
set_option maxHeartbeats 2000000 in
set_option maxRecDepth 100000 in
theorem textc_calls (B b BT r : Nat) (v : Value) (l : List UInt8) (id : Int) (p : Addr) (x : Pn) (w : World) (h : Bld w B b v l) (hlen : l.length + (textN x.t).length ≤ 140737488355328) (hB : B ≤ w.heap.size) (hp : NodeAt w BT r p x.t) :
    Calls Try.prog 49 #[.int .i64 id, .agg #[.pointer (some p), .int .i64 x.par, .int .i64 x.dep, .int .i64 x.pl], .pointer (some ⟨b, 0, none⟩)] w (TxEnd B b v l x.t w) := by
  obtain ⟨t, par, dep, pl⟩ := x
  obtain ⟨nb, noff, v0, v1, v2, v3, v4, rfl, hnb, c0, c1, c2, c3, c4, ht⟩ := hp
  cases t with
  | mk k n s al ks =>
    unfold IsTree at ht
    obtain ⟨rfl, rfl, rfl, wk, _⟩ := ht
    have H := Lib.hid h
    have hnl : nb < w.heap.size := (cell_lt c0).1
    have hW : Bld (w.alloc (.cells #[.pointer (some ⟨nb, noff, none⟩), .int .i64 par, .int .i64 dep, .int .i64 pl] 71)) B b v l := h.keep fun k hk => Below.heap_alloc w _ k (h.lt k hk)
    have HW := Lib.hid hW
    have hlt := h.lt
    have HLT := Lib.hid hlt
    clear h hW c1 c3 c4 hlt
    by_cases hk : k = 3
    · subst hk
      have HLEN : Hid (l.length + s.size ≤ 140737488355328) := Lib.hid (by rw [show textN (.mk 3 n s al ks) = s.data.toList from if_pos rfl, ← Lib.size_eq] at hlen; exact hlen)
      clear hlen
      go_enter Try.func49, Try.ntmps49
      go_wp2_with fail
      refine (writeString_calls B b v l s _ HW.out HLEN.out (by simp; omega)).mono ?_
      rintro e w2 ⟨v', rfl, g1, g2, g3⟩
      have G1 := Lib.hid g1
      have G2 := Lib.hid g2
      have G3 := Lib.hid g3
      clear g1 g2 g3
      go_wp2_with fail
      go_ret
      refine ⟨v', rfl, G1.out, ((Fr.refl _ _ w).alloc (Nat.le_refl _) _).trans (G2.out.mono (by simp) fun _ _ h => h), fun k hk => ?_⟩
      rcases G3.out k hk with h1 | h1
      · exact .inl h1
      · right; simp at h1; omega
    · have hk' : (k == 3) = false := beq_eq_false_iff_ne.2 hk
      have HK := Lib.hid hk
      clear hk hlen
      go_enter Try.func49, Try.ntmps49
      go_wp2_with fail
      go_ret
      refine ⟨v, rfl, ?_, (Fr.refl _ _ w).alloc (Nat.le_refl _) _, fun k hk => .inl hk⟩
      rw [show textN (.mk k n s al ks) = [] from if_neg HK.out, List.append_nil]
      exact HW.out

theorem prefix_text {t x : Nd} {vis : List Pn} {y : Pn} {rest : List Pn} (h : vis ++ y :: rest = allP t) : (textOf vis).length + (textN y.t).length ≤ (textT t).length := by
  have e := congrArg textOf h
  rw [textOf_all, textOf_append, show y :: rest = [y] ++ rest from rfl, textOf_append] at e
  have := congrArg List.length e
  rw [List.length_append, List.length_append] at this
  have h1 : textOf [y] = textN y.t := by simp [textOf]
  rw [h1] at this
  omega
/-- The function that gathers texts. -/
theorem textClo (W0 : World) (b B r : Nat) (t : Nd) (hb : B ≤ b ∧ b ≠ r) (ht : (textT t).length ≤ 140737488355328) (hbs : b ≤ W0.heap.size) :
    Clo 49 #[.pointer (some ⟨b, 0, none⟩)] W0 B r t (fun vis v w => Bld w b b v (textOf vis) ∧ b ≤ w.heap.size) (bOwn b) (.slice none 0 0) (fun _ => false) := by
  refine ⟨fun vis v w w' h hk hs => ⟨h.1.keep hk, by omega⟩, fun vis v w h => h.1.lt, ?_, ?_⟩
  · rintro k (rfl | hk)
    · exact hb
    · simp [Value.ownBlock] at hk
  · intro vis v w p x rest hall hI hF hs hp hl
    refine (textc_calls b b B r v (textOf vis) _ p x w hI.1 (Nat.le_trans (prefix_text (x := t) hall) ht) hI.2 hp).mono ?_
    rintro e w' ⟨v', rfl, h1, h2, h3⟩
    refine ⟨v', rfl, ⟨?_, by have := h2.size; have := hI.2; omega⟩, h2, h3⟩
    rw [textOf_append, show textOf [x] = textN x.t by simp [textOf]]
    exact h1

/-- A tree boxed: a node of its own. -/
theorem boxed {w : World} {t : Nd} {v0 v1 v2 v3 v4 : Value} {B : Nat} (h : IsTree w B t v0 v1 v2 v3 v4) (hB : B ≤ w.heap.size) (w' : World) (hw : w'.heap[w.heap.size]? = some (.cells #[v0, v1, v2, v3, v4] 25 (0, 0))) (hk : ∀ k, k < B → w'.heap[k]? = w.heap[k]?) :
    NodeAt w' B w.heap.size ⟨w.heap.size, 0, none⟩ t :=
  ⟨w.heap.size, 0, v0, v1, v2, v3, v4, rfl, .inr rfl, by rw [block_cell hw]; rfl, by rw [block_cell hw]; rfl, by rw [block_cell hw]; rfl, by rw [block_cell hw]; rfl, by rw [block_cell hw]; rfl, h.keep (fun p hp => World.cell?_of_block (hk _ hp)) (Nat.le_refl _)⟩

theorem b_string (B b : Nat) (l : List UInt8) (w : World) (h : Lib.IsBuilderF 81 5 B b (Lib.byteCells l) w) (hBw : B ≤ w.heap.size) :
    Calls Try.prog 51 #[.pointer (some ⟨b, 0, none⟩)] w fun e w' => e = .returned (.string ⟨l.toArray⟩) ∧ (Lib.IsBuilderF 81 5 B b (Lib.byteCells l) w' ∧ Below B w w' ∧ Lib.OthersKept 5 (some b) w w') :=
  Go.Proofs.Any.Builder_String_any_k lays169 builderExtra B b l w h hBw
set_option maxHeartbeats 2000000 in
set_option maxRecDepth 100000 in
theorem text_calls (t : Nd) (v0 v1 v2 v3 v4 : Value) (w : World) (h : IsTree w w.heap.size t v0 v1 v2 v3 v4) (hN : cntT t ≤ 1000000) (ht : (textT t).length ≤ 140737488355328) :
    Calls Try.prog 24 #[.agg #[v0, v1, v2, v3, v4]] w fun e w' => e = .returned (.string ⟨(textT t).toArray⟩) ∧ Below w.heap.size w w' := by
  have H := Lib.hid h
  clear h
  go_enter Try.func24, Try.ntmps24
  go_wp2_with fail
  have hsz : ((w.alloc (.cells #[v0, v1, v2, v3, v4] 25)).alloc (.cells #[.pointer none, .slice none 0 0] 81)).heap.size = w.heap.size + 2 := by simp
  have hnode : NodeAt ((w.alloc (.cells #[v0, v1, v2, v3, v4] 25)).alloc (.cells #[.pointer none, .slice none 0 0] 81)) w.heap.size w.heap.size ⟨w.heap.size, 0, none⟩ t :=
    boxed H.out (Nat.le_refl _) _ (alloc_old (alloc_new w _) _) fun k hk => (Below.heap_alloc _ _ k (by simp; omega)).trans (Below.heap_alloc w _ k hk)
  have hbld : Bld ((w.alloc (.cells #[v0, v1, v2, v3, v4] 25)).alloc (.cells #[.pointer none, .slice none 0 0] 81)) (w.heap.size + 1) (w.heap.size + 1) (.slice none 0 0) [] := by
    have := bld_new (w.alloc (.cells #[v0, v1, v2, v3, v4] 25))
    rwa [show (w.alloc (.cells #[v0, v1, v2, v3, v4] 25)).heap.size = w.heap.size + 1 by simp] at this
  have hbel : Below w.heap.size w ((w.alloc (.cells #[v0, v1, v2, v3, v4] 25)).alloc (.cells #[.pointer none, .slice none 0 0] 81)) := ((Below.refl _ w).alloc (Nat.le_refl _) _).alloc (by simp) _
  generalize (w.alloc (.cells #[v0, v1, v2, v3, v4] 25)).alloc (.cells #[.pointer none, .slice none 0 0] 81) = W0 at hsz hnode hbld hbel ⊢
  have HSZ := Lib.hid hsz
  have HB := Lib.hid hbel
  have C := textClo W0 (w.heap.size + 1) w.heap.size w.heap.size t ⟨by omega, by omega⟩ ht (by omega)
  refine (each_calls 49 _ (Go.Proofs.enters_of Try.func49 (by kernel_rfl) rfl) W0 w.heap.size w.heap.size _ _ _ _ t C (by omega) (by omega) _ hN ⟨hbld, by omega⟩ hnode).mono ?_
  rintro e w2 ⟨m, v', rfl, hm, ⟨hI, hI2⟩, hF, hown, _, hend⟩
  have hm' : m = (allP t).length := by rcases hend with h | h; exact h; cases h
  subst hm'
  rw [List.take_length, textOf_all] at hI
  have HI := Lib.hid hI
  have HF := Lib.hid hF
  have hs2 := hF.size
  clear hI hF hown hend hm C hbld hnode hsz hbel
  go_wp2_with fail
  refine (b_string (w.heap.size + 1) (w.heap.size + 1) (textT t) _ (HI.out.is (Nat.le_refl _)) hI2).mono ?_
  rintro e w3 ⟨rfl, _, hb3, _⟩
  have HB3 := Lib.hid hb3
  clear hb3
  go_wp2_with fail
  go_ret
  refine ⟨rfl, ?_⟩
  have h1 : Below w.heap.size W0 w2 := (HF.out.below (B' := w.heap.size) (fun k hk => by rintro (h | h); omega; simp [Value.ownBlock] at h) (by have := HSZ.out; omega))
  exact (HB.out.trans h1).trans (HB3.out.mono (by omega))
end Go.Proofs.Ytcacgbdnegmfnaa.Tr
