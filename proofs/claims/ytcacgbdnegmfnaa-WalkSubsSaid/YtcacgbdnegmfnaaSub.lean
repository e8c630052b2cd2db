/- walk.Sub: a node by its number. -/
import Derived.Test.YtcacgbdnegmfnaaFlat
import Derived.BigRegion
import Derived.Laws.ResultCell
import Derived.Laws.Rows
namespace Go.Proofs.Ytcacgbdnegmfnaa.Tr
open Go Go.RowKit
set_option linter.unusedVariables false

/-- Five things made, one behind the other. -/
structure Made5 (w : World) (a b c d e : Obj) (w2 : World) : Prop where
  o0 : w2.heap[w.heap.size]? = some a
  o1 : w2.heap[w.heap.size + 1]? = some b
  o2 : w2.heap[w.heap.size + 2]? = some c
  o3 : w2.heap[w.heap.size + 3]? = some d
  o4 : w2.heap[w.heap.size + 4]? = some e
  size : w2.heap.size = w.heap.size + 5
  bel : Below w.heap.size w w2
theorem made5 (w : World) (a b c d e : Obj) : Made5 w a b c d e (((((w.alloc a).alloc b).alloc c).alloc d).alloc e) := by
  have n1 : (w.alloc a).heap.size = w.heap.size + 1 := by simp
  have n2 : ((w.alloc a).alloc b).heap.size = w.heap.size + 2 := by simp
  have n3 : (((w.alloc a).alloc b).alloc c).heap.size = w.heap.size + 3 := by simp
  have n4 : ((((w.alloc a).alloc b).alloc c).alloc d).heap.size = w.heap.size + 4 := by simp
  have h1 := alloc_new (w.alloc a) b
  have h2 := alloc_new ((w.alloc a).alloc b) c
  have h3 := alloc_new (((w.alloc a).alloc b).alloc c) d
  have h4 := alloc_new ((((w.alloc a).alloc b).alloc c).alloc d) e
  rw [n1] at h1
  rw [n2] at h2
  rw [n3] at h3
  rw [n4] at h4
  exact ⟨alloc_old (alloc_old (alloc_old (alloc_old (alloc_new w a) b) c) d) e, alloc_old (alloc_old (alloc_old h1 c) d) e, alloc_old (alloc_old h2 d) e, alloc_old h3 e, h4, by simp,
    (((((Below.refl _ w).alloc (Nat.le_refl _) a).alloc (by omega) b).alloc (by omega) c).alloc (by omega) d).alloc (by omega) e⟩
/-- What Sub's function keeps: the number asked for, the node, whether it was met. -/
structure SInv (W0 : World) (B : Nat) (t : Nd) (id : Int) (ib : Nat) (vis : List Pn) (w : World) : Prop where
  num : w.heap[ib]? = some (.cells #[.int .i64 id] 3 (0, 0))
  it : ∃ c0 c1 c2 c3 c4, w.heap[ib + 2]? = some (.cells #[c0, c1, c2, c3, c4] 25 (0, 0)) ∧
    (if 0 ≤ id ∧ id < vis.length then ∃ x, (allP t)[id.toNat]? = some x ∧ IsTree W0 B x.t c0 c1 c2 c3 c4 else c0 = .int .i64 0 ∧ c1 = .string ⟨#[]⟩ ∧ c2 = .string ⟨#[]⟩ ∧ c3 = .slice none 0 0 ∧ c4 = .slice none 0 0)
  ok : w.heap[ib + 3]? = some (.cells #[.bool (decide (0 ≤ id ∧ id < vis.length))] 4 (0, 0))
def sOwn (ib : Nat) (_ : Unit) (k : Nat) : Prop := k = ib ∨ k = ib + 2 ∨ k = ib + 3
def stopS (id : Int) (vis : List Pn) : Bool := decide (0 ≤ id ∧ id < vis.length)
section
variable {w : World} {b : Nat} {c0 c1 c2 c3 c4 : Value} {T : TypeId}
/-- A tree stored into its five cells. -/
theorem set5_blk (h : w.heap[b]? = some (.cells #[c0, c1, c2, c3, c4] T (0, 0))) (v0 v1 v2 v3 v4 : Value) :
    (((((w.setCell ⟨b, 0, none⟩ v0).setCell ⟨b, 1, none⟩ v1).setCell ⟨b, 2, none⟩ v2).setCell ⟨b, 3, none⟩ v3).setCell ⟨b, 4, none⟩ v4).heap[b]? = some (.cells #[v0, v1, v2, v3, v4] T (0, 0)) := by
  simp only [World.setCell, Array.getElem?_modify, ↓reduceIte, h, Option.map_some]
  rfl
theorem set5_other {k : Nat} (hk : k ≠ b) (v0 v1 v2 v3 v4 : Value) :
    (((((w.setCell ⟨b, 0, none⟩ v0).setCell ⟨b, 1, none⟩ v1).setCell ⟨b, 2, none⟩ v2).setCell ⟨b, 3, none⟩ v3).setCell ⟨b, 4, none⟩ v4).heap[k]? = w.heap[k]? := by
  rw [Below.heap_setCell _ _ _ k hk, Below.heap_setCell _ _ _ k hk, Below.heap_setCell _ _ _ k hk, Below.heap_setCell _ _ _ k hk, Below.heap_setCell _ _ _ k hk]
/-- The world behind such a store. -/
structure Set5 (w : World) (b : Nat) (T : TypeId) (v0 v1 v2 v3 v4 : Value) (w2 : World) : Prop where
  blk : w2.heap[b]? = some (.cells #[v0, v1, v2, v3, v4] T (0, 0))
  other : ∀ k, k ≠ b → w2.heap[k]? = w.heap[k]?
  size : w2.heap.size = w.heap.size
  fr : Fr (· = b) w.heap.size w w2
theorem set5 (h : w.heap[b]? = some (.cells #[c0, c1, c2, c3, c4] T (0, 0))) (v0 v1 v2 v3 v4 : Value) :
    Set5 w b T v0 v1 v2 v3 v4 (((((w.setCell ⟨b, 0, none⟩ v0).setCell ⟨b, 1, none⟩ v1).setCell ⟨b, 2, none⟩ v2).setCell ⟨b, 3, none⟩ v3).setCell ⟨b, 4, none⟩ v4) :=
  ⟨set5_blk h v0 v1 v2 v3 v4, fun k hk => set5_other hk v0 v1 v2 v3 v4, by simp, (((((Fr.refl (· = b) w.heap.size w).setCell (p := ⟨b, 0, none⟩) (.inr rfl) v0).setCell (p := ⟨b, 1, none⟩) (.inr rfl) v1).setCell (p := ⟨b, 2, none⟩) (.inr rfl) v2).setCell (p := ⟨b, 3, none⟩) (.inr rfl) v3).setCell (p := ⟨b, 4, none⟩) (.inr rfl) v4⟩
end
theorem set1_blk {w : World} {b : Nat} {c v : Value} {T : TypeId} (h : w.heap[b]? = some (.cells #[c] T (0, 0))) : (w.setCell ⟨b, 0, none⟩ v).heap[b]? = some (.cells #[v] T (0, 0)) := by
  simp only [World.setCell, Array.getElem?_modify, ↓reduceIte, h, Option.map_some]
  rfl
theorem stopS_snoc (id : Int) (vis : List Pn) (x : Pn) : stopS id (vis ++ [x]) = (stopS id vis || decide (id = vis.length)) := by
  unfold stopS
  rw [List.length_append]
  simp only [List.length_cons, List.length_nil]
  apply Bool.eq_iff_iff.2
  simp only [Bool.or_eq_true, decide_eq_true_eq]
  omega
set_option maxRecDepth 100000 in
theorem subc_calls (W0 : World) (BT r ib : Nat) (t : Nd) (id : Int) (vis : List Pn) (p : Addr) (x : Pn) (rest : List Pn) (w : World) (hall : vis ++ x :: rest = allP t) (h : SInv W0 BT t id ib vis w) (hv : vis.length ≤ 1000000) (hp : NodeAt w BT r p x.t) (hW : ∀ k, k < BT → w.heap[k]? = W0.heap[k]?) :
    Calls Try.prog 47 #[.int .i64 vis.length, .agg #[.pointer (some p), .int .i64 x.par, .int .i64 x.dep, .int .i64 x.pl], .pointer (some ⟨ib, 0, none⟩), .pointer (some ⟨ib + 2, 0, none⟩), .pointer (some ⟨ib + 3, 0, none⟩)] w
      (fun e w' => e = .returned (.bool (!stopS id (vis ++ [x]))) ∧ SInv W0 BT t id ib (vis ++ [x]) w' ∧ Fr (sOwn ib ()) w.heap.size w w') := by
  obtain ⟨t, par, dep, pl⟩ := x
  obtain ⟨nb, noff, v0, v1, v2, v3, v4, rfl, hnb, d0, d1, d2, d3, d4, ht⟩ := hp
  have hnl : nb < w.heap.size := (cell_lt d0).1
  obtain ⟨c0, c1, c2, c3, c4, hx, hxx⟩ := h.it
  have hi := lt_of_block h.num
  have hi2 := lt_of_block hx
  have hi3 := lt_of_block h.ok
  have x0 : w.cell? ⟨ib, 0, none⟩ = some (.int .i64 id) := by rw [block_cell h.num]; rfl
  have x1 : w.cell? ⟨ib + 3, 0, none⟩ = some (.bool (decide (0 ≤ id ∧ id < vis.length))) := by rw [block_cell h.ok]; rfl
  generalize hok : decide (0 ≤ id ∧ id < vis.length) = ok at x1
  have H := Lib.hid h
  have HX := Lib.hid hx
  clear h hx
  have f0 : w.frozen? ⟨ib + 2, 0, none⟩ = false := Lib.frozen_of_heap HX.out 0
  have f1 : w.frozen? ⟨ib + 2, 1, none⟩ = false := Lib.frozen_of_heap HX.out 1
  have f2 : w.frozen? ⟨ib + 2, 2, none⟩ = false := Lib.frozen_of_heap HX.out 2
  have f3 : w.frozen? ⟨ib + 2, 3, none⟩ = false := Lib.frozen_of_heap HX.out 3
  have f4 : w.frozen? ⟨ib + 2, 4, none⟩ = false := Lib.frozen_of_heap HX.out 4
  have fo : w.frozen? ⟨ib + 3, 0, none⟩ = false := Lib.frozen_of_heap H.out.ok 0
  have e0 : w.cell? ⟨ib + 2, 0, none⟩ = some c0 := by rw [block_cell HX.out]; rfl
  have e1 : w.cell? ⟨ib + 2, 1, none⟩ = some c1 := by rw [block_cell HX.out]; rfl
  have e2 : w.cell? ⟨ib + 2, 2, none⟩ = some c2 := by rw [block_cell HX.out]; rfl
  have e3 : w.cell? ⟨ib + 2, 3, none⟩ = some c3 := by rw [block_cell HX.out]; rfl
  have e4 : w.cell? ⟨ib + 2, 4, none⟩ = some c4 := by rw [block_cell HX.out]; rfl
  have HT := Lib.hid ht
  cases t with
  | mk kk kn ks kal kks =>
  unfold IsTree at ht
  obtain ⟨rfl, rfl, rfl, wk, _, _, A, ac, K, kc, rfl, rfl, _⟩ := ht
  have hget : (allP t)[vis.length]? = some ⟨.mk kk kn ks kal kks, par, dep, pl⟩ := by rw [← hall, List.getElem?_append_right (Nat.le_refl _), Nat.sub_self]; rfl
  have hlen : ((vis ++ [(⟨.mk kk kn ks kal kks, par, dep, pl⟩ : Pn)]).length : Int) = vis.length + 1 := by rw [List.length_append]; simp
  have hss := stopS_snoc id vis ⟨.mk kk kn ks kal kks, par, dep, pl⟩
  by_cases hid : id = (vis.length : Int)
  · subst hid
    go_enter Try.func47, Try.ntmps47
    go_wp2_with fail
    go_ret
    have hss2 : stopS (vis.length : Int) (vis ++ [(⟨.mk kk kn ks kal kks, par, dep, pl⟩ : Pn)]) = true := hss.trans (by simp)
    have hS := set5 HX.out (.int .i64 kk) (.string kn) (.string ks) (.slice A kal.length ac) (.slice K kks.length kc)
    generalize ((((w.setCell ⟨ib + 2, 0, none⟩ (.int .i64 kk)).setCell ⟨ib + 2, 1, none⟩ (.string kn)).setCell ⟨ib + 2, 2, none⟩ (.string ks)).setCell ⟨ib + 2, 3, none⟩ (.slice A kal.length ac)).setCell ⟨ib + 2, 4, none⟩ (.slice K kks.length kc) = w2 at hS ⊢
    have hsz := hS.size
    have hdec : decide (0 ≤ (vis.length : Int) ∧ (vis.length : Int) < (vis ++ [(⟨.mk kk kn ks kal kks, par, dep, pl⟩ : Pn)]).length) = true := by rw [hlen]; simp; omega
    refine ⟨by first | rfl | (rw [hss2]; rfl), ⟨?_, ⟨_, _, _, _, _, alloc_old ((Below.heap_setCell w2 _ _ _ (by show ib + 2 ≠ ib + 3; omega)).trans hS.blk) _, ?_⟩, ?_⟩, ?_⟩
    · exact alloc_old ((Below.heap_setCell w2 _ _ _ (by show ib ≠ ib + 3; omega)).trans ((hS.other ib (by omega)).trans H.out.num)) _
    · rw [if_pos (of_decide_eq_true hdec)]
      exact ⟨_, by simpa using hget, HT.out.keep (fun p hp => World.cell?_of_block (hW _ hp).symm) (Nat.le_refl _)⟩
    · rw [hdec]
      exact alloc_old (set1_blk ((hS.other (ib + 3) (by omega)).trans H.out.ok)) _
    · exact ⟨hS.fr.os, hS.fr.tape, hS.fr.output, by simp; omega, fun k hk hr => (Below.heap_alloc _ _ k (by simp; omega)).trans ((Below.heap_setCell w2 _ _ k (fun e => hr (.inr (.inr e)))).trans (hS.other k (fun e => hr (.inr (.inl e)))))⟩
  · have hid' : ((vis.length : Int) == id) = false := by rw [beq_eq_false_iff_ne]; omega
    go_enter Try.func47, Try.ntmps47
    go_wp2_with fail
    go_ret
    rw [decide_eq_false hid, Bool.or_false] at hss
    have hs2 : stopS id vis = ok := hok
    have hs3 : decide (0 ≤ id ∧ id < (vis ++ [(⟨.mk kk kn ks kal kks, par, dep, pl⟩ : Pn)]).length) = ok := hss.trans hs2
    refine ⟨by first | (rw [hss, hs2]; rfl) | (rw [hs2]; rfl), ⟨?_, ⟨_, _, _, _, _, alloc_old HX.out _, ?_⟩, ?_⟩, (Fr.refl _ _ w).alloc (Nat.le_refl _) _⟩
    · exact alloc_old H.out.num _
    · have e : (0 ≤ id ∧ id < vis.length) ↔ (0 ≤ id ∧ id < (vis ++ [(⟨.mk kk kn ks kal kks, par, dep, pl⟩ : Pn)]).length) := by
        rw [← decide_eq_decide, hok, hs3]
      by_cases hc : (0 ≤ id ∧ id < vis.length)
      · rw [if_pos hc] at hxx
        rw [if_pos (e.1 hc)]
        exact hxx
      · rw [if_neg hc] at hxx
        rw [if_neg (fun h => hc (e.2 h))]
        exact hxx
    · rw [hs3]
      have := H.out.ok
      rw [hok] at this
      exact alloc_old this _

theorem subClo (W0 : World) (ib B r : Nat) (t : Nd) (id : Int) (hb : B ≤ ib ∧ r < ib) (hB : B ≤ W0.heap.size) :
    Clo 47 #[.pointer (some ⟨ib, 0, none⟩), .pointer (some ⟨ib + 2, 0, none⟩), .pointer (some ⟨ib + 3, 0, none⟩)] W0 B r t (fun vis (_ : Unit) w => SInv W0 B t id ib vis w) (sOwn ib) () (stopS id) := by
  refine ⟨fun vis s w w' h hk hs => ?_, fun vis s w h k hk => ?_, fun k hk => ?_, ?_⟩
  · obtain ⟨c0, c1, c2, c3, c4, hx, hxx⟩ := h.it
    exact ⟨(hk _ (.inl rfl)).trans h.num, ⟨c0, c1, c2, c3, c4, (hk _ (.inr (.inl rfl))).trans hx, hxx⟩, (hk _ (.inr (.inr rfl))).trans h.ok⟩
  · obtain ⟨c0, c1, c2, c3, c4, hx, hxx⟩ := h.it
    rcases hk with rfl | rfl | rfl
    · exact lt_of_block h.num
    · exact lt_of_block hx
    · exact lt_of_block h.ok
  · rcases hk with rfl | rfl | rfl <;> omega
  · intro vis s w p x rest hall hI hF hs hp hl
    refine (subc_calls W0 B r ib t id vis p x rest w hall hI hl hp fun k hk => hF.block k (by omega) (fun ho => by rcases ho with rfl | rfl | rfl <;> omega)).mono ?_
    rintro e w' ⟨rfl, h1, h2⟩
    exact ⟨(), rfl, h1, h2, fun k hk => .inl hk⟩

def SubEnd (t : Nd) (id : Int) (w : World) (e : Ending) (w' : World) : Prop :=
  ∃ c0 c1 c2 c3 c4, e = .returned (.tuple #[.agg #[c0, c1, c2, c3, c4], .bool (decide (0 ≤ id ∧ id < cntT t))]) ∧ Below w.heap.size w w' ∧
    (if 0 ≤ id ∧ id < cntT t then ∃ x, (allP t)[id.toNat]? = some x ∧ IsTree w' w.heap.size x.t c0 c1 c2 c3 c4 else c0 = .int .i64 0 ∧ c1 = .string ⟨#[]⟩ ∧ c2 = .string ⟨#[]⟩ ∧ c3 = .slice none 0 0 ∧ c4 = .slice none 0 0)
set_option maxHeartbeats 2000000 in
set_option maxRecDepth 100000 in
theorem sub_calls (t : Nd) (v0 v1 v2 v3 v4 : Value) (id : Int) (w : World) (h : IsTree w w.heap.size t v0 v1 v2 v3 v4) (hN : cntT t ≤ 1000000) :
    Calls Try.prog 20 #[.agg #[v0, v1, v2, v3, v4], .int .i64 id] w (SubEnd t id w) := by
  have H := Lib.hid h
  clear h
  go_enter Try.func20, Try.ntmps20
  go_wp2_with fail
  have hM := made5 w (.cells #[v0, v1, v2, v3, v4] 25) (.cells #[.int .i64 id] 3) (.cells #[.int .i64 0, .string ⟨#[]⟩, .string ⟨#[]⟩, .slice none 0 0, .slice none 0 0] 25) (.cells #[.int .i64 0, .string ⟨#[]⟩, .string ⟨#[]⟩, .slice none 0 0, .slice none 0 0] 25) (.cells #[.bool false] 4)
  generalize ((((w.alloc (.cells #[v0, v1, v2, v3, v4] 25)).alloc (.cells #[.int .i64 id] 3)).alloc (.cells #[.int .i64 0, .string ⟨#[]⟩, .string ⟨#[]⟩, .slice none 0 0, .slice none 0 0] 25)).alloc (.cells #[.int .i64 0, .string ⟨#[]⟩, .string ⟨#[]⟩, .slice none 0 0, .slice none 0 0] 25)).alloc (.cells #[.bool false] 4) = W0 at hM ⊢
  have hnode : NodeAt W0 w.heap.size w.heap.size ⟨w.heap.size, 0, none⟩ t := boxed H.out (Nat.le_refl _) _ hM.o0 fun k hk => hM.bel.block k hk
  have hneg : ¬ (0 ≤ id ∧ id < (([] : List Pn).length : Int)) := by rw [List.length_nil]; omega
  have hinv : SInv W0 w.heap.size t id (w.heap.size + 1) [] W0 := ⟨hM.o1, ⟨_, _, _, _, _, hM.o3, by rw [if_neg hneg]; exact ⟨rfl, rfl, rfl, rfl, rfl⟩⟩, by rw [decide_eq_false hneg]; exact hM.o4⟩
  have HM := Lib.hid hM
  clear hM
  have C := subClo W0 (w.heap.size + 1) w.heap.size w.heap.size t id ⟨by omega, by omega⟩ (by have := HM.out.size; omega)
  refine (each_calls 47 _ (Go.Proofs.enters_of Try.func47 (by kernel_rfl) rfl) W0 w.heap.size w.heap.size _ _ _ _ t C (by have := HM.out.size; omega) (by have := HM.out.size; omega) _ hN hinv hnode).mono ?_
  rintro e w2 ⟨m, s, rfl, hm, hI, hF, hown, hst, hend⟩
  have hal := allP_length t
  have hin : (0 ≤ id ∧ id < ((allP t).take m).length) ↔ (0 ≤ id ∧ id < cntT t) := by
    rw [List.length_take]
    rcases hend with h | h
    · rw [h]; omega
    · unfold stopS at h
      have := of_decide_eq_true h
      rw [List.length_take] at this
      omega
  obtain ⟨c0, c1, c2, c3, c4, hx, hxx⟩ := hI.it
  have hokb := hI.ok
  rw [decide_eq_decide.2 hin] at hokb
  have b2 : w2.heap[w.heap.size + 2]? = _ := (hF.block _ (by have := HM.out.size; omega) (by rintro (h | h | h) <;> omega)).trans HM.out.o2
  have hbel : Below w.heap.size w w2 := HM.out.bel.trans (hF.below (fun k hk ho => by rcases ho with h | h | h <;> omega) (by have := HM.out.size; omega))
  have hres : (if 0 ≤ id ∧ id < cntT t then ∃ x, (allP t)[id.toNat]? = some x ∧ IsTree w2 w.heap.size x.t c0 c1 c2 c3 c4 else c0 = .int .i64 0 ∧ c1 = .string ⟨#[]⟩ ∧ c2 = .string ⟨#[]⟩ ∧ c3 = .slice none 0 0 ∧ c4 = .slice none 0 0) := by
    by_cases hc : 0 ≤ id ∧ id < cntT t
    · rw [if_pos hc]
      rw [if_pos (hin.2 hc)] at hxx
      obtain ⟨x, hx, ht⟩ := hxx
      exact ⟨x, hx, ht.keep (fun p hp => World.cell?_of_block (hF.block _ (by have := HM.out.size; omega) (by rintro (h | h | h) <;> omega))) (Nat.le_refl _)⟩
    · rw [if_neg hc]
      rw [if_neg (fun h => hc (hin.1 h))] at hxx
      exact hxx
  have hone : ∃ k n s A la ac K lk kc, c0 = .int .i64 k ∧ c1 = .string n ∧ c2 = .string s ∧ c3 = .slice A la ac ∧ c4 = .slice K lk kc := by
    by_cases hc : 0 ≤ id ∧ id < cntT t
    · rw [if_pos hc] at hres
      obtain ⟨x, hx, ht⟩ := hres
      generalize x.t = u at ht
      cases u
      unfold IsTree at ht
      obtain ⟨rfl, rfl, rfl, _, _, _, A, ac, K, kc, rfl, rfl, _⟩ := ht
      exact ⟨_, _, _, _, _, _, _, _, _, rfl, rfl, rfl, rfl, rfl⟩
    · rw [if_neg hc] at hres
      obtain ⟨rfl, rfl, rfl, rfl, rfl⟩ := hres
      exact ⟨_, _, _, _, _, _, _, _, _, rfl, rfl, rfl, rfl, rfl⟩
  obtain ⟨k', n', s', A, la, ac, K, lk, kc, rfl, rfl, rfl, rfl, rfl⟩ := hone
  generalize hdd : decide (0 ≤ id ∧ id < (cntT t : Int)) = ok at hokb
  have e0 : w2.cell? ⟨w.heap.size + 3, 0, none⟩ = some (.int .i64 k') := by rw [block_cell hx]; rfl
  have e1 : w2.cell? ⟨w.heap.size + 3, 1, none⟩ = some (.string n') := by rw [block_cell hx]; rfl
  have e2 : w2.cell? ⟨w.heap.size + 3, 2, none⟩ = some (.string s') := by rw [block_cell hx]; rfl
  have e3 : w2.cell? ⟨w.heap.size + 3, 3, none⟩ = some (.slice A la ac) := by rw [block_cell hx]; rfl
  have e4 : w2.cell? ⟨w.heap.size + 3, 4, none⟩ = some (.slice K lk kc) := by rw [block_cell hx]; rfl
  have e5 : w2.cell? ⟨w.heap.size + 4, 0, none⟩ = some (.bool ok) := by rw [block_cell hokb]; rfl
  have g0 : w2.cell? ⟨w.heap.size + 2, 0, none⟩ = some (.int .i64 0) := by rw [block_cell b2]; rfl
  have g1 : w2.cell? ⟨w.heap.size + 2, 1, none⟩ = some (.string ⟨#[]⟩) := by rw [block_cell b2]; rfl
  have g2 : w2.cell? ⟨w.heap.size + 2, 2, none⟩ = some (.string ⟨#[]⟩) := by rw [block_cell b2]; rfl
  have g3 : w2.cell? ⟨w.heap.size + 2, 3, none⟩ = some (.slice none 0 0) := by rw [block_cell b2]; rfl
  have g4 : w2.cell? ⟨w.heap.size + 2, 4, none⟩ = some (.slice none 0 0) := by rw [block_cell b2]; rfl
  have f0 : w2.frozen? ⟨w.heap.size + 2, 0, none⟩ = false := Lib.frozen_of_heap b2 0
  have f1 : w2.frozen? ⟨w.heap.size + 2, 1, none⟩ = false := Lib.frozen_of_heap b2 1
  have f2 : w2.frozen? ⟨w.heap.size + 2, 2, none⟩ = false := Lib.frozen_of_heap b2 2
  have f3 : w2.frozen? ⟨w.heap.size + 2, 3, none⟩ = false := Lib.frozen_of_heap b2 3
  have f4 : w2.frozen? ⟨w.heap.size + 2, 4, none⟩ = false := Lib.frozen_of_heap b2 4
  have HBL := Lib.hid hbel
  have HRS := Lib.hid hres
  have HB2 := Lib.hid b2
  clear hI hF hown hst hend hm C hinv hnode hbel hres b2 hx hxx hokb
  go_wp2_with fail
  go_region
  have hS := set5 (b := w.heap.size + 1 + 1) HB2.out (.int .i64 k') (.string n') (.string s') (.slice A la ac) (.slice K lk kc)
  have HB3 : Hid (Below w.heap.size w ((((((w2.setCell ⟨w.heap.size + 1 + 1, 0, none⟩ (.int .i64 k')).setCell ⟨w.heap.size + 1 + 1, 1, none⟩ (.string n')).setCell ⟨w.heap.size + 1 + 1, 2, none⟩ (.string s')).setCell ⟨w.heap.size + 1 + 1, 3, none⟩ (.slice A la ac)).setCell ⟨w.heap.size + 1 + 1, 4, none⟩ (.slice K lk kc)).drew)) :=
    Lib.hid (HBL.out.trans (hS.fr.below (fun k hk e => by omega) (by have := HBL.out.size; omega))).drew
  have HK3 : Hid (∀ k, k < w.heap.size → ((((((w2.setCell ⟨w.heap.size + 1 + 1, 0, none⟩ (.int .i64 k')).setCell ⟨w.heap.size + 1 + 1, 1, none⟩ (.string n')).setCell ⟨w.heap.size + 1 + 1, 2, none⟩ (.string s')).setCell ⟨w.heap.size + 1 + 1, 3, none⟩ (.slice A la ac)).setCell ⟨w.heap.size + 1 + 1, 4, none⟩ (.slice K lk kc)).drew).heap[k]? = w2.heap[k]?) := Lib.hid fun k hk => hS.other k (by omega)
  have hb := hS.blk
  change ((((((w2.setCell ⟨w.heap.size + 1 + 1, 0, none⟩ (.int .i64 k')).setCell ⟨w.heap.size + 1 + 1, 1, none⟩ (.string n')).setCell ⟨w.heap.size + 1 + 1, 2, none⟩ (.string s')).setCell ⟨w.heap.size + 1 + 1, 3, none⟩ (.slice A la ac)).setCell ⟨w.heap.size + 1 + 1, 4, none⟩ (.slice K lk kc)).drew).heap[w.heap.size + 1 + 1]? = _ at hb
  generalize (((((w2.setCell ⟨w.heap.size + 1 + 1, 0, none⟩ (.int .i64 k')).setCell ⟨w.heap.size + 1 + 1, 1, none⟩ (.string n')).setCell ⟨w.heap.size + 1 + 1, 2, none⟩ (.string s')).setCell ⟨w.heap.size + 1 + 1, 3, none⟩ (.slice A la ac)).setCell ⟨w.heap.size + 1 + 1, 4, none⟩ (.slice K lk kc)).drew = w3 at hb HB3 HK3 ⊢
  have hld := run_loadVar_row (P := Try.prog) w3 (w.heap.size + 1 + 1) 25 25 _ _ _ hb Try.underlying25 rfl (by kernel_rfl)
  clear e0 e1 e2 e3 e4 e5 g0 g1 g2 g3 g4 f0 f1 f2 f3 f4 hS hb
  go_wp2_with fail
  (try simp only [Exit.inBlock, Exit.then])
  refine bodyPost_ret (v := .tuple #[.agg #[.int .i64 k', .string n', .string s', .slice A la ac, .slice K lk kc], .bool ok]) ?_ rfl ⟨_, _, _, _, _, by rw [hdd], HB3.out, ?_⟩
  · rw [results_cell_tmp rfl]
    simp [asAddr, Result.andThen, hld]
  · have h := HRS.out
    by_cases hc : 0 ≤ id ∧ id < cntT t
    · rw [if_pos hc] at h ⊢
      obtain ⟨x, hx, ht⟩ := h
      exact ⟨x, hx, ht.keep (fun p hp => World.cell?_of_block (HK3.out _ hp)) (Nat.le_refl _)⟩
    · rw [if_neg hc] at h ⊢
      exact h
end Go.Proofs.Ytcacgbdnegmfnaa.Tr
