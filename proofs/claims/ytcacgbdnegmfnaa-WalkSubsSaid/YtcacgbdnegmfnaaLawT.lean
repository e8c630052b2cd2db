/- Small; the example; the law of texts. -/
import Derived.Test.YtcacgbdnegmfnaaPost
namespace Go.Proofs.Ytcacgbdnegmfnaa.Tr
open Go Go.RowKit
set_option linter.unusedVariables false

/-- A tree, told by one call to be small. -/
theorem small0_calls (t : Nd) (v0 v1 v2 v3 v4 : Value) (w : World) (h : IsTree w w.heap.size t v0 v1 v2 v3 v4) :
    Calls Try.prog 14 #[.agg #[v0, v1, v2, v3, v4]] w fun e w' => ∃ ok : Bool, e = .returned (.bool ok) ∧ (ok = true → okT 0 t ∧ cntT t ≤ 400) ∧ Below w.heap.size w w' := by
  have hb : Below w.heap.size w ((w.alloc (.cells #[v0, v1, v2, v3, v4] 25)).alloc (.cells #[.int .i64 0] 3)) := ((Below.refl _ w).alloc (Nat.le_refl _) _).alloc (by simp) _
  have hn : ((w.alloc (.cells #[v0, v1, v2, v3, v4] 25)).alloc (.cells #[.int .i64 0] 3)).heap[w.heap.size + 1]? = some (.cells #[.int .i64 0] 3 (0, 0)) := by
    have := alloc_new (w.alloc (.cells #[v0, v1, v2, v3, v4] 25)) (.cells #[.int .i64 0] 3)
    rwa [show (w.alloc (.cells #[v0, v1, v2, v3, v4] 25)).heap.size = w.heap.size + 1 by simp] at this
  have hs : w.heap.size + 2 = ((w.alloc (.cells #[v0, v1, v2, v3, v4] 25)).alloc (.cells #[.int .i64 0] 3)).heap.size := by simp
  have H : Hid (IsTree ((w.alloc (.cells #[v0, v1, v2, v3, v4] 25)).alloc (.cells #[.int .i64 0] 3)) w.heap.size t v0 v1 v2 v3 v4) := Lib.hid (h.keep (fun p hp => hb.cell hp) (Nat.le_refl _))
  have HB := Lib.hid hb
  have HN := Lib.hid hn
  have HS := Lib.hid hs
  clear h hb hn hs
  go_enter Try.func14, Try.ntmps14
  go_wp2_with fail
  refine (small_calls (cntT t) t v0 v1 v2 v3 v4 w.heap.size (w.heap.size + 1) 0 0 0 _ rfl (Nat.le_refl _) H.out (by omega) HN.out (by omega) (by omega) (by omega)).mono ?_
  rintro e w2 ⟨ok, n', rfl, h1, h2, h3⟩
  have H2 := Lib.hid h2
  have H3 := Lib.hid h3
  clear h1 h2 h3
  go_wp2_with fail
  go_ret
  refine ⟨ok, rfl, fun hok => ?_, ?_⟩
  · obtain ⟨a, b, c⟩ := H3.out hok
    exact ⟨a, by omega⟩
  · exact HB.out.trans (H2.out.below (fun k hk e => by omega) (by rw [← HS.out]; omega))

def exA : Nd := .mk 1 ⟨#[]⟩ ⟨#[]⟩ [] [.mk 2 ⟨#[97]⟩ ⟨#[]⟩ [] [.mk 3 ⟨#[]⟩ ⟨#[116]⟩ [] []]]
theorem exA_post : postT 0 exA = [2, 1, 0] ∧ cntT exA = 3 := by constructor <;> decide +kernel
theorem isTree_leaf {w : World} {B : Nat} {k : Int} {n s : ByteArray} (hk : (Lit.int .i64 k).wf = true) (hn : n.size ≤ maxLen) (hs : s.size ≤ maxLen) : IsTree w B (.mk k n s [] []) (.int .i64 k) (.string n) (.string s) (.slice none 0 0) (.slice none 0 0) := by
  unfold IsTree
  exact ⟨rfl, rfl, rfl, hk, hn, hs, none, 0, none, 0, rfl, rfl, ⟨Nat.le_refl _, by unfold maxLen; omega, by simp, fun h => absurd rfl h⟩, Nat.le_refl _, by unfold maxLen; omega, fun h => absurd rfl h⟩
theorem isTree_one {w : World} {B b : Nat} {k : Int} {n s : ByteArray} {t : Nd} {v0 v1 v2 v3 v4 : Value} (hk : (Lit.int .i64 k).wf = true) (hn : n.size ≤ maxLen) (hs : s.size ≤ maxLen) (hb : b < B) (ht : IsTree w B t v0 v1 v2 v3 v4)
    (hc : w.heap[b]? = some (.cells #[v0, v1, v2, v3, v4] 25 (0, 0))) : IsTree w B (.mk k n s [] [t]) (.int .i64 k) (.string n) (.string s) (.slice none 0 0) (.slice (some ⟨b, 0, none⟩) 1 1) := by
  unfold IsTree
  refine ⟨rfl, rfl, rfl, hk, hn, hs, none, 0, some ⟨b, 0, none⟩, 1, rfl, rfl, ⟨Nat.le_refl _, by unfold maxLen; omega, by simp, fun h => absurd rfl h⟩, Nat.le_refl _, by unfold maxLen; omega, fun h => ⟨b, 0, rfl, hb, ?_⟩⟩
  unfold IsKids IsKids
  exact ⟨⟨v0, v1, v2, v3, v4, by rw [block_cell hc]; rfl, by rw [block_cell hc]; rfl, by rw [block_cell hc]; rfl, by rw [block_cell hc]; rfl, by rw [block_cell hc]; rfl, ht⟩, trivial⟩
theorem awake_calls (w : World) : Calls Try.prog 15 #[] w fun e w' => e = .returned (.bool true) ∧ Below w.heap.size w w' := by
  have hb : Below w.heap.size w ((w.alloc (.cells #[.int .i64 3, .string ⟨#[]⟩, .string ⟨#[116]⟩, .slice none 0 0, .slice none 0 0] 25)).alloc (.cells #[.int .i64 2, .string ⟨#[97]⟩, .string ⟨#[]⟩, .slice none 0 0, .slice (some ⟨w.heap.size, 0, none⟩) 1 1] 25)) := ((Below.refl _ w).alloc (Nat.le_refl _) _).alloc (by simp) _
  have ht : IsTree ((w.alloc (.cells #[.int .i64 3, .string ⟨#[]⟩, .string ⟨#[116]⟩, .slice none 0 0, .slice none 0 0] 25)).alloc (.cells #[.int .i64 2, .string ⟨#[97]⟩, .string ⟨#[]⟩, .slice none 0 0, .slice (some ⟨w.heap.size, 0, none⟩) 1 1] 25))
      ((w.alloc (.cells #[.int .i64 3, .string ⟨#[]⟩, .string ⟨#[116]⟩, .slice none 0 0, .slice none 0 0] 25)).alloc (.cells #[.int .i64 2, .string ⟨#[97]⟩, .string ⟨#[]⟩, .slice none 0 0, .slice (some ⟨w.heap.size, 0, none⟩) 1 1] 25)).heap.size exA (.int .i64 1) (.string ⟨#[]⟩) (.string ⟨#[]⟩) (.slice none 0 0) (.slice (some ⟨w.heap.size + 1, 0, none⟩) 1 1) := by
    have h2 := alloc_new (w.alloc (.cells #[.int .i64 3, .string ⟨#[]⟩, .string ⟨#[116]⟩, .slice none 0 0, .slice none 0 0] 25)) (.cells #[.int .i64 2, .string ⟨#[97]⟩, .string ⟨#[]⟩, .slice none 0 0, .slice (some ⟨w.heap.size, 0, none⟩) 1 1] 25)
    rw [show (w.alloc (.cells #[.int .i64 3, .string ⟨#[]⟩, .string ⟨#[116]⟩, .slice none 0 0, .slice none 0 0] 25)).heap.size = w.heap.size + 1 by simp] at h2
    refine isTree_one (by decide) (by decide) (by decide) (by simp) (isTree_one (by decide) (by decide) (by decide) (by simp; omega) (isTree_leaf (by decide) (by decide) (by decide)) ?_) h2
    exact alloc_old (alloc_new w _) _
  have HB := Lib.hid hb
  have HT := Lib.hid ht
  clear hb ht
  have ha : attT exA := by simp [exA, attT, attL]
  go_enter Try.func15, Try.ntmps15
  go_wp2_with fail
  refine (post_calls exA _ _ _ _ _ _ HT.out (by rw [exA_post.2]; omega) ha).mono ?_
  rintro e w2 ⟨v, rfl, hrow, hbel⟩
  rw [exA_post.1, exA_post.2] at hrow
  obtain ⟨g, cap, rfl, hc1, hc2, _, _⟩ := row_top hrow
  have hcs := hrow.cells (g := g) rfl
  have c0 : w2.cell? ⟨g, 0, none⟩ = some (.int .i64 2) := by have := hcs 0 _ rfl; rwa [add_flat] at this
  have c1 : w2.cell? ⟨g, 1, none⟩ = some (.int .i64 1) := by have := hcs 1 _ rfl; rwa [add_flat] at this
  have c2 : w2.cell? ⟨g, 2, none⟩ = some (.int .i64 0) := by have := hcs 2 _ rfl; rwa [add_flat] at this
  have HB2 : Hid (Below w.heap.size w w2) := Lib.hid (HB.out.trans (hbel.mono HB.out.size))
  clear hrow hbel HT HB hcs
  go_wp2_with fail
  go_ret
  exact ⟨rfl, HB2.out⟩

mutual
theorem okT_text (d : Nat) : ∀ t, okT d t → (textT t).length ≤ 6000 * cntT t
  | .mk k n s al ks, h => by
    unfold okT at h
    obtain ⟨_, _, _, h1, _, h2⟩ := h
    have := okL_text (d + 1) ks h2
    unfold textT cntT
    rw [List.length_append]
    have : (if k = 3 then s.data.toList else []).length ≤ 6000 := by
      split
      · rw [← Lib.size_eq]; exact h1
      · simp
    omega
theorem okL_text (d : Nat) : ∀ ts, okL d ts → (textL ts).length ≤ 6000 * cntL ts
  | [], _ => by unfold textL; simp
  | t :: ts, h => by
    unfold okL at h
    have := okT_text d t h.1
    have := okL_text d ts h.2
    unfold textL cntL
    rw [List.length_append]; omega
end
theorem okL_at {d : Nat} : ∀ {ks : List Nd} {j : Nat} {t : Nd}, ks[j]? = some t → okL d ks → okT d t
  | [], _, _, h, _ => by simp at h
  | x :: xs, 0, t, h, hk => by simp at h; subst h; unfold okL at hk; exact hk.1
  | x :: xs, j + 1, t, h, hk => by unfold okL at hk; exact okL_at (ks := xs) (j := j) (by simpa using h) hk.2
theorem textL_take {ks : List Nd} {j : Nat} {t : Nd} (h : ks[j]? = some t) : textL (ks.take (j + 1)) = textL (ks.take j) ++ textT t := by
  induction ks generalizing j with
  | nil => simp at h
  | cons x xs ih =>
    cases j with
    | zero => simp at h; subst h; simp [textL]
    | succ j => have := ih (j := j) (by simpa using h); simp only [List.take_succ_cons, textL]; rw [this, List.append_assoc]
/-- The text so far. -/
def txSoFar (t : Nd) (j : Nat) : ByteArray := ⟨(textN t ++ textL (t.kids.take j)).toArray⟩
theorem txSoFar_zero (k : Int) (n s : ByteArray) (al : List (ByteArray × ByteArray)) (ks : List Nd) : txSoFar (.mk k n s al ks) 0 = if k = 3 then s else ⟨#[]⟩ := by
  unfold txSoFar textN
  rw [List.take_zero]; unfold textL
  rw [List.append_nil]
  show (⟨(if k = 3 then s.data.toList else []).toArray⟩ : ByteArray) = _
  split <;> rfl
theorem txSoFar_succ {t u : Nd} {j : Nat} (h : t.kids[j]? = some u) : txSoFar t j ++ ⟨(textT u).toArray⟩ = txSoFar t (j + 1) := by
  unfold txSoFar
  rw [textL_take h, ← List.append_assoc]
  apply ByteArray.ext
  simp
theorem txSoFar_all (t : Nd) : txSoFar t t.kids.length = ⟨(textT t).toArray⟩ := by
  cases t with
  | mk k n s al ks =>
    unfold txSoFar textT
    rw [List.take_of_length_le (by exact Nat.le_refl _)]; rfl
theorem textL_take_le (ks : List Nd) (j : Nat) : (textL (ks.take j)).length ≤ (textL ks).length := by
  induction ks generalizing j with
  | nil => simp
  | cons x xs ih =>
    cases j with
    | zero => simp [textL]
    | succ j => simp only [List.take_succ_cons, textL, List.length_append]; have := ih j; omega
theorem txSoFar_size (t : Nd) (j : Nat) : (txSoFar t j).size ≤ (textT t).length := by
  cases t with
  | mk k n s al ks =>
    have := textL_take_le ks j
    unfold txSoFar textT textN
    show (List.toArray _).size ≤ _
    rw [List.size_toArray, List.length_append, List.length_append]
    show (if k = 3 then s.data.toList else []).length + (textL (ks.take j)).length ≤ _
    omega
end Go.Proofs.Ytcacgbdnegmfnaa.Tr
namespace Go.Proofs.Ytcacgbdnegmfnaa.Wk
open Go Go.RowKit Tr
/-- What holds round by round: the tree in its box. -/
structure TxRel (t : Nd) (v0 v1 v2 v3 v4 : Value) (w wr : World) : Prop where
  box : wr.heap[w.heap.size]? = some (.cells #[v0, v1, v2, v3, v4] 25 (0, 0))
  bel : Below w.heap.size w wr
set_option maxHeartbeats 4000000 in
set_option maxRecDepth 100000 in
theorem walkTexts (t : Nd) (v0 v1 v2 v3 v4 : Value) (w : World) (h : IsTree w w.heap.size t v0 v1 v2 v3 v4) :
    Calls Try.prog 7 #[.agg #[v0, v1, v2, v3, v4]] w fun e w' => e = .returned (.bool true) ∧ Below w.heap.size w w' := by
  cases t with
  | mk k n tx al ks =>
  have H := Lib.hid h
  unfold IsTree at h
  obtain ⟨rfl, rfl, rfl, wk, hn, htx, A, ac, K, kc, rfl, rfl, hat, hk1, hk2, hk3⟩ := h
  have HB : Hid (Below w.heap.size w (w.alloc (.cells #[.int .i64 k, .string n, .string tx, .slice A al.length ac, .slice K ks.length kc] 25))) := Lib.hid ((Below.refl _ w).alloc (Nat.le_refl _) _)
  have HNW := Lib.hid (alloc_new w (.cells #[.int .i64 k, .string n, .string tx, .slice A al.length ac, .slice K ks.length kc] 25))
  have HK := Lib.hid hk3
  clear hat hk3
  go_enter Try.func7, Try.ntmps7
  go_wp2_with fail
  refine (small0_calls _ _ _ _ _ _ _ (H.out.keep (fun p hp => HB.out.cell hp) HB.out.size)).mono ?_
  rintro e w1 ⟨ok, rfl, hok, hb1⟩
  have HB1 : Hid (TxRel (.mk k n tx al ks) (.int .i64 k) (.string n) (.string tx) (.slice A al.length ac) (.slice K ks.length kc) w w1) := Lib.hid ⟨(hb1.block _ (by simp)).trans HNW.out, HB.out.trans (hb1.mono HB.out.size)⟩
  clear hb1 HNW HB
  cases ok with
  | false =>
    go_wp2_with fail
    refine (awake_calls _).mono ?_
    rintro e w2 ⟨rfl, hb2⟩
    have HB2 : Hid (Below w.heap.size w w2) := Lib.hid (HB1.out.bel.trans (hb2.mono HB1.out.bel.size))
    clear hb2
    go_wp2_with fail
    go_ret
    exact ⟨rfl, HB2.out⟩
  | true =>
    obtain ⟨hok1, hok2⟩ := hok rfl
    have htl := okT_text 0 _ hok1
    have HOK := Lib.hid hok1
    clear hok hok1
    have b0 : w1.cell? ⟨w.heap.size, 0, none⟩ = some (.int .i64 k) := by rw [block_cell HB1.out.box]; rfl
    have b2 : w1.cell? ⟨w.heap.size, 2, none⟩ = some (.string tx) := by rw [block_cell HB1.out.box]; rfl
    have HZ := Lib.hid (txSoFar_zero k n tx al ks)
    by_cases hk : k = 3
    · subst hk
      go_wp2_with fail
      go_loopw [3, 4] (fun s i wr => ∃ (j : Nat), j ≤ ks.length ∧ s = .string (txSoFar (.mk 3 n tx al ks) j) ∧ i = .int .i64 (j : Int) ∧ TxRel (.mk 3 n tx al ks) (.int .i64 3) (.string n) (.string tx) (.slice A al.length ac) (.slice K ks.length kc) w wr) (fun _ i _ => (ks.length - (intOf i).toNat))
      case atStart => exact ⟨0, Nat.zero_le _, by rw [HZ.out]; simp, rfl, HB1.out⟩
      case round =>
        obtain ⟨j, hj, rfl, rfl, hR⟩ := hrel
        have hk400 : ks.length ≤ 400 := by have := cntL_ge ks; unfold cntT at hok2; omega
        have e4 : wr.cell? ⟨w.heap.size, 4, none⟩ = some (.slice K ks.length kc) := by rw [block_cell hR.box]; rfl
        have e0 : wr.cell? ⟨w.heap.size, 0, none⟩ = some (.int .i64 3) := by rw [block_cell hR.box]; rfl
        have e1 : wr.cell? ⟨w.heap.size, 1, none⟩ = some (.string n) := by rw [block_cell hR.box]; rfl
        have e2 : wr.cell? ⟨w.heap.size, 2, none⟩ = some (.string tx) := by rw [block_cell hR.box]; rfl
        have e3 : wr.cell? ⟨w.heap.size, 3, none⟩ = some (.slice A al.length ac) := by rw [block_cell hR.box]; rfl
        have HR := Lib.hid hR
        clear hR
        rcases Nat.lt_or_ge j ks.length with hl | hl
        · obtain ⟨u, hu⟩ : ∃ u, ks[j]? = some u := ⟨_, List.getElem?_eq_getElem hl⟩
          obtain ⟨kb, ko, rfl, hkb, hks⟩ := HK.out (by rintro rfl; simp at hl)
          obtain ⟨u0, u1, u2, u3, u4, d0, d1, d2, d3, d4, hut⟩ := hks.at_ hu
          have kc : ∀ o, wr.cell? ⟨kb, o, none⟩ = w.cell? ⟨kb, o, none⟩ := fun o => HR.out.bel.cell hkb
          rw [← kc] at d0 d1 d2 d3 d4
          have HUT : Hid (IsTree wr wr.heap.size u u0 u1 u2 u3 u4) := Lib.hid (hut.keep (fun p hp => HR.out.bel.cell hp) HR.out.bel.size)
          have huc : cntT u ≤ 1000000 := by have := cntL_mem hu; unfold cntT at hok2; omega
          have hutx : (textT u).length ≤ 6000 * cntT u := okT_text 1 u (by have := HOK.out; unfold okT at this; exact okL_at hu this.2.2.2.2.2)
          have hutx2 : (textT u).length ≤ 140737488355328 := by omega
          have hss : (txSoFar (.mk 3 n tx al ks) j).size ≤ 2400000 := by have := txSoFar_size (.mk 3 n tx al ks) j; omega
          have hjl : (j : Int) < (ks.length : Int) := by omega
          have HSU : Hid _ := Lib.hid (txSoFar_succ (t := .mk 3 n tx al ks) hu)
          have hsu : (⟨(textT u).toArray⟩ : ByteArray).size ≤ 2400000 := by show (List.toArray _).size ≤ _; rw [List.size_toArray]; have := cntL_mem hu; unfold cntT at hok2; omega
          clear hks hut kc hutx
          go_wp2_with fail
          refine (text_calls u u0 u1 u2 u3 u4 wr HUT.out huc hutx2).mono ?_
          rintro e w2 ⟨rfl, hb2⟩
          have HN2 : Hid (TxRel (.mk 3 n tx al ks) (.int .i64 3) (.string n) (.string tx) (.slice A al.length ac) (.slice (some ⟨kb, ko, none⟩) ks.length _) w w2) := Lib.hid ⟨(hb2.block _ (lt_of_block HR.out.box)).trans HR.out.box, HR.out.bel.trans (hb2.mono HR.out.bel.size)⟩
          clear hb2 d0 d1 d2 d3 d4 e0 e1 e2 e3 e4
          go_wp2_with fail
          go_roundw
          case rel => exact ⟨j + 1, by omega, by rw [← HSU.out], by go_num, HN2.out⟩
          case measure => simp [intOf]; omega
        · obtain rfl : j = ks.length := by omega
          have HTA : Hid _ := Lib.hid (txSoFar_all (.mk 3 n tx al ks))
          rw [show txSoFar (.mk 3 n tx al ks) ks.length = _ from HTA.out]
          have HT2 : Hid (IsTree wr wr.heap.size (.mk 3 n tx al ks) (.int .i64 3) (.string n) (.string tx) (.slice A al.length ac) (.slice K ks.length kc)) := Lib.hid (H.out.keep (fun p hp => HR.out.bel.cell hp) HR.out.bel.size)
          go_wp2_with fail
          refine (text_calls _ _ _ _ _ _ wr HT2.out (by omega) (by omega)).mono ?_
          rintro e w2 ⟨rfl, hb2⟩
          have HN2 : Hid (Below w.heap.size w w2) := Lib.hid (HR.out.bel.trans (hb2.mono HR.out.bel.size))
          clear hb2
          go_wp2_with fail
          refine (awake_calls _).mono ?_
          rintro e w3 ⟨rfl, hb3⟩
          have HN3 : Hid (Below w.heap.size w w3) := Lib.hid (HN2.out.trans (hb3.mono HN2.out.size))
          clear hb3
          go_wp2_with fail
          go_ret
          exact ⟨rfl, HN3.out⟩
    · have hk' : (k == 3) = false := beq_eq_false_iff_ne.2 hk
      have HKK := Lib.hid hk
      clear hk
      go_wp2_with fail
      go_loopw [3, 4] (fun s i wr => ∃ (j : Nat), j ≤ ks.length ∧ s = .string (txSoFar (.mk k n tx al ks) j) ∧ i = .int .i64 (j : Int) ∧ TxRel (.mk k n tx al ks) (.int .i64 k) (.string n) (.string tx) (.slice A al.length ac) (.slice K ks.length kc) w wr) (fun _ i _ => (ks.length - (intOf i).toNat))
      case atStart => exact ⟨0, Nat.zero_le _, by rw [HZ.out]; rw [if_neg HKK.out], rfl, HB1.out⟩
      case round =>
        obtain ⟨j, hj, rfl, rfl, hR⟩ := hrel
        have hk400 : ks.length ≤ 400 := by have := cntL_ge ks; unfold cntT at hok2; omega
        have e4 : wr.cell? ⟨w.heap.size, 4, none⟩ = some (.slice K ks.length kc) := by rw [block_cell hR.box]; rfl
        have e0 : wr.cell? ⟨w.heap.size, 0, none⟩ = some (.int .i64 k) := by rw [block_cell hR.box]; rfl
        have e1 : wr.cell? ⟨w.heap.size, 1, none⟩ = some (.string n) := by rw [block_cell hR.box]; rfl
        have e2 : wr.cell? ⟨w.heap.size, 2, none⟩ = some (.string tx) := by rw [block_cell hR.box]; rfl
        have e3 : wr.cell? ⟨w.heap.size, 3, none⟩ = some (.slice A al.length ac) := by rw [block_cell hR.box]; rfl
        have HR := Lib.hid hR
        clear hR
        rcases Nat.lt_or_ge j ks.length with hl | hl
        · obtain ⟨u, hu⟩ : ∃ u, ks[j]? = some u := ⟨_, List.getElem?_eq_getElem hl⟩
          obtain ⟨kb, ko, rfl, hkb, hks⟩ := HK.out (by rintro rfl; simp at hl)
          obtain ⟨u0, u1, u2, u3, u4, d0, d1, d2, d3, d4, hut⟩ := hks.at_ hu
          have kc : ∀ o, wr.cell? ⟨kb, o, none⟩ = w.cell? ⟨kb, o, none⟩ := fun o => HR.out.bel.cell hkb
          rw [← kc] at d0 d1 d2 d3 d4
          have HUT : Hid (IsTree wr wr.heap.size u u0 u1 u2 u3 u4) := Lib.hid (hut.keep (fun p hp => HR.out.bel.cell hp) HR.out.bel.size)
          have huc : cntT u ≤ 1000000 := by have := cntL_mem hu; unfold cntT at hok2; omega
          have hutx : (textT u).length ≤ 6000 * cntT u := okT_text 1 u (by have := HOK.out; unfold okT at this; exact okL_at hu this.2.2.2.2.2)
          have hutx2 : (textT u).length ≤ 140737488355328 := by omega
          have hss : (txSoFar (.mk k n tx al ks) j).size ≤ 2400000 := by have := txSoFar_size (.mk k n tx al ks) j; omega
          have hjl : (j : Int) < (ks.length : Int) := by omega
          have HSU : Hid _ := Lib.hid (txSoFar_succ (t := .mk k n tx al ks) hu)
          have hsu : (⟨(textT u).toArray⟩ : ByteArray).size ≤ 2400000 := by show (List.toArray _).size ≤ _; rw [List.size_toArray]; have := cntL_mem hu; unfold cntT at hok2; omega
          clear hks hut kc hutx
          go_wp2_with fail
          refine (text_calls u u0 u1 u2 u3 u4 wr HUT.out huc hutx2).mono ?_
          rintro e w2 ⟨rfl, hb2⟩
          have HN2 : Hid (TxRel (.mk k n tx al ks) (.int .i64 k) (.string n) (.string tx) (.slice A al.length ac) (.slice (some ⟨kb, ko, none⟩) ks.length _) w w2) := Lib.hid ⟨(hb2.block _ (lt_of_block HR.out.box)).trans HR.out.box, HR.out.bel.trans (hb2.mono HR.out.bel.size)⟩
          clear hb2 d0 d1 d2 d3 d4 e0 e1 e2 e3 e4
          go_wp2_with fail
          go_roundw
          case rel => exact ⟨j + 1, by omega, by rw [← HSU.out], by go_num, HN2.out⟩
          case measure => simp [intOf]; omega
        · obtain rfl : j = ks.length := by omega
          have HTA : Hid _ := Lib.hid (txSoFar_all (.mk k n tx al ks))
          rw [show txSoFar (.mk k n tx al ks) ks.length = _ from HTA.out]
          have HT2 : Hid (IsTree wr wr.heap.size (.mk k n tx al ks) (.int .i64 k) (.string n) (.string tx) (.slice A al.length ac) (.slice K ks.length kc)) := Lib.hid (H.out.keep (fun p hp => HR.out.bel.cell hp) HR.out.bel.size)
          go_wp2_with fail
          refine (text_calls _ _ _ _ _ _ wr HT2.out (by omega) (by omega)).mono ?_
          rintro e w2 ⟨rfl, hb2⟩
          have HN2 : Hid (Below w.heap.size w w2) := Lib.hid (HR.out.bel.trans (hb2.mono HR.out.bel.size))
          clear hb2
          go_wp2_with fail
          refine (awake_calls _).mono ?_
          rintro e w3 ⟨rfl, hb3⟩
          have HN3 : Hid (Below w.heap.size w w3) := Lib.hid (HN2.out.trans (hb3.mono HN2.out.size))
          clear hb3
          go_wp2_with fail
          go_ret
          exact ⟨rfl, HN3.out⟩
end Go.Proofs.Ytcacgbdnegmfnaa.Wk
