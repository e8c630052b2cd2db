/- The document's Post. -/
import Derived.Test.YtcacgbdnegmfnaaRPa
namespace Go.Proofs.Ytcacgbdnegmfnaa.Tr
open Go Go.RowKit Go.Proofs.Ytcacgbdnegmfnaa.Wk Go.Proofs.Ytcacgbdnegmfnaa.Ha
set_option linter.unusedVariables false
/-- The sizes of a node and of all in it, in the list. -/
def SzAt (w : World) (g id : Nat) (u : Nd) : Prop := ∀ (j m : Nat), (szT u)[j]? = some m → g < w.heap.size ∧ w.cell? ⟨g, (id + j) * 15 + 1, none⟩ = some (.int .i64 (m : Int))
theorem SzAt.keep {w w' : World} {g id : Nat} {u : Nd} (h : SzAt w g id u) (hb : Below w.heap.size w w') : SzAt w' g id u := fun j m hj => by
  obtain ⟨h1, h2⟩ := h j m hj
  exact ⟨Nat.lt_of_lt_of_le h1 hb.size, (hb.cell h1).trans h2⟩
theorem SzAt.top {w : World} {g id : Nat} {u : Nd} (h : SzAt w g id u) : g < w.heap.size ∧ w.cell? ⟨g, id * 15 + 1, none⟩ = some (.int .i64 (cntT u : Nat)) := by
  have := h 0 (cntT u) (by rw [(kids_node (id := 0) u).2.1]; rfl)
  rwa [Nat.add_zero] at this
theorem szL_at : ∀ {ks : List Nd} {j : Nat} {u : Nd}, ks[j]? = some u → ∀ i m, (szT u)[i]? = some m → (szL ks)[cntL (ks.take j) + i]? = some m
  | [], _, _, h, _, _, _ => by simp at h
  | x :: xs, 0, u, h, i, m, hi => by
    simp at h; subst h
    rw [List.take_zero, show cntL [] = 0 by unfold cntL; rfl, Nat.zero_add]
    unfold szL
    rw [List.getElem?_append_left (List.getElem?_eq_some_iff.1 hi).1]; exact hi
  | x :: xs, j + 1, u, h, i, m, hi => by
    have := szL_at (ks := xs) (j := j) (by simpa using h) i m hi
    rw [List.take_succ_cons, show cntL (x :: xs.take j) = cntT x + cntL (xs.take j) by rw [cntL]]
    unfold szL
    rw [List.getElem?_append_right (by rw [szT_len]; omega), szT_len, show cntT x + cntL (xs.take j) + i - cntT x = cntL (xs.take j) + i by omega]
    exact this
theorem SzAt.kid {w : World} {g id : Nat} {k : Int} {n s : ByteArray} {al : List (ByteArray × ByteArray)} {ks : List Nd} (h : SzAt w g id (.mk k n s al ks)) {j : Nat} {u : Nd} (hu : ks[j]? = some u) : SzAt w g (id + 1 + cntL (ks.take j)) u := fun i m hi => by
  have h1 : (szT (.mk k n s al ks))[cntL (ks.take j) + i + 1]? = some m := by unfold szT; rw [List.getElem?_cons_succ]; exact szL_at hu i m hi
  have := h _ m h1
  rwa [show id + (cntL (ks.take j) + i + 1) = id + 1 + cntL (ks.take j) + i by omega] at this
theorem postL_snoc : ∀ (ks : List Nd) (id j : Nat) (u : Nd), ks[j]? = some u → postL id (ks.take (j + 1)) = postL id (ks.take j) ++ postT (id + cntL (ks.take j)) u
  | [], _, _, _, h => by simp at h
  | x :: xs, id, 0, u, h => by
    simp at h; subst h
    rw [List.take_succ_cons, List.take_zero, List.take_zero, show cntL [] = 0 by unfold cntL; rfl]
    unfold postL postL
    simp
  | x :: xs, id, j + 1, u, h => by
    have := postL_snoc xs (id + cntT x) j u (by simpa using h)
    rw [List.take_succ_cons, List.take_succ_cons, show postL id (x :: xs.take (j + 1)) = postT id x ++ postL (id + cntT x) (xs.take (j + 1)) by rw [postL], show postL id (x :: xs.take j) = postT id x ++ postL (id + cntT x) (xs.take j) by rw [postL], this, List.append_assoc,
      show cntL (x :: xs.take j) = cntT x + cntL (xs.take j) by rw [cntL], Nat.add_assoc]
theorem cntL_snoc : ∀ {ks : List Nd} {j : Nat} {u : Nd}, ks[j]? = some u → cntL (ks.take (j + 1)) = cntL (ks.take j) + cntT u ∧ cntL (ks.take (j + 1)) ≤ cntL ks
  | [], _, _, h => by simp at h
  | x :: xs, 0, u, h => by
    simp at h; subst h
    rw [List.take_succ_cons, List.take_zero, List.take_zero]
    unfold cntL cntL
    omega
  | x :: xs, j + 1, u, h => by
    have := cntL_snoc (ks := xs) (j := j) (by simpa using h)
    rw [List.take_succ_cons, List.take_succ_cons, show cntL (x :: xs.take (j + 1)) = cntT x + cntL (xs.take (j + 1)) by rw [cntL], show cntL (x :: xs.take j) = cntT x + cntL (xs.take j) by rw [cntL], show cntL (x :: xs) = cntT x + cntL xs by rw [cntL]]
    omega
set_option maxHeartbeats 8000000 in
set_option maxRecDepth 100000 in
theorem rpost_calls : ∀ (m : Nat) (u : Nd) (id g n cap : Nat) (w : World), cntT u ≤ m → SzAt w g id u → id + cntT u ≤ n → n ≤ 400000 →
    Calls Try.prog 60 #[.slice (some ⟨g, 0, none⟩) n cap, .int .i64 (id : Int)] w fun e w' => ∃ v, e = .returned v ∧ w'.ownsRow w.heap.size 3 1 v (cntT u) (cellsN (postT id u)) ∧ Below w.heap.size w w' := by
  intro m
  induction m with
  | zero => intro u _ _ _ _ _ h; have := cntT_pos u; omega
  | succ m ih =>
  intro u id g n cap w hm h hn hN
  have IH := Lib.hid ih
  have HS := Lib.hid h
  clear ih h
  cases u with
  | mk k nm tx al ks =>
  obtain ⟨N, hNN⟩ : ∃ N, N = cntL ks := ⟨_, rfl⟩
  have hC : cntT (.mk k nm tx al ks) = N + 1 := by unfold cntT; omega
  have HC := Lib.hid hC
  have HM : Hid (N ≤ m) := Lib.hid (by omega)
  have HP0 : Hid (postT id (.mk k nm tx al ks) = postL (id + 1) ks ++ [id]) := Lib.hid (by unfold postT; rfl)
  rw [hC] at hn
  clear hC hm
  have HNN := Lib.hid hNN
  clear hNN
  go_enter Try.func60, Try.ntmps60
  go_wp2_with fail
  go_loopw [5, 6] (fun v i wr => ∃ (j c : Nat), j ≤ ks.length ∧ c = cntL (ks.take j) ∧ c ≤ N ∧ i = .int .i64 ((id : Int) + 1 + (c : Int)) ∧ wr.ownsRow w.heap.size 3 1 v c (cellsN (postL (id + 1) (ks.take j))) ∧ Below w.heap.size w wr) (fun _ i _ => (id + 1 + N - (intOf i).toNat))
  case atStart => exact ⟨0, 0, Nat.zero_le _, by rw [List.take_zero]; unfold cntL; rfl, Nat.zero_le _, by simp, by rw [List.take_zero]; unfold postL; exact World.ownsRow_nil _ _ _ _, Below.refl _ _⟩
  case round =>
    obtain ⟨j, c, hj, hc, hcN, rfl, hrow, hbw⟩ := hrel
    have HBW := Lib.hid hbw
    have HROW := Lib.hid hrow
    have HC2 := Lib.hid hc
    clear hbw hrow hc
    obtain ⟨hgl, q0⟩ := (HS.out.keep HBW.out).top
    rw [HC.out] at q0
    have hw1 : IntKind.i64.wrap ((id : Int) + ((N : Int) + 1)) = (id : Int) + ((N : Int) + 1) := IntWalk.i64_in _ (by omega)
    rcases Nat.lt_or_ge j ks.length with hl | hl
    · obtain ⟨u, hu⟩ : ∃ u, ks[j]? = some u := ⟨_, List.getElem?_eq_getElem hl⟩
      obtain ⟨hcs, hcs2⟩ := cntL_snoc hu
      have hup := cntT_pos u
      have hcu : c + cntT u ≤ N := by rw [HC2.out, HNN.out]; omega
      have HSU : Hid (SzAt wr g (id + 1 + c) u) := Lib.hid (by rw [HC2.out]; exact (HS.out.keep HBW.out).kid hu)
      have HSK : Hid (∀ W, Below w.heap.size w W → SzAt W g (id + 1 + c) u) := Lib.hid (fun W hW => by rw [HC2.out]; exact (HS.out.keep hW).kid hu)
      have HPS : Hid (cellsN (postL (id + 1) (ks.take (j + 1))) = cellsN (postL (id + 1) (ks.take j)) ++ cellsN (postT (id + 1 + c) u)) := Lib.hid (by rw [postL_snoc ks (id + 1) j u hu, cellsN_append, HC2.out])
      have HCN : Hid (c + cntT u = cntL (ks.take (j + 1))) := Lib.hid (by rw [hcs, HC2.out])
      clear hcs hcs2 hu
      have hlt : (id : Int) + 1 + (c : Int) < (id : Int) + ((N : Int) + 1) := by omega
      go_wp2_with fail
      obtain ⟨kk, hkk⟩ : ∃ kk, kk = id + 1 + c := ⟨_, rfl⟩
      rw [← hkk] at HSU HSK HPS
      have hidc : (id : Int) + 1 + (c : Int) = (kk : Int) := by omega
      rw [hidc]
      have hPL : (postT kk u).length = cntT u := postT_length _ _
      have hkn0 : kk + cntT u ≤ n := by omega
      have HIDC := Lib.hid hidc
      clear hidc hlt hw1 q0
      have HKK := Lib.hid hkk
      clear hkk
      refine (IH.out u kk g n cap wr (by have := HM.out; omega) HSU.out hkn0 hN).mono ?_
      rintro e w2 ⟨v2, rfl, hr2, hb2⟩
      obtain ⟨g2, cp2, rfl⟩ := row_form hr2 hup
      have HBZ : Hid (Below w.heap.size w w2) := Lib.hid (HBW.out.trans (hb2.mono HBW.out.size))
      have HRZ : Hid (w2.ownsRow w.heap.size 3 1 u5 c (cellsN (postL (id + 1) (ks.take j)))) := Lib.hid (row_of_heap HROW.out fun gg hg => hb2.block gg (HROW.out.lt gg hg).2)
      obtain ⟨i0, ii, hz0, hz1, hz2⟩ := info_parts int_info
      have HNWS : Hid (∀ (j : Nat) x, (cellsN (postT kk u))[j]? = some x → w2.cell? ((⟨g2, 0, none⟩ : Addr).add j) = some x) := Lib.hid (hr2.cells rfl)
      have HONE : Hid (∀ x ∈ cellsN (postT kk u), x.oneCell' = true) := Lib.hid (by
        intro x hx; unfold cellsN at hx; obtain ⟨y, _, rfl⟩ := List.mem_map.1 hx; rfl)
      have HLEN : Hid ((cellsN (postT kk u)).length = cntT u * 1) := Lib.hid (by rw [cellsN_length, hPL, Nat.mul_one])
      have hbs := HBZ.out.size
      clear hr2 hb2
      go_wp2_with (at_builtin; refine wpList_append_own_at _ rfl (.tmp 25) (.tmp 28) 30 rfl w.heap.size 3 i0 _ 1 8 Try.underlying30 ii hz0 hz1 hz2 rfl (by decide) u5 c (cellsN (postL (id + 1) (ks.take j))) rfl HRZ.out ⟨g2, 0, none⟩ (cntT u) _ (cellsN (postT kk u)) rfl HLEN.out HNWS.out HONE.out (by unfold maxLen; omega) (by omega) hbs ?_)
      intro v' w5 h1 h2 h3 h4
      have HBY : Hid (Below w.heap.size w w5) := Lib.hid (HBZ.out.grown h2 hbs fun k hk => (HRZ.out.lt k hk).1)
      have HNR : Hid (w5.ownsRow w.heap.size 3 1 v' (c + cntT u) (cellsN (postL (id + 1) (ks.take (j + 1))))) := Lib.hid (by rw [HPS.out]; exact h1)
      obtain ⟨hgl5, q5⟩ := (HSK.out w5 HBY.out).top
      clear h1 h2 h3 h4
      have hkn : (kk : Int) < (n : Int) := by omega
      have hw2 : IntKind.i64.wrap ((kk : Int) + (cntT u : Int)) = (kk : Int) + (cntT u : Int) := IntWalk.i64_in _ (by omega)
      clear HSK HSU HLEN HNWS HONE hgl5
      go_wp2_with fail
      go_roundw
      case rel => exact ⟨j + 1, c + cntT u, by omega, HCN.out, hcu, by have := HIDC.out; go_num, HNR.out, HBY.out⟩
      case measure => have := HIDC.out; simp [intOf]; omega
    · obtain rfl : j = ks.length := by omega
      rw [List.take_length] at HROW HC2
      have hcN2 : c = N := by rw [HC2.out, HNN.out]
      subst hcN2
      have hge : (id : Int) + ((c : Int) + 1) ≤ (id : Int) + 1 + (c : Int) := by omega
      have HFIN : Hid (cellsN (postT id (.mk k nm tx al ks)) = cellsN (postL (id + 1) ks) ++ [.int .i64 (id : Int)]) := Lib.hid (by rw [HP0.out]; exact cellsN_snoc _ _)
      obtain ⟨i0, ii, hz0, hz1, hz2⟩ := info_parts int_info
      have HRX : Hid ((wr.alloc (.cells #[.int .i64 (id : Int)] 3)).ownsRow w.heap.size 3 1 u5 c (cellsN (postL (id + 1) ks))) := Lib.hid (HROW.out.alloc _)
      have HNEWS : Hid (∀ (j : Nat) u, [Value.int .i64 (id : Int)][j]? = some u → (wr.alloc (.cells #[.int .i64 (id : Int)] 3)).cell? ((⟨wr.heap.size, 0, none⟩ : Addr).add j) = some u) := Lib.hid fun j u hj => by
        rw [add_flat, Nat.zero_add, block_cell (alloc_new wr _)]; rw [← List.getElem?_toArray] at hj; exact hj
      have HONE : Hid (∀ u ∈ [Value.int .i64 (id : Int)], u.oneCell' = true) := Lib.hid (by simp [Value.oneCell'])
      have HBX : Hid (Below w.heap.size w (wr.alloc (.cells #[.int .i64 (id : Int)] 3))) := Lib.hid (HBW.out.alloc HBW.out.size _)
      have hbs := HBX.out.size
      go_wp2_with (at_builtin; refine wpList_append_own_at _ rfl (.tmp 30) (.tmp 32) 30 rfl w.heap.size 3 i0 _ 1 8 Try.underlying30 ii hz0 hz1 hz2 rfl (by decide) u5 c (cellsN (postL (id + 1) ks)) rfl HRX.out ⟨wr.heap.size, 0, none⟩ 1 1 [.int .i64 (id : Int)] rfl rfl HNEWS.out HONE.out (by unfold maxLen; omega) (by omega) hbs ?_)
      intro v' w5 h1 h2 h3 h4
      have HBY : Hid (Below w.heap.size w w5) := Lib.hid (HBX.out.grown h2 hbs fun k hk => (HROW.out.lt k hk).1)
      have HNR : Hid (w5.ownsRow w.heap.size 3 1 v' (cntT (.mk k nm tx al ks)) (cellsN (postT id (.mk k nm tx al ks)))) := Lib.hid (by rw [HFIN.out, HC.out]; exact h1)
      clear h1 h2 h3 h4
      go_wp2_with fail
      go_ret
      exact ⟨v', rfl, HNR.out, HBY.out⟩
set_option maxHeartbeats 4000000 in
set_option maxRecDepth 100000 in
theorem rPost_calls (t : Nd) (v0 v1 v2 v3 v4 : Value) (w : World) (h : IsTree w w.heap.size t v0 v1 v2 v3 v4) (hN : cntT t ≤ 400000) (ht : attT t) :
    Calls Try.prog 38 #[.agg #[v0, v1, v2, v3, v4]] w (PostEnd t w) := by
  have HT : Hid (∀ W', Below w.heap.size w W' → IsTree W' W'.heap.size t v0 v1 v2 v3 v4) := Lib.hid fun W' hb => h.keep (fun p hp => hb.cell hp) hb.size
  have HB0 : Hid (Below w.heap.size w (w.alloc (.cells #[v0, v1, v2, v3, v4] 25))) := Lib.hid ((Below.refl _ w).alloc (Nat.le_refl _) _)
  have HX0 := Lib.hid (alloc_new w (.cells #[v0, v1, v2, v3, v4] 25))
  have HTT := Lib.hid ht
  clear h ht
  go_enter Try.func38, Try.ntmps38
  go_wp2_with fail
  generalize w.alloc (.cells #[v0, v1, v2, v3, v4] 25) = w1 at HB0 HX0 ⊢
  obtain ⟨b0, b1, b2, b3, b4⟩ := box5 HX0.out
  refine (rFlat_calls t v0 v1 v2 v3 v4 w1 (HT.out _ HB0.out) hN HTT.out).mono ?_
  rintro e w2 ⟨gf, cf, B, wt, rfl, hrow, hb2, _, _, _⟩
  have HB2 : Hid (Below w.heap.size w w2) := Lib.hid (HB0.out.trans (hb2.mono HB0.out.size))
  have HSZ : Hid (SzAt w2 gf 0 t) := Lib.hid fun j m hj => by
    obtain ⟨x, hx, e1, e2⟩ := fin_sz hj
    obtain ⟨g2, c2, A2, ac2, y0, y1, y2, y3, y4, hv2, hgl, _, _, d1, _⟩ := hrow.at_ hx
    injection hv2 with hv2 hle hc2
    injection hv2 with hv2
    injection hv2 with hv2 _ _
    subst hv2
    rw [e2] at d1
    rw [Nat.zero_add]
    exact ⟨hgl, d1⟩
  clear hrow hb2 b0 b1 b2 b3 b4
  go_wp2_with fail
  refine (rpost_calls (cntT t) t 0 gf (cntT t) cf w2 (Nat.le_refl _) HSZ.out (by omega) hN).mono ?_
  rintro e w3 ⟨v, rfl, hr, hb3⟩
  have HR3 : Hid (w3.ownsRow w.heap.size 3 1 v (cntT t) (cellsN (postT 0 t))) := Lib.hid (row_mono hr HB2.out.size)
  have HB3 : Hid (Below w.heap.size w w3) := Lib.hid (HB2.out.trans (hb3.mono HB2.out.size))
  clear hr hb3
  go_wp2_with fail
  go_ret
  exact ⟨v, rfl, HR3.out, HB3.out⟩
end Go.Proofs.Ytcacgbdnegmfnaa.Tr
