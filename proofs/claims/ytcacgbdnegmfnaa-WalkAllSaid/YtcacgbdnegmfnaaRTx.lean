/- The document's Text. -/
import Derived.Test.YtcacgbdnegmfnaaLawT
import Derived.Test.YtcacgbdnegmfnaaLawW
namespace Go.Proofs.Ytcacgbdnegmfnaa.Tr
open Go Go.RowKit Go.Proofs.Ytcacgbdnegmfnaa.Wk
set_option linter.unusedVariables false
theorem textL_mem : ∀ {ks : List Nd} {j : Nat} {u : Nd}, ks[j]? = some u → (textT u).length ≤ (textL ks).length
  | [], _, _, h => by simp at h
  | x :: xs, 0, u, h => by simp at h; subst h; simp [textL]
  | x :: xs, j + 1, u, h => by have := textL_mem (ks := xs) (j := j) (by simpa using h); simp only [textL, List.length_append]; omega
set_option maxHeartbeats 8000000 in
set_option maxRecDepth 100000 in
theorem rText_calls : ∀ (m : Nat) (t : Nd) (v0 v1 v2 v3 v4 : Value) (w : World), cntT t ≤ m → IsTree w w.heap.size t v0 v1 v2 v3 v4 → cntT t ≤ 1000000 → (textT t).length ≤ 2400000 →
    Calls Try.prog 40 #[.agg #[v0, v1, v2, v3, v4]] w fun e w' => e = .returned (.string ⟨(textT t).toArray⟩) ∧ Below w.heap.size w w' := by
  intro m
  induction m with
  | zero => intro t _ _ _ _ _ _ h; have := cntT_pos t; omega
  | succ m ih =>
  intro t v0 v1 v2 v3 v4 w hm h hN htx2
  have IH := Lib.hid ih
  clear ih
  cases t with
  | mk k n tx al ks =>
  unfold IsTree at h
  obtain ⟨rfl, rfl, rfl, wk, hn, htx, A, ac, K, kc, rfl, rfl, hat, hk1, hk2, hk3⟩ := h
  have HB : Hid (Below w.heap.size w (w.alloc (.cells #[.int .i64 k, .string n, .string tx, .slice A al.length ac, .slice K ks.length kc] 25))) := Lib.hid ((Below.refl _ w).alloc (Nat.le_refl _) _)
  have HNW := Lib.hid (alloc_new w (.cells #[.int .i64 k, .string n, .string tx, .slice A al.length ac, .slice K ks.length kc] 25))
  have HK := Lib.hid hk3
  have HZ := Lib.hid (txSoFar_zero k n tx al ks)
  have HN := Lib.hid hN
  have HTX := Lib.hid htx2
  have HM := Lib.hid hm
  have hkl : ks.length ≤ 1000000 := by have := cntL_ge ks; unfold cntT at hN; omega
  clear hat hk3 hN hm htx2
  go_enter Try.func40, Try.ntmps40
  go_upto_region 2 with fail
  generalize w.alloc (.cells #[.int .i64 k, .string n, .string tx, .slice A al.length ac, .slice K ks.length kc] 25) = w1 at HB HNW ⊢
  have HB1 : Hid (TxRel (.mk k n tx al ks) (.int .i64 k) (.string n) (.string tx) (.slice A al.length ac) (.slice K ks.length kc) w w1) := Lib.hid ⟨HNW.out, HB.out⟩
  clear HB HNW
  have b0 : w1.cell? ⟨w.heap.size, 0, none⟩ = some (.int .i64 k) := by rw [block_cell HB1.out.box]; rfl
  have b2 : w1.cell? ⟨w.heap.size, 2, none⟩ = some (.string tx) := by rw [block_cell HB1.out.box]; rfl
  cases hk : (k == 3)
  all_goals
    go_wp2_with fail
    go_loopw [3, 4] (fun s i wr => ∃ (j : Nat), j ≤ ks.length ∧ s = .string (txSoFar (.mk k n tx al ks) j) ∧ i = .int .i64 (j : Int) ∧ TxRel (.mk k n tx al ks) (.int .i64 k) (.string n) (.string tx) (.slice A al.length ac) (.slice K ks.length kc) w wr) (fun _ i _ => (ks.length - (intOf i).toNat))
    case atStart => exact ⟨0, Nat.zero_le _, by rw [HZ.out]; have hk2 := hk; simp at hk2; simp [hk2], rfl, HB1.out⟩
    case round =>
      clear b0 b2
      obtain ⟨j, hj, rfl, rfl, hR⟩ := hrel
      have e4 : wr.cell? ⟨w.heap.size, 4, none⟩ = some (.slice K ks.length kc) := by rw [block_cell hR.box]; rfl
      have HR := Lib.hid hR
      clear hR
      rcases Nat.lt_or_ge j ks.length with hl | hl
      · obtain ⟨u, hu⟩ : ∃ u, ks[j]? = some u := ⟨_, List.getElem?_eq_getElem hl⟩
        obtain ⟨kb, ko, rfl, hkb, hks⟩ := HK.out (by rintro rfl; simp at hl)
        obtain ⟨u0, u1, u2, u3, u4, d0, d1, d2, d3, d4, hut⟩ := hks.at_ hu
        have kc2 : ∀ o, wr.cell? ⟨kb, o, none⟩ = w.cell? ⟨kb, o, none⟩ := fun o => HR.out.bel.cell hkb
        rw [← kc2] at d0 d1 d2 d3 d4
        have HUT : Hid (IsTree wr wr.heap.size u u0 u1 u2 u3 u4) := Lib.hid (hut.keep (fun p hp => HR.out.bel.cell hp) HR.out.bel.size)
        have HUC : Hid (cntT u ≤ m ∧ cntT u ≤ 1000000) := Lib.hid (by have h1 := cntL_mem hu; have h2 := HN.out; have h3 := HM.out; unfold cntT at h2 h3; omega)
        have HUX : Hid ((textT u).length ≤ 2400000) := Lib.hid (by have h1 := textL_mem hu; have h2 := HTX.out; unfold textT at h2; rw [List.length_append] at h2; omega)
        have hss : (txSoFar (.mk k n tx al ks) j).size ≤ 2400000 := Nat.le_trans (txSoFar_size (.mk k n tx al ks) j) HTX.out
        have hjl : (j : Int) < (ks.length : Int) := by omega
        have HSU : Hid _ := Lib.hid (txSoFar_succ (t := .mk k n tx al ks) hu)
        have hsu : (⟨(textT u).toArray⟩ : ByteArray).size ≤ 2400000 := by show (List.toArray _).size ≤ _; rw [List.size_toArray]; exact HUX.out
        clear hks hut kc2 hu
        go_wp2_with fail
        refine (IH.out u u0 u1 u2 u3 u4 wr HUC.out.1 HUT.out HUC.out.2 HUX.out).mono ?_
        rintro e w2 ⟨rfl, hb2⟩
        have HN2 : Hid (TxRel (.mk k n tx al ks) (.int .i64 k) (.string n) (.string tx) (.slice A al.length ac) (.slice (some ⟨kb, ko, none⟩) ks.length _) w w2) := Lib.hid ⟨(hb2.block _ (lt_of_block HR.out.box)).trans HR.out.box, HR.out.bel.trans (hb2.mono HR.out.bel.size)⟩
        clear hb2 d0 d1 d2 d3 d4 e4
        go_wp2_with fail
        go_roundw
        case rel => exact ⟨j + 1, by omega, by rw [← HSU.out], by go_num, HN2.out⟩
        case measure => simp [intOf]; omega
      · obtain rfl : j = ks.length := by omega
        have HTA : Hid _ := Lib.hid (txSoFar_all (.mk k n tx al ks))
        rw [show txSoFar (.mk k n tx al ks) ks.length = _ from HTA.out]
        go_wp2_with fail
        go_ret
        exact ⟨rfl, HR.out.bel⟩
end Go.Proofs.Ytcacgbdnegmfnaa.Tr
