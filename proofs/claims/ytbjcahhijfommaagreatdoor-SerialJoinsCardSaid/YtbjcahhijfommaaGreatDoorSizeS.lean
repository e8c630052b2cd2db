/- Size: how many nodes. -/
import Derived.Test.YtbjcahhijfommaaGreatDoorCopyS
namespace Go.Proofs.YtbjcahhijfommaaGreatDoor.Tr
open Go Go.RowKit
set_option linter.unusedVariables false
theorem cntL_take_le (ks : List Nd) (j : Nat) : cntL (ks.take j) ≤ cntL ks := by
  induction ks generalizing j with
  | nil => simp
  | cons x xs ih =>
    cases j with
    | zero => simp [cntL]
    | succ j => simp only [List.take_succ_cons, cntL]; have := ih j; omega
set_option maxHeartbeats 4000000 in
set_option maxRecDepth 100000 in
theorem size_calls (mm : Nat) (hmm : mm ≤ 1000000) : ∀ (t : Nd) (v0 v1 v2 v3 v4 : Value) (w : World), cntT t ≤ mm → IsTree w w.heap.size t v0 v1 v2 v3 v4 →
    Calls Tryz.prog 6 #[.agg #[v0, v1, v2, v3, v4]] w fun e w' => e = .returned (.int .i64 (cntT t : Nat)) ∧ Below w.heap.size w w' := by
  induction mm with
  | zero => intro t _ _ _ _ _ _ h; have := cntT_pos t; omega
  | succ mm IH =>
  intro t v0 v1 v2 v3 v4 w hm ht
  match t with
  | .mk k n s al ks =>
  unfold IsTree at ht
  obtain ⟨rfl, rfl, rfl, wk, bn, bs, A, ac, K, kc, rfl, rfl, hat, p1, p2, hkk⟩ := ht
  unfold maxLen at *
  have HK := Lib.hid hkk
  have HIH := Lib.hid (IH (by omega))
  clear hkk hat IH
  rw [show cntT (.mk k n s al ks) = cntL ks + 1 by unfold cntT; rfl] at hm ⊢
  have HBX := Lib.hid (alloc_new w (.cells #[.int .i64 k, .string n, .string s, .slice A al.length ac, .slice K ks.length kc] 25))
  have HBE : Hid (Below w.heap.size w (w.alloc (.cells #[.int .i64 k, .string n, .string s, .slice A al.length ac, .slice K ks.length kc] 25))) := Lib.hid ((Below.refl _ w).alloc (Nat.le_refl _) _)
  go_enter Tryz.func6, Tryz.ntmps6
  go_wp2_with fail
  generalize w.alloc (.cells #[.int .i64 k, .string n, .string s, .slice A al.length ac, .slice K ks.length kc] 25) = w1 at HBE HBX ⊢
  go_loopw [3, 4] (fun h i wr => ∃ j : Nat, j ≤ ks.length ∧ h = .int .i64 ((1 + cntL (ks.take j) : Nat) : Int) ∧ i = .int .i64 (j : Int) ∧ Below w1.heap.size w1 wr) (fun _ i _ => ks.length - (intOf i).toNat)
  case atStart => exact ⟨0, Nat.zero_le _, by rw [List.take_zero, show cntL [] = 0 by unfold cntL; rfl]; rfl, rfl, Below.refl _ _⟩
  case round =>
    obtain ⟨j, hj, rfl, rfl, hbw⟩ := hrel
    have hxl := lt_of_block HBX.out
    have HBW := Lib.hid hbw
    have HXR := Lib.hid ((hbw.block _ hxl).trans HBX.out)
    have HBZ : Hid (Below w.heap.size w wr) := Lib.hid (HBE.out.trans (hbw.mono HBE.out.size))
    obtain ⟨b0, b1, b2, b3, b4⟩ := box5 HXR.out
    clear hbw
    rcases Nat.lt_or_ge j ks.length with hl2 | hl2
    · obtain ⟨u, hu⟩ : ∃ u, ks[j]? = some u := ⟨_, List.getElem?_eq_getElem hl2⟩
      obtain ⟨kb, ko, u0, u1, u2, u3, u4, rfl, hkb, e0, e1, e2, e3, e4, hut⟩ := kid_cells HK.out hu wr HBZ.out
      have HUT := Lib.hid hut
      have hjl : (j : Int) < (ks.length : Int) := by omega
      have HNX : Hid (cntL (ks.take (j + 1)) = cntL (ks.take j) + cntT u) := Lib.hid (cntL_take_succ hu)
      have hle := cntL_take_le ks (j + 1)
      rw [HNX.out] at hle
      have hcm : Hid (cntT u ≤ mm) := Lib.hid (by have := cntL_mem hu; omega)
      clear hut hu
      generalize hcj : cntL (ks.take j) = cj at *
      go_wp2_with fail
      refine (HIH.out u u0 u1 u2 u3 u4 wr hcm.out (HUT.out _ HBZ.out)).mono ?_
      rintro e w8 ⟨rfl, hb8⟩
      have HB8 : Hid (Below w1.heap.size w1 w8) := Lib.hid (HBW.out.trans (hb8.mono HBW.out.size))
      clear hb8 b0 b1 b2 b3 b4 e0 e1 e2 e3 e4
      go_wp2_with fail
      go_roundw
      case rel => exact ⟨j + 1, by omega, by rw [HNX.out]; go_num, by go_num, HB8.out⟩
      case measure => simp [intOf]; omega
    · obtain rfl : j = ks.length := by omega
      rw [List.take_length]
      go_wp2_with fail
      go_ret
      exact ⟨by rw [Nat.add_comm]; rfl, HBZ.out⟩
end Go.Proofs.YtbjcahhijfommaaGreatDoor.Tr
