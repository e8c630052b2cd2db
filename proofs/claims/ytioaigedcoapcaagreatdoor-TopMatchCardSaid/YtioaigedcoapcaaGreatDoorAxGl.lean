/- topiarytop.TopMatch: its statements, by the executor; topiarylaw00.Place. -/
import Derived.Test.YtioaigedcoapcaaGreatDoorAxGk
import Derived.WalkKit
namespace Go.Ax
open Go Go.Proofs

noncomputable def c3 : Code := bodyOf Tryz.f3.body
noncomputable def r1 : Code := cdL (restC 1 c3)
noncomputable def r7 : Code := cdL (restC 4 c3)
noncomputable def tmA (n g : Int) : TM := (rgPut 4).put (.bool false) (setArgs 0 tm0 [.int .i64 n, .int .i64 g])
theorem runA (n g : Int) (ck : CK) (h : Hp) : (cFront Tryz.prog 162 kEnd 1 c3).run ck (setArgs 0 tm0 [.int .i64 n, .int .i64 g]) h = R.norm (tmA n g) h := by kernel_rfl
/-- A callee of which the answer is given. -/
noncomputable def ckR (x : RC) : CK := ⟨fun _ _ _ => x, fun _ _ _ => .bad⟩
theorem run1 (ck : CK) (tm : TM) (h : Hp) : (cCode Tryz.prog 162 true [] kEnd r1).run ck tm h = (cCode Tryz.prog 162 true [] kEnd r1).run (ckR (ck.run 4 [(rgGet 0).get tm, .int .i64 6] h)) tm h := by kernel_rfl
theorem run7 (ck : CK) (tm : TM) (h : Hp) : (cCode Tryz.prog 162 true [] kEnd r7).run ck tm h = (cCode Tryz.prog 162 true [] kEnd r7).run (ckR (ck.run 4 [(rgGet 1).get tm, (rgGet 5).get tm] h)) tm h := by kernel_rfl
noncomputable def nextR (x : R) (f : TM → Hp → R) : R := @R.rec (fun _ => R) R.bad f (fun _ _ => R.bad) (fun _ _ _ => R.bad) x
noncomputable def c3b : Code := restC 2 c3
noncomputable def c3c : Code := restC 5 c3
/-- The second statement, Place's answer being k; and the third and the fourth. -/
noncomputable def stage2 (n g k : Int) : R := nextR ((cCode Tryz.prog 162 true [] kEnd r1).run (ckR (.ok (.int .i64 k) hpT)) (tmA n g) hpT) fun tm h => (cFront Tryz.prog 162 kEnd 2 c3b).run ckC tm h
/-- The fifth, Place's answer being q, and what is behind it. -/
noncomputable def stage3 (q : Int) (x : R) : R := nextR x fun tm h => nextR ((cCode Tryz.prog 162 true [] kEnd r7).run (ckR (.ok (.int .i64 q) h)) tm h) fun tm h => (cCode Tryz.prog 162 true [] kEnd c3c).run ckC tm h
noncomputable def endT (x : R) : RC := resR Tryz.prog 162 Tryz.f3.results.toList x
noncomputable def slotR (t : Nat) (x : R) : AV := @R.rec (fun _ => AV) undef (fun tm _ => (rgGet t).get tm) (fun _ _ => undef) (fun _ _ _ => undef) x
theorem c3_eq : c3 = .seq (cdL c3) (.seq r1 c3b) ∧ c3b = .seq (cdL c3b) (.seq (cdL (cdR c3b)) (.seq r7 c3c)) := ⟨by kernel_rfl, by kernel_rfl⟩
theorem draw3 : allDraw Tryz.prog c3 = true := by kernel_rfl
end Go.Ax
namespace Go.Ax
open Go Go.Proofs Go.RowKit
set_option maxRecDepth 100000

theorem tmod_place (v m : Int) (hm : 0 < m) : (if v.tmod m < 0 then v.tmod m + m else v.tmod m) = v % m := by
  have h1 := Int.emod_nonneg v (show m ≠ 0 by omega)
  have h2 := Int.emod_lt_of_pos v hm
  rw [Int.tmod_eq_emod]
  by_cases hc : 0 ≤ v ∨ m ∣ v
  · rw [if_pos hc]
    have e : v % m - ((0 : Nat) : Int) = v % m := by omega
    first | rw [e] | skip
    rw [if_neg (by omega)]
    try omega
  · rw [if_neg hc]
    have : (m.natAbs : Int) = m := Int.natAbs_of_nonneg (by omega)
    rw [this]
    rw [if_pos (by omega)]
    omega
set_option maxHeartbeats 1000000 in
theorem place_calls (v m : Int) (hm : 0 < m) (hm2 : m ≤ 100) (w : World) : Calls Tryz.prog 4 #[.int .i64 v, .int .i64 m] w fun e w' => e = .returned (.int .i64 (v % m)) ∧ w' = w := by
  have hp := tmod_place v m hm
  have h1 : v.tmod m < m := Int.tmod_lt_of_pos v hm
  have h2 : -m ≤ v.tmod m := by
    have h3 := Int.emod_nonneg v (show m ≠ 0 by omega)
    have h4 := Int.emod_lt_of_pos v hm
    split at hp <;> omega
  have hw : IntKind.i64.wrap (v.tmod m) = v.tmod m := by rw [IntKind.wrap_i64]; omega
  have hw2 : IntKind.i64.wrap (v.tmod m + m) = v.tmod m + m := by rw [IntKind.wrap_i64]; omega
  go_enter Tryz.func4, Tryz.ntmps4
  go_wp2
  · go_ret
    rename_i hneg
    rw [if_pos hneg] at hp
    exact ⟨by rw [hp]; rfl, rfl⟩
  · go_ret
    rename_i hpos
    rw [if_neg (by omega)] at hp
    exact ⟨by rw [hp]; rfl, rfl⟩
end Go.Ax
namespace Go.Ax
open Go Go.Proofs Go.RowKit

/-- Place at one pair of numbers. -/
noncomputable def ckN (v m : Int) : CK := ⟨fun f args h => @dite _ (f = 4 ∧ args = [.int .i64 v, .int .i64 m]) (Classical.propDecidable _) (fun _ => .ok (.int .i64 (v % m)) h) fun _ => .bad, fun _ _ _ => .bad⟩
theorem ckN_run (v m : Int) (h : Hp) : (ckN v m).run 4 [.int .i64 v, .int .i64 m] h = .ok (.int .i64 (v % m)) h := dif_pos (h := Classical.propDecidable _) ⟨rfl, rfl⟩
theorem ckN_ok {v m : Int} (hm : 0 < m) (hm2 : m ≤ 100) : CKOk Tryz.prog (ckN v m) := by
  refine ⟨fun φ h w f args vs r h' hR hv he => ?_, fun φ h w l args vs r h' p _ _ _ he => by cases he⟩
  unfold ckN at he
  dsimp only at he
  split at he
  · rename_i hc
    obtain ⟨rfl, rfl⟩ := hc
    cases he
    obtain ⟨a, b, rfl, h1, h2⟩ := hv.two
    have h1 : a = .int .i64 v := h1
    have h2 : b = .int .i64 m := h2
    subst h1; subst h2
    refine .inl ⟨run_callFunc Tryz.func4 rfl rfl, fun n => callsIn_wide.2 ((place_calls v m hm hm2 w).mono ?_)⟩
    rintro e w' ⟨rfl, rfl⟩
    exact ⟨φ, rfl, Step.refl hR⟩
  · cases he
/-- What the kernel finds. -/
structure Cases (n g : Int) : Prop where
  s1 : ∀ k, 0 ≤ k → k < 6 → slotR 1 (stage2 n g k) = .int .i64 g
  s5 : ∀ k, 0 ≤ k → k < 6 → slotR 5 (stage2 n g k) = .int .i64 (2 + k)
  fin : ∀ k q, 0 ≤ k → k < 6 → 0 ≤ q → q < 2 + k → isT (endT (stage3 q (stage2 n g k))) = true
theorem slot_norm {t : Nat} {x : R} {k : IntKind} {v : Int} (h : slotR t x = .int k v) : ∃ tm hh, x = R.norm tm hh ∧ (rgGet t).get tm = .int k v := by
  cases x with
  | norm tm hh => exact ⟨tm, hh, rfl, h⟩
  | _ => cases h
theorem next_norm {x : R} {f : TM → Hp → R} {tm : TM} {hh : Hp} (h : nextR x f = R.norm tm hh) : ∃ t y, x = R.norm t y ∧ f t y = R.norm tm hh := by
  cases x with
  | norm t y => exact ⟨t, y, rfl, h⟩
  | _ => cases h
theorem top_calls {n g : Int} (hC : Cases n g) {w : World} (hR : Rel phiT hpT w) (N : Nat) : CallsIn Fence.wide N Tryz.prog 3 #[.int .i64 n, .int .i64 g] w (Ret fun v w' => v = .bool true ∧ Below w.heap.size w w') := by
  have k0 := Int.emod_nonneg n (show (6 : Int) ≠ 0 by decide)
  have k1 := Int.emod_lt_of_pos n (show (0 : Int) < 6 by decide)
  have q0 := Int.emod_nonneg g (show 2 + n % 6 ≠ 0 by omega)
  have q1 := Int.emod_lt_of_pos g (show 0 < 2 + n % 6 by omega)
  obtain ⟨tm3, h3, e3, g1⟩ := slot_norm (hC.s1 _ k0 k1)
  obtain ⟨tm3', h3', e3', g5⟩ := slot_norm (hC.s5 _ k0 k1)
  rw [e3] at e3'
  cases e3'
  obtain ⟨tm2, h2, e2, e23⟩ := next_norm e3
  obtain ⟨hE, hfin⟩ := isT_ok (hC.fin _ _ k0 k1 q0 q1)
  rw [e3] at hfin
  have hv : VL phiT [.int .i64 n, .int .i64 g] [.int .i64 n, .int .i64 g] := ⟨_, _, rfl, rfl, _, _, rfl, rfl, rfl⟩
  have ht := args_ok (N := 162) (by decide) hv (show 2 ≤ 162 by decide)
  have hat : At 162 phiT hpT w (setArgs 0 tm0 [.int .i64 n, .int .i64 g]) hpT { tmps := #[Value.int .i64 n, .int .i64 g] ++ Array.replicate (162 - 2) Go.undef, defers := [] } w := ⟨phiT, ht, Step.refl hR, [], rfl, List.nodup_nil, fun r hr => by cases hr⟩
  have hd := draw3
  rw [c3_eq.1, c3_eq.2] at hd
  refine callsIn_of_wp_marks (F := Fence.wide) (c := c3) Tryz.func3 rfl trivial ?_
  refine front_ok (n := N) ckC_ok mixed 1 c3 draw3 (fun a w1 ha => ?_) _ hpT _ w hat (runA n g ckC hpT)
  rw [show restC 1 c3 = .seq r1 c3b by kernel_rfl]
  have er1 : (cCode Tryz.prog 162 true [] kEnd r1).run (ckN n 6) (tmA n g) hpT = R.norm tm2 h2 := by
    rw [run1, show (rgGet 0).get (tmA n g) = .int .i64 n by kernel_rfl, ckN_run]
    exact e2
  refine wpIn_seq (wpIn_mono (code_ok (n := N) (ro := none) (rd := true) (ckN_ok (v := n) (m := 6) (by decide) (by decide)) mixed (fun _ => rfl) r1 (fun _ => by kernel_rfl) [] kEnd _ (by rw [er1]; intro e; cases e) _ _ a w1 ha rfl) fun e a w2 hq => ?_)
  rw [er1] at hq
  cases e with
  | normal =>
    obtain ⟨tm2', h2', ha2, e2'⟩ := hq
    have e2' : R.norm tm2' h2' = R.norm tm2 h2 := e2'
    cases e2'
    refine front_ok (n := N) ckC_ok mixed 2 c3b (by kernel_rfl) (fun a w3 ha => ?_) _ _ _ w2 ha2 e23
    rw [show restC 2 c3b = .seq r7 c3c by kernel_rfl]
    have er7 : (cCode Tryz.prog 162 true [] kEnd r7).run (ckN g (2 + n % 6)) tm3 h3 = (cCode Tryz.prog 162 true [] kEnd r7).run (ckR (.ok (.int .i64 (g % (2 + n % 6))) h3)) tm3 h3 := by
      rw [run7, g1, g5, ckN_run]
    have hfin : endT (nextR ((cCode Tryz.prog 162 true [] kEnd r7).run (ckR (.ok (.int .i64 (g % (2 + n % 6))) h3)) tm3 h3) fun tm h => (cCode Tryz.prog 162 true [] kEnd c3c).run ckC tm h) = .ok (.bool true) hE := hfin
    rw [← er7] at hfin
    cases hx : (cCode Tryz.prog 162 true [] kEnd r7).run (ckN g (2 + n % 6)) tm3 h3 with
    | norm tm6 h6 =>
      rw [hx] at hfin
      have hfin : endT ((cCode Tryz.prog 162 true [] kEnd c3c).run ckC tm6 h6) = .ok (.bool true) hE := hfin
      refine wpIn_seq (wpIn_mono (code_ok (n := N) (ro := none) (rd := true) (ckN_ok (v := g) (m := 2 + n % 6) (by omega) (by omega)) mixed (fun _ => rfl) r7 (fun _ => by kernel_rfl) [] kEnd _ (by rw [hx]; intro e; cases e) _ _ a w3 ha rfl) fun e a w4 hq => ?_)
      rw [hx] at hq
      cases e with
      | normal =>
        obtain ⟨tm6', h6', ha6, e6⟩ := hq
        have e6 : R.norm tm6' h6' = R.norm tm6 h6 := e6
        cases e6
        obtain ⟨tm', h1, hx2, hres⟩ := resR_inv hfin
        have hne : (cCode Tryz.prog 162 true [] kEnd c3c).run ckC tm6 h6 ≠ R.bad := by
          intro e
          rw [e] at hx2
          rcases hx2 with h | h <;> cases h
        refine wpIn_mono (code_ok (n := N) (ro := none) (rd := true) ckC_ok mixed (fun _ => rfl) c3c (fun _ => by kernel_rfl) [] kEnd _ hne _ _ a w4 ha6 rfl) fun e a w5 hq => ?_
        have fin : ∀ tm2 h2, At 162 phiT hpT w tm2 h2 a w5 → (R.norm tm2 h2 = (cCode Tryz.prog 162 true [] kEnd c3c).run ckC tm6 h6 ∨ R.ret tm2 h2 = (cCode Tryz.prog 162 true [] kEnd c3c).run ckC tm6 h6) →
            LeavesInM Fence.wide N Tryz.prog Tryz.f3 a.tmps (Ret fun v w' => v = .bool true ∧ Below w.heap.size w w') a.defers .returning w5 := by
          intro tm2 h2 ha hr2
          have e12 : tm2 = tm' ∧ h2 = h1 := by
            rcases hx2 with hx2 | hx2 <;> rw [hx2] at hr2 <;> rcases hr2 with hr2 | hr2 <;> cases hr2 <;> exact ⟨rfl, rfl⟩
          obtain ⟨rfl, rfl⟩ := e12
          obtain ⟨φ2, ht2, hs2, rs, hrs1, hrs2, hrs3⟩ := ha
          rw [hrs1]
          refine leaves_marks (φ0 := phiT) (φ := φ2) (h0 := hpT) (h := h2) (w0 := w) (fun w6 s6 => ?_) rs w5 hrs2 hrs3 hs2
          obtain ⟨_, v, h3, h4⟩ := results_ok ht2 s6.rel.f hres
          exact ⟨v, h4, h3, s6.below_of hpT_own⟩
        cases e with
        | normal => obtain ⟨tm2, h2, ha, e⟩ := hq; exact fin tm2 h2 ha (.inl e)
        | ret => obtain ⟨tm2, h2, ha, e⟩ := hq; exact fin tm2 h2 ha (.inr e)
        | exit i =>
          obtain ⟨tm2, h2, ha, e⟩ := hq
          rcases hx2 with hx2 | hx2 <;> rw [hx2] at e <;> cases e
        | _ => exact hq.elim
      | ret => obtain ⟨tm4, h4, _, e4⟩ := hq; cases e4
      | exit j => obtain ⟨tm4, h4, _, e4⟩ := hq; rw [goOn_none] at e4; cases e4
      | _ => exact hq.elim
    | _ => rw [hx] at hfin; cases hfin
  | ret => obtain ⟨tm4, h4, _, e4⟩ := hq; cases e4
  | exit j => obtain ⟨tm4, h4, _, e4⟩ := hq; rw [goOn_none] at e4; cases e4
  | _ => exact hq.elim
end Go.Ax
