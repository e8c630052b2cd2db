/- slices.symMergeCmpFunc at attributes, walked (by gen_sm.py). -/
import Derived.Test.YtbdgoffbkenofaaGreatScSc
import Derived.WalkLawsBesides
import Derived.Handy
namespace Go.Proofs.YtbdgoffbkenofaaGreat.So
open Go Go.RowKit Go.Shelf Go.Sort Go.Lib Go.Proofs.YtbdgoffbkenofaaGreat.Tk Go.Proofs.YtbdgoffbkenofaaGreat.Tr
set_option linter.unusedVariables false
set_option linter.unusedSimpArgs false
set_option maxRecDepth 100000

set_option maxHeartbeats 2000000 in
theorem closure_srt (x y : At) (W : World) : Calls Tryz.prog 31 #[.agg #[.string x.1, .string x.2], .agg #[.string y.1, .string y.2]] W fun e w' => e = .returned (.int .i64 (cfAt x y)) ∧ ∃ q os', w' = grow (W.drewN q) os' := by
  have hcon := fun W' => Any.strings_Compare lays106 x.1 y.1 W'
  change ∀ W', Calls Tryz.prog 32 _ _ _ at hcon
  unfold cfAt
  generalize Lib.compareBytes x.1.data.toList y.1.data.toList = r at hcon ⊢
  go_enter Tryz.func31, Tryz.ntmps31
  go_wp2_with (go_at_call 32; refine (hcon _).mono ?_; rintro e w' ⟨rfl, rfl⟩)
  go_ret
  exact ⟨rfl, 0, _, by rw [alloc_eq_grow, alloc_eq_grow, grow_grow]; rfl⟩
def srtF : Value := .func (.func 31) #[] #[]
/-- What the first search keeps. -/
structure BinA (d : Array Rk) (a m b i j : Nat) : Prop where
  lo : m ≤ i
  ij : i ≤ j
  hi : j ≤ b
  yes : m < i → ltR d[i - 1]! d[a]! = true
  no : j < b → ltR d[j]! d[a]! = false
structure UpI (d e : Array Rk) (a b t k : Nat) : Prop where
  lo : a ≤ k
  hi : k + 1 ≤ t
  rot : IsRot d e a (a + 1) (k + 1)
  perm : PermIn a b d e
/-- What the second search keeps. -/
structure BinB (d : Array Rk) (a m i j : Nat) : Prop where
  lo : a ≤ i
  ij : i ≤ j
  hi : j ≤ m
  no : a < i → ltR d[m]! d[i - 1]! = false
  yes : j < m → ltR d[m]! d[j]! = true
structure DnI (d e : Array Rk) (a m s k : Nat) : Prop where
  lo : s ≤ k
  hi : k ≤ m
  rot : IsRot d e k m (m + 1)
  perm : PermIn a (m + 1) d e
theorem half_is (i j : Nat) (h : i + j < 4000000000) : (IntKind.i64.wrap ((((i : Int) + (j : Int)) / 2))) = (((i + j) / 2 : Nat) : Int) := by rw [IntKind.wrap_i64]; omega
set_option maxHeartbeats 16000000 in
/-- Where the first run is one element. -/
theorem sym_left (g cap a m b : Nat) (d : Array Rk) (w : World) (hH : HoldsK encR 2 w g 0 d) (hg : g < w.heap.size) (hma : m = a + 1) (hmb : m < b) (hbd : b ≤ d.size) (hsz : d.size ≤ 1000000) (hM : MergeOK a m b d) :
    Calls Tryz.prog 82 #[.slice (some ⟨g, 0, none⟩) d.size cap, .int .i64 a, .int .i64 m, .int .i64 b, srtF] w fun e w' => e = .returned (.tuple #[]) ∧ ∃ n os e', w' = SW w g n e' os ∧ Merged a b d e' := by
  have HST : Hid (w = SW w g 0 d #[]) := by show w = _; unfold SW sortWorldK; rw [grow_empty]; exact (putRowK_self encR 2 w g 0 d hH).symm
  have HH := Lib.hid hH
  have HM := Lib.hid hM
  have HMA := Lib.hid hma
  have mixed := mixedT
  have q0 : ((m : Int) - (a : Int) == 1) = true := by rw [beq_iff_eq]; omega
  have ham : (a : Int) < (m : Int) := by omega
  have hmb' : (m : Int) < (b : Int) := by omega
  clear hH hM hma
  unfold srtF
  go_enter Tryz.func82, Tryz.ntmps82
  go_wp2_with fail
  go_loopw [10, 11] (fun t10 t11 wr => ∃ (i j n : Nat) (os : Array Obj), t10 = .int .i64 (i : Int) ∧ t11 = .int .i64 (j : Int) ∧ wr = SW w g n d os ∧ Hid (BinA d a m b i j)) (fun t10 t11 _ => (intOf t11).toNat - (intOf t10).toNat)
  case atStart => exact ⟨m, b, 0, #[], rfl, rfl, HST.out, Lib.hid ⟨Nat.le_refl _, by omega, Nat.le_refl _, fun h => absurd h (Nat.lt_irrefl _), fun h => absurd h (Nat.lt_irrefl _)⟩⟩
  case round =>
    obtain ⟨i, j, n, os, rfl, rfl, rfl, HB⟩ := hrel
    have hib : i ≤ j := HB.out.ij
    have hjb : j ≤ b := HB.out.hi
    have hmi : m ≤ i := HB.out.lo
    by_cases hij : i < j
    · have k1 : (i : Int) < (j : Int) := by omega
      have hh1 : i ≤ (i + j) / 2 := by omega
      have hh2 : (i + j) / 2 < j := by omega
      have E2 : Hid (((i : Int) + (j : Int)) / 2 = (((i + j) / 2 : Nat) : Int)) := Lib.hid (by omega)
      go_wp2_with fail
      rw [E2.out]
      clear E2
      generalize (i + j) / 2 = h at *
      have hsk : d.size = d.size := rfl
      have hHd : HoldsK encR 2 (SW w g n d os) g 0 d := holdsK_sortWorldK_c encR 2 w g 0 d _ _ _ HH.out hg hsk
      have hgw : g < (SW w g n d os).heap.size := Nat.lt_of_lt_of_le hg (size_sortWorldK_c encR 2 w g 0 _ _ _)
      have kb1 : ((h : Nat) : Int) < (d.size : Int) := by omega
      have kb2 : ((a : Nat) : Int) < (d.size : Int) := by omega
      obtain ⟨x, hx⟩ : ∃ x, d[h]! = x := ⟨_, rfl⟩
      obtain ⟨y, hy⟩ : ∃ y, d[a]! = y := ⟨_, rfl⟩
      have ra := rk_cells hHd (i := h) (by omega)
      have rb := rk_cells hHd (i := a) (by omega)
      rw [hx] at ra
      rw [hy] at rb
      have x0 := cell_grown (a := ⟨g, (h) * 2, none⟩) hgw ra.1
      have x1 := cell_grown (a := ⟨g, (h) * 2 + 1, none⟩) hgw ra.2.1
      have y0 := cell_grown (a := ⟨g, (a) * 2, none⟩) hgw rb.1
      have y1 := cell_grown (a := ⟨g, (a) * 2 + 1, none⟩) hgw rb.2.1
      have HG := Lib.hid (fun (n' : Nat) (os' : Array Obj) => show grow ((SW w g n d os).drewN n') os' = SW w g (n + n') d (os ++ os') from sortWorldK_grown_c encR 2 w g 0 n n' d os os')
      have HCL := Lib.hid (fun W => closure_srt x.1 y.1 W)
      have HLT := Lib.hid (show ltR d[h]! d[a]! = decide (cfAt x.1 y.1 < 0) from by rw [hx, hy]; rfl)
      generalize cfAt x.1 y.1 = rc at *
      generalize SW w g n d os = wq at *
      clear hHd hgw hx hy ra rb hsk
      by_cases hrc : rc < 0
      · rw [decide_eq_true hrc] at HLT
        have HB2 := Lib.hid (show BinA d a m b (h + 1) j from ⟨by omega, by omega, hjb, fun _ => by rw [Nat.add_sub_cancel]; exact HLT.out, HB.out.no⟩)
        clear HB
        go_wp2_with fail
        go_quiet_grown (first | (go_at_call 31; refine Calls.grown_of (HCL.out _)))
        go_wp2_with fail
        refine ⟨⟨h + 1, j, n + nq, os ++ osq, rfl, rfl, HG.out nq osq, HB2⟩, ?_⟩
        simp only [intOf]
        omega
      · rw [decide_eq_false hrc] at HLT
        have HB2 := Lib.hid (show BinA d a m b i h from ⟨by omega, by omega, by omega, HB.out.yes, fun _ => HLT.out⟩)
        clear HB
        go_wp2_with fail
        go_quiet_grown (first | (go_at_call 31; refine Calls.grown_of (HCL.out _)))
        go_wp2_with fail
        refine ⟨⟨i, h, n + nq, os ++ osq, rfl, rfl, HG.out nq osq, HB2⟩, ?_⟩
        simp only [intOf]
        omega
    · have k1 : ¬ (i : Int) < (j : Int) := by omega
      have hji : j = i := by omega
      subst hji
      go_wp2_with fail
      clear hij k1
      go_loopw [13] (fun t13 wr => ∃ (k n : Nat) (os : Array Obj) (e : Array Rk), t13 = .int .i64 (k : Int) ∧ wr = SW w g n e os ∧ Hid (UpI d e a b j k)) (fun t13 _ => j - (intOf t13).toNat)
      case atStart => exact ⟨a, n, os, d, rfl, rfl, Lib.hid ⟨Nat.le_refl _, by have := HMA.out; omega, up_start d a, permIn_refl _ _ _⟩⟩
      case round =>
        obtain ⟨k, n2, os2, e, rfl, rfl, HU⟩ := hrel
        have hak : a ≤ k := HU.out.lo
        have hkt : k + 1 ≤ j := HU.out.hi
        have hsk : e.size = d.size := HU.out.rot.size
        by_cases hk : k + 1 < j
        · have k2 : (k : Int) < (j : Int) - 1 := by omega
          have HU2 := Lib.hid (show UpI d (swp e k (k + 1)) a b j (k + 1) from ⟨by omega, hk, up_step HU.out.rot hak (by omega), permIn_trans _ _ _ _ _ HU.out.perm (swp_permIn _ _ _ _ _ hak (by omega) (by omega) (by omega) (by omega))⟩)
          obtain ⟨xa, hxa⟩ : ∃ x, e[k]! = x := ⟨_, rfl⟩
          obtain ⟨xb, hxb⟩ : ∃ x, e[k + 1]! = x := ⟨_, rfl⟩
          have hHd : HoldsK encR 2 (SW w g n2 e os2) g 0 e := holdsK_sortWorldK_c encR 2 w g 0 d _ _ _ HH.out hg hsk
          have HSW := Lib.hid (sortWorldK_swp_c encR 2 w g 0 encR_len n2 e os2 hg (k) (k + 1) (by omega) (by omega))
          rw [hxa, hxb, Nat.zero_add, Nat.zero_add] at HSW
          generalize hwq : SW w g n2 e os2 = wq at *
          have ra := rk_cells hHd (i := k) (by omega)
          have rb := rk_cells hHd (i := k + 1) (by omega)
          rw [hxa] at ra
          rw [hxb] at rb
          obtain ⟨x0, x1, f0, f1⟩ := ra
          obtain ⟨y0, y1, f2, f3⟩ := rb
          obtain ⟨⟨v0, z0⟩, ⟨v1, z1⟩, f4, f5⟩ := rk_stored hHd (i := k) (j := k + 1) xb (by omega) (by omega)
          have z0' : ((wq.setCell ⟨g, (k) * 2, none⟩ (.string xb.1.1)).setCell ⟨g, (k) * 2 + 1, none⟩ (.string xb.1.2)).cell? ⟨g, (k + 1) * 2, none⟩ = some v0 := z0
          have z1' : ((wq.setCell ⟨g, (k) * 2, none⟩ (.string xb.1.1)).setCell ⟨g, (k) * 2 + 1, none⟩ (.string xb.1.2)).cell? ⟨g, (k + 1) * 2 + 1, none⟩ = some v1 := z1
          have f4' : ((wq.setCell ⟨g, (k) * 2, none⟩ (.string xb.1.1)).setCell ⟨g, (k) * 2 + 1, none⟩ (.string xb.1.2)).frozen? ⟨g, (k + 1) * 2, none⟩ = false := f4
          have f5' : ((wq.setCell ⟨g, (k) * 2, none⟩ (.string xb.1.1)).setCell ⟨g, (k) * 2 + 1, none⟩ (.string xb.1.2)).frozen? ⟨g, (k + 1) * 2 + 1, none⟩ = false := f5
          have HWQ := Lib.hid hwq
          clear hHd hxa hxb hwq hsk
          go_wp2_with fail
          go_big_region_o
          all_goals go_wp2
          refine ⟨⟨k + 1, n2 + 1, os2, _, rfl, ?_, HU2.out⟩, ?_⟩
          · have e2 := HSW.out
            rw [← HWQ.out]
            exact e2
          · simp only [intOf]
            omega
        · have k2 : ¬ (k : Int) < (j : Int) - 1 := by omega
          have hkj : k + 1 = j := by omega
          have HF := Lib.hid (show Merged a b d e from one_left (HMA.out ▸ HM.out) hbd (by have := HMA.out; omega) hjb (hkj ▸ HU.out.rot) HU.out.perm (fun h => HB.out.yes (by have := HMA.out; omega)) (fun h => HB.out.no h))
          clear hkj hsk
          go_wp2_with fail
          refine bodyPost_ret (results_none rfl _ _ _) rfl ?_
          exact ⟨rfl, n2, os2, e, rfl, HF.out⟩
set_option maxHeartbeats 16000000 in
/-- Where the second run is one element. -/
theorem sym_right (g cap a m b : Nat) (d : Array Rk) (w : World) (hH : HoldsK encR 2 w g 0 d) (hg : g < w.heap.size) (hma : a + 1 < m) (hb1 : b = m + 1) (hbd : b ≤ d.size) (hsz : d.size ≤ 1000000) (hM : MergeOK a m b d) :
    Calls Tryz.prog 82 #[.slice (some ⟨g, 0, none⟩) d.size cap, .int .i64 a, .int .i64 m, .int .i64 b, srtF] w fun e w' => e = .returned (.tuple #[]) ∧ ∃ n os e', w' = SW w g n e' os ∧ Merged a b d e' := by
  have HST : Hid (w = SW w g 0 d #[]) := by show w = _; unfold SW sortWorldK; rw [grow_empty]; exact (putRowK_self encR 2 w g 0 d hH).symm
  have HH := Lib.hid hH
  have HM := Lib.hid hM
  have HB1 := Lib.hid hb1
  have mixed := mixedT
  have q0 : ((m : Int) - (a : Int) == 1) = false := by rw [beq_eq_false_iff_ne]; omega
  have q1 : ((b : Int) - (m : Int) == 1) = true := by rw [beq_iff_eq]; omega
  have ham : (a : Int) < (m : Int) := by omega
  have hmb' : (m : Int) < (b : Int) := by omega
  have hmd : m < d.size := by omega
  clear hH hM hb1
  unfold srtF
  go_enter Tryz.func82, Tryz.ntmps82
  go_wp2_with fail
  go_loopw [14, 15] (fun t14 t15 wr => ∃ (i j n : Nat) (os : Array Obj), t14 = .int .i64 (i : Int) ∧ t15 = .int .i64 (j : Int) ∧ wr = SW w g n d os ∧ Hid (BinB d a m i j)) (fun t14 t15 _ => (intOf t15).toNat - (intOf t14).toNat)
  case atStart => exact ⟨a, m, 0, #[], rfl, rfl, HST.out, Lib.hid ⟨Nat.le_refl _, by omega, Nat.le_refl _, fun h => absurd h (Nat.lt_irrefl _), fun h => absurd h (Nat.lt_irrefl _)⟩⟩
  case round =>
    obtain ⟨i, j, n, os, rfl, rfl, rfl, HB⟩ := hrel
    have hib : i ≤ j := HB.out.ij
    have hjb : j ≤ m := HB.out.hi
    have hai : a ≤ i := HB.out.lo
    by_cases hij : i < j
    · have k1 : (i : Int) < (j : Int) := by omega
      have hh1 : i ≤ (i + j) / 2 := by omega
      have hh2 : (i + j) / 2 < j := by omega
      have E2 : Hid (((i : Int) + (j : Int)) / 2 = (((i + j) / 2 : Nat) : Int)) := Lib.hid (by omega)
      go_wp2_with fail
      rw [E2.out]
      clear E2
      generalize (i + j) / 2 = h at *
      have hsk : d.size = d.size := rfl
      have hHd : HoldsK encR 2 (SW w g n d os) g 0 d := holdsK_sortWorldK_c encR 2 w g 0 d _ _ _ HH.out hg hsk
      have hgw : g < (SW w g n d os).heap.size := Nat.lt_of_lt_of_le hg (size_sortWorldK_c encR 2 w g 0 _ _ _)
      have kb1 : ((m : Nat) : Int) < (d.size : Int) := by omega
      have kb2 : ((h : Nat) : Int) < (d.size : Int) := by omega
      obtain ⟨x, hx⟩ : ∃ x, d[m]! = x := ⟨_, rfl⟩
      obtain ⟨y, hy⟩ : ∃ y, d[h]! = y := ⟨_, rfl⟩
      have ra := rk_cells hHd (i := m) (by omega)
      have rb := rk_cells hHd (i := h) (by omega)
      rw [hx] at ra
      rw [hy] at rb
      have x0 := cell_grown (a := ⟨g, (m) * 2, none⟩) hgw ra.1
      have x1 := cell_grown (a := ⟨g, (m) * 2 + 1, none⟩) hgw ra.2.1
      have y0 := cell_grown (a := ⟨g, (h) * 2, none⟩) hgw rb.1
      have y1 := cell_grown (a := ⟨g, (h) * 2 + 1, none⟩) hgw rb.2.1
      have HG := Lib.hid (fun (n' : Nat) (os' : Array Obj) => show grow ((SW w g n d os).drewN n') os' = SW w g (n + n') d (os ++ os') from sortWorldK_grown_c encR 2 w g 0 n n' d os os')
      have HCL := Lib.hid (fun W => closure_srt x.1 y.1 W)
      have HLT := Lib.hid (show ltR d[m]! d[h]! = decide (cfAt x.1 y.1 < 0) from by rw [hx, hy]; rfl)
      generalize cfAt x.1 y.1 = rc at *
      generalize SW w g n d os = wq at *
      clear hHd hgw hx hy ra rb hsk
      by_cases hrc : rc < 0
      · rw [decide_eq_true hrc] at HLT
        have hd : decide (rc < 0) = true := decide_eq_true hrc
        have HB2 := Lib.hid (show BinB d a m i h from ⟨hai, by omega, by omega, HB.out.no, fun _ => HLT.out⟩)
        clear HB
        go_wp2_with fail
        go_quiet_grown (first | (go_at_call 31; refine Calls.grown_of (HCL.out _)))
        go_wp2_with fail
        refine ⟨⟨i, h, n + nq, os ++ osq, rfl, rfl, HG.out nq osq, HB2⟩, ?_⟩
        simp only [intOf]
        omega
      · rw [decide_eq_false hrc] at HLT
        have hd : decide (rc < 0) = false := decide_eq_false hrc
        have HB2 := Lib.hid (show BinB d a m (h + 1) j from ⟨by omega, by omega, hjb, fun _ => by rw [Nat.add_sub_cancel]; exact HLT.out, HB.out.yes⟩)
        clear HB
        go_wp2_with fail
        go_quiet_grown (first | (go_at_call 31; refine Calls.grown_of (HCL.out _)))
        go_wp2_with fail
        refine ⟨⟨h + 1, j, n + nq, os ++ osq, rfl, rfl, HG.out nq osq, HB2⟩, ?_⟩
        simp only [intOf]
        omega
    · have k1 : ¬ (i : Int) < (j : Int) := by omega
      have hji : j = i := by omega
      subst hji
      go_wp2_with fail
      clear hij k1
      go_loopw [17] (fun t17 wr => ∃ (k n : Nat) (os : Array Obj) (e : Array Rk), t17 = .int .i64 (k : Int) ∧ wr = SW w g n e os ∧ Hid (DnI d e a m j k)) (fun t17 _ => (intOf t17).toNat)
      case atStart => exact ⟨m, n, os, d, rfl, rfl, Lib.hid ⟨by omega, Nat.le_refl _, down_start d m, permIn_refl _ _ _⟩⟩
      case round =>
        obtain ⟨k, n2, os2, e, rfl, rfl, HU⟩ := hrel
        have hjk : j ≤ k := HU.out.lo
        have hkm : k ≤ m := HU.out.hi
        have hsk : e.size = d.size := HU.out.rot.size
        by_cases hk : j < k
        · obtain ⟨kp, rfl⟩ : ∃ kp, k = kp + 1 := ⟨k - 1, by omega⟩
          have k2 : (j : Int) < (kp : Int) + 1 := by omega
          have HU2 := Lib.hid (show DnI d (swp e (kp + 1) kp) a m j kp from ⟨by omega, by omega, down_step HU.out.rot hkm hmd, permIn_trans _ _ _ _ _ HU.out.perm (swp_permIn _ _ _ _ _ (by omega) (by omega) (by omega) (by omega) (by omega))⟩)
          obtain ⟨xa, hxa⟩ : ∃ x, e[kp + 1]! = x := ⟨_, rfl⟩
          obtain ⟨xb, hxb⟩ : ∃ x, e[kp]! = x := ⟨_, rfl⟩
          have hHd : HoldsK encR 2 (SW w g n2 e os2) g 0 e := holdsK_sortWorldK_c encR 2 w g 0 d _ _ _ HH.out hg hsk
          have HSW := Lib.hid (sortWorldK_swp_c encR 2 w g 0 encR_len n2 e os2 hg (kp + 1) (kp) (by omega) (by omega))
          rw [hxa, hxb, Nat.zero_add, Nat.zero_add] at HSW
          generalize hwq : SW w g n2 e os2 = wq at *
          have ra := rk_cells hHd (i := kp + 1) (by omega)
          have rb := rk_cells hHd (i := kp) (by omega)
          rw [hxa] at ra
          rw [hxb] at rb
          obtain ⟨x0, x1, f0, f1⟩ := ra
          obtain ⟨y0, y1, f2, f3⟩ := rb
          obtain ⟨⟨v0, z0⟩, ⟨v1, z1⟩, f4, f5⟩ := rk_stored hHd (i := kp + 1) (j := kp) xb (by omega) (by omega)
          have z0' : ((wq.setCell ⟨g, (kp + 1) * 2, none⟩ (.string xb.1.1)).setCell ⟨g, (kp + 1) * 2 + 1, none⟩ (.string xb.1.2)).cell? ⟨g, (kp) * 2, none⟩ = some v0 := z0
          have z1' : ((wq.setCell ⟨g, (kp + 1) * 2, none⟩ (.string xb.1.1)).setCell ⟨g, (kp + 1) * 2 + 1, none⟩ (.string xb.1.2)).cell? ⟨g, (kp) * 2 + 1, none⟩ = some v1 := z1
          have f4' : ((wq.setCell ⟨g, (kp + 1) * 2, none⟩ (.string xb.1.1)).setCell ⟨g, (kp + 1) * 2 + 1, none⟩ (.string xb.1.2)).frozen? ⟨g, (kp) * 2, none⟩ = false := f4
          have f5' : ((wq.setCell ⟨g, (kp + 1) * 2, none⟩ (.string xb.1.1)).setCell ⟨g, (kp + 1) * 2 + 1, none⟩ (.string xb.1.2)).frozen? ⟨g, (kp) * 2 + 1, none⟩ = false := f5
          have HWQ := Lib.hid hwq
          clear hHd hxa hxb hwq hsk
          go_wp2_with fail
          go_big_region_o
          all_goals go_wp2
          refine ⟨⟨kp, n2 + 1, os2, _, rfl, ?_, HU2.out⟩, ?_⟩
          · have e2 := HSW.out
            rw [← HWQ.out]
            exact e2
          · simp only [intOf]
            omega
        · have k2 : ¬ (j : Int) < (k : Int) := by omega
          have hkj : k = j := by omega
          have HF := Lib.hid (show Merged a b d e from HB1.out ▸ one_right (HB1.out ▸ HM.out) (by omega) hai hjb (hkj ▸ HU.out.rot) HU.out.perm (fun h => HB.out.yes h) (fun h => HB.out.no h))
          clear hkj hsk
          go_wp2_with fail
          refine bodyPost_ret (results_none rfl _ _ _) rfl ?_
          exact ⟨rfl, n2, os2, e, rfl, HF.out⟩
end Go.Proofs.YtbdgoffbkenofaaGreat.So
