/- slices.symMergeCmpFunc at attributes, whole (by gen_sn.py). -/
import Derived.Test.YtbdgoffbkenofaaGreatScSm
namespace Go.Proofs.YtbdgoffbkenofaaGreat.So
open Go Go.RowKit Go.Shelf Go.Sort Go.Lib Go.Proofs.YtbdgoffbkenofaaGreat.Tk Go.Proofs.YtbdgoffbkenofaaGreat.Tr
set_option linter.unusedVariables false
set_option linter.unusedSimpArgs false
set_option maxRecDepth 100000

/-- symMerge in hand, for runs of at most N together. -/
def SymS (g cap N : Nat) : Prop := ∀ (a m b : Nat) (d : Array Rk) (w : World), b - a ≤ N → HoldsK encR 2 w g 0 d → g < w.heap.size → a < m → m < b → b ≤ d.size → d.size ≤ 1000000 → MergeOK a m b d →
    Calls Tryz.prog 82 #[.slice (some ⟨g, 0, none⟩) d.size cap, .int .i64 a, .int .i64 m, .int .i64 b, srtF] w fun e w' => e = .returned (.tuple #[]) ∧ ∃ n os e', w' = SW w g n e' os ∧ Merged a b d e'
theorem sym_at {g cap N : Nat} (hS : SymS g cap N) {w : World} {d0 : Array Rk} (h : HoldsK encR 2 w g 0 d0) (hg : g < w.heap.size) (a m b : Nat) (n : Nat) (d : Array Rk) (os : Array Obj) (hs : d.size = d0.size) (hN : b - a ≤ N) (h1 : a < m) (h2 : m < b) (hb : b ≤ d.size) (hsz : d.size ≤ 1000000) (hM : MergeOK a m b d) :
    Calls Tryz.prog 82 #[.slice (some ⟨g, 0, none⟩) d0.size cap, .int .i64 a, .int .i64 m, .int .i64 b, .func (.func 31) #[] #[]] (SW w g n d os) fun e w' => e = .returned (.tuple #[]) ∧ ∃ n' os' e', w' = SW w g n' e' os' ∧ Merged a b d e' := by
  obtain ⟨q1, q2⟩ := SW_holds h hg n d os hs
  rw [← hs]
  refine Calls.mono (hS a m b d _ hN q1 q2 h1 h2 hb hsz hM) ?_
  rintro e w' ⟨rfl, n', os', e', rfl, hm⟩
  exact ⟨rfl, _, _, e', SW_SW w g n n' d e' os os' hg hm.perm.1, hm⟩
theorem rotate_at {g cap : Nat} {w : World} {d0 : Array Rk} (h : HoldsK encR 2 w g 0 d0) (hg : g < w.heap.size) (a m b : Nat) (F : Value) (n : Nat) (d : Array Rk) (os : Array Obj) (hs : d.size = d0.size) (h1 : a < m) (h2 : m < b) (hb : b ≤ d.size) (hsz : d.size ≤ 1000000) :
    Calls Tryz.prog 101 #[.slice (some ⟨g, 0, none⟩) d0.size cap, .int .i64 a, .int .i64 m, .int .i64 b, F] (SW w g n d os) fun e w' => e = .returned (.tuple #[]) ∧ ∃ n' os' e', w' = SW w g n' e' os' ∧ IsRot d e' a m b ∧ PermIn a b d e' := by
  obtain ⟨q1, q2⟩ := SW_holds h hg n d os hs
  rw [← hs]
  refine Calls.mono (rotate_calls g cap a m b F d _ q1 q2 h1 h2 hb hsz) ?_
  rintro e w' ⟨rfl, n', os', e', rfl, hr, hp⟩
  exact ⟨rfl, _, _, e', SW_SW w g n n' d e' os os' hg hr.size, hr, hp⟩
/-- What the third search keeps. -/
structure BinC (d : Array Rk) (mid m lo hi s r : Nat) : Prop where
  flo : lo ≤ s
  fsr : s ≤ r
  fhi : r ≤ hi
  no : lo < s → ltR d[mid + m - 1 - (s - 1)]! d[s - 1]! = false
  yes : r < hi → ltR d[mid + m - 1 - r]! d[r]! = true
/-- Where the runs are cut. -/
structure SymC (d : Array Rk) (a m b mid s t : Nat) : Prop where
  has : a ≤ s
  hsm : s ≤ m
  hmt : m ≤ t
  htb : t ≤ b
  hmid : s + (t - m) = mid
  ht : t = mid + m - s
  cut : ∀ d1, IsRot d d1 s m t → CutR a m b s t d d1
theorem sym_cut {d : Array Rk} {a m b mid lo hi s : Nat} (hM : MergeOK a m b d) (m1 : 2 * mid ≤ a + b) (m2 : a + b < 2 * mid + 2) (ha : a + 1 < m) (hb : m + 1 < b) (hl : (mid < m ∧ lo = mid + m - b ∧ hi = mid) ∨ (m ≤ mid ∧ lo = a ∧ hi = m)) (h : BinC d mid m lo hi s s) : SymC d a m b mid s (mid + m - s) := by
  obtain ⟨h1, _, h3, h4, h5⟩ := h
  refine ⟨by omega, by omega, by omega, by omega, by omega, rfl, fun d1 hd => cutR hM (by omega) (by omega) (by omega) (by omega) hd (fun c1 c2 => ?_) (fun c1 c2 => ?_)⟩
  · have := h5 (by omega)
    rw [show mid + m - 1 - s = mid + m - s - 1 by omega] at this
    exact .inl this
  · have := h4 (by omega)
    rw [show mid + m - 1 - (s - 1) = mid + m - s by omega] at this
    exact hM.no (by omega) (by omega) (by omega) (by omega) this
theorem rot_none {d : Array Rk} {s m t : Nat} (h : ¬ (s < m ∧ m < t)) (h1 : s ≤ m) (h2 : m ≤ t) : IsRot d d s m t := ⟨rfl, fun k => by
  repeat' split
  all_goals first | rfl | (exfalso; omega) | (congr 1; omega)⟩
theorem merge_out {a mid t b : Nat} {d1 e1 : Array Rk} (p : PermIn a mid d1 e1) (hmt : mid ≤ t) (h : MergeOK mid t b d1) : MergeOK mid t b e1 := by
  have e : ∀ k, mid ≤ k → e1[k]! = d1[k]! := fun k hk => p.2.1 k (.inr hk)
  refine ⟨fun i j hi hij hj => ?_, fun i j hi hij hj => ?_, fun i j hi1 hi2 hj1 hj2 => ?_⟩
  · rw [e i hi, e j (by omega)]; exact h.l i j hi hij hj
  · rw [e i (by omega), e j (by omega)]; exact h.r i j hi hij hj
  · rw [e i hi1, e j (by omega)]; exact h.rk i j hi1 hi2 hj1 hj2
theorem sym_end {a m b mid s t : Nat} {d d1 e1 e2 : Array Rk} (hb : b ≤ d.size) (hC : SymC d a m b mid s t) (hr : IsRot d d1 s m t) (pr : PermIn s t d d1) (p1 : PermIn a mid d1 e1) (s1 : Srt a mid e1) (p2 : PermIn mid b e1 e2) (s2 : Srt mid b e2) : Merged a b d e2 := by
  have C := (hC.cut d1 hr).cross
  rw [hC.hmid] at C
  have q1 := hC.has
  have q2 := hC.hsm
  have q3 := hC.hmt
  have q4 := hC.htb
  have q5 := hC.hmid
  have z1 : d1.size = d.size := hr.size
  have z2 : e1.size = d.size := p1.1.trans z1
  refine ⟨permIn_trans _ _ _ _ _ (permIn_mono d d1 s t a b q1 q4 hb pr) (permIn_trans _ _ _ _ _ (permIn_mono d1 e1 a mid a b (Nat.le_refl _) (by omega) (by rw [z1]; exact hb) p1) (permIn_mono e1 e2 mid b a b (by omega) (Nat.le_refl _) (by rw [z2]; exact hb) p2)), ?_⟩
  exact join_srt (by rw [z1]; exact hb) (by omega) (by omega) C p1 p2 s1 s2
set_option maxHeartbeats 64000000 in
/-- Where both runs are longer than one element. -/
theorem sym_gen (g cap N : Nat) (ih : SymS g cap N) (a m b : Nat) (d : Array Rk) (w : World) (hN : b - a ≤ N + 1) (hH : HoldsK encR 2 w g 0 d) (hg : g < w.heap.size) (hma : a + 1 < m) (hmb : m + 1 < b) (hbd : b ≤ d.size) (hsz : d.size ≤ 1000000) (hM : MergeOK a m b d) :
    Calls Tryz.prog 82 #[.slice (some ⟨g, 0, none⟩) d.size cap, .int .i64 a, .int .i64 m, .int .i64 b, srtF] w fun e w' => e = .returned (.tuple #[]) ∧ ∃ n os e', w' = SW w g n e' os ∧ Merged a b d e' := by
  have HST : Hid (w = SW w g 0 d #[]) := by show w = _; unfold SW sortWorldK; rw [grow_empty]; exact (putRowK_self encR 2 w g 0 d hH).symm
  have HH := Lib.hid hH
  have HM := Lib.hid hM
  have IH := Lib.hid ih
  have mixed := mixedT
  have q0 : ((m : Int) - (a : Int) == 1) = false := by rw [beq_eq_false_iff_ne]; omega
  have q1 : ((b : Int) - (m : Int) == 1) = false := by rw [beq_eq_false_iff_ne]; omega
  have ham : (a : Int) < (m : Int) := by omega
  have hmb' : (m : Int) < (b : Int) := by omega
  clear hH hM ih
  unfold srtF
  obtain ⟨mid, hmid⟩ : ∃ mid, mid = (a + b) / 2 := ⟨_, rfl⟩
  have m1 : 2 * mid ≤ a + b := by omega
  have m2 : a + b < 2 * mid + 2 := by omega
  have EM : Hid (((a : Int) + (b : Int)) / 2 = (mid : Int)) := Lib.hid (by omega)
  clear hmid
  go_enter Tryz.func82, Tryz.ntmps82
  go_upto_region 25 with (fail)
  rw [EM.out]
  clear EM
  by_cases hmm : mid < m
  · have g1 : (m : Int) > (mid : Int) := by omega
    have HMM := Lib.hid hmm
    go_wp2_with fail
    clear hmm g1
    go_loopw [20, 21] (fun t20 t21 wr => ∃ (s r n : Nat) (os : Array Obj), t20 = .int .i64 (s : Int) ∧ t21 = .int .i64 (r : Int) ∧ wr = SW w g n d os ∧ Hid (BinC d mid m (mid + m - b) mid s r)) (fun t20 t21 _ => (intOf t21).toNat - (intOf t20).toNat)
    case atStart => exact ⟨mid + m - b, mid, 0, #[], by first | rfl | (have := HMM.out; congr 1; omega), rfl, HST.out, Lib.hid ⟨Nat.le_refl _, by omega, Nat.le_refl _, fun h => absurd h (Nat.lt_irrefl _), fun h => absurd h (Nat.lt_irrefl _)⟩⟩
    case round =>
      obtain ⟨s, r, n, os, rfl, rfl, rfl, HB⟩ := hrel
      have hb1 : mid + m - b ≤ s := HB.out.flo
      have hb2 : s ≤ r := HB.out.fsr
      have hb3 : r ≤ mid := HB.out.fhi
      by_cases hsr : s < r
      · have k1 : (s : Int) < (r : Int) := by omega
        have hh1 : s ≤ (s + r) / 2 := by omega
        have hh2 : (s + r) / 2 < r := by omega
        have E2 : Hid (((s : Int) + (r : Int)) / 2 = (((s + r) / 2 : Nat) : Int)) := Lib.hid (by omega)
        go_wp2_with fail
        rw [E2.out]
        clear E2
        generalize (s + r) / 2 = c at *
        have hsk : d.size = d.size := rfl
        obtain ⟨pc, hpc⟩ : ∃ pc, pc = mid + m - 1 - c := ⟨_, rfl⟩
        have hpd : pc < d.size := by have := HMM.out; omega
        have kpc : (mid : Int) + (m : Int) - 1 - (c : Int) = (pc : Int) := by omega
        have kw : IntKind.i64.wrap (pc : Int) = (pc : Int) := IntWalk.i64_in _ (by omega)
        have HPC := Lib.hid hpc
        clear hpc
        have hHd : HoldsK encR 2 (SW w g n d os) g 0 d := holdsK_sortWorldK_c encR 2 w g 0 d _ _ _ HH.out hg hsk
        have hgw : g < (SW w g n d os).heap.size := Nat.lt_of_lt_of_le hg (size_sortWorldK_c encR 2 w g 0 _ _ _)
        have kb1 : ((pc : Nat) : Int) < (d.size : Int) := by omega
        have kb2 : ((c : Nat) : Int) < (d.size : Int) := by omega
        obtain ⟨x, hx⟩ : ∃ x, d[pc]! = x := ⟨_, rfl⟩
        obtain ⟨y, hy⟩ : ∃ y, d[c]! = y := ⟨_, rfl⟩
        have ra := rk_cells hHd (i := pc) (by omega)
        have rb := rk_cells hHd (i := c) (by omega)
        rw [hx] at ra
        rw [hy] at rb
        have x0 := cell_grown (a := ⟨g, (pc) * 2, none⟩) hgw ra.1
        have x1 := cell_grown (a := ⟨g, (pc) * 2 + 1, none⟩) hgw ra.2.1
        have y0 := cell_grown (a := ⟨g, (c) * 2, none⟩) hgw rb.1
        have y1 := cell_grown (a := ⟨g, (c) * 2 + 1, none⟩) hgw rb.2.1
        have HG := Lib.hid (fun (n' : Nat) (os' : Array Obj) => show grow ((SW w g n d os).drewN n') os' = SW w g (n + n') d (os ++ os') from sortWorldK_grown_c encR 2 w g 0 n n' d os os')
        have HCL := Lib.hid (fun W => closure_srt x.1 y.1 W)
        have HLT := Lib.hid (show ltR d[pc]! d[c]! = decide (cfAt x.1 y.1 < 0) from by rw [hx, hy]; rfl)
        generalize cfAt x.1 y.1 = rc at *
        generalize SW w g n d os = wq at *
        clear hHd hgw hx hy ra rb hsk
        by_cases hrc : rc < 0
        · rw [decide_eq_true hrc] at HLT
          have hd : decide (rc < 0) = true := decide_eq_true hrc
          have HB2 := Lib.hid (show BinC d mid m (mid + m - b) mid s c from ⟨hb1, by omega, by omega, HB.out.no, fun _ => by rw [← HPC.out]; exact HLT.out⟩)
          clear HB
          go_wp2_with fail
          go_quiet_grown (first | (go_at_call 31; refine Calls.grown_of (HCL.out _)))
          go_wp2_with fail
          refine ⟨⟨s, c, n + nq, os ++ osq, rfl, rfl, HG.out nq osq, HB2⟩, ?_⟩
          simp only [intOf]
          omega
        · rw [decide_eq_false hrc] at HLT
          have hd : decide (rc < 0) = false := decide_eq_false hrc
          have HB2 := Lib.hid (show BinC d mid m (mid + m - b) mid (c + 1) r from ⟨by omega, by omega, hb3, fun _ => by rw [Nat.add_sub_cancel, ← HPC.out]; exact HLT.out, HB.out.yes⟩)
          clear HB
          go_wp2_with fail
          go_quiet_grown (first | (go_at_call 31; refine Calls.grown_of (HCL.out _)))
          go_wp2_with fail
          refine ⟨⟨c + 1, r, n + nq, os ++ osq, rfl, rfl, HG.out nq osq, HB2⟩, ?_⟩
          simp only [intOf]
          omega
      · have k1 : ¬ (s : Int) < (r : Int) := by omega
        have hrs : r = s := by omega
        subst hrs
        have HC := Lib.hid (sym_cut HM.out m1 m2 hma hmb (.inl ⟨HMM.out, rfl, rfl⟩) HB.out)
        go_upto_region 39 with (fail)
        obtain ⟨t, ht⟩ : ∃ t, t = mid + m - r := ⟨_, rfl⟩
        rw [← ht] at HC
        rw [show (mid : Int) + (m : Int) - (r : Int) = (t : Int) by omega]
        have htm : m ≤ t := HC.out.hmt
        have htb : t ≤ b := HC.out.htb
        have har : a ≤ r := HC.out.has
        clear ht k1 hsr HB hb1 hb2 hb3
        by_cases hro : r < m ∧ m < t
        · have i1 : (r : Int) < (m : Int) := by omega
          have i2 : (m : Int) < (t : Int) := by omega
          have b1' : decide ((r : Int) < (m : Int)) = true := decide_eq_true i1
          have b2' : decide ((m : Int) < (t : Int)) = true := decide_eq_true i2
          have HCR := Lib.hid (rotate_at (cap := cap) HH.out hg r m t (.func (.func 31) #[] #[]) n d os rfl hro.1 hro.2 (by omega) hsz)
          generalize SW w g n d os = wq at *
          go_wp2_with fail
          refine HCR.out.mono ?_
          rintro e w' ⟨rfl, n3, os3, d1, rfl, hr1, hp1⟩
          have HD1 := Lib.hid hr1
          have HP1 := Lib.hid hp1
          clear hr1 hp1 HCR i1 i2 b1' b2' hro
          have HLF := Lib.hid (show MergeOK a r mid d1 by have h := (HC.out.cut _ HD1.out).left; rw [HC.out.hmid] at h; exact h)
          have HRT := Lib.hid (show MergeOK mid t b d1 by have h := (HC.out.cut _ HD1.out).right; rw [HC.out.hmid] at h; exact h)
          have hz0 : d1.size = d.size := HD1.out.size
          by_cases hll : a < r ∧ r < mid
          · have j1 : (a : Int) < (r : Int) := by omega
            have j2 : (r : Int) < (mid : Int) := by omega
            have c1' : decide ((a : Int) < (r : Int)) = true := decide_eq_true j1
            have c2' : decide ((r : Int) < (mid : Int)) = true := decide_eq_true j2
            have HCL := Lib.hid (sym_at (cap := cap) IH.out HH.out hg a r mid n3 d1 os3 hz0 (by omega) hll.1 hll.2 (by omega) (by omega) HLF.out)
            generalize SW w g n3 d1 os3 = wq at *
            go_wp2_with fail
            refine HCL.out.mono ?_
            rintro e w' ⟨rfl, n4, os4, e4, rfl, hm4⟩
            have HM4 := Lib.hid hm4
            clear hm4 HCL
            have HR := Lib.hid (merge_out (HM4.out.perm) (by have := HC.out.hmid; have := HC.out.hsm; omega) HRT.out)
            have hz1 : e4.size = d.size := (HM4.out.perm).1.trans HD1.out.size
            by_cases hrr : mid < t ∧ t < b
            · have k1 : (mid : Int) < (t : Int) := by omega
              have k2 : (t : Int) < (b : Int) := by omega
              have d1' : decide ((mid : Int) < (t : Int)) = true := decide_eq_true k1
              have d2' : decide ((t : Int) < (b : Int)) = true := decide_eq_true k2
              have HCC := Lib.hid (sym_at (cap := cap) IH.out HH.out hg mid t b n4 e4 os4 hz1 (by omega) hrr.1 hrr.2 (by omega) (by omega) HR.out)
              generalize SW w g n4 e4 os4 = wq at *
              go_wp2_with fail
              refine HCC.out.mono ?_
              rintro e w' ⟨rfl, n5, os5, e5, rfl, hm5⟩
              have HF := Lib.hid (sym_end hbd HC.out HD1.out HP1.out (HM4.out.perm) (HM4.out.srt) hm5.perm hm5.srt)
              clear hm5
              go_wp2_with fail
              go_end0
              exact ⟨rfl, n5, os5, e5, rfl, HF.out⟩
            · have HF := Lib.hid (sym_end hbd HC.out HD1.out HP1.out (HM4.out.perm) (HM4.out.srt) (permIn_refl _ _ _) (left_srt HR.out hrr (by have := HC.out.hmid; have := HC.out.hsm; omega) HC.out.htb))
              by_cases k1 : (mid : Int) < (t : Int)
              · have k2 : ¬ (t : Int) < (b : Int) := by omega
                have d1' : decide ((mid : Int) < (t : Int)) = true := decide_eq_true k1
                have d2' : decide ((t : Int) < (b : Int)) = false := decide_eq_false k2
                go_wp2_with fail
                all_goals (go_end0; exact ⟨rfl, _, _, _, rfl, HF.out⟩)
              · have d1' : decide ((mid : Int) < (t : Int)) = false := decide_eq_false k1
                go_wp2_with fail
                all_goals (go_end0; exact ⟨rfl, _, _, _, rfl, HF.out⟩)
          · have HS4 := Lib.hid (left_srt HLF.out hll HC.out.has (by have := HC.out.hmid; omega))
            by_cases j1 : (a : Int) < (r : Int)
            · have j2 : ¬ (r : Int) < (mid : Int) := by omega
              have c1' : decide ((a : Int) < (r : Int)) = true := decide_eq_true j1
              have c2' : decide ((r : Int) < (mid : Int)) = false := decide_eq_false j2
              have HR := Lib.hid (merge_out (permIn_refl d1 a mid) (by have := HC.out.hmid; have := HC.out.hsm; omega) HRT.out)
              have hz1 : d1.size = d.size := (permIn_refl d1 a mid).1.trans HD1.out.size
              by_cases hrr : mid < t ∧ t < b
              · have k1 : (mid : Int) < (t : Int) := by omega
                have k2 : (t : Int) < (b : Int) := by omega
                have d1' : decide ((mid : Int) < (t : Int)) = true := decide_eq_true k1
                have d2' : decide ((t : Int) < (b : Int)) = true := decide_eq_true k2
                have HCC := Lib.hid (sym_at (cap := cap) IH.out HH.out hg mid t b n3 d1 os3 hz1 (by omega) hrr.1 hrr.2 (by omega) (by omega) HR.out)
                generalize SW w g n3 d1 os3 = wq at *
                go_wp2_with fail
                refine HCC.out.mono ?_
                rintro e w' ⟨rfl, n5, os5, e5, rfl, hm5⟩
                have HF := Lib.hid (sym_end hbd HC.out HD1.out HP1.out (permIn_refl d1 a mid) (HS4.out) hm5.perm hm5.srt)
                clear hm5
                go_wp2_with fail
                go_end0
                exact ⟨rfl, n5, os5, e5, rfl, HF.out⟩
              · have HF := Lib.hid (sym_end hbd HC.out HD1.out HP1.out (permIn_refl d1 a mid) (HS4.out) (permIn_refl _ _ _) (left_srt HR.out hrr (by have := HC.out.hmid; have := HC.out.hsm; omega) HC.out.htb))
                by_cases k1 : (mid : Int) < (t : Int)
                · have k2 : ¬ (t : Int) < (b : Int) := by omega
                  have d1' : decide ((mid : Int) < (t : Int)) = true := decide_eq_true k1
                  have d2' : decide ((t : Int) < (b : Int)) = false := decide_eq_false k2
                  go_wp2_with fail
                  all_goals (go_end0; exact ⟨rfl, _, _, _, rfl, HF.out⟩)
                · have d1' : decide ((mid : Int) < (t : Int)) = false := decide_eq_false k1
                  go_wp2_with fail
                  all_goals (go_end0; exact ⟨rfl, _, _, _, rfl, HF.out⟩)
            · have c1' : decide ((a : Int) < (r : Int)) = false := decide_eq_false j1
              have HR := Lib.hid (merge_out (permIn_refl d1 a mid) (by have := HC.out.hmid; have := HC.out.hsm; omega) HRT.out)
              have hz1 : d1.size = d.size := (permIn_refl d1 a mid).1.trans HD1.out.size
              by_cases hrr : mid < t ∧ t < b
              · have k1 : (mid : Int) < (t : Int) := by omega
                have k2 : (t : Int) < (b : Int) := by omega
                have d1' : decide ((mid : Int) < (t : Int)) = true := decide_eq_true k1
                have d2' : decide ((t : Int) < (b : Int)) = true := decide_eq_true k2
                have HCC := Lib.hid (sym_at (cap := cap) IH.out HH.out hg mid t b n3 d1 os3 hz1 (by omega) hrr.1 hrr.2 (by omega) (by omega) HR.out)
                generalize SW w g n3 d1 os3 = wq at *
                go_wp2_with fail
                refine HCC.out.mono ?_
                rintro e w' ⟨rfl, n5, os5, e5, rfl, hm5⟩
                have HF := Lib.hid (sym_end hbd HC.out HD1.out HP1.out (permIn_refl d1 a mid) (HS4.out) hm5.perm hm5.srt)
                clear hm5
                go_wp2_with fail
                go_end0
                exact ⟨rfl, n5, os5, e5, rfl, HF.out⟩
              · have HF := Lib.hid (sym_end hbd HC.out HD1.out HP1.out (permIn_refl d1 a mid) (HS4.out) (permIn_refl _ _ _) (left_srt HR.out hrr (by have := HC.out.hmid; have := HC.out.hsm; omega) HC.out.htb))
                by_cases k1 : (mid : Int) < (t : Int)
                · have k2 : ¬ (t : Int) < (b : Int) := by omega
                  have d1' : decide ((mid : Int) < (t : Int)) = true := decide_eq_true k1
                  have d2' : decide ((t : Int) < (b : Int)) = false := decide_eq_false k2
                  go_wp2_with fail
                  all_goals (go_end0; exact ⟨rfl, _, _, _, rfl, HF.out⟩)
                · have d1' : decide ((mid : Int) < (t : Int)) = false := decide_eq_false k1
                  go_wp2_with fail
                  all_goals (go_end0; exact ⟨rfl, _, _, _, rfl, HF.out⟩)
        · have HD1 := Lib.hid (rot_none (d := d) hro HC.out.hsm htm)
          have HP1 := Lib.hid (permIn_refl d r t)
          by_cases i1 : (r : Int) < (m : Int)
          · have i2 : ¬ (m : Int) < (t : Int) := by omega
            have b1' : decide ((r : Int) < (m : Int)) = true := decide_eq_true i1
            have b2' : decide ((m : Int) < (t : Int)) = false := decide_eq_false i2
            have HLF := Lib.hid (show MergeOK a r mid d by have h := (HC.out.cut _ HD1.out).left; rw [HC.out.hmid] at h; exact h)
            have HRT := Lib.hid (show MergeOK mid t b d by have h := (HC.out.cut _ HD1.out).right; rw [HC.out.hmid] at h; exact h)
            have hz0 : d.size = d.size := HD1.out.size
            by_cases hll : a < r ∧ r < mid
            · have j1 : (a : Int) < (r : Int) := by omega
              have j2 : (r : Int) < (mid : Int) := by omega
              have c1' : decide ((a : Int) < (r : Int)) = true := decide_eq_true j1
              have c2' : decide ((r : Int) < (mid : Int)) = true := decide_eq_true j2
              have HCL := Lib.hid (sym_at (cap := cap) IH.out HH.out hg a r mid n d os hz0 (by omega) hll.1 hll.2 (by omega) (by omega) HLF.out)
              generalize SW w g n d os = wq at *
              go_wp2_with fail
              refine HCL.out.mono ?_
              rintro e w' ⟨rfl, n4, os4, e4, rfl, hm4⟩
              have HM4 := Lib.hid hm4
              clear hm4 HCL
              have HR := Lib.hid (merge_out (HM4.out.perm) (by have := HC.out.hmid; have := HC.out.hsm; omega) HRT.out)
              have hz1 : e4.size = d.size := (HM4.out.perm).1.trans HD1.out.size
              by_cases hrr : mid < t ∧ t < b
              · have k1 : (mid : Int) < (t : Int) := by omega
                have k2 : (t : Int) < (b : Int) := by omega
                have d1' : decide ((mid : Int) < (t : Int)) = true := decide_eq_true k1
                have d2' : decide ((t : Int) < (b : Int)) = true := decide_eq_true k2
                have HCC := Lib.hid (sym_at (cap := cap) IH.out HH.out hg mid t b n4 e4 os4 hz1 (by omega) hrr.1 hrr.2 (by omega) (by omega) HR.out)
                generalize SW w g n4 e4 os4 = wq at *
                go_wp2_with fail
                refine HCC.out.mono ?_
                rintro e w' ⟨rfl, n5, os5, e5, rfl, hm5⟩
                have HF := Lib.hid (sym_end hbd HC.out HD1.out HP1.out (HM4.out.perm) (HM4.out.srt) hm5.perm hm5.srt)
                clear hm5
                go_wp2_with fail
                go_end0
                exact ⟨rfl, n5, os5, e5, rfl, HF.out⟩
              · have HF := Lib.hid (sym_end hbd HC.out HD1.out HP1.out (HM4.out.perm) (HM4.out.srt) (permIn_refl _ _ _) (left_srt HR.out hrr (by have := HC.out.hmid; have := HC.out.hsm; omega) HC.out.htb))
                by_cases k1 : (mid : Int) < (t : Int)
                · have k2 : ¬ (t : Int) < (b : Int) := by omega
                  have d1' : decide ((mid : Int) < (t : Int)) = true := decide_eq_true k1
                  have d2' : decide ((t : Int) < (b : Int)) = false := decide_eq_false k2
                  go_wp2_with fail
                  all_goals (go_end0; exact ⟨rfl, _, _, _, rfl, HF.out⟩)
                · have d1' : decide ((mid : Int) < (t : Int)) = false := decide_eq_false k1
                  go_wp2_with fail
                  all_goals (go_end0; exact ⟨rfl, _, _, _, rfl, HF.out⟩)
            · have HS4 := Lib.hid (left_srt HLF.out hll HC.out.has (by have := HC.out.hmid; omega))
              by_cases j1 : (a : Int) < (r : Int)
              · have j2 : ¬ (r : Int) < (mid : Int) := by omega
                have c1' : decide ((a : Int) < (r : Int)) = true := decide_eq_true j1
                have c2' : decide ((r : Int) < (mid : Int)) = false := decide_eq_false j2
                have HR := Lib.hid (merge_out (permIn_refl d a mid) (by have := HC.out.hmid; have := HC.out.hsm; omega) HRT.out)
                have hz1 : d.size = d.size := (permIn_refl d a mid).1.trans HD1.out.size
                by_cases hrr : mid < t ∧ t < b
                · have k1 : (mid : Int) < (t : Int) := by omega
                  have k2 : (t : Int) < (b : Int) := by omega
                  have d1' : decide ((mid : Int) < (t : Int)) = true := decide_eq_true k1
                  have d2' : decide ((t : Int) < (b : Int)) = true := decide_eq_true k2
                  have HCC := Lib.hid (sym_at (cap := cap) IH.out HH.out hg mid t b n d os hz1 (by omega) hrr.1 hrr.2 (by omega) (by omega) HR.out)
                  generalize SW w g n d os = wq at *
                  go_wp2_with fail
                  refine HCC.out.mono ?_
                  rintro e w' ⟨rfl, n5, os5, e5, rfl, hm5⟩
                  have HF := Lib.hid (sym_end hbd HC.out HD1.out HP1.out (permIn_refl d a mid) (HS4.out) hm5.perm hm5.srt)
                  clear hm5
                  go_wp2_with fail
                  go_end0
                  exact ⟨rfl, n5, os5, e5, rfl, HF.out⟩
                · have HF := Lib.hid (sym_end hbd HC.out HD1.out HP1.out (permIn_refl d a mid) (HS4.out) (permIn_refl _ _ _) (left_srt HR.out hrr (by have := HC.out.hmid; have := HC.out.hsm; omega) HC.out.htb))
                  by_cases k1 : (mid : Int) < (t : Int)
                  · have k2 : ¬ (t : Int) < (b : Int) := by omega
                    have d1' : decide ((mid : Int) < (t : Int)) = true := decide_eq_true k1
                    have d2' : decide ((t : Int) < (b : Int)) = false := decide_eq_false k2
                    go_wp2_with fail
                    all_goals (go_end0; exact ⟨rfl, _, _, _, rfl, HF.out⟩)
                  · have d1' : decide ((mid : Int) < (t : Int)) = false := decide_eq_false k1
                    go_wp2_with fail
                    all_goals (go_end0; exact ⟨rfl, _, _, _, rfl, HF.out⟩)
              · have c1' : decide ((a : Int) < (r : Int)) = false := decide_eq_false j1
                have HR := Lib.hid (merge_out (permIn_refl d a mid) (by have := HC.out.hmid; have := HC.out.hsm; omega) HRT.out)
                have hz1 : d.size = d.size := (permIn_refl d a mid).1.trans HD1.out.size
                by_cases hrr : mid < t ∧ t < b
                · have k1 : (mid : Int) < (t : Int) := by omega
                  have k2 : (t : Int) < (b : Int) := by omega
                  have d1' : decide ((mid : Int) < (t : Int)) = true := decide_eq_true k1
                  have d2' : decide ((t : Int) < (b : Int)) = true := decide_eq_true k2
                  have HCC := Lib.hid (sym_at (cap := cap) IH.out HH.out hg mid t b n d os hz1 (by omega) hrr.1 hrr.2 (by omega) (by omega) HR.out)
                  generalize SW w g n d os = wq at *
                  go_wp2_with fail
                  refine HCC.out.mono ?_
                  rintro e w' ⟨rfl, n5, os5, e5, rfl, hm5⟩
                  have HF := Lib.hid (sym_end hbd HC.out HD1.out HP1.out (permIn_refl d a mid) (HS4.out) hm5.perm hm5.srt)
                  clear hm5
                  go_wp2_with fail
                  go_end0
                  exact ⟨rfl, n5, os5, e5, rfl, HF.out⟩
                · have HF := Lib.hid (sym_end hbd HC.out HD1.out HP1.out (permIn_refl d a mid) (HS4.out) (permIn_refl _ _ _) (left_srt HR.out hrr (by have := HC.out.hmid; have := HC.out.hsm; omega) HC.out.htb))
                  by_cases k1 : (mid : Int) < (t : Int)
                  · have k2 : ¬ (t : Int) < (b : Int) := by omega
                    have d1' : decide ((mid : Int) < (t : Int)) = true := decide_eq_true k1
                    have d2' : decide ((t : Int) < (b : Int)) = false := decide_eq_false k2
                    go_wp2_with fail
                    all_goals (go_end0; exact ⟨rfl, _, _, _, rfl, HF.out⟩)
                  · have d1' : decide ((mid : Int) < (t : Int)) = false := decide_eq_false k1
                    go_wp2_with fail
                    all_goals (go_end0; exact ⟨rfl, _, _, _, rfl, HF.out⟩)
          · have b1' : decide ((r : Int) < (m : Int)) = false := decide_eq_false i1
            have HLF := Lib.hid (show MergeOK a r mid d by have h := (HC.out.cut _ HD1.out).left; rw [HC.out.hmid] at h; exact h)
            have HRT := Lib.hid (show MergeOK mid t b d by have h := (HC.out.cut _ HD1.out).right; rw [HC.out.hmid] at h; exact h)
            have hz0 : d.size = d.size := HD1.out.size
            by_cases hll : a < r ∧ r < mid
            · have j1 : (a : Int) < (r : Int) := by omega
              have j2 : (r : Int) < (mid : Int) := by omega
              have c1' : decide ((a : Int) < (r : Int)) = true := decide_eq_true j1
              have c2' : decide ((r : Int) < (mid : Int)) = true := decide_eq_true j2
              have HCL := Lib.hid (sym_at (cap := cap) IH.out HH.out hg a r mid n d os hz0 (by omega) hll.1 hll.2 (by omega) (by omega) HLF.out)
              generalize SW w g n d os = wq at *
              go_wp2_with fail
              refine HCL.out.mono ?_
              rintro e w' ⟨rfl, n4, os4, e4, rfl, hm4⟩
              have HM4 := Lib.hid hm4
              clear hm4 HCL
              have HR := Lib.hid (merge_out (HM4.out.perm) (by have := HC.out.hmid; have := HC.out.hsm; omega) HRT.out)
              have hz1 : e4.size = d.size := (HM4.out.perm).1.trans HD1.out.size
              by_cases hrr : mid < t ∧ t < b
              · have k1 : (mid : Int) < (t : Int) := by omega
                have k2 : (t : Int) < (b : Int) := by omega
                have d1' : decide ((mid : Int) < (t : Int)) = true := decide_eq_true k1
                have d2' : decide ((t : Int) < (b : Int)) = true := decide_eq_true k2
                have HCC := Lib.hid (sym_at (cap := cap) IH.out HH.out hg mid t b n4 e4 os4 hz1 (by omega) hrr.1 hrr.2 (by omega) (by omega) HR.out)
                generalize SW w g n4 e4 os4 = wq at *
                go_wp2_with fail
                refine HCC.out.mono ?_
                rintro e w' ⟨rfl, n5, os5, e5, rfl, hm5⟩
                have HF := Lib.hid (sym_end hbd HC.out HD1.out HP1.out (HM4.out.perm) (HM4.out.srt) hm5.perm hm5.srt)
                clear hm5
                go_wp2_with fail
                go_end0
                exact ⟨rfl, n5, os5, e5, rfl, HF.out⟩
              · have HF := Lib.hid (sym_end hbd HC.out HD1.out HP1.out (HM4.out.perm) (HM4.out.srt) (permIn_refl _ _ _) (left_srt HR.out hrr (by have := HC.out.hmid; have := HC.out.hsm; omega) HC.out.htb))
                by_cases k1 : (mid : Int) < (t : Int)
                · have k2 : ¬ (t : Int) < (b : Int) := by omega
                  have d1' : decide ((mid : Int) < (t : Int)) = true := decide_eq_true k1
                  have d2' : decide ((t : Int) < (b : Int)) = false := decide_eq_false k2
                  go_wp2_with fail
                  all_goals (go_end0; exact ⟨rfl, _, _, _, rfl, HF.out⟩)
                · have d1' : decide ((mid : Int) < (t : Int)) = false := decide_eq_false k1
                  go_wp2_with fail
                  all_goals (go_end0; exact ⟨rfl, _, _, _, rfl, HF.out⟩)
            · have HS4 := Lib.hid (left_srt HLF.out hll HC.out.has (by have := HC.out.hmid; omega))
              by_cases j1 : (a : Int) < (r : Int)
              · have j2 : ¬ (r : Int) < (mid : Int) := by omega
                have c1' : decide ((a : Int) < (r : Int)) = true := decide_eq_true j1
                have c2' : decide ((r : Int) < (mid : Int)) = false := decide_eq_false j2
                have HR := Lib.hid (merge_out (permIn_refl d a mid) (by have := HC.out.hmid; have := HC.out.hsm; omega) HRT.out)
                have hz1 : d.size = d.size := (permIn_refl d a mid).1.trans HD1.out.size
                by_cases hrr : mid < t ∧ t < b
                · have k1 : (mid : Int) < (t : Int) := by omega
                  have k2 : (t : Int) < (b : Int) := by omega
                  have d1' : decide ((mid : Int) < (t : Int)) = true := decide_eq_true k1
                  have d2' : decide ((t : Int) < (b : Int)) = true := decide_eq_true k2
                  have HCC := Lib.hid (sym_at (cap := cap) IH.out HH.out hg mid t b n d os hz1 (by omega) hrr.1 hrr.2 (by omega) (by omega) HR.out)
                  generalize SW w g n d os = wq at *
                  go_wp2_with fail
                  refine HCC.out.mono ?_
                  rintro e w' ⟨rfl, n5, os5, e5, rfl, hm5⟩
                  have HF := Lib.hid (sym_end hbd HC.out HD1.out HP1.out (permIn_refl d a mid) (HS4.out) hm5.perm hm5.srt)
                  clear hm5
                  go_wp2_with fail
                  go_end0
                  exact ⟨rfl, n5, os5, e5, rfl, HF.out⟩
                · have HF := Lib.hid (sym_end hbd HC.out HD1.out HP1.out (permIn_refl d a mid) (HS4.out) (permIn_refl _ _ _) (left_srt HR.out hrr (by have := HC.out.hmid; have := HC.out.hsm; omega) HC.out.htb))
                  by_cases k1 : (mid : Int) < (t : Int)
                  · have k2 : ¬ (t : Int) < (b : Int) := by omega
                    have d1' : decide ((mid : Int) < (t : Int)) = true := decide_eq_true k1
                    have d2' : decide ((t : Int) < (b : Int)) = false := decide_eq_false k2
                    go_wp2_with fail
                    all_goals (go_end0; exact ⟨rfl, _, _, _, rfl, HF.out⟩)
                  · have d1' : decide ((mid : Int) < (t : Int)) = false := decide_eq_false k1
                    go_wp2_with fail
                    all_goals (go_end0; exact ⟨rfl, _, _, _, rfl, HF.out⟩)
              · have c1' : decide ((a : Int) < (r : Int)) = false := decide_eq_false j1
                have HR := Lib.hid (merge_out (permIn_refl d a mid) (by have := HC.out.hmid; have := HC.out.hsm; omega) HRT.out)
                have hz1 : d.size = d.size := (permIn_refl d a mid).1.trans HD1.out.size
                by_cases hrr : mid < t ∧ t < b
                · have k1 : (mid : Int) < (t : Int) := by omega
                  have k2 : (t : Int) < (b : Int) := by omega
                  have d1' : decide ((mid : Int) < (t : Int)) = true := decide_eq_true k1
                  have d2' : decide ((t : Int) < (b : Int)) = true := decide_eq_true k2
                  have HCC := Lib.hid (sym_at (cap := cap) IH.out HH.out hg mid t b n d os hz1 (by omega) hrr.1 hrr.2 (by omega) (by omega) HR.out)
                  generalize SW w g n d os = wq at *
                  go_wp2_with fail
                  refine HCC.out.mono ?_
                  rintro e w' ⟨rfl, n5, os5, e5, rfl, hm5⟩
                  have HF := Lib.hid (sym_end hbd HC.out HD1.out HP1.out (permIn_refl d a mid) (HS4.out) hm5.perm hm5.srt)
                  clear hm5
                  go_wp2_with fail
                  go_end0
                  exact ⟨rfl, n5, os5, e5, rfl, HF.out⟩
                · have HF := Lib.hid (sym_end hbd HC.out HD1.out HP1.out (permIn_refl d a mid) (HS4.out) (permIn_refl _ _ _) (left_srt HR.out hrr (by have := HC.out.hmid; have := HC.out.hsm; omega) HC.out.htb))
                  by_cases k1 : (mid : Int) < (t : Int)
                  · have k2 : ¬ (t : Int) < (b : Int) := by omega
                    have d1' : decide ((mid : Int) < (t : Int)) = true := decide_eq_true k1
                    have d2' : decide ((t : Int) < (b : Int)) = false := decide_eq_false k2
                    go_wp2_with fail
                    all_goals (go_end0; exact ⟨rfl, _, _, _, rfl, HF.out⟩)
                  · have d1' : decide ((mid : Int) < (t : Int)) = false := decide_eq_false k1
                    go_wp2_with fail
                    all_goals (go_end0; exact ⟨rfl, _, _, _, rfl, HF.out⟩)
  · have g1 : ¬ (m : Int) > (mid : Int) := by omega
    have HMM := Lib.hid hmm
    go_wp2_with fail
    clear hmm g1
    go_loopw [20, 21] (fun t20 t21 wr => ∃ (s r n : Nat) (os : Array Obj), t20 = .int .i64 (s : Int) ∧ t21 = .int .i64 (r : Int) ∧ wr = SW w g n d os ∧ Hid (BinC d mid m (a) m s r)) (fun t20 t21 _ => (intOf t21).toNat - (intOf t20).toNat)
    case atStart => exact ⟨a, m, 0, #[], by first | rfl | (have := HMM.out; congr 1; omega), rfl, HST.out, Lib.hid ⟨Nat.le_refl _, by omega, Nat.le_refl _, fun h => absurd h (Nat.lt_irrefl _), fun h => absurd h (Nat.lt_irrefl _)⟩⟩
    case round =>
      obtain ⟨s, r, n, os, rfl, rfl, rfl, HB⟩ := hrel
      have hb1 : a ≤ s := HB.out.flo
      have hb2 : s ≤ r := HB.out.fsr
      have hb3 : r ≤ m := HB.out.fhi
      by_cases hsr : s < r
      · have k1 : (s : Int) < (r : Int) := by omega
        have hh1 : s ≤ (s + r) / 2 := by omega
        have hh2 : (s + r) / 2 < r := by omega
        have E2 : Hid (((s : Int) + (r : Int)) / 2 = (((s + r) / 2 : Nat) : Int)) := Lib.hid (by omega)
        go_wp2_with fail
        rw [E2.out]
        clear E2
        generalize (s + r) / 2 = c at *
        have hsk : d.size = d.size := rfl
        obtain ⟨pc, hpc⟩ : ∃ pc, pc = mid + m - 1 - c := ⟨_, rfl⟩
        have hpd : pc < d.size := by have := HMM.out; omega
        have kpc : (mid : Int) + (m : Int) - 1 - (c : Int) = (pc : Int) := by omega
        have kw : IntKind.i64.wrap (pc : Int) = (pc : Int) := IntWalk.i64_in _ (by omega)
        have HPC := Lib.hid hpc
        clear hpc
        have hHd : HoldsK encR 2 (SW w g n d os) g 0 d := holdsK_sortWorldK_c encR 2 w g 0 d _ _ _ HH.out hg hsk
        have hgw : g < (SW w g n d os).heap.size := Nat.lt_of_lt_of_le hg (size_sortWorldK_c encR 2 w g 0 _ _ _)
        have kb1 : ((pc : Nat) : Int) < (d.size : Int) := by omega
        have kb2 : ((c : Nat) : Int) < (d.size : Int) := by omega
        obtain ⟨x, hx⟩ : ∃ x, d[pc]! = x := ⟨_, rfl⟩
        obtain ⟨y, hy⟩ : ∃ y, d[c]! = y := ⟨_, rfl⟩
        have ra := rk_cells hHd (i := pc) (by omega)
        have rb := rk_cells hHd (i := c) (by omega)
        rw [hx] at ra
        rw [hy] at rb
        have x0 := cell_grown (a := ⟨g, (pc) * 2, none⟩) hgw ra.1
        have x1 := cell_grown (a := ⟨g, (pc) * 2 + 1, none⟩) hgw ra.2.1
        have y0 := cell_grown (a := ⟨g, (c) * 2, none⟩) hgw rb.1
        have y1 := cell_grown (a := ⟨g, (c) * 2 + 1, none⟩) hgw rb.2.1
        have HG := Lib.hid (fun (n' : Nat) (os' : Array Obj) => show grow ((SW w g n d os).drewN n') os' = SW w g (n + n') d (os ++ os') from sortWorldK_grown_c encR 2 w g 0 n n' d os os')
        have HCL := Lib.hid (fun W => closure_srt x.1 y.1 W)
        have HLT := Lib.hid (show ltR d[pc]! d[c]! = decide (cfAt x.1 y.1 < 0) from by rw [hx, hy]; rfl)
        generalize cfAt x.1 y.1 = rc at *
        generalize SW w g n d os = wq at *
        clear hHd hgw hx hy ra rb hsk
        by_cases hrc : rc < 0
        · rw [decide_eq_true hrc] at HLT
          have hd : decide (rc < 0) = true := decide_eq_true hrc
          have HB2 := Lib.hid (show BinC d mid m (a) m s c from ⟨hb1, by omega, by omega, HB.out.no, fun _ => by rw [← HPC.out]; exact HLT.out⟩)
          clear HB
          go_wp2_with fail
          go_quiet_grown (first | (go_at_call 31; refine Calls.grown_of (HCL.out _)))
          go_wp2_with fail
          refine ⟨⟨s, c, n + nq, os ++ osq, rfl, rfl, HG.out nq osq, HB2⟩, ?_⟩
          simp only [intOf]
          omega
        · rw [decide_eq_false hrc] at HLT
          have hd : decide (rc < 0) = false := decide_eq_false hrc
          have HB2 := Lib.hid (show BinC d mid m (a) m (c + 1) r from ⟨by omega, by omega, hb3, fun _ => by rw [Nat.add_sub_cancel, ← HPC.out]; exact HLT.out, HB.out.yes⟩)
          clear HB
          go_wp2_with fail
          go_quiet_grown (first | (go_at_call 31; refine Calls.grown_of (HCL.out _)))
          go_wp2_with fail
          refine ⟨⟨c + 1, r, n + nq, os ++ osq, rfl, rfl, HG.out nq osq, HB2⟩, ?_⟩
          simp only [intOf]
          omega
      · have k1 : ¬ (s : Int) < (r : Int) := by omega
        have hrs : r = s := by omega
        subst hrs
        have HC := Lib.hid (sym_cut HM.out m1 m2 hma hmb (.inr ⟨by have := HMM.out; omega, rfl, rfl⟩) HB.out)
        go_upto_region 39 with (fail)
        obtain ⟨t, ht⟩ : ∃ t, t = mid + m - r := ⟨_, rfl⟩
        rw [← ht] at HC
        rw [show (mid : Int) + (m : Int) - (r : Int) = (t : Int) by omega]
        have htm : m ≤ t := HC.out.hmt
        have htb : t ≤ b := HC.out.htb
        have har : a ≤ r := HC.out.has
        clear ht k1 hsr HB hb1 hb2 hb3
        by_cases hro : r < m ∧ m < t
        · have i1 : (r : Int) < (m : Int) := by omega
          have i2 : (m : Int) < (t : Int) := by omega
          have b1' : decide ((r : Int) < (m : Int)) = true := decide_eq_true i1
          have b2' : decide ((m : Int) < (t : Int)) = true := decide_eq_true i2
          have HCR := Lib.hid (rotate_at (cap := cap) HH.out hg r m t (.func (.func 31) #[] #[]) n d os rfl hro.1 hro.2 (by omega) hsz)
          generalize SW w g n d os = wq at *
          go_wp2_with fail
          refine HCR.out.mono ?_
          rintro e w' ⟨rfl, n3, os3, d1, rfl, hr1, hp1⟩
          have HD1 := Lib.hid hr1
          have HP1 := Lib.hid hp1
          clear hr1 hp1 HCR i1 i2 b1' b2' hro
          have HLF := Lib.hid (show MergeOK a r mid d1 by have h := (HC.out.cut _ HD1.out).left; rw [HC.out.hmid] at h; exact h)
          have HRT := Lib.hid (show MergeOK mid t b d1 by have h := (HC.out.cut _ HD1.out).right; rw [HC.out.hmid] at h; exact h)
          have hz0 : d1.size = d.size := HD1.out.size
          by_cases hll : a < r ∧ r < mid
          · have j1 : (a : Int) < (r : Int) := by omega
            have j2 : (r : Int) < (mid : Int) := by omega
            have c1' : decide ((a : Int) < (r : Int)) = true := decide_eq_true j1
            have c2' : decide ((r : Int) < (mid : Int)) = true := decide_eq_true j2
            have HCL := Lib.hid (sym_at (cap := cap) IH.out HH.out hg a r mid n3 d1 os3 hz0 (by omega) hll.1 hll.2 (by omega) (by omega) HLF.out)
            generalize SW w g n3 d1 os3 = wq at *
            go_wp2_with fail
            refine HCL.out.mono ?_
            rintro e w' ⟨rfl, n4, os4, e4, rfl, hm4⟩
            have HM4 := Lib.hid hm4
            clear hm4 HCL
            have HR := Lib.hid (merge_out (HM4.out.perm) (by have := HC.out.hmid; have := HC.out.hsm; omega) HRT.out)
            have hz1 : e4.size = d.size := (HM4.out.perm).1.trans HD1.out.size
            by_cases hrr : mid < t ∧ t < b
            · have k1 : (mid : Int) < (t : Int) := by omega
              have k2 : (t : Int) < (b : Int) := by omega
              have d1' : decide ((mid : Int) < (t : Int)) = true := decide_eq_true k1
              have d2' : decide ((t : Int) < (b : Int)) = true := decide_eq_true k2
              have HCC := Lib.hid (sym_at (cap := cap) IH.out HH.out hg mid t b n4 e4 os4 hz1 (by omega) hrr.1 hrr.2 (by omega) (by omega) HR.out)
              generalize SW w g n4 e4 os4 = wq at *
              go_wp2_with fail
              refine HCC.out.mono ?_
              rintro e w' ⟨rfl, n5, os5, e5, rfl, hm5⟩
              have HF := Lib.hid (sym_end hbd HC.out HD1.out HP1.out (HM4.out.perm) (HM4.out.srt) hm5.perm hm5.srt)
              clear hm5
              go_wp2_with fail
              go_end0
              exact ⟨rfl, n5, os5, e5, rfl, HF.out⟩
            · have HF := Lib.hid (sym_end hbd HC.out HD1.out HP1.out (HM4.out.perm) (HM4.out.srt) (permIn_refl _ _ _) (left_srt HR.out hrr (by have := HC.out.hmid; have := HC.out.hsm; omega) HC.out.htb))
              by_cases k1 : (mid : Int) < (t : Int)
              · have k2 : ¬ (t : Int) < (b : Int) := by omega
                have d1' : decide ((mid : Int) < (t : Int)) = true := decide_eq_true k1
                have d2' : decide ((t : Int) < (b : Int)) = false := decide_eq_false k2
                go_wp2_with fail
                all_goals (go_end0; exact ⟨rfl, _, _, _, rfl, HF.out⟩)
              · have d1' : decide ((mid : Int) < (t : Int)) = false := decide_eq_false k1
                go_wp2_with fail
                all_goals (go_end0; exact ⟨rfl, _, _, _, rfl, HF.out⟩)
          · have HS4 := Lib.hid (left_srt HLF.out hll HC.out.has (by have := HC.out.hmid; omega))
            by_cases j1 : (a : Int) < (r : Int)
            · have j2 : ¬ (r : Int) < (mid : Int) := by omega
              have c1' : decide ((a : Int) < (r : Int)) = true := decide_eq_true j1
              have c2' : decide ((r : Int) < (mid : Int)) = false := decide_eq_false j2
              have HR := Lib.hid (merge_out (permIn_refl d1 a mid) (by have := HC.out.hmid; have := HC.out.hsm; omega) HRT.out)
              have hz1 : d1.size = d.size := (permIn_refl d1 a mid).1.trans HD1.out.size
              by_cases hrr : mid < t ∧ t < b
              · have k1 : (mid : Int) < (t : Int) := by omega
                have k2 : (t : Int) < (b : Int) := by omega
                have d1' : decide ((mid : Int) < (t : Int)) = true := decide_eq_true k1
                have d2' : decide ((t : Int) < (b : Int)) = true := decide_eq_true k2
                have HCC := Lib.hid (sym_at (cap := cap) IH.out HH.out hg mid t b n3 d1 os3 hz1 (by omega) hrr.1 hrr.2 (by omega) (by omega) HR.out)
                generalize SW w g n3 d1 os3 = wq at *
                go_wp2_with fail
                refine HCC.out.mono ?_
                rintro e w' ⟨rfl, n5, os5, e5, rfl, hm5⟩
                have HF := Lib.hid (sym_end hbd HC.out HD1.out HP1.out (permIn_refl d1 a mid) (HS4.out) hm5.perm hm5.srt)
                clear hm5
                go_wp2_with fail
                go_end0
                exact ⟨rfl, n5, os5, e5, rfl, HF.out⟩
              · have HF := Lib.hid (sym_end hbd HC.out HD1.out HP1.out (permIn_refl d1 a mid) (HS4.out) (permIn_refl _ _ _) (left_srt HR.out hrr (by have := HC.out.hmid; have := HC.out.hsm; omega) HC.out.htb))
                by_cases k1 : (mid : Int) < (t : Int)
                · have k2 : ¬ (t : Int) < (b : Int) := by omega
                  have d1' : decide ((mid : Int) < (t : Int)) = true := decide_eq_true k1
                  have d2' : decide ((t : Int) < (b : Int)) = false := decide_eq_false k2
                  go_wp2_with fail
                  all_goals (go_end0; exact ⟨rfl, _, _, _, rfl, HF.out⟩)
                · have d1' : decide ((mid : Int) < (t : Int)) = false := decide_eq_false k1
                  go_wp2_with fail
                  all_goals (go_end0; exact ⟨rfl, _, _, _, rfl, HF.out⟩)
            · have c1' : decide ((a : Int) < (r : Int)) = false := decide_eq_false j1
              have HR := Lib.hid (merge_out (permIn_refl d1 a mid) (by have := HC.out.hmid; have := HC.out.hsm; omega) HRT.out)
              have hz1 : d1.size = d.size := (permIn_refl d1 a mid).1.trans HD1.out.size
              by_cases hrr : mid < t ∧ t < b
              · have k1 : (mid : Int) < (t : Int) := by omega
                have k2 : (t : Int) < (b : Int) := by omega
                have d1' : decide ((mid : Int) < (t : Int)) = true := decide_eq_true k1
                have d2' : decide ((t : Int) < (b : Int)) = true := decide_eq_true k2
                have HCC := Lib.hid (sym_at (cap := cap) IH.out HH.out hg mid t b n3 d1 os3 hz1 (by omega) hrr.1 hrr.2 (by omega) (by omega) HR.out)
                generalize SW w g n3 d1 os3 = wq at *
                go_wp2_with fail
                refine HCC.out.mono ?_
                rintro e w' ⟨rfl, n5, os5, e5, rfl, hm5⟩
                have HF := Lib.hid (sym_end hbd HC.out HD1.out HP1.out (permIn_refl d1 a mid) (HS4.out) hm5.perm hm5.srt)
                clear hm5
                go_wp2_with fail
                go_end0
                exact ⟨rfl, n5, os5, e5, rfl, HF.out⟩
              · have HF := Lib.hid (sym_end hbd HC.out HD1.out HP1.out (permIn_refl d1 a mid) (HS4.out) (permIn_refl _ _ _) (left_srt HR.out hrr (by have := HC.out.hmid; have := HC.out.hsm; omega) HC.out.htb))
                by_cases k1 : (mid : Int) < (t : Int)
                · have k2 : ¬ (t : Int) < (b : Int) := by omega
                  have d1' : decide ((mid : Int) < (t : Int)) = true := decide_eq_true k1
                  have d2' : decide ((t : Int) < (b : Int)) = false := decide_eq_false k2
                  go_wp2_with fail
                  all_goals (go_end0; exact ⟨rfl, _, _, _, rfl, HF.out⟩)
                · have d1' : decide ((mid : Int) < (t : Int)) = false := decide_eq_false k1
                  go_wp2_with fail
                  all_goals (go_end0; exact ⟨rfl, _, _, _, rfl, HF.out⟩)
        · have HD1 := Lib.hid (rot_none (d := d) hro HC.out.hsm htm)
          have HP1 := Lib.hid (permIn_refl d r t)
          by_cases i1 : (r : Int) < (m : Int)
          · have i2 : ¬ (m : Int) < (t : Int) := by omega
            have b1' : decide ((r : Int) < (m : Int)) = true := decide_eq_true i1
            have b2' : decide ((m : Int) < (t : Int)) = false := decide_eq_false i2
            have HLF := Lib.hid (show MergeOK a r mid d by have h := (HC.out.cut _ HD1.out).left; rw [HC.out.hmid] at h; exact h)
            have HRT := Lib.hid (show MergeOK mid t b d by have h := (HC.out.cut _ HD1.out).right; rw [HC.out.hmid] at h; exact h)
            have hz0 : d.size = d.size := HD1.out.size
            by_cases hll : a < r ∧ r < mid
            · have j1 : (a : Int) < (r : Int) := by omega
              have j2 : (r : Int) < (mid : Int) := by omega
              have c1' : decide ((a : Int) < (r : Int)) = true := decide_eq_true j1
              have c2' : decide ((r : Int) < (mid : Int)) = true := decide_eq_true j2
              have HCL := Lib.hid (sym_at (cap := cap) IH.out HH.out hg a r mid n d os hz0 (by omega) hll.1 hll.2 (by omega) (by omega) HLF.out)
              generalize SW w g n d os = wq at *
              go_wp2_with fail
              refine HCL.out.mono ?_
              rintro e w' ⟨rfl, n4, os4, e4, rfl, hm4⟩
              have HM4 := Lib.hid hm4
              clear hm4 HCL
              have HR := Lib.hid (merge_out (HM4.out.perm) (by have := HC.out.hmid; have := HC.out.hsm; omega) HRT.out)
              have hz1 : e4.size = d.size := (HM4.out.perm).1.trans HD1.out.size
              by_cases hrr : mid < t ∧ t < b
              · have k1 : (mid : Int) < (t : Int) := by omega
                have k2 : (t : Int) < (b : Int) := by omega
                have d1' : decide ((mid : Int) < (t : Int)) = true := decide_eq_true k1
                have d2' : decide ((t : Int) < (b : Int)) = true := decide_eq_true k2
                have HCC := Lib.hid (sym_at (cap := cap) IH.out HH.out hg mid t b n4 e4 os4 hz1 (by omega) hrr.1 hrr.2 (by omega) (by omega) HR.out)
                generalize SW w g n4 e4 os4 = wq at *
                go_wp2_with fail
                refine HCC.out.mono ?_
                rintro e w' ⟨rfl, n5, os5, e5, rfl, hm5⟩
                have HF := Lib.hid (sym_end hbd HC.out HD1.out HP1.out (HM4.out.perm) (HM4.out.srt) hm5.perm hm5.srt)
                clear hm5
                go_wp2_with fail
                go_end0
                exact ⟨rfl, n5, os5, e5, rfl, HF.out⟩
              · have HF := Lib.hid (sym_end hbd HC.out HD1.out HP1.out (HM4.out.perm) (HM4.out.srt) (permIn_refl _ _ _) (left_srt HR.out hrr (by have := HC.out.hmid; have := HC.out.hsm; omega) HC.out.htb))
                by_cases k1 : (mid : Int) < (t : Int)
                · have k2 : ¬ (t : Int) < (b : Int) := by omega
                  have d1' : decide ((mid : Int) < (t : Int)) = true := decide_eq_true k1
                  have d2' : decide ((t : Int) < (b : Int)) = false := decide_eq_false k2
                  go_wp2_with fail
                  all_goals (go_end0; exact ⟨rfl, _, _, _, rfl, HF.out⟩)
                · have d1' : decide ((mid : Int) < (t : Int)) = false := decide_eq_false k1
                  go_wp2_with fail
                  all_goals (go_end0; exact ⟨rfl, _, _, _, rfl, HF.out⟩)
            · have HS4 := Lib.hid (left_srt HLF.out hll HC.out.has (by have := HC.out.hmid; omega))
              by_cases j1 : (a : Int) < (r : Int)
              · have j2 : ¬ (r : Int) < (mid : Int) := by omega
                have c1' : decide ((a : Int) < (r : Int)) = true := decide_eq_true j1
                have c2' : decide ((r : Int) < (mid : Int)) = false := decide_eq_false j2
                have HR := Lib.hid (merge_out (permIn_refl d a mid) (by have := HC.out.hmid; have := HC.out.hsm; omega) HRT.out)
                have hz1 : d.size = d.size := (permIn_refl d a mid).1.trans HD1.out.size
                by_cases hrr : mid < t ∧ t < b
                · have k1 : (mid : Int) < (t : Int) := by omega
                  have k2 : (t : Int) < (b : Int) := by omega
                  have d1' : decide ((mid : Int) < (t : Int)) = true := decide_eq_true k1
                  have d2' : decide ((t : Int) < (b : Int)) = true := decide_eq_true k2
                  have HCC := Lib.hid (sym_at (cap := cap) IH.out HH.out hg mid t b n d os hz1 (by omega) hrr.1 hrr.2 (by omega) (by omega) HR.out)
                  generalize SW w g n d os = wq at *
                  go_wp2_with fail
                  refine HCC.out.mono ?_
                  rintro e w' ⟨rfl, n5, os5, e5, rfl, hm5⟩
                  have HF := Lib.hid (sym_end hbd HC.out HD1.out HP1.out (permIn_refl d a mid) (HS4.out) hm5.perm hm5.srt)
                  clear hm5
                  go_wp2_with fail
                  go_end0
                  exact ⟨rfl, n5, os5, e5, rfl, HF.out⟩
                · have HF := Lib.hid (sym_end hbd HC.out HD1.out HP1.out (permIn_refl d a mid) (HS4.out) (permIn_refl _ _ _) (left_srt HR.out hrr (by have := HC.out.hmid; have := HC.out.hsm; omega) HC.out.htb))
                  by_cases k1 : (mid : Int) < (t : Int)
                  · have k2 : ¬ (t : Int) < (b : Int) := by omega
                    have d1' : decide ((mid : Int) < (t : Int)) = true := decide_eq_true k1
                    have d2' : decide ((t : Int) < (b : Int)) = false := decide_eq_false k2
                    go_wp2_with fail
                    all_goals (go_end0; exact ⟨rfl, _, _, _, rfl, HF.out⟩)
                  · have d1' : decide ((mid : Int) < (t : Int)) = false := decide_eq_false k1
                    go_wp2_with fail
                    all_goals (go_end0; exact ⟨rfl, _, _, _, rfl, HF.out⟩)
              · have c1' : decide ((a : Int) < (r : Int)) = false := decide_eq_false j1
                have HR := Lib.hid (merge_out (permIn_refl d a mid) (by have := HC.out.hmid; have := HC.out.hsm; omega) HRT.out)
                have hz1 : d.size = d.size := (permIn_refl d a mid).1.trans HD1.out.size
                by_cases hrr : mid < t ∧ t < b
                · have k1 : (mid : Int) < (t : Int) := by omega
                  have k2 : (t : Int) < (b : Int) := by omega
                  have d1' : decide ((mid : Int) < (t : Int)) = true := decide_eq_true k1
                  have d2' : decide ((t : Int) < (b : Int)) = true := decide_eq_true k2
                  have HCC := Lib.hid (sym_at (cap := cap) IH.out HH.out hg mid t b n d os hz1 (by omega) hrr.1 hrr.2 (by omega) (by omega) HR.out)
                  generalize SW w g n d os = wq at *
                  go_wp2_with fail
                  refine HCC.out.mono ?_
                  rintro e w' ⟨rfl, n5, os5, e5, rfl, hm5⟩
                  have HF := Lib.hid (sym_end hbd HC.out HD1.out HP1.out (permIn_refl d a mid) (HS4.out) hm5.perm hm5.srt)
                  clear hm5
                  go_wp2_with fail
                  go_end0
                  exact ⟨rfl, n5, os5, e5, rfl, HF.out⟩
                · have HF := Lib.hid (sym_end hbd HC.out HD1.out HP1.out (permIn_refl d a mid) (HS4.out) (permIn_refl _ _ _) (left_srt HR.out hrr (by have := HC.out.hmid; have := HC.out.hsm; omega) HC.out.htb))
                  by_cases k1 : (mid : Int) < (t : Int)
                  · have k2 : ¬ (t : Int) < (b : Int) := by omega
                    have d1' : decide ((mid : Int) < (t : Int)) = true := decide_eq_true k1
                    have d2' : decide ((t : Int) < (b : Int)) = false := decide_eq_false k2
                    go_wp2_with fail
                    all_goals (go_end0; exact ⟨rfl, _, _, _, rfl, HF.out⟩)
                  · have d1' : decide ((mid : Int) < (t : Int)) = false := decide_eq_false k1
                    go_wp2_with fail
                    all_goals (go_end0; exact ⟨rfl, _, _, _, rfl, HF.out⟩)
          · have b1' : decide ((r : Int) < (m : Int)) = false := decide_eq_false i1
            have HLF := Lib.hid (show MergeOK a r mid d by have h := (HC.out.cut _ HD1.out).left; rw [HC.out.hmid] at h; exact h)
            have HRT := Lib.hid (show MergeOK mid t b d by have h := (HC.out.cut _ HD1.out).right; rw [HC.out.hmid] at h; exact h)
            have hz0 : d.size = d.size := HD1.out.size
            by_cases hll : a < r ∧ r < mid
            · have j1 : (a : Int) < (r : Int) := by omega
              have j2 : (r : Int) < (mid : Int) := by omega
              have c1' : decide ((a : Int) < (r : Int)) = true := decide_eq_true j1
              have c2' : decide ((r : Int) < (mid : Int)) = true := decide_eq_true j2
              have HCL := Lib.hid (sym_at (cap := cap) IH.out HH.out hg a r mid n d os hz0 (by omega) hll.1 hll.2 (by omega) (by omega) HLF.out)
              generalize SW w g n d os = wq at *
              go_wp2_with fail
              refine HCL.out.mono ?_
              rintro e w' ⟨rfl, n4, os4, e4, rfl, hm4⟩
              have HM4 := Lib.hid hm4
              clear hm4 HCL
              have HR := Lib.hid (merge_out (HM4.out.perm) (by have := HC.out.hmid; have := HC.out.hsm; omega) HRT.out)
              have hz1 : e4.size = d.size := (HM4.out.perm).1.trans HD1.out.size
              by_cases hrr : mid < t ∧ t < b
              · have k1 : (mid : Int) < (t : Int) := by omega
                have k2 : (t : Int) < (b : Int) := by omega
                have d1' : decide ((mid : Int) < (t : Int)) = true := decide_eq_true k1
                have d2' : decide ((t : Int) < (b : Int)) = true := decide_eq_true k2
                have HCC := Lib.hid (sym_at (cap := cap) IH.out HH.out hg mid t b n4 e4 os4 hz1 (by omega) hrr.1 hrr.2 (by omega) (by omega) HR.out)
                generalize SW w g n4 e4 os4 = wq at *
                go_wp2_with fail
                refine HCC.out.mono ?_
                rintro e w' ⟨rfl, n5, os5, e5, rfl, hm5⟩
                have HF := Lib.hid (sym_end hbd HC.out HD1.out HP1.out (HM4.out.perm) (HM4.out.srt) hm5.perm hm5.srt)
                clear hm5
                go_wp2_with fail
                go_end0
                exact ⟨rfl, n5, os5, e5, rfl, HF.out⟩
              · have HF := Lib.hid (sym_end hbd HC.out HD1.out HP1.out (HM4.out.perm) (HM4.out.srt) (permIn_refl _ _ _) (left_srt HR.out hrr (by have := HC.out.hmid; have := HC.out.hsm; omega) HC.out.htb))
                by_cases k1 : (mid : Int) < (t : Int)
                · have k2 : ¬ (t : Int) < (b : Int) := by omega
                  have d1' : decide ((mid : Int) < (t : Int)) = true := decide_eq_true k1
                  have d2' : decide ((t : Int) < (b : Int)) = false := decide_eq_false k2
                  go_wp2_with fail
                  all_goals (go_end0; exact ⟨rfl, _, _, _, rfl, HF.out⟩)
                · have d1' : decide ((mid : Int) < (t : Int)) = false := decide_eq_false k1
                  go_wp2_with fail
                  all_goals (go_end0; exact ⟨rfl, _, _, _, rfl, HF.out⟩)
            · have HS4 := Lib.hid (left_srt HLF.out hll HC.out.has (by have := HC.out.hmid; omega))
              by_cases j1 : (a : Int) < (r : Int)
              · have j2 : ¬ (r : Int) < (mid : Int) := by omega
                have c1' : decide ((a : Int) < (r : Int)) = true := decide_eq_true j1
                have c2' : decide ((r : Int) < (mid : Int)) = false := decide_eq_false j2
                have HR := Lib.hid (merge_out (permIn_refl d a mid) (by have := HC.out.hmid; have := HC.out.hsm; omega) HRT.out)
                have hz1 : d.size = d.size := (permIn_refl d a mid).1.trans HD1.out.size
                by_cases hrr : mid < t ∧ t < b
                · have k1 : (mid : Int) < (t : Int) := by omega
                  have k2 : (t : Int) < (b : Int) := by omega
                  have d1' : decide ((mid : Int) < (t : Int)) = true := decide_eq_true k1
                  have d2' : decide ((t : Int) < (b : Int)) = true := decide_eq_true k2
                  have HCC := Lib.hid (sym_at (cap := cap) IH.out HH.out hg mid t b n d os hz1 (by omega) hrr.1 hrr.2 (by omega) (by omega) HR.out)
                  generalize SW w g n d os = wq at *
                  go_wp2_with fail
                  refine HCC.out.mono ?_
                  rintro e w' ⟨rfl, n5, os5, e5, rfl, hm5⟩
                  have HF := Lib.hid (sym_end hbd HC.out HD1.out HP1.out (permIn_refl d a mid) (HS4.out) hm5.perm hm5.srt)
                  clear hm5
                  go_wp2_with fail
                  go_end0
                  exact ⟨rfl, n5, os5, e5, rfl, HF.out⟩
                · have HF := Lib.hid (sym_end hbd HC.out HD1.out HP1.out (permIn_refl d a mid) (HS4.out) (permIn_refl _ _ _) (left_srt HR.out hrr (by have := HC.out.hmid; have := HC.out.hsm; omega) HC.out.htb))
                  by_cases k1 : (mid : Int) < (t : Int)
                  · have k2 : ¬ (t : Int) < (b : Int) := by omega
                    have d1' : decide ((mid : Int) < (t : Int)) = true := decide_eq_true k1
                    have d2' : decide ((t : Int) < (b : Int)) = false := decide_eq_false k2
                    go_wp2_with fail
                    all_goals (go_end0; exact ⟨rfl, _, _, _, rfl, HF.out⟩)
                  · have d1' : decide ((mid : Int) < (t : Int)) = false := decide_eq_false k1
                    go_wp2_with fail
                    all_goals (go_end0; exact ⟨rfl, _, _, _, rfl, HF.out⟩)
              · have c1' : decide ((a : Int) < (r : Int)) = false := decide_eq_false j1
                have HR := Lib.hid (merge_out (permIn_refl d a mid) (by have := HC.out.hmid; have := HC.out.hsm; omega) HRT.out)
                have hz1 : d.size = d.size := (permIn_refl d a mid).1.trans HD1.out.size
                by_cases hrr : mid < t ∧ t < b
                · have k1 : (mid : Int) < (t : Int) := by omega
                  have k2 : (t : Int) < (b : Int) := by omega
                  have d1' : decide ((mid : Int) < (t : Int)) = true := decide_eq_true k1
                  have d2' : decide ((t : Int) < (b : Int)) = true := decide_eq_true k2
                  have HCC := Lib.hid (sym_at (cap := cap) IH.out HH.out hg mid t b n d os hz1 (by omega) hrr.1 hrr.2 (by omega) (by omega) HR.out)
                  generalize SW w g n d os = wq at *
                  go_wp2_with fail
                  refine HCC.out.mono ?_
                  rintro e w' ⟨rfl, n5, os5, e5, rfl, hm5⟩
                  have HF := Lib.hid (sym_end hbd HC.out HD1.out HP1.out (permIn_refl d a mid) (HS4.out) hm5.perm hm5.srt)
                  clear hm5
                  go_wp2_with fail
                  go_end0
                  exact ⟨rfl, n5, os5, e5, rfl, HF.out⟩
                · have HF := Lib.hid (sym_end hbd HC.out HD1.out HP1.out (permIn_refl d a mid) (HS4.out) (permIn_refl _ _ _) (left_srt HR.out hrr (by have := HC.out.hmid; have := HC.out.hsm; omega) HC.out.htb))
                  by_cases k1 : (mid : Int) < (t : Int)
                  · have k2 : ¬ (t : Int) < (b : Int) := by omega
                    have d1' : decide ((mid : Int) < (t : Int)) = true := decide_eq_true k1
                    have d2' : decide ((t : Int) < (b : Int)) = false := decide_eq_false k2
                    go_wp2_with fail
                    all_goals (go_end0; exact ⟨rfl, _, _, _, rfl, HF.out⟩)
                  · have d1' : decide ((mid : Int) < (t : Int)) = false := decide_eq_false k1
                    go_wp2_with fail
                    all_goals (go_end0; exact ⟨rfl, _, _, _, rfl, HF.out⟩)
theorem symMerge_calls (g cap : Nat) : ∀ N, SymS g cap N
  | 0 => fun a m b d w hN hH hg h1 h2 hb hsz hM => by omega
  | N + 1 => fun a m b d w hN hH hg h1 h2 hb hsz hM => by
    by_cases c1 : m = a + 1
    · exact sym_left g cap a m b d w hH hg c1 h2 hb hsz hM
    · by_cases c2 : b = m + 1
      · exact sym_right g cap a m b d w hH hg (by omega) c2 hb hsz hM
      · exact sym_gen g cap N (symMerge_calls g cap N) a m b d w hN hH hg (by omega) (by omega) hb hsz hM
end Go.Proofs.YtbdgoffbkenofaaGreat.So
