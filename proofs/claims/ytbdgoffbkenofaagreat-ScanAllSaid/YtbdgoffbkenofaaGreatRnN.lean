/- The document's token: Next: what begins with <, in a raw element that ends there (by gen_rni.py). -/
import Derived.Test.YtbdgoffbkenofaaGreatRnI
namespace Go.Proofs.YtbdgoffbkenofaaGreat.Rn
open Go Go.RowKit Go.Proofs.YtbdgoffbkenofaaGreat.Tk Go.Proofs.YtbdgoffbkenofaaGreat.Tr
set_option linter.unusedVariables false
set_option maxRecDepth 100000

set_option maxHeartbeats 8000000 in
theorem rnx_lt2 (s raw : ByteArray) (hs : s.size ≤ 800000) (hr : raw.size ≤ 800000) (a : Nat) (ha : a ≤ 1000000) (c1 : a < s.size) (c2 : ¬ (raw ≠ ⟨#[]⟩ ∧ a < rawER s a (lowS raw))) (hraw : raw ≠ ⟨#[]⟩) (h60 : bAt s a = 60) (w : World) :
    Calls Tryz.prog 28 #[.string s, .int .i64 (a : Int), .string raw] w (TokEnd (nextR s a raw) w) := by
  have HS := Lib.hid hs
  have HR := Lib.hid hr
  have h0 : (0 : Int) ≤ (a : Int) := by omega
  have hneg : ¬ (a : Int) < 0 := by omega
  have hneg2 : decide ((a : Int) < 0) = false := decide_eq_false hneg
  have HI := Lib.hid (NR.new w)
  have hz : ¬ (s.size : Int) ≤ (a : Int) := by omega
  have hzd : decide (s.size ≤ a) = false := decide_eq_false (by omega)
  have HC2 : Hid (¬ a < rawER s a (lowS raw)) := Lib.hid (fun x => c2 ⟨hraw, x⟩)
  have hlt : a < s.size := by omega
  have q1 : (((s[a]'hlt).toNat : Int) != 60) = false := by rw [← bAt_in hlt, h60]; rfl
  have HN := Lib.hid ((nextR_rest (by omega) c2).trans (restR_lt h60))
  have hs1 : s.size ≤ 1000000 := by omega
  have HL1 := Lib.hid (rletter_w s hs1 (a + 1) ((a : Int) + 1) (by omega) (by omega))
  have HL2 := Lib.hid (rletter_w s hs1 (a + 2) ((a : Int) + 2) (by omega) (by omega))
  have HC := Lib.hid (has_calls s ⟨#[60, 47]⟩ hs1 (by decide) a (by omega))
  have HD := Lib.hid (has_calls s ⟨#[60, 33, 45, 45]⟩ hs1 (by decide) a (by omega))
  have HE := Lib.hid (has_calls s ⟨#[60, 33, 100, 111, 99, 116, 121, 112, 101]⟩ hs1 (by decide) a (by omega))
  have HF := Lib.hid (has_calls s ⟨#[60, 47, 62]⟩ hs1 (by decide) a (by omega))
  have HG := Lib.hid (has_calls s ⟨#[60, 63]⟩ hs1 (by decide) a (by omega))
  have HH := Lib.hid (has_calls s ⟨#[60, 33]⟩ hs1 (by decide) a (by omega))
  have T1 := Lib.hid (fun h : letterAt s (a + 1) = true => rtag_w s (by omega) (a + 1) ((a : Int) + 1) (by omega) (Nat.le_of_lt (letter_lt h)) true 1 rfl)
  have T2 := Lib.hid (fun h : letterAt s (a + 2) = true => rtag_w s (by omega) (a + 2) ((a : Int) + 2) (by omega) (Nat.le_of_lt (letter_lt h)) false 2 rfl)
  have T3 := Lib.hid (fun h : hasR s a ⟨#[60, 33, 45, 45]⟩ = true => rcomment_w s hs1 (a + 4) ((a : Int) + 4) (by omega) (hasR_le h))
  have T4 := Lib.hid (fun h : hasR s a ⟨#[60, 33, 100, 111, 99, 116, 121, 112, 101]⟩ = true => rdoctype_w s hs1 (a + 9) ((a : Int) + 9) (by omega) (hasR_le h))
  have T6 := Lib.hid (fun h : hasR s a ⟨#[60, 63]⟩ = true => rbogus_w s hs1 (a + 1) ((a : Int) + 1) (by omega) (by have : a + 2 ≤ s.size := hasR_le h; omega))
  have T7 := Lib.hid (fun h : hasR s a ⟨#[60, 33]⟩ = true => rbogus_w s hs1 (a + 2) ((a : Int) + 2) (by omega) (hasR_le h))
  have T8 := Lib.hid (fun h : hasR s a ⟨#[60, 47]⟩ = true => rbogus_w s hs1 (a + 2) ((a : Int) + 2) (by omega) (hasR_le h))
  have hlast : (decide (a + 2 < s.size)) = decide ((a : Int) + 2 < (s.size : Int)) := decide_eq_decide.2 (by omega)
  rw [hlast] at HN
  generalize letterAt s (a + 1) = l1 at *
  generalize letterAt s (a + 2) = l2 at *
  generalize hasR s a ⟨#[60, 47]⟩ = c at *
  generalize hasR s a ⟨#[60, 33, 45, 45]⟩ = d at *
  generalize hasR s a ⟨#[60, 33, 100, 111, 99, 116, 121, 112, 101]⟩ = dt at *
  generalize hasR s a ⟨#[60, 47, 62]⟩ = f at *
  generalize hasR s a ⟨#[60, 63]⟩ = g at *
  generalize hasR s a ⟨#[60, 33]⟩ = h at *
  have hw1 : IntKind.i64.wrap ((a : Int) + 1) = (a : Int) + 1 := IntWalk.i64_in _ (by omega)
  have hw2 : IntKind.i64.wrap ((a : Int) + 2) = (a : Int) + 2 := IntWalk.i64_in _ (by omega)
  have hw3 : IntKind.i64.wrap ((a : Int) + 3) = (a : Int) + 3 := IntWalk.i64_in _ (by omega)
  have hw4 : IntKind.i64.wrap ((a : Int) + 4) = (a : Int) + 4 := IntWalk.i64_in _ (by omega)
  have hw9 : IntKind.i64.wrap ((a : Int) + 9) = (a : Int) + 9 := IntWalk.i64_in _ (by omega)
  clear h60 c2 hlast
  have hne := empty_toList hraw
  have HLW := Lib.hid (rlower raw (by omega))
  have HEC := Lib.hid (fun k hk => ends_calls s (lowS raw) (by omega) (by rw [lowS_size]; omega) k hk)
  have HCL := Lib.hid (show a ≤ s.size by omega)
  have HRW := Lib.hid (Tk.rraw_calls (lowS raw))
  generalize lowS raw = lr at *
  clear hraw
  go_enter Tryz.func28, Tryz.ntmps28
  go_wp2_with fail
  refine (HLW.out _).mono ?_
  rintro e' wq ⟨rfl, hb⟩
  replace HI := Lib.hid (HI.out.keep hb)
  clear hb
  go_wp2_with fail
  obtain ⟨wa, hwa⟩ : ∃ wa, wq = wa := ⟨_, rfl⟩
  rw [hwa] at HI ⊢
  clear hwa
  go_loopw [10] (fun t10 wr => ∃ k : Nat, t10 = .int .i64 (k : Int) ∧ Hid (k ≤ s.size) ∧ Hid (a ≤ k) ∧ Hid (rawER s a lr = upI (fun i => endsR s i lr) (s.size - k) k) ∧ Hid (NR w.heap.size w wr)) (fun t10 _ => s.size - (intOf t10).toNat)
  case atStart => exact ⟨a, rfl, HCL, Lib.hid (Nat.le_refl _), Lib.hid rfl, HI⟩
  case round =>
    clear HI
    obtain ⟨k, rfl, HK, HAK, HE, HI⟩ := hrel
    by_cases hlt : k < s.size
    · have hzk : (k : Int) < (s.size : Int) := by omega
      have hwk : IntKind.i64.wrap ((k : Int) + 1) = (k : Int) + 1 := IntWalk.i64_in _ (by have := HS.out; omega)
      have HX := Lib.hid (HEC.out k (by omega))
      have HLT := Lib.hid hlt
      cases hpc : endsR s k lr with
      | false =>
        have HE2 := Lib.hid (show rawER s a lr = upI (fun i => endsR s i lr) (s.size - (k + 1)) (k + 1) from HE.out.trans (by rw [show s.size - k = (s.size - (k + 1)) + 1 by omega]; exact upI_next hpc))
        rw [hpc] at HX
        clear hpc hlt
        go_wp2_with fail
        refine (HX.out _).mono ?_
        rintro e' wq ⟨rfl, hb⟩
        replace HI := Lib.hid (HI.out.keep hb)
        clear hb
        go_wp2_with fail
        go_roundw
        case rel => exact ⟨k + 1, by go_num, Lib.hid HLT.out, Lib.hid (by have := HAK.out; omega), HE2, HI⟩
        case measure => simp [intOf]; have := HLT.out; omega
      | true =>
        have HE2 := Lib.hid (show rawER s a lr = k from HE.out.trans (by rw [show s.size - k = (s.size - (k + 1)) + 1 by omega]; exact upI_here hpc))
        rw [hpc] at HX
        clear hpc hlt HE
        go_wp2_with fail
        refine (HX.out _).mono ?_
        rintro e' wq ⟨rfl, hb⟩
        replace HI := Lib.hid (HI.out.keep hb)
        clear hb
        have hz2 : ¬ (a : Int) < (k : Int) := by have := HC2.out; rw [HE2.out] at this; omega
        obtain rfl : a = k := by have := HAK.out; omega
        clear HC2 HE2
        go_wp2_with fail
        refine (HL1.out _).mono ?_
        rintro e' wq' ⟨rfl, rfl⟩
        cases l1 with
        | true =>
          replace T1 := Lib.hid (T1.out (by first | rfl | trivial))
          have HV := Lib.hid (show nextR s a _ = tagR s (a + 1) true from HN.out.trans rfl)
          generalize tagR s (a + 1) true = o at *
          clear HN
          go_wp2_with fail
          refine (T1.out _).mono ?_
          rintro e' wq ⟨A, ac, rfl, hat, hb, hfr⟩
          have HFR := Lib.hid (HI.out.far hfr)
          replace HI := Lib.hid (HI.out.keep hb)
          have HAT := Lib.hid hat
          clear hat hb hfr
          obtain ⟨b0, b1, b2, b3, b4⟩ := tbox5 HI.out.res
          obtain ⟨f0, f1, f2, f3, f4⟩ := tfrz5 HI.out.res
          go_wp2_with fail
          rw [HV.out]
          exact tok_post (o) w 6 7 8 w.heap.size A ac rfl rfl rfl rfl (set5_blk HI.out.res _ _ _ _ _) (isAttrs_move HAT.out (set5_below (B := 0) (Nat.zero_le _) _ _ _ _ _).size fun p hp => set5_other (by have := HFR.out p hp; omega) _ _ _ _ _) (HI.out.end_ _ _ _ _ _) (fun p hp => by have := HFR.out p hp; omega)
        | false =>
          go_wp2_with fail
          refine (HC.out _).mono ?_
          rintro e' wq ⟨rfl, hb⟩
          replace HI := Lib.hid (HI.out.keep hb)
          clear hb
          cases c with
          | true =>
            go_wp2_with fail
            refine (HL2.out _).mono ?_
            rintro e' wq' ⟨rfl, rfl⟩
            cases l2 with
            | true =>
              replace T2 := Lib.hid (T2.out (by first | rfl | trivial))
              have HV := Lib.hid (show nextR s a _ = tagR s (a + 2) false from HN.out.trans rfl)
              generalize tagR s (a + 2) false = o at *
              clear HN
              go_wp2_with fail
              refine (T2.out _).mono ?_
              rintro e' wq ⟨A, ac, rfl, hat, hb, hfr⟩
              have HFR := Lib.hid (HI.out.far hfr)
              replace HI := Lib.hid (HI.out.keep hb)
              have HAT := Lib.hid hat
              clear hat hb hfr
              obtain ⟨b0, b1, b2, b3, b4⟩ := tbox5 HI.out.res
              obtain ⟨f0, f1, f2, f3, f4⟩ := tfrz5 HI.out.res
              go_wp2_with fail
              rw [HV.out]
              exact tok_post (o) w 6 7 8 w.heap.size A ac rfl rfl rfl rfl (set5_blk HI.out.res _ _ _ _ _) (isAttrs_move HAT.out (set5_below (B := 0) (Nat.zero_le _) _ _ _ _ _).size fun p hp => set5_other (by have := HFR.out p hp; omega) _ _ _ _ _) (HI.out.end_ _ _ _ _ _) (fun p hp => by have := HFR.out p hp; omega)
            | false =>
              go_wp2_with fail
              refine (HD.out _).mono ?_
              rintro e' wq ⟨rfl, hb⟩
              replace HI := Lib.hid (HI.out.keep hb)
              clear hb
              cases d with
              | true =>
                replace T3 := Lib.hid (T3.out (by first | rfl | trivial))
                have HV := Lib.hid (show nextR s a _ = commentR s (a + 4) from HN.out.trans rfl)
                generalize commentR s (a + 4) = o at *
                clear HN
                go_wp2_with fail
                refine (T3.out _).mono ?_
                rintro e' wq ⟨A, ac, rfl, hat, hb, hfr⟩
                have HFR := Lib.hid (HI.out.far hfr)
                replace HI := Lib.hid (HI.out.keep hb)
                have HAT := Lib.hid hat
                clear hat hb hfr
                obtain ⟨b0, b1, b2, b3, b4⟩ := tbox5 HI.out.res
                obtain ⟨f0, f1, f2, f3, f4⟩ := tfrz5 HI.out.res
                go_wp2_with fail
                rw [HV.out]
                exact tok_post (o) w 6 7 8 w.heap.size A ac rfl rfl rfl rfl (set5_blk HI.out.res _ _ _ _ _) (isAttrs_move HAT.out (set5_below (B := 0) (Nat.zero_le _) _ _ _ _ _).size fun p hp => set5_other (by have := HFR.out p hp; omega) _ _ _ _ _) (HI.out.end_ _ _ _ _ _) (fun p hp => by have := HFR.out p hp; omega)
              | false =>
                go_wp2_with fail
                refine (HE.out _).mono ?_
                rintro e' wq ⟨rfl, hb⟩
                replace HI := Lib.hid (HI.out.keep hb)
                clear hb
                cases dt with
                | true =>
                  replace T4 := Lib.hid (T4.out (by first | rfl | trivial))
                  have HV := Lib.hid (show nextR s a _ = doctypeR s (a + 9) from HN.out.trans rfl)
                  generalize doctypeR s (a + 9) = o at *
                  clear HN
                  go_wp2_with fail
                  refine (T4.out _).mono ?_
                  rintro e' wq ⟨A, ac, rfl, hat, hb, hfr⟩
                  have HFR := Lib.hid (HI.out.far hfr)
                  replace HI := Lib.hid (HI.out.keep hb)
                  have HAT := Lib.hid hat
                  clear hat hb hfr
                  obtain ⟨b0, b1, b2, b3, b4⟩ := tbox5 HI.out.res
                  obtain ⟨f0, f1, f2, f3, f4⟩ := tfrz5 HI.out.res
                  go_wp2_with fail
                  rw [HV.out]
                  exact tok_post (o) w 6 7 8 w.heap.size A ac rfl rfl rfl rfl (set5_blk HI.out.res _ _ _ _ _) (isAttrs_move HAT.out (set5_below (B := 0) (Nat.zero_le _) _ _ _ _ _).size fun p hp => set5_other (by have := HFR.out p hp; omega) _ _ _ _ _) (HI.out.end_ _ _ _ _ _) (fun p hp => by have := HFR.out p hp; omega)
                | false =>
                  go_wp2_with fail
                  refine (HF.out _).mono ?_
                  rintro e' wq ⟨rfl, hb⟩
                  replace HI := Lib.hid (HI.out.keep hb)
                  clear hb
                  cases f with
                  | true =>
                    have HV := Lib.hid (show nextR s a _ = (tok0, a + 3, false) from HN.out.trans rfl)
                    have hcast : ((a + 3 : Nat) : Int) = (a : Int) + 3 := by omega
                    clear HN
                    obtain ⟨b0, b1, b2, b3, b4⟩ := tbox5 HI.out.res
                    obtain ⟨f0, f1, f2, f3, f4⟩ := tfrz5 HI.out.res
                    go_wp2_with fail
                    rw [HV.out]
                    exact tok_post (tok0, a + 3, false) w 6 7 8 w.heap.size none 0 rfl rfl rfl rfl (set5_blk HI.out.res _ _ _ _ _) (isAttrs_nil _ _) (HI.out.end_ _ _ _ _ _) (fun _ h => nomatch h)
                  | false =>
                    go_wp2_with fail
                    refine (HH.out _).mono ?_
                    rintro e' wq ⟨rfl, hb⟩
                    replace HI := Lib.hid (HI.out.keep hb)
                    clear hb
                    cases h with
                    | true =>
                      replace T7 := Lib.hid (T7.out (by first | rfl | trivial))
                      have HV := Lib.hid (show nextR s a _ = bogusR s (a + 2) from HN.out.trans rfl)
                      generalize bogusR s (a + 2) = o at *
                      clear HN
                      go_wp2_with fail
                      refine (T7.out _).mono ?_
                      rintro e' wq ⟨A, ac, rfl, hat, hb, hfr⟩
                      have HFR := Lib.hid (HI.out.far hfr)
                      replace HI := Lib.hid (HI.out.keep hb)
                      have HAT := Lib.hid hat
                      clear hat hb hfr
                      obtain ⟨b0, b1, b2, b3, b4⟩ := tbox5 HI.out.res
                      obtain ⟨f0, f1, f2, f3, f4⟩ := tfrz5 HI.out.res
                      go_wp2_with fail
                      rw [HV.out]
                      exact tok_post (o) w 6 7 8 w.heap.size A ac rfl rfl rfl rfl (set5_blk HI.out.res _ _ _ _ _) (isAttrs_move HAT.out (set5_below (B := 0) (Nat.zero_le _) _ _ _ _ _).size fun p hp => set5_other (by have := HFR.out p hp; omega) _ _ _ _ _) (HI.out.end_ _ _ _ _ _) (fun p hp => by have := HFR.out p hp; omega)
                    | false =>
                      go_wp2_with fail
                      refine (HC.out _).mono ?_
                      rintro e' wq ⟨rfl, hb⟩
                      replace HI := Lib.hid (HI.out.keep hb)
                      clear hb
                      by_cases hl : (a : Int) + 2 < (s.size : Int)
                      · have hl2 := decide_eq_true hl
                        rw [hl2] at HN
                        clear hl2
                        replace T8 := Lib.hid (T8.out (by first | rfl | trivial))
                        have HV := Lib.hid (show nextR s a _ = bogusR s (a + 2) from HN.out.trans rfl)
                        generalize bogusR s (a + 2) = o at *
                        clear HN
                        go_wp2_with fail
                        refine (T8.out _).mono ?_
                        rintro e' wq ⟨A, ac, rfl, hat, hb, hfr⟩
                        have HFR := Lib.hid (HI.out.far hfr)
                        replace HI := Lib.hid (HI.out.keep hb)
                        have HAT := Lib.hid hat
                        clear hat hb hfr
                        obtain ⟨b0, b1, b2, b3, b4⟩ := tbox5 HI.out.res
                        obtain ⟨f0, f1, f2, f3, f4⟩ := tfrz5 HI.out.res
                        go_wp2_with fail
                        rw [HV.out]
                        exact tok_post (o) w 6 7 8 w.heap.size A ac rfl rfl rfl rfl (set5_blk HI.out.res _ _ _ _ _) (isAttrs_move HAT.out (set5_below (B := 0) (Nat.zero_le _) _ _ _ _ _).size fun p hp => set5_other (by have := HFR.out p hp; omega) _ _ _ _ _) (HI.out.end_ _ _ _ _ _) (fun p hp => by have := HFR.out p hp; omega)
                      · have hl2 := decide_eq_false hl
                        rw [hl2] at HN
                        clear hl2
                        go_wp2_with fail
                        refine (HG.out _).mono ?_
                        rintro e' wq ⟨rfl, hb⟩
                        replace HI := Lib.hid (HI.out.keep hb)
                        clear hb
                        cases g with
                        | true =>
                          replace T6 := Lib.hid (T6.out (by first | rfl | trivial))
                          have HV := Lib.hid (show nextR s a _ = bogusR s (a + 1) from HN.out.trans rfl)
                          generalize bogusR s (a + 1) = o at *
                          clear HN
                          go_wp2_with fail
                          refine (T6.out _).mono ?_
                          rintro e' wq ⟨A, ac, rfl, hat, hb, hfr⟩
                          have HFR := Lib.hid (HI.out.far hfr)
                          replace HI := Lib.hid (HI.out.keep hb)
                          have HAT := Lib.hid hat
                          clear hat hb hfr
                          obtain ⟨b0, b1, b2, b3, b4⟩ := tbox5 HI.out.res
                          obtain ⟨f0, f1, f2, f3, f4⟩ := tfrz5 HI.out.res
                          go_wp2_with fail
                          rw [HV.out]
                          exact tok_post (o) w 6 7 8 w.heap.size A ac rfl rfl rfl rfl (set5_blk HI.out.res _ _ _ _ _) (isAttrs_move HAT.out (set5_below (B := 0) (Nat.zero_le _) _ _ _ _ _).size fun p hp => set5_other (by have := HFR.out p hp; omega) _ _ _ _ _) (HI.out.end_ _ _ _ _ _) (fun p hp => by have := HFR.out p hp; omega)
                        | false =>
                          have HV := Lib.hid (show nextR s a _ = (textTok ⟨#[60]⟩ false, a + 1, true) from HN.out.trans rfl)
                          have hcast : ((a + 1 : Nat) : Int) = (a : Int) + 1 := by omega
                          clear HN
                          obtain ⟨b0, b1, b2, b3, b4⟩ := tbox5 HI.out.res
                          obtain ⟨f0, f1, f2, f3, f4⟩ := tfrz5 HI.out.res
                          go_wp2_with fail
                          rw [HV.out]
                          exact tok_post (textTok ⟨#[60]⟩ false, a + 1, true) w 6 7 8 w.heap.size none 0 rfl rfl rfl rfl (set5_blk HI.out.res _ _ _ _ _) (isAttrs_nil _ _) (HI.out.end_ _ _ _ _ _) (fun _ h => nomatch h)
          | false =>
            go_wp2_with fail
            refine (HD.out _).mono ?_
            rintro e' wq ⟨rfl, hb⟩
            replace HI := Lib.hid (HI.out.keep hb)
            clear hb
            cases d with
            | true =>
              replace T3 := Lib.hid (T3.out (by first | rfl | trivial))
              have HV := Lib.hid (show nextR s a _ = commentR s (a + 4) from HN.out.trans rfl)
              generalize commentR s (a + 4) = o at *
              clear HN
              go_wp2_with fail
              refine (T3.out _).mono ?_
              rintro e' wq ⟨A, ac, rfl, hat, hb, hfr⟩
              have HFR := Lib.hid (HI.out.far hfr)
              replace HI := Lib.hid (HI.out.keep hb)
              have HAT := Lib.hid hat
              clear hat hb hfr
              obtain ⟨b0, b1, b2, b3, b4⟩ := tbox5 HI.out.res
              obtain ⟨f0, f1, f2, f3, f4⟩ := tfrz5 HI.out.res
              go_wp2_with fail
              rw [HV.out]
              exact tok_post (o) w 6 7 8 w.heap.size A ac rfl rfl rfl rfl (set5_blk HI.out.res _ _ _ _ _) (isAttrs_move HAT.out (set5_below (B := 0) (Nat.zero_le _) _ _ _ _ _).size fun p hp => set5_other (by have := HFR.out p hp; omega) _ _ _ _ _) (HI.out.end_ _ _ _ _ _) (fun p hp => by have := HFR.out p hp; omega)
            | false =>
              go_wp2_with fail
              refine (HE.out _).mono ?_
              rintro e' wq ⟨rfl, hb⟩
              replace HI := Lib.hid (HI.out.keep hb)
              clear hb
              cases dt with
              | true =>
                replace T4 := Lib.hid (T4.out (by first | rfl | trivial))
                have HV := Lib.hid (show nextR s a _ = doctypeR s (a + 9) from HN.out.trans rfl)
                generalize doctypeR s (a + 9) = o at *
                clear HN
                go_wp2_with fail
                refine (T4.out _).mono ?_
                rintro e' wq ⟨A, ac, rfl, hat, hb, hfr⟩
                have HFR := Lib.hid (HI.out.far hfr)
                replace HI := Lib.hid (HI.out.keep hb)
                have HAT := Lib.hid hat
                clear hat hb hfr
                obtain ⟨b0, b1, b2, b3, b4⟩ := tbox5 HI.out.res
                obtain ⟨f0, f1, f2, f3, f4⟩ := tfrz5 HI.out.res
                go_wp2_with fail
                rw [HV.out]
                exact tok_post (o) w 6 7 8 w.heap.size A ac rfl rfl rfl rfl (set5_blk HI.out.res _ _ _ _ _) (isAttrs_move HAT.out (set5_below (B := 0) (Nat.zero_le _) _ _ _ _ _).size fun p hp => set5_other (by have := HFR.out p hp; omega) _ _ _ _ _) (HI.out.end_ _ _ _ _ _) (fun p hp => by have := HFR.out p hp; omega)
              | false =>
                go_wp2_with fail
                refine (HF.out _).mono ?_
                rintro e' wq ⟨rfl, hb⟩
                replace HI := Lib.hid (HI.out.keep hb)
                clear hb
                cases f with
                | true =>
                  have HV := Lib.hid (show nextR s a _ = (tok0, a + 3, false) from HN.out.trans rfl)
                  have hcast : ((a + 3 : Nat) : Int) = (a : Int) + 3 := by omega
                  clear HN
                  obtain ⟨b0, b1, b2, b3, b4⟩ := tbox5 HI.out.res
                  obtain ⟨f0, f1, f2, f3, f4⟩ := tfrz5 HI.out.res
                  go_wp2_with fail
                  rw [HV.out]
                  exact tok_post (tok0, a + 3, false) w 6 7 8 w.heap.size none 0 rfl rfl rfl rfl (set5_blk HI.out.res _ _ _ _ _) (isAttrs_nil _ _) (HI.out.end_ _ _ _ _ _) (fun _ h => nomatch h)
                | false =>
                  go_wp2_with fail
                  refine (HH.out _).mono ?_
                  rintro e' wq ⟨rfl, hb⟩
                  replace HI := Lib.hid (HI.out.keep hb)
                  clear hb
                  cases h with
                  | true =>
                    replace T7 := Lib.hid (T7.out (by first | rfl | trivial))
                    have HV := Lib.hid (show nextR s a _ = bogusR s (a + 2) from HN.out.trans rfl)
                    generalize bogusR s (a + 2) = o at *
                    clear HN
                    go_wp2_with fail
                    refine (T7.out _).mono ?_
                    rintro e' wq ⟨A, ac, rfl, hat, hb, hfr⟩
                    have HFR := Lib.hid (HI.out.far hfr)
                    replace HI := Lib.hid (HI.out.keep hb)
                    have HAT := Lib.hid hat
                    clear hat hb hfr
                    obtain ⟨b0, b1, b2, b3, b4⟩ := tbox5 HI.out.res
                    obtain ⟨f0, f1, f2, f3, f4⟩ := tfrz5 HI.out.res
                    go_wp2_with fail
                    rw [HV.out]
                    exact tok_post (o) w 6 7 8 w.heap.size A ac rfl rfl rfl rfl (set5_blk HI.out.res _ _ _ _ _) (isAttrs_move HAT.out (set5_below (B := 0) (Nat.zero_le _) _ _ _ _ _).size fun p hp => set5_other (by have := HFR.out p hp; omega) _ _ _ _ _) (HI.out.end_ _ _ _ _ _) (fun p hp => by have := HFR.out p hp; omega)
                  | false =>
                    go_wp2_with fail
                    refine (HC.out _).mono ?_
                    rintro e' wq ⟨rfl, hb⟩
                    replace HI := Lib.hid (HI.out.keep hb)
                    clear hb
                    go_wp2_with fail
                    refine (HG.out _).mono ?_
                    rintro e' wq ⟨rfl, hb⟩
                    replace HI := Lib.hid (HI.out.keep hb)
                    clear hb
                    cases g with
                    | true =>
                      replace T6 := Lib.hid (T6.out (by first | rfl | trivial))
                      have HV := Lib.hid (show nextR s a _ = bogusR s (a + 1) from HN.out.trans rfl)
                      generalize bogusR s (a + 1) = o at *
                      clear HN
                      go_wp2_with fail
                      refine (T6.out _).mono ?_
                      rintro e' wq ⟨A, ac, rfl, hat, hb, hfr⟩
                      have HFR := Lib.hid (HI.out.far hfr)
                      replace HI := Lib.hid (HI.out.keep hb)
                      have HAT := Lib.hid hat
                      clear hat hb hfr
                      obtain ⟨b0, b1, b2, b3, b4⟩ := tbox5 HI.out.res
                      obtain ⟨f0, f1, f2, f3, f4⟩ := tfrz5 HI.out.res
                      go_wp2_with fail
                      rw [HV.out]
                      exact tok_post (o) w 6 7 8 w.heap.size A ac rfl rfl rfl rfl (set5_blk HI.out.res _ _ _ _ _) (isAttrs_move HAT.out (set5_below (B := 0) (Nat.zero_le _) _ _ _ _ _).size fun p hp => set5_other (by have := HFR.out p hp; omega) _ _ _ _ _) (HI.out.end_ _ _ _ _ _) (fun p hp => by have := HFR.out p hp; omega)
                    | false =>
                      have HV := Lib.hid (show nextR s a _ = (textTok ⟨#[60]⟩ false, a + 1, true) from HN.out.trans rfl)
                      have hcast : ((a + 1 : Nat) : Int) = (a : Int) + 1 := by omega
                      clear HN
                      obtain ⟨b0, b1, b2, b3, b4⟩ := tbox5 HI.out.res
                      obtain ⟨f0, f1, f2, f3, f4⟩ := tfrz5 HI.out.res
                      go_wp2_with fail
                      rw [HV.out]
                      exact tok_post (textTok ⟨#[60]⟩ false, a + 1, true) w 6 7 8 w.heap.size none 0 rfl rfl rfl rfl (set5_blk HI.out.res _ _ _ _ _) (isAttrs_nil _ _) (HI.out.end_ _ _ _ _ _) (fun _ h => nomatch h)
    · have hzk : decide (k < s.size) = false := decide_eq_false hlt
      have HE2 := Lib.hid (show rawER s a lr = k from HE.out.trans (by rw [show s.size - k = 0 by omega]; rfl))
      have hx := HC2.out
      rw [HE2.out] at hx
      have := HAK.out
      exact absurd hz (by omega)
end Go.Proofs.YtbdgoffbkenofaaGreat.Rn
namespace Go.Proofs.YtbdgoffbkenofaaGreat.Rn
open Go Go.RowKit Go.Proofs.YtbdgoffbkenofaaGreat.Tk Go.Proofs.YtbdgoffbkenofaaGreat.Tr
set_option linter.unusedVariables false
set_option maxRecDepth 100000

theorem rnext_calls (s raw : ByteArray) (hs : s.size ≤ 800000) (hr : raw.size ≤ 800000) (a : Nat) (ha : a ≤ 1000000) (w : World) :
    Calls Tryz.prog 28 #[.string s, .int .i64 (a : Int), .string raw] w (TokEnd (nextR s a raw) w) := by
  by_cases c1 : s.size ≤ a
  · exact rnx_end s raw hs hr a ha c1 w
  have c1' : a < s.size := by omega
  by_cases c2 : raw ≠ ⟨#[]⟩ ∧ a < rawER s a (lowS raw)
  · exact rnx_raw s raw hs hr a ha c1' c2.1 c2.2 w
  by_cases hraw : raw = ⟨#[]⟩
  · by_cases h60 : bAt s a = 60
    · exact rnx_lt1 s raw hs hr a ha c1' c2 hraw h60 w
    · exact rnx_text1 s raw hs hr a ha c1' c2 hraw h60 w
  · by_cases h60 : bAt s a = 60
    · exact rnx_lt2 s raw hs hr a ha c1' c2 hraw h60 w
    · exact rnx_text2 s raw hs hr a ha c1' c2 hraw h60 w
end Go.Proofs.YtbdgoffbkenofaaGreat.Rn
