/- token.Next: what begins with <, in a raw element that ends there. -/
import Derived.Test.YtbdgoffbkenofaaGreatTkN
import Derived.Test.YtbdgoffbkenofaaGreatTkNl
import Derived.Test.YtbdgoffbkenofaaGreatTkG
namespace Go.Proofs.YtbdgoffbkenofaaGreat.Tk
open Go Go.RowKit Go.Proofs.YtbdgoffbkenofaaGreat.Tr
set_option linter.unusedVariables false
set_option maxRecDepth 100000

set_option maxHeartbeats 8000000 in
theorem nx_lt2 (hsort : SortsAttrs) (s raw : ByteArray) (hs : s.size ≤ 900000) (hr : raw.size ≤ 900000) (a : Nat) (ha : a ≤ 1000000) (c1 : a < s.size) (c2 : ¬ (raw ≠ ⟨#[]⟩ ∧ a < rawEndP s a raw)) (hraw : raw ≠ ⟨#[]⟩) (h60 : bAt s a = 60) (w : World) :
    Calls Tryz.prog 37 #[.string s, .int .i64 (a : Int), .string raw] w (TokEnd (nextP s a raw) w) := by
  have HS := Lib.hid hs
  have HR := Lib.hid hr
  have h0 : (0 : Int) ≤ (a : Int) := by omega
  have hneg : ¬ (a : Int) < 0 := by omega
  obtain ⟨g1, g2, g3⟩ := nx_boxes s w
  have HI : Hid (NxI s w.heap.size w ((w.alloc (.cells #[.string s] 9)).alloc (.cells #[.int .i64 0, .string ⟨#[]⟩, .string ⟨#[]⟩, .slice none 0 0, .bool false] 27))) := Lib.hid ⟨g2, g3, g1⟩
  have hz : ¬ (s.size : Int) ≤ (a : Int) := by omega
  have hlt : a < s.size := by omega
  have hz3 : True := trivial
  have q1 : ((s[a].toNat : Int) != 60) = false := by rw [← bAt_in hlt, h60]; rfl
  have HN := Lib.hid ((nextP_rest (by omega) c2).trans (next_lt hlt h60))
  have hs1 : s.size ≤ 1000000 := by omega
  have HSO := Lib.hid hsort
  have HL1 := Lib.hid (letter_w s hs1 (a + 1) ((a : Int) + 1) (by omega) (by omega))
  have HL2 := Lib.hid (letter_w s hs1 (a + 2) ((a : Int) + 2) (by omega) (by omega))
  have HC := Lib.hid (starts_calls s ⟨#[60, 47]⟩ hs1 (by decide) a (by omega))
  have HD := Lib.hid (starts_calls s ⟨#[60, 33, 45, 45]⟩ hs1 (by decide) a (by omega))
  have HE := Lib.hid (starts_calls s ⟨#[60, 33, 100, 111, 99, 116, 121, 112, 101]⟩ hs1 (by decide) a (by omega))
  have HF := Lib.hid (starts_calls s ⟨#[60, 47, 62]⟩ hs1 (by decide) a (by omega))
  have HG := Lib.hid (starts_calls s ⟨#[60, 63]⟩ hs1 (by decide) a (by omega))
  have HH := Lib.hid (starts_calls s ⟨#[60, 33]⟩ hs1 (by decide) a (by omega))
  have T1 := Lib.hid (fun h : letterAt s (a + 1) = true => tag_w HSO.out s hs1 (a + 1) ((a : Int) + 1) (by omega) (Nat.le_of_lt (letter_lt h)) true 1 rfl)
  have T2 := Lib.hid (fun h : letterAt s (a + 2) = true => tag_w HSO.out s hs1 (a + 2) ((a : Int) + 2) (by omega) (Nat.le_of_lt (letter_lt h)) false 2 rfl)
  have T3 := Lib.hid (fun h : startsP s a ⟨#[60, 33, 45, 45]⟩ = true => comment_w s hs1 (a + 4) ((a : Int) + 4) (by omega) (starts_le h))
  have T4 := Lib.hid (fun h : startsP s a ⟨#[60, 33, 100, 111, 99, 116, 121, 112, 101]⟩ = true => doctype_w s hs1 (a + 9) ((a : Int) + 9) (by omega) (starts_le h))
  have T6 := Lib.hid (fun h : startsP s a ⟨#[60, 63]⟩ = true => bogus_w s hs1 (a + 1) ((a : Int) + 1) (by omega) (by have : a + 2 ≤ s.size := starts_le h; omega))
  have T7 := Lib.hid (fun h : startsP s a ⟨#[60, 33]⟩ = true => bogus_w s hs1 (a + 2) ((a : Int) + 2) (by omega) (starts_le h))
  have T8 := Lib.hid (fun h : startsP s a ⟨#[60, 47]⟩ = true => bogus_w s hs1 (a + 2) ((a : Int) + 2) (by omega) (starts_le h))
  have hlast : (decide (a + 2 < s.size)) = decide ((a : Int) + 2 < (s.size : Int)) := decide_eq_decide.2 (by omega)
  rw [hlast] at HN
  generalize letterAt s (a + 1) = l1 at *
  generalize letterAt s (a + 2) = l2 at *
  generalize startsP s a ⟨#[60, 47]⟩ = c at *
  generalize startsP s a ⟨#[60, 33, 45, 45]⟩ = d at *
  generalize startsP s a ⟨#[60, 33, 100, 111, 99, 116, 121, 112, 101]⟩ = dt at *
  generalize startsP s a ⟨#[60, 47, 62]⟩ = f at *
  generalize startsP s a ⟨#[60, 63]⟩ = g at *
  generalize startsP s a ⟨#[60, 33]⟩ = h at *
  have hw1 : IntKind.i64.wrap ((a : Int) + 1) = (a : Int) + 1 := IntWalk.i64_in _ (by omega)
  have hw2 : IntKind.i64.wrap ((a : Int) + 2) = (a : Int) + 2 := IntWalk.i64_in _ (by omega)
  have hw3 : IntKind.i64.wrap ((a : Int) + 3) = (a : Int) + 3 := IntWalk.i64_in _ (by omega)
  have hw4 : IntKind.i64.wrap ((a : Int) + 4) = (a : Int) + 4 := IntWalk.i64_in _ (by omega)
  have hw9 : IntKind.i64.wrap ((a : Int) + 9) = (a : Int) + 9 := IntWalk.i64_in _ (by omega)
  have c0 := HI.out.cell
  clear hs hr g1 g2 g3 h60 c1 hs1 hsort hlast HSO
  have hne := empty_toList hraw
  have hz2 : ¬ ((rawEndP s a raw : Int) > (a : Int)) := by have : ¬ a < rawEndP s a raw := fun x => c2 ⟨hraw, x⟩; omega
  have HRE := Lib.hid (rawEnd_calls s raw (by have := HS.out; omega) HR.out a (by omega))
  generalize rawEndP s a raw = e0 at *
  clear c2 hraw hz3
  go_enter Tryz.func37, Tryz.ntmps37
  go_wp2_with fail
  refine (HRE.out _).mono ?_
  rintro e' wq ⟨rfl, hb⟩
  replace HI := Lib.hid (HI.out.keep hb)
  clear hb
  have c0 := HI.out.cell
  go_wp2_with fail
  refine (HL1.out _ _ HI.out.box).mono ?_
  rintro e' wq' ⟨rfl, rfl⟩
  cases l1 with
  | true =>
    replace T1 := Lib.hid (T1.out (by first | rfl | trivial))
    have HV := Lib.hid (show nextP s a _ = tagP s (a + 1) true from HN.out.trans rfl)
    generalize tagP s (a + 1) true = o at *
    clear HN
    go_wp2_with fail
    refine (T1.out _).mono ?_
    rintro e' wq ⟨A, ac, rfl, hat, hb, hfr⟩
    have HFR := Lib.hid (HI.out.far hfr)
    replace HI := Lib.hid (HI.out.keep hb)
    have HAT := Lib.hid hat
    clear hat hb hfr
    obtain ⟨b0, b1, b2, b3, b4⟩ := tbox5 HI.out.res
    obtain ⟨f0, f1, f2, f3, f4⟩ := tfrz5 HI.out.res
    go_wp2_with fail
    rw [HV.out]
    exact tok_post (o) w 6 7 8 (w.heap.size + 1) A ac rfl rfl rfl rfl (set5_blk HI.out.res _ _ _ _ _) (isAttrs_move HAT.out (set5_below (B := 0) (Nat.zero_le _) _ _ _ _ _).size fun p hp => set5_other (by have := HFR.out p hp; omega) _ _ _ _ _) (HI.out.end_ _ _ _ _ _) (fun p hp => by have := HFR.out p hp; omega)
  | false =>
    go_wp2_with fail
    refine (HC.out _).mono ?_
    rintro e' wq ⟨rfl, hb⟩
    replace HI := Lib.hid (HI.out.keep hb)
    clear hb
    have c0 := HI.out.cell
    cases c with
    | true =>
      go_wp2_with fail
      refine (HL2.out _ _ HI.out.box).mono ?_
      rintro e' wq' ⟨rfl, rfl⟩
      cases l2 with
      | true =>
        replace T2 := Lib.hid (T2.out (by first | rfl | trivial))
        have HV := Lib.hid (show nextP s a _ = tagP s (a + 2) false from HN.out.trans rfl)
        generalize tagP s (a + 2) false = o at *
        clear HN
        go_wp2_with fail
        refine (T2.out _).mono ?_
        rintro e' wq ⟨A, ac, rfl, hat, hb, hfr⟩
        have HFR := Lib.hid (HI.out.far hfr)
        replace HI := Lib.hid (HI.out.keep hb)
        have HAT := Lib.hid hat
        clear hat hb hfr
        obtain ⟨b0, b1, b2, b3, b4⟩ := tbox5 HI.out.res
        obtain ⟨f0, f1, f2, f3, f4⟩ := tfrz5 HI.out.res
        go_wp2_with fail
        rw [HV.out]
        exact tok_post (o) w 6 7 8 (w.heap.size + 1) A ac rfl rfl rfl rfl (set5_blk HI.out.res _ _ _ _ _) (isAttrs_move HAT.out (set5_below (B := 0) (Nat.zero_le _) _ _ _ _ _).size fun p hp => set5_other (by have := HFR.out p hp; omega) _ _ _ _ _) (HI.out.end_ _ _ _ _ _) (fun p hp => by have := HFR.out p hp; omega)
      | false =>
        go_wp2_with fail
        refine (HD.out _).mono ?_
        rintro e' wq ⟨rfl, hb⟩
        replace HI := Lib.hid (HI.out.keep hb)
        clear hb
        have c0 := HI.out.cell
        cases d with
        | true =>
          replace T3 := Lib.hid (T3.out (by first | rfl | trivial))
          have HV := Lib.hid (show nextP s a _ = commentP s (a + 4) from HN.out.trans rfl)
          generalize commentP s (a + 4) = o at *
          clear HN
          go_wp2_with fail
          refine (T3.out _).mono ?_
          rintro e' wq ⟨A, ac, rfl, hat, hb, hfr⟩
          have HFR := Lib.hid (HI.out.far hfr)
          replace HI := Lib.hid (HI.out.keep hb)
          have HAT := Lib.hid hat
          clear hat hb hfr
          obtain ⟨b0, b1, b2, b3, b4⟩ := tbox5 HI.out.res
          obtain ⟨f0, f1, f2, f3, f4⟩ := tfrz5 HI.out.res
          go_wp2_with fail
          rw [HV.out]
          exact tok_post (o) w 6 7 8 (w.heap.size + 1) A ac rfl rfl rfl rfl (set5_blk HI.out.res _ _ _ _ _) (isAttrs_move HAT.out (set5_below (B := 0) (Nat.zero_le _) _ _ _ _ _).size fun p hp => set5_other (by have := HFR.out p hp; omega) _ _ _ _ _) (HI.out.end_ _ _ _ _ _) (fun p hp => by have := HFR.out p hp; omega)
        | false =>
          go_wp2_with fail
          refine (HE.out _).mono ?_
          rintro e' wq ⟨rfl, hb⟩
          replace HI := Lib.hid (HI.out.keep hb)
          clear hb
          have c0 := HI.out.cell
          cases dt with
          | true =>
            replace T4 := Lib.hid (T4.out (by first | rfl | trivial))
            have HV := Lib.hid (show nextP s a _ = doctypeP s (a + 9) from HN.out.trans rfl)
            generalize doctypeP s (a + 9) = o at *
            clear HN
            go_wp2_with fail
            refine (T4.out _).mono ?_
            rintro e' wq ⟨A, ac, rfl, hat, hb, hfr⟩
            have HFR := Lib.hid (HI.out.far hfr)
            replace HI := Lib.hid (HI.out.keep hb)
            have HAT := Lib.hid hat
            clear hat hb hfr
            obtain ⟨b0, b1, b2, b3, b4⟩ := tbox5 HI.out.res
            obtain ⟨f0, f1, f2, f3, f4⟩ := tfrz5 HI.out.res
            go_wp2_with fail
            rw [HV.out]
            exact tok_post (o) w 6 7 8 (w.heap.size + 1) A ac rfl rfl rfl rfl (set5_blk HI.out.res _ _ _ _ _) (isAttrs_move HAT.out (set5_below (B := 0) (Nat.zero_le _) _ _ _ _ _).size fun p hp => set5_other (by have := HFR.out p hp; omega) _ _ _ _ _) (HI.out.end_ _ _ _ _ _) (fun p hp => by have := HFR.out p hp; omega)
          | false =>
            go_wp2_with fail
            refine (HF.out _).mono ?_
            rintro e' wq ⟨rfl, hb⟩
            replace HI := Lib.hid (HI.out.keep hb)
            clear hb
            have c0 := HI.out.cell
            cases f with
            | true =>
              have HV := Lib.hid (show nextP s a _ = (tok0, a + 3, false) from HN.out.trans rfl)
              have hcast : ((a + 3 : Nat) : Int) = (a : Int) + 3 := by omega
              clear HN
              obtain ⟨b0, b1, b2, b3, b4⟩ := tbox5 HI.out.res
              obtain ⟨f0, f1, f2, f3, f4⟩ := tfrz5 HI.out.res
              go_wp2_with fail
              rw [HV.out]
              exact tok_post (tok0, a + 3, false) w 6 7 8 (w.heap.size + 1) none 0 rfl rfl rfl rfl (set5_blk HI.out.res _ _ _ _ _) (isAttrs_nil _ _) (HI.out.end_ _ _ _ _ _) (fun _ h => nomatch h)
            | false =>
              go_wp2_with fail
              refine (HG.out _).mono ?_
              rintro e' wq ⟨rfl, hb⟩
              replace HI := Lib.hid (HI.out.keep hb)
              clear hb
              have c0 := HI.out.cell
              cases g with
              | true =>
                replace T6 := Lib.hid (T6.out (by first | rfl | trivial))
                have HV := Lib.hid (show nextP s a _ = bogusP s (a + 1) from HN.out.trans rfl)
                generalize bogusP s (a + 1) = o at *
                clear HN
                go_wp2_with fail
                refine (T6.out _).mono ?_
                rintro e' wq ⟨A, ac, rfl, hat, hb, hfr⟩
                have HFR := Lib.hid (HI.out.far hfr)
                replace HI := Lib.hid (HI.out.keep hb)
                have HAT := Lib.hid hat
                clear hat hb hfr
                obtain ⟨b0, b1, b2, b3, b4⟩ := tbox5 HI.out.res
                obtain ⟨f0, f1, f2, f3, f4⟩ := tfrz5 HI.out.res
                go_wp2_with fail
                rw [HV.out]
                exact tok_post (o) w 6 7 8 (w.heap.size + 1) A ac rfl rfl rfl rfl (set5_blk HI.out.res _ _ _ _ _) (isAttrs_move HAT.out (set5_below (B := 0) (Nat.zero_le _) _ _ _ _ _).size fun p hp => set5_other (by have := HFR.out p hp; omega) _ _ _ _ _) (HI.out.end_ _ _ _ _ _) (fun p hp => by have := HFR.out p hp; omega)
              | false =>
                go_wp2_with fail
                refine (HH.out _).mono ?_
                rintro e' wq ⟨rfl, hb⟩
                replace HI := Lib.hid (HI.out.keep hb)
                clear hb
                have c0 := HI.out.cell
                cases h with
                | true =>
                  replace T7 := Lib.hid (T7.out (by first | rfl | trivial))
                  have HV := Lib.hid (show nextP s a _ = bogusP s (a + 2) from HN.out.trans rfl)
                  generalize bogusP s (a + 2) = o at *
                  clear HN
                  go_wp2_with fail
                  refine (T7.out _).mono ?_
                  rintro e' wq ⟨A, ac, rfl, hat, hb, hfr⟩
                  have HFR := Lib.hid (HI.out.far hfr)
                  replace HI := Lib.hid (HI.out.keep hb)
                  have HAT := Lib.hid hat
                  clear hat hb hfr
                  obtain ⟨b0, b1, b2, b3, b4⟩ := tbox5 HI.out.res
                  obtain ⟨f0, f1, f2, f3, f4⟩ := tfrz5 HI.out.res
                  go_wp2_with fail
                  rw [HV.out]
                  exact tok_post (o) w 6 7 8 (w.heap.size + 1) A ac rfl rfl rfl rfl (set5_blk HI.out.res _ _ _ _ _) (isAttrs_move HAT.out (set5_below (B := 0) (Nat.zero_le _) _ _ _ _ _).size fun p hp => set5_other (by have := HFR.out p hp; omega) _ _ _ _ _) (HI.out.end_ _ _ _ _ _) (fun p hp => by have := HFR.out p hp; omega)
                | false =>
                  go_wp2_with fail
                  refine (HC.out _).mono ?_
                  rintro e' wq ⟨rfl, hb⟩
                  replace HI := Lib.hid (HI.out.keep hb)
                  clear hb
                  have c0 := HI.out.cell
                  by_cases hl : (a : Int) + 2 < (s.size : Int)
                  · have hl2 := decide_eq_true hl
                    rw [hl2] at HN
                    clear hl2
                    replace T8 := Lib.hid (T8.out (by first | rfl | trivial))
                    have HV := Lib.hid (show nextP s a _ = bogusP s (a + 2) from HN.out.trans rfl)
                    generalize bogusP s (a + 2) = o at *
                    clear HN
                    go_wp2_with fail
                    refine (T8.out _).mono ?_
                    rintro e' wq ⟨A, ac, rfl, hat, hb, hfr⟩
                    have HFR := Lib.hid (HI.out.far hfr)
                    replace HI := Lib.hid (HI.out.keep hb)
                    have HAT := Lib.hid hat
                    clear hat hb hfr
                    obtain ⟨b0, b1, b2, b3, b4⟩ := tbox5 HI.out.res
                    obtain ⟨f0, f1, f2, f3, f4⟩ := tfrz5 HI.out.res
                    go_wp2_with fail
                    rw [HV.out]
                    exact tok_post (o) w 6 7 8 (w.heap.size + 1) A ac rfl rfl rfl rfl (set5_blk HI.out.res _ _ _ _ _) (isAttrs_move HAT.out (set5_below (B := 0) (Nat.zero_le _) _ _ _ _ _).size fun p hp => set5_other (by have := HFR.out p hp; omega) _ _ _ _ _) (HI.out.end_ _ _ _ _ _) (fun p hp => by have := HFR.out p hp; omega)
                  · have hl2 := decide_eq_false hl
                    rw [hl2] at HN
                    clear hl2
                    have HV := Lib.hid (show nextP s a _ = (textTok ⟨#[60]⟩ false, a + 1, true) from HN.out.trans rfl)
                    have hcast : ((a + 1 : Nat) : Int) = (a : Int) + 1 := by omega
                    clear HN
                    obtain ⟨b0, b1, b2, b3, b4⟩ := tbox5 HI.out.res
                    obtain ⟨f0, f1, f2, f3, f4⟩ := tfrz5 HI.out.res
                    go_wp2_with fail
                    rw [HV.out]
                    exact tok_post (textTok ⟨#[60]⟩ false, a + 1, true) w 6 7 8 (w.heap.size + 1) none 0 rfl rfl rfl rfl (set5_blk HI.out.res _ _ _ _ _) (isAttrs_nil _ _) (HI.out.end_ _ _ _ _ _) (fun _ h => nomatch h)
    | false =>
      go_wp2_with fail
      refine (HD.out _).mono ?_
      rintro e' wq ⟨rfl, hb⟩
      replace HI := Lib.hid (HI.out.keep hb)
      clear hb
      have c0 := HI.out.cell
      cases d with
      | true =>
        replace T3 := Lib.hid (T3.out (by first | rfl | trivial))
        have HV := Lib.hid (show nextP s a _ = commentP s (a + 4) from HN.out.trans rfl)
        generalize commentP s (a + 4) = o at *
        clear HN
        go_wp2_with fail
        refine (T3.out _).mono ?_
        rintro e' wq ⟨A, ac, rfl, hat, hb, hfr⟩
        have HFR := Lib.hid (HI.out.far hfr)
        replace HI := Lib.hid (HI.out.keep hb)
        have HAT := Lib.hid hat
        clear hat hb hfr
        obtain ⟨b0, b1, b2, b3, b4⟩ := tbox5 HI.out.res
        obtain ⟨f0, f1, f2, f3, f4⟩ := tfrz5 HI.out.res
        go_wp2_with fail
        rw [HV.out]
        exact tok_post (o) w 6 7 8 (w.heap.size + 1) A ac rfl rfl rfl rfl (set5_blk HI.out.res _ _ _ _ _) (isAttrs_move HAT.out (set5_below (B := 0) (Nat.zero_le _) _ _ _ _ _).size fun p hp => set5_other (by have := HFR.out p hp; omega) _ _ _ _ _) (HI.out.end_ _ _ _ _ _) (fun p hp => by have := HFR.out p hp; omega)
      | false =>
        go_wp2_with fail
        refine (HE.out _).mono ?_
        rintro e' wq ⟨rfl, hb⟩
        replace HI := Lib.hid (HI.out.keep hb)
        clear hb
        have c0 := HI.out.cell
        cases dt with
        | true =>
          replace T4 := Lib.hid (T4.out (by first | rfl | trivial))
          have HV := Lib.hid (show nextP s a _ = doctypeP s (a + 9) from HN.out.trans rfl)
          generalize doctypeP s (a + 9) = o at *
          clear HN
          go_wp2_with fail
          refine (T4.out _).mono ?_
          rintro e' wq ⟨A, ac, rfl, hat, hb, hfr⟩
          have HFR := Lib.hid (HI.out.far hfr)
          replace HI := Lib.hid (HI.out.keep hb)
          have HAT := Lib.hid hat
          clear hat hb hfr
          obtain ⟨b0, b1, b2, b3, b4⟩ := tbox5 HI.out.res
          obtain ⟨f0, f1, f2, f3, f4⟩ := tfrz5 HI.out.res
          go_wp2_with fail
          rw [HV.out]
          exact tok_post (o) w 6 7 8 (w.heap.size + 1) A ac rfl rfl rfl rfl (set5_blk HI.out.res _ _ _ _ _) (isAttrs_move HAT.out (set5_below (B := 0) (Nat.zero_le _) _ _ _ _ _).size fun p hp => set5_other (by have := HFR.out p hp; omega) _ _ _ _ _) (HI.out.end_ _ _ _ _ _) (fun p hp => by have := HFR.out p hp; omega)
        | false =>
          go_wp2_with fail
          refine (HF.out _).mono ?_
          rintro e' wq ⟨rfl, hb⟩
          replace HI := Lib.hid (HI.out.keep hb)
          clear hb
          have c0 := HI.out.cell
          cases f with
          | true =>
            have HV := Lib.hid (show nextP s a _ = (tok0, a + 3, false) from HN.out.trans rfl)
            have hcast : ((a + 3 : Nat) : Int) = (a : Int) + 3 := by omega
            clear HN
            obtain ⟨b0, b1, b2, b3, b4⟩ := tbox5 HI.out.res
            obtain ⟨f0, f1, f2, f3, f4⟩ := tfrz5 HI.out.res
            go_wp2_with fail
            rw [HV.out]
            exact tok_post (tok0, a + 3, false) w 6 7 8 (w.heap.size + 1) none 0 rfl rfl rfl rfl (set5_blk HI.out.res _ _ _ _ _) (isAttrs_nil _ _) (HI.out.end_ _ _ _ _ _) (fun _ h => nomatch h)
          | false =>
            go_wp2_with fail
            refine (HG.out _).mono ?_
            rintro e' wq ⟨rfl, hb⟩
            replace HI := Lib.hid (HI.out.keep hb)
            clear hb
            have c0 := HI.out.cell
            cases g with
            | true =>
              replace T6 := Lib.hid (T6.out (by first | rfl | trivial))
              have HV := Lib.hid (show nextP s a _ = bogusP s (a + 1) from HN.out.trans rfl)
              generalize bogusP s (a + 1) = o at *
              clear HN
              go_wp2_with fail
              refine (T6.out _).mono ?_
              rintro e' wq ⟨A, ac, rfl, hat, hb, hfr⟩
              have HFR := Lib.hid (HI.out.far hfr)
              replace HI := Lib.hid (HI.out.keep hb)
              have HAT := Lib.hid hat
              clear hat hb hfr
              obtain ⟨b0, b1, b2, b3, b4⟩ := tbox5 HI.out.res
              obtain ⟨f0, f1, f2, f3, f4⟩ := tfrz5 HI.out.res
              go_wp2_with fail
              rw [HV.out]
              exact tok_post (o) w 6 7 8 (w.heap.size + 1) A ac rfl rfl rfl rfl (set5_blk HI.out.res _ _ _ _ _) (isAttrs_move HAT.out (set5_below (B := 0) (Nat.zero_le _) _ _ _ _ _).size fun p hp => set5_other (by have := HFR.out p hp; omega) _ _ _ _ _) (HI.out.end_ _ _ _ _ _) (fun p hp => by have := HFR.out p hp; omega)
            | false =>
              go_wp2_with fail
              refine (HH.out _).mono ?_
              rintro e' wq ⟨rfl, hb⟩
              replace HI := Lib.hid (HI.out.keep hb)
              clear hb
              have c0 := HI.out.cell
              cases h with
              | true =>
                replace T7 := Lib.hid (T7.out (by first | rfl | trivial))
                have HV := Lib.hid (show nextP s a _ = bogusP s (a + 2) from HN.out.trans rfl)
                generalize bogusP s (a + 2) = o at *
                clear HN
                go_wp2_with fail
                refine (T7.out _).mono ?_
                rintro e' wq ⟨A, ac, rfl, hat, hb, hfr⟩
                have HFR := Lib.hid (HI.out.far hfr)
                replace HI := Lib.hid (HI.out.keep hb)
                have HAT := Lib.hid hat
                clear hat hb hfr
                obtain ⟨b0, b1, b2, b3, b4⟩ := tbox5 HI.out.res
                obtain ⟨f0, f1, f2, f3, f4⟩ := tfrz5 HI.out.res
                go_wp2_with fail
                rw [HV.out]
                exact tok_post (o) w 6 7 8 (w.heap.size + 1) A ac rfl rfl rfl rfl (set5_blk HI.out.res _ _ _ _ _) (isAttrs_move HAT.out (set5_below (B := 0) (Nat.zero_le _) _ _ _ _ _).size fun p hp => set5_other (by have := HFR.out p hp; omega) _ _ _ _ _) (HI.out.end_ _ _ _ _ _) (fun p hp => by have := HFR.out p hp; omega)
              | false =>
                go_wp2_with fail
                refine (HC.out _).mono ?_
                rintro e' wq ⟨rfl, hb⟩
                replace HI := Lib.hid (HI.out.keep hb)
                clear hb
                have c0 := HI.out.cell
                have HV := Lib.hid (show nextP s a _ = (textTok ⟨#[60]⟩ false, a + 1, true) from HN.out.trans rfl)
                have hcast : ((a + 1 : Nat) : Int) = (a : Int) + 1 := by omega
                clear HN
                obtain ⟨b0, b1, b2, b3, b4⟩ := tbox5 HI.out.res
                obtain ⟨f0, f1, f2, f3, f4⟩ := tfrz5 HI.out.res
                go_wp2_with fail
                rw [HV.out]
                exact tok_post (textTok ⟨#[60]⟩ false, a + 1, true) w 6 7 8 (w.heap.size + 1) none 0 rfl rfl rfl rfl (set5_blk HI.out.res _ _ _ _ _) (isAttrs_nil _ _) (HI.out.end_ _ _ _ _ _) (fun _ h => nomatch h)
end Go.Proofs.YtbdgoffbkenofaaGreat.Tk
namespace Go.Proofs.YtbdgoffbkenofaaGreat.Tk
open Go Go.RowKit Go.Proofs.YtbdgoffbkenofaaGreat.Tr
set_option linter.unusedVariables false
set_option maxRecDepth 100000

theorem next_calls (s raw : ByteArray) (hs : s.size ≤ 900000) (hr : raw.size ≤ 900000) (a : Nat) (ha : a ≤ 1000000) (w : World) :
    Calls Tryz.prog 37 #[.string s, .int .i64 (a : Int), .string raw] w (TokEnd (nextP s a raw) w) := by
  by_cases c1 : s.size ≤ a
  · exact nx_end s raw hs hr a ha c1 w
  have c1' : a < s.size := by omega
  by_cases c2 : raw ≠ ⟨#[]⟩ ∧ a < rawEndP s a raw
  · exact nx_raw s raw hs hr a ha c1' c2.1 c2.2 w
  by_cases hraw : raw = ⟨#[]⟩
  · by_cases h60 : bAt s a = 60
    · exact nx_lt1 sorts_attrs s raw hs hr a ha c1' c2 hraw h60 w
    · exact nx_text1 s raw hs hr a ha c1' c2 hraw h60 w
  · by_cases h60 : bAt s a = 60
    · exact nx_lt2 sorts_attrs s raw hs hr a ha c1' c2 hraw h60 w
    · exact nx_text2 s raw hs hr a ha c1' c2 hraw h60 w
end Go.Proofs.YtbdgoffbkenofaaGreat.Tk
