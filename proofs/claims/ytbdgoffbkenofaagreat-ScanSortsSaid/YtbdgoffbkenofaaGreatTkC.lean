/- token: the closures of attr, tag and Next; rawEnd. -/
import Derived.Test.YtbdgoffbkenofaaGreatTkV
import Derived.Deep.CutRange
namespace Go.Proofs.YtbdgoffbkenofaaGreat.Tk
open Go Go.RowKit Go.Proofs.YtbdgoffbkenofaaGreat.Tr
set_option linter.unusedVariables false
set_option maxRecDepth 100000

def eqC (c : Nat) : Bool := closesN c || decide (c = 61)
theorem attr1 (w : World) : PredC 107 #[] eqC w := by
  intro c W hc hb
  unfold eqC
  show Calls Tryz.prog 107 #[.int .u8 (c : Int)] W fun e w' => e = .returned (.bool (closesN c || decide (c = 61))) ∧ Below W.heap.size W w'
  have q2 : ((c : Int) == 61) = decide (c = 61) := eq_nat c 61
  have HB := Lib.hid (closes_calls c)
  generalize closesN c = b0 at *
  generalize decide (c = 61) = b2 at *
  go_enter Tryz.func107, Tryz.ntmps107
  cases b0 <;> cases b2 <;> (
    go_wp2_with fail
    refine (HB.out _).mono ?_
    rintro e w2 ⟨rfl, rfl⟩
    go_wp2_with fail
    go_ret
    exact ⟨rfl, Below.refl _ _⟩)
def blC (c : Nat) : Bool := blankN c || decide (c = 62)
theorem attr3 (w : World) : PredC 109 #[] blC w := by
  intro c W hc hb
  unfold blC
  show Calls Tryz.prog 109 #[.int .u8 (c : Int)] W fun e w' => e = .returned (.bool (blankN c || decide (c = 62))) ∧ Below W.heap.size W w'
  have q2 : ((c : Int) == 62) = decide (c = 62) := eq_nat c 62
  have HB := Lib.hid (tblank c)
  generalize blankN c = b0 at *
  generalize decide (c = 62) = b2 at *
  go_enter Tryz.func109, Tryz.ntmps109
  cases b0 <;> cases b2 <;> (
    go_wp2_with fail
    refine (HB.out _).mono ?_
    rintro e w2 ⟨rfl, rfl⟩
    go_wp2_with fail
    go_ret
    exact ⟨rfl, Below.refl _ _⟩)
def gapC (c : Nat) : Bool := !blankN c && !decide (c = 47)
theorem tag1 (w : World) : PredC 88 #[] gapC w := by
  intro c W hc hb
  unfold gapC
  show Calls Tryz.prog 88 #[.int .u8 (c : Int)] W fun e w' => e = .returned (.bool (!blankN c && !decide (c = 47))) ∧ Below W.heap.size W w'
  have q2 : ((c : Int) == 47) = decide (c = 47) := eq_nat c 47
  have q3 : ((c : Int) != 47) = !decide (c = 47) := by rw [← q2]; rfl
  have HB := Lib.hid (tblank c)
  generalize blankN c = b0 at *
  generalize decide (c = 47) = b2 at *
  go_enter Tryz.func88, Tryz.ntmps88
  cases b0 <;> cases b2 <;> (
    go_wp2_with fail
    refine (HB.out _).mono ?_
    rintro e w2 ⟨rfl, rfl⟩
    go_wp2_with fail
    go_ret
    exact ⟨rfl, Below.refl _ _⟩)
theorem attr2 (q : Nat) (b : Nat) (w : World) (hb : w.heap[b]? = some (.cells #[.int .u8 (q : Int)] 5 (0, 0))) : PredC 108 #[.pointer (some ⟨b, 0, none⟩)] (fun c => decide (c = q)) w := by
  intro c W hc hbb
  show Calls Tryz.prog 108 #[.int .u8 (c : Int), .pointer (some ⟨b, 0, none⟩)] W fun e w' => e = .returned (.bool (decide (c = q))) ∧ Below W.heap.size W w'
  have q2 : ((c : Int) == (q : Int)) = decide (c = q) := eq_nat c q
  have hl := (hbb.block _ (lt_of_block hb)).trans hb
  have c0 : W.cell? ⟨b, 0, none⟩ = some (.int .u8 (q : Int)) := by rw [block_cell hl]; rfl
  clear hl hbb hb
  go_enter Tryz.func108, Tryz.ntmps108
  go_wp2_with fail
  go_ret
  exact ⟨rfl, Below.refl _ _⟩
theorem next1 (bl : Bool) (b : Nat) (w : World) (hb : w.heap[b]? = some (.cells #[.bool bl] 4 (0, 0))) : PredC 61 #[.pointer (some ⟨b, 0, none⟩)] (fun c => decide (c = 60) || (blankN c != bl)) w := by
  intro c W hc hbb
  show Calls Tryz.prog 61 #[.int .u8 (c : Int), .pointer (some ⟨b, 0, none⟩)] W fun e w' => e = .returned (.bool (decide (c = 60) || (blankN c != bl))) ∧ Below W.heap.size W w'
  have q2 : ((c : Int) == 60) = decide (c = 60) := eq_nat c 60
  have HB := Lib.hid (tblank c)
  have hl := (hbb.block _ (lt_of_block hb)).trans hb
  have c0 : W.cell? ⟨b, 0, none⟩ = some (.bool bl) := by rw [block_cell hl]; rfl
  have r0 := cell_regrown c0
  clear hl hbb hb c0
  generalize blankN c = b0 at *
  generalize decide (c = 60) = b2 at *
  go_enter Tryz.func61, Tryz.ntmps61
  cases b2 with
  | true =>
    go_upto_region 1 with (fail)
    refine wp_region_quiet_below mixedT (by kernel_rfl) ?_
    repeat (go_big_quiet_step (fail))
    refine wpQuiet_nil ?_
    rintro w2 ⟨g, hg⟩
    have HB2 : Hid (Below W.heap.size W w2) := Lib.hid (hg ▸ below_regrown W g.d g.os : Below W.heap.size W w2)
    clear hg
    go_wp2_with fail
    go_ret
    exact ⟨rfl, HB2.out⟩
  | false =>
    cases bl <;> cases b0 <;> (
      go_upto_region 1 with (fail)
      refine wp_region_quiet_below mixedT (by kernel_rfl) ?_
      repeat (go_big_quiet_step (first | (go_at_call 59; exact Calls.regrown_of ((HB.out _).mono fun e w' ⟨h1, h2⟩ => ⟨h1, by rw [h2]; exact Below.refl _ _⟩))))
      refine wpQuiet_nil ?_
      rintro w2 ⟨g, hg⟩
      have HB2 : Hid (Below W.heap.size W w2) := Lib.hid (hg ▸ below_regrown W g.d g.os : Below W.heap.size W w2)
      clear hg
      go_wp2_with fail
      go_ret
      exact ⟨rfl, HB2.out⟩)
/-- Is there a letter at a place? -/
theorem next2 (s : ByteArray) (hs : s.size ≤ 1000000) (i : Nat) (hi : i ≤ 2000000) (b : Nat) (w : World) (hb : w.heap[b]? = some (.cells #[.string s] 9 (0, 0))) :
    Calls Tryz.prog 62 #[.int .i64 (i : Int), .pointer (some ⟨b, 0, none⟩)] w fun e w' => e = .returned (.bool (letterAt s i)) ∧ w = w' := by
  have c0 : w.cell? ⟨b, 0, none⟩ = some (.string s) := by rw [block_cell hb]; rfl
  clear hb
  by_cases hlt : i < s.size
  · have h1 : (i : Int) < (s.size : Int) := by omega
    have HB := Lib.hid (tletter s[i].toNat)
    have HV := Lib.hid (show letterAt s i = letterN s[i].toNat by unfold letterAt; rw [decide_eq_true hlt, bAt_in hlt]; rfl)
    go_enter Tryz.func62, Tryz.ntmps62
    go_wp2_with fail
    refine (HB.out _).mono ?_
    rintro e w2 ⟨rfl, rfl⟩
    go_wp2_with fail
    go_ret
    exact ⟨by rw [HV.out]; rfl, rfl⟩
  · have h1 : ¬ ((i : Int) < (s.size : Int)) := by omega
    have HV := Lib.hid (show letterAt s i = false by unfold letterAt; rw [decide_eq_false hlt]; rfl)
    go_enter Tryz.func62, Tryz.ntmps62
    go_wp2_with fail
    go_ret
    exact ⟨by rw [HV.out]; rfl, rfl⟩
end Go.Proofs.YtbdgoffbkenofaaGreat.Tk
namespace Go.Proofs.YtbdgoffbkenofaaGreat.Tk
open Go Go.RowKit Go.Proofs.YtbdgoffbkenofaaGreat.Tr
set_option linter.unusedVariables false
set_option maxRecDepth 100000

theorem raw_pre_size (raw : ByteArray) : ((⟨#[60, 47]⟩ : ByteArray) ++ raw).size = 2 + raw.size := by rw [ByteArray.size_append]; rfl
set_option maxHeartbeats 4000000 in
theorem rawEnd_calls (s raw : ByteArray) (hs : s.size ≤ 1000000) (hr : raw.size ≤ 900000) (a : Nat) (ha : a ≤ s.size) (w : World) :
    Calls Tryz.prog 56 #[.string s, .int .i64 (a : Int), .string raw] w fun e w' => e = .returned (.int .i64 (rawEndP s a raw : Nat)) ∧ Below w.heap.size w w' := by
  have HST := Lib.hid (fun i (hi : i ≤ s.size) => starts_calls s ((⟨#[60, 47]⟩ : ByteArray) ++ raw) hs (by rw [raw_pre_size]; omega) i hi)
  have HS := Lib.hid hs
  have HA := Lib.hid ha
  have HR0 := Lib.hid hr
  unfold rawEndP
  clear hs hr ha
  go_enter Tryz.func56, Tryz.ntmps56
  go_wp2_with fail
  go_loopw [1] (fun i wr => ∃ k : Nat, Hid (a ≤ k) ∧ Hid (k ≤ s.size) ∧ i = .int .i64 (k : Int) ∧ Hid (upI (rawOk s raw) (s.size - a) a = upI (rawOk s raw) (s.size - k) k) ∧ Hid (Below w.heap.size w wr)) (fun i _ => s.size - (intOf i).toNat)
  case atStart => exact ⟨a, Lib.hid (Nat.le_refl _), HA, rfl, Lib.hid rfl, Lib.hid (Below.refl _ _)⟩
  case round =>
    obtain ⟨k, HK1, HK2, rfl, HE, HB⟩ := hrel
    by_cases hlt : k < s.size
    · have hz : (k : Int) < (s.size : Int) := by omega
      have HLT := Lib.hid hlt
      have HX := Lib.hid (HST.out k (by omega) wr)
      have hw1 : IntKind.i64.wrap ((k : Int) + 2) = (k : Int) + 2 := IntWalk.i64_in _ (by have := HS.out; omega)
      have hw2 : IntKind.i64.wrap ((k : Int) + 2 + (raw.size : Int)) = (k : Int) + 2 + (raw.size : Int) := IntWalk.i64_in _ (by have := HS.out; have := HR0.out; omega)
      have hw3 : IntKind.i64.wrap ((k : Int) + 1) = (k : Int) + 1 := IntWalk.i64_in _ (by have := HS.out; omega)
      have HN := Lib.hid (show rawOk s raw k = false → upI (rawOk s raw) (s.size - k) k = upI (rawOk s raw) (s.size - (k + 1)) (k + 1) by
        intro h; rw [show s.size - k = (s.size - (k + 1)) + 1 by omega]; exact upI_next h)
      have HH := Lib.hid (show rawOk s raw k = true → upI (rawOk s raw) (s.size - k) k = k by
        intro h; rw [show s.size - k = (s.size - (k + 1)) + 1 by omega]; exact upI_here h)
      have HW := Lib.hid (show (k : Int) + 1 = ((k + 1 : Nat) : Int) by omega)
      have HK3 : Hid (a ≤ k + 1) := Lib.hid (by have := HK1.out; omega)
      have HK4 : Hid (k + 1 ≤ s.size) := Lib.hid (by have := HLT.out; omega)
      have HO := Lib.hid (show rawOk s raw k = (startsP s k ((⟨#[60, 47]⟩ : ByteArray) ++ raw) && decide (k + 2 + raw.size < s.size) && closesN (bAt s (k + 2 + raw.size))) from rfl)
      have hra := HR0.out
      clear hlt
      cases hst : startsP s k ((⟨#[60, 47]⟩ : ByteArray) ++ raw) with
      | false =>
        rw [hst] at HX
        have HV := Lib.hid (HN.out (by rw [HO.out, hst]; rfl))
        clear hst
        go_wp2_with fail
        refine HX.out.mono ?_
        rintro e w2 ⟨rfl, hb2⟩
        have HB2 := Lib.hid (HB.out.trans (hb2.mono HB.out.size))
        clear hb2
        go_wp2_with fail
        go_roundw
        case rel => exact ⟨k + 1, HK3, HK4, by rw [HW.out], Lib.hid (HE.out.trans HV.out), HB2⟩
        case measure => simp [intOf]; have := HLT.out; omega
      | true =>
        rw [hst] at HX
        by_cases hin : k + 2 + raw.size < s.size
        · have hz2 : (k : Int) + 2 + (raw.size : Int) < (s.size : Int) := by omega
          have hbk := bAt_in hin
          have HC := Lib.hid (closes_calls s[k + 2 + raw.size].toNat)
          have hidx : ((k : Int) + 2 + (raw.size : Int)).toNat = k + 2 + raw.size := by omega
          have HCI := Lib.hid (show (k : Int) + 2 + (raw.size : Int) = ((k + 2 + raw.size : Nat) : Int) by omega)
          cases hc : closesN (bAt s (k + 2 + raw.size)) with
          | true =>
            have HV := Lib.hid (HH.out (by rw [HO.out, hst, hc, decide_eq_true hin]; rfl))
            rw [← hbk, hc] at HC
            rw [hbk] at HC
            clear hst hc hbk
            go_wp2_with fail
            refine HX.out.mono ?_
            rintro e w2 ⟨rfl, hb2⟩
            have HB2 := Lib.hid (HB.out.trans (hb2.mono HB.out.size))
            clear hb2
            go_wp2_with fail
            refine (HC.out _).mono ?_
            rintro e w3 ⟨rfl, rfl⟩
            go_wp2_with fail
            go_ret
            exact ⟨by rw [HE.out, HV.out]; rfl, HB2.out⟩
          | false =>
            have HV := Lib.hid (HN.out (by rw [HO.out, hst, hc, decide_eq_true hin]; rfl))
            rw [← hbk, hc] at HC
            rw [hbk] at HC
            clear hst hc hbk
            go_wp2_with fail
            refine HX.out.mono ?_
            rintro e w2 ⟨rfl, hb2⟩
            have HB2 := Lib.hid (HB.out.trans (hb2.mono HB.out.size))
            clear hb2
            go_wp2_with fail
            refine (HC.out _).mono ?_
            rintro e w3 ⟨rfl, rfl⟩
            go_wp2_with fail
            go_roundw
            case rel => exact ⟨k + 1, HK3, HK4, by rw [HW.out], Lib.hid (HE.out.trans HV.out), HB2⟩
            case measure => simp [intOf]; have := HLT.out; omega
        · have hz2 : ¬ ((k : Int) + 2 + (raw.size : Int) < (s.size : Int)) := by omega
          have HV := Lib.hid (HN.out (by rw [HO.out, hst, decide_eq_false hin]; rfl))
          clear hst hin
          go_wp2_with fail
          refine HX.out.mono ?_
          rintro e w2 ⟨rfl, hb2⟩
          have HB2 := Lib.hid (HB.out.trans (hb2.mono HB.out.size))
          clear hb2
          go_wp2_with fail
          go_roundw
          case rel => exact ⟨k + 1, HK3, HK4, by rw [HW.out], Lib.hid (HE.out.trans HV.out), HB2⟩
          case measure => simp [intOf]; have := HLT.out; omega
    · have hz : ¬ ((k : Int) < (s.size : Int)) := by omega
      have HR := Lib.hid (show upI (rawOk s raw) (s.size - k) k = k by rw [show s.size - k = 0 by omega]; rfl)
      clear hlt
      go_wp2_with fail
      go_ret
      exact ⟨by rw [HE.out, HR.out]; rfl, HB.out⟩
end Go.Proofs.YtbdgoffbkenofaaGreat.Tk
