/- token: the closures of attr, tag and Next; rawEnd. -/
import Derived.Test.YtbdgoffbkenofaaGreatTkV
import Derived.Deep.CutRange
import Derived.Test.YtbdgoffbkenofaaGreatLays
import Derived.Shelf.Strings.Prefix
namespace Go.Proofs.YtbdgoffbkenofaaGreat.Tk
open Go Go.RowKit Go.Proofs.YtbdgoffbkenofaaGreat.Tr
set_option linter.unusedVariables false
set_option maxRecDepth 100000

def eqC (c : Nat) : Bool := closesN c || decide (c = 61)
theorem attr1 (w : World) : PredC 107 #[] eqC w := by
  intro c W hc hb
  unfold eqC
  show Calls Tryz.prog 107 #[.int .u8 (c : Int)] W fun e w' => e = .returned (.bool (closesN c || decide (c = 61))) ∧ Below W.heap.size W w'
  have q2 : ((c : Int) == 61) = decide (c = 61) := eq_nat c 61
  have HB := Lib.hid (closes_calls c)
  generalize closesN c = b0 at *
  generalize decide (c = 61) = b2 at *
  go_enter Tryz.func107, Tryz.ntmps107
  cases b0 <;> cases b2 <;> (
    go_wp2_with fail
    refine (HB.out _).mono ?_
    rintro e w2 ⟨rfl, rfl⟩
    go_wp2_with fail
    go_ret
    exact ⟨rfl, Below.refl _ _⟩)
def blC (c : Nat) : Bool := blankN c || decide (c = 62)
theorem attr3 (w : World) : PredC 109 #[] blC w := by
  intro c W hc hb
  unfold blC
  show Calls Tryz.prog 109 #[.int .u8 (c : Int)] W fun e w' => e = .returned (.bool (blankN c || decide (c = 62))) ∧ Below W.heap.size W w'
  have q2 : ((c : Int) == 62) = decide (c = 62) := eq_nat c 62
  have HB := Lib.hid (tblank c)
  generalize blankN c = b0 at *
  generalize decide (c = 62) = b2 at *
  go_enter Tryz.func109, Tryz.ntmps109
  cases b0 <;> cases b2 <;> (
    go_wp2_with fail
    refine (HB.out _).mono ?_
    rintro e w2 ⟨rfl, rfl⟩
    go_wp2_with fail
    go_ret
    exact ⟨rfl, Below.refl _ _⟩)
def gapC (c : Nat) : Bool := !blankN c && !decide (c = 47)
theorem tag1 (w : World) : PredC 88 #[] gapC w := by
  intro c W hc hb
  unfold gapC
  show Calls Tryz.prog 88 #[.int .u8 (c : Int)] W fun e w' => e = .returned (.bool (!blankN c && !decide (c = 47))) ∧ Below W.heap.size W w'
  have q2 : ((c : Int) == 47) = decide (c = 47) := eq_nat c 47
  have q3 : ((c : Int) != 47) = !decide (c = 47) := by rw [← q2]; rfl
  have HB := Lib.hid (tblank c)
  generalize blankN c = b0 at *
  generalize decide (c = 47) = b2 at *
  go_enter Tryz.func88, Tryz.ntmps88
  cases b0 <;> cases b2 <;> (
    go_wp2_with fail
    refine (HB.out _).mono ?_
    rintro e w2 ⟨rfl, rfl⟩
    go_wp2_with fail
    go_ret
    exact ⟨rfl, Below.refl _ _⟩)
theorem attr2 (q : Nat) (b : Nat) (w : World) (hb : w.heap[b]? = some (.cells #[.int .u8 (q : Int)] 5 (0, 0))) : PredC 108 #[.pointer (some ⟨b, 0, none⟩)] (fun c => decide (c = q)) w := by
  intro c W hc hbb
  show Calls Tryz.prog 108 #[.int .u8 (c : Int), .pointer (some ⟨b, 0, none⟩)] W fun e w' => e = .returned (.bool (decide (c = q))) ∧ Below W.heap.size W w'
  have q2 : ((c : Int) == (q : Int)) = decide (c = q) := eq_nat c q
  have hl := (hbb.block _ (lt_of_block hb)).trans hb
  have c0 : W.cell? ⟨b, 0, none⟩ = some (.int .u8 (q : Int)) := by rw [block_cell hl]; rfl
  clear hl hbb hb
  go_enter Tryz.func108, Tryz.ntmps108
  go_wp2_with fail
  go_ret
  exact ⟨rfl, Below.refl _ _⟩
theorem next1 (bl : Bool) (b : Nat) (w : World) (hb : w.heap[b]? = some (.cells #[.bool bl] 4 (0, 0))) : PredC 61 #[.pointer (some ⟨b, 0, none⟩)] (fun c => decide (c = 60) || (blankN c != bl)) w := by
  intro c W hc hbb
  show Calls Tryz.prog 61 #[.int .u8 (c : Int), .pointer (some ⟨b, 0, none⟩)] W fun e w' => e = .returned (.bool (decide (c = 60) || (blankN c != bl))) ∧ Below W.heap.size W w'
  have q2 : ((c : Int) == 60) = decide (c = 60) := eq_nat c 60
  have HB := Lib.hid (tblank c)
  have hl := (hbb.block _ (lt_of_block hb)).trans hb
  have c0 : W.cell? ⟨b, 0, none⟩ = some (.bool bl) := by rw [block_cell hl]; rfl
  have r0 := cell_regrown c0
  clear hl hbb hb c0
  generalize blankN c = b0 at *
  generalize decide (c = 60) = b2 at *
  go_enter Tryz.func61, Tryz.ntmps61
  cases b2 with
  | true =>
    go_upto_region 1 with (fail)
    refine wp_region_quiet_below mixedT (by kernel_rfl) ?_
    repeat (go_big_quiet_step (fail))
    refine wpQuiet_nil ?_
    rintro w2 ⟨g, hg⟩
    have HB2 : Hid (Below W.heap.size W w2) := Lib.hid (hg ▸ below_regrown W g.d g.os : Below W.heap.size W w2)
    clear hg
    go_wp2_with fail
    go_ret
    exact ⟨rfl, HB2.out⟩
  | false =>
    cases bl <;> cases b0 <;> (
      go_upto_region 1 with (fail)
      refine wp_region_quiet_below mixedT (by kernel_rfl) ?_
      repeat (go_big_quiet_step (first | (go_at_call 59; exact Calls.regrown_of ((HB.out _).mono fun e w' ⟨h1, h2⟩ => ⟨h1, by rw [h2]; exact Below.refl _ _⟩))))
      refine wpQuiet_nil ?_
      rintro w2 ⟨g, hg⟩
      have HB2 : Hid (Below W.heap.size W w2) := Lib.hid (hg ▸ below_regrown W g.d g.os : Below W.heap.size W w2)
      clear hg
      go_wp2_with fail
      go_ret
      exact ⟨rfl, HB2.out⟩)
/-- Is there a letter at a place? -/
theorem next2 (s : ByteArray) (hs : s.size ≤ 1000000) (i : Nat) (hi : i ≤ 2000000) (b : Nat) (w : World) (hb : w.heap[b]? = some (.cells #[.string s] 9 (0, 0))) :
    Calls Tryz.prog 62 #[.int .i64 (i : Int), .pointer (some ⟨b, 0, none⟩)] w fun e w' => e = .returned (.bool (letterAt s i)) ∧ w = w' := by
  have c0 : w.cell? ⟨b, 0, none⟩ = some (.string s) := by rw [block_cell hb]; rfl
  clear hb
  by_cases hlt : i < s.size
  · have h1 : (i : Int) < (s.size : Int) := by omega
    have HB := Lib.hid (tletter s[i].toNat)
    have HV := Lib.hid (show letterAt s i = letterN s[i].toNat by unfold letterAt; rw [decide_eq_true hlt, bAt_in hlt]; rfl)
    go_enter Tryz.func62, Tryz.ntmps62
    go_wp2_with fail
    refine (HB.out _).mono ?_
    rintro e w2 ⟨rfl, rfl⟩
    go_wp2_with fail
    go_ret
    exact ⟨by rw [HV.out]; rfl, rfl⟩
  · have h1 : ¬ ((i : Int) < (s.size : Int)) := by omega
    have HV := Lib.hid (show letterAt s i = false by unfold letterAt; rw [decide_eq_false hlt]; rfl)
    go_enter Tryz.func62, Tryz.ntmps62
    go_wp2_with fail
    go_ret
    exact ⟨by rw [HV.out]; rfl, rfl⟩
end Go.Proofs.YtbdgoffbkenofaaGreat.Tk
namespace Go.Proofs.YtbdgoffbkenofaaGreat.Tk
open Go Go.RowKit Go.Proofs.YtbdgoffbkenofaaGreat.Tr
set_option linter.unusedVariables false
set_option maxRecDepth 100000

theorem raw_pre_size (raw : ByteArray) : ((⟨#[60, 47]⟩ : ByteArray) ++ raw).size = 2 + raw.size := by rw [ByteArray.size_append]; rfl
set_option maxHeartbeats 4000000 in
theorem rawEnd_calls (s raw : ByteArray) (hs : s.size ≤ 1000000) (hr : raw.size ≤ 900000) (a : Nat) (ha : a ≤ s.size) (w : World) :
    Calls Tryz.prog 56 #[.string s, .int .i64 (a : Int), .string raw] w fun e w' => e = .returned (.int .i64 (rawEndP s a raw : Nat)) ∧ Below w.heap.size w w' := by
  have HST := Lib.hid (fun i (hi : i ≤ s.size) => starts_calls s ((⟨#[60, 47]⟩ : ByteArray) ++ raw) hs (by rw [raw_pre_size]; omega) i hi)
  have HS := Lib.hid hs
  have HA := Lib.hid ha
  have HR0 := Lib.hid hr
  unfold rawEndP
  clear hs hr ha
  go_enter Tryz.func56, Tryz.ntmps56
  go_wp2_with fail
  go_loopw [1] (fun i wr => ∃ k : Nat, Hid (a ≤ k) ∧ Hid (k ≤ s.size) ∧ i = .int .i64 (k : Int) ∧ Hid (upI (rawOk s raw) (s.size - a) a = upI (rawOk s raw) (s.size - k) k) ∧ Hid (Below w.heap.size w wr)) (fun i _ => s.size - (intOf i).toNat)
  case atStart => exact ⟨a, Lib.hid (Nat.le_refl _), HA, rfl, Lib.hid rfl, Lib.hid (Below.refl _ _)⟩
  case round =>
    obtain ⟨k, HK1, HK2, rfl, HE, HB⟩ := hrel
    by_cases hlt : k < s.size
    · have hz : (k : Int) < (s.size : Int) := by omega
      have HLT := Lib.hid hlt
      have HX := Lib.hid (HST.out k (by omega) wr)
      have hw1 : IntKind.i64.wrap ((k : Int) + 2) = (k : Int) + 2 := IntWalk.i64_in _ (by have := HS.out; omega)
      have hw2 : IntKind.i64.wrap ((k : Int) + 2 + (raw.size : Int)) = (k : Int) + 2 + (raw.size : Int) := IntWalk.i64_in _ (by have := HS.out; have := HR0.out; omega)
      have hw3 : IntKind.i64.wrap ((k : Int) + 1) = (k : Int) + 1 := IntWalk.i64_in _ (by have := HS.out; omega)
      have HN := Lib.hid (show rawOk s raw k = false → upI (rawOk s raw) (s.size - k) k = upI (rawOk s raw) (s.size - (k + 1)) (k + 1) by
        intro h; rw [show s.size - k = (s.size - (k + 1)) + 1 by omega]; exact upI_next h)
      have HH := Lib.hid (show rawOk s raw k = true → upI (rawOk s raw) (s.size - k) k = k by
        intro h; rw [show s.size - k = (s.size - (k + 1)) + 1 by omega]; exact upI_here h)
      have HW := Lib.hid (show (k : Int) + 1 = ((k + 1 : Nat) : Int) by omega)
      have HK3 : Hid (a ≤ k + 1) := Lib.hid (by have := HK1.out; omega)
      have HK4 : Hid (k + 1 ≤ s.size) := Lib.hid (by have := HLT.out; omega)
      have HO := Lib.hid (show rawOk s raw k = (startsP s k ((⟨#[60, 47]⟩ : ByteArray) ++ raw) && decide (k + 2 + raw.size < s.size) && closesN (bAt s (k + 2 + raw.size))) from rfl)
      have hra := HR0.out
      clear hlt
      cases hst : startsP s k ((⟨#[60, 47]⟩ : ByteArray) ++ raw) with
      | false =>
        rw [hst] at HX
        have HV := Lib.hid (HN.out (by rw [HO.out, hst]; rfl))
        clear hst
        go_wp2_with fail
        refine HX.out.mono ?_
        rintro e w2 ⟨rfl, hb2⟩
        have HB2 := Lib.hid (HB.out.trans (hb2.mono HB.out.size))
        clear hb2
        go_wp2_with fail
        go_roundw
        case rel => exact ⟨k + 1, HK3, HK4, by rw [HW.out], Lib.hid (HE.out.trans HV.out), HB2⟩
        case measure => simp [intOf]; have := HLT.out; omega
      | true =>
        rw [hst] at HX
        by_cases hin : k + 2 + raw.size < s.size
        · have hz2 : (k : Int) + 2 + (raw.size : Int) < (s.size : Int) := by omega
          have hbk := bAt_in hin
          have HC := Lib.hid (closes_calls s[k + 2 + raw.size].toNat)
          have hidx : ((k : Int) + 2 + (raw.size : Int)).toNat = k + 2 + raw.size := by omega
          have HCI := Lib.hid (show (k : Int) + 2 + (raw.size : Int) = ((k + 2 + raw.size : Nat) : Int) by omega)
          cases hc : closesN (bAt s (k + 2 + raw.size)) with
          | true =>
            have HV := Lib.hid (HH.out (by rw [HO.out, hst, hc, decide_eq_true hin]; rfl))
            rw [← hbk, hc] at HC
            rw [hbk] at HC
            clear hst hc hbk
            go_wp2_with fail
            refine HX.out.mono ?_
            rintro e w2 ⟨rfl, hb2⟩
            have HB2 := Lib.hid (HB.out.trans (hb2.mono HB.out.size))
            clear hb2
            go_wp2_with fail
            refine (HC.out _).mono ?_
            rintro e w3 ⟨rfl, rfl⟩
            go_wp2_with fail
            go_ret
            exact ⟨by rw [HE.out, HV.out]; rfl, HB2.out⟩
          | false =>
            have HV := Lib.hid (HN.out (by rw [HO.out, hst, hc, decide_eq_true hin]; rfl))
            rw [← hbk, hc] at HC
            rw [hbk] at HC
            clear hst hc hbk
            go_wp2_with fail
            refine HX.out.mono ?_
            rintro e w2 ⟨rfl, hb2⟩
            have HB2 := Lib.hid (HB.out.trans (hb2.mono HB.out.size))
            clear hb2
            go_wp2_with fail
            refine (HC.out _).mono ?_
            rintro e w3 ⟨rfl, rfl⟩
            go_wp2_with fail
            go_roundw
            case rel => exact ⟨k + 1, HK3, HK4, by rw [HW.out], Lib.hid (HE.out.trans HV.out), HB2⟩
            case measure => simp [intOf]; have := HLT.out; omega
        · have hz2 : ¬ ((k : Int) + 2 + (raw.size : Int) < (s.size : Int)) := by omega
          have HV := Lib.hid (HN.out (by rw [HO.out, hst, decide_eq_false hin]; rfl))
          clear hst hin
          go_wp2_with fail
          refine HX.out.mono ?_
          rintro e w2 ⟨rfl, hb2⟩
          have HB2 := Lib.hid (HB.out.trans (hb2.mono HB.out.size))
          clear hb2
          go_wp2_with fail
          go_roundw
          case rel => exact ⟨k + 1, HK3, HK4, by rw [HW.out], Lib.hid (HE.out.trans HV.out), HB2⟩
          case measure => simp [intOf]; have := HLT.out; omega
    · have hz : ¬ ((k : Int) < (s.size : Int)) := by omega
      have HR := Lib.hid (show upI (rawOk s raw) (s.size - k) k = k by rw [show s.size - k = 0 by omega]; rfl)
      clear hlt
      go_wp2_with fail
      go_ret
      exact ⟨by rw [HE.out, HR.out]; rfl, HB.out⟩
end Go.Proofs.YtbdgoffbkenofaaGreat.Tk
namespace Go.Proofs.YtbdgoffbkenofaaGreat.Tk
open Go Go.RowKit Go.Proofs.YtbdgoffbkenofaaGreat.Tr
set_option linter.unusedVariables false
set_option maxRecDepth 100000

theorem pre_is (s p : ByteArray) (hs : s.size ≤ 1000000) (b : Bool) (h : Sr.hasPre s p = b) (w : World) :
    Calls Tryz.prog 92 #[.string s, .string p] w fun e w' => e = .returned (.bool b) ∧ w = w' :=
  Sr.hasPrefix_is s p (Nat.le_trans hs (by unfold maxLen; decide)) b h w
theorem two_toks (w : World) : Below w.heap.size w ((w.alloc (.cells #[.int .i64 0, .string ⟨#[]⟩, .string ⟨#[]⟩, .slice none 0 0, .bool false] 27)).alloc (.cells #[.int .i64 4, .string ⟨#[]⟩, .string ⟨#[]⟩, .slice none 0 0, .bool false] 27)) ∧
    ((w.alloc (.cells #[.int .i64 0, .string ⟨#[]⟩, .string ⟨#[]⟩, .slice none 0 0, .bool false] 27)).alloc (.cells #[.int .i64 4, .string ⟨#[]⟩, .string ⟨#[]⟩, .slice none 0 0, .bool false] 27)).heap[w.heap.size]? = some (.cells #[.int .i64 0, .string ⟨#[]⟩, .string ⟨#[]⟩, .slice none 0 0, .bool false] 27 (0, 0)) ∧
    ((w.alloc (.cells #[.int .i64 0, .string ⟨#[]⟩, .string ⟨#[]⟩, .slice none 0 0, .bool false] 27)).alloc (.cells #[.int .i64 4, .string ⟨#[]⟩, .string ⟨#[]⟩, .slice none 0 0, .bool false] 27)).heap[w.heap.size + 1]? = some (.cells #[.int .i64 4, .string ⟨#[]⟩, .string ⟨#[]⟩, .slice none 0 0, .bool false] 27 (0, 0)) := by
  refine ⟨((Below.refl _ w).alloc (Nat.le_refl _) _).alloc (by simp) _, ?_, ?_⟩
  · have h := alloc_new w (.cells #[.int .i64 0, .string ⟨#[]⟩, .string ⟨#[]⟩, .slice none 0 0, .bool false] 27)
    have h2 := ((Below.refl _ (w.alloc (.cells #[.int .i64 0, .string ⟨#[]⟩, .string ⟨#[]⟩, .slice none 0 0, .bool false] 27))).alloc (Nat.le_refl _) (.cells #[.int .i64 4, .string ⟨#[]⟩, .string ⟨#[]⟩, .slice none 0 0, .bool false] 27)).block _ (lt_of_block h)
    exact h2.trans h
  · have h := alloc_new (w.alloc (.cells #[.int .i64 0, .string ⟨#[]⟩, .string ⟨#[]⟩, .slice none 0 0, .bool false] 27)) (.cells #[.int .i64 4, .string ⟨#[]⟩, .string ⟨#[]⟩, .slice none 0 0, .bool false] 27)
    simpa using h
theorem cEnd1_is (r : ByteArray) (i : Nat) (b : Bool) (h : cEnd1 r i = b) : Sr.hasPre (r.extract i r.size) ⟨#[45, 45, 62]⟩ = b := h
theorem cEnd2_is (r : ByteArray) (i : Nat) (b : Bool) (h : cEnd2 r i = b) : Sr.hasPre (r.extract i r.size) ⟨#[45, 45, 33, 62]⟩ = b := h
theorem comm_val1 (s : ByteArray) (a : Nat) (h : Sr.hasPre (s.extract a s.size) ⟨#[62]⟩ = true) : commentP s a = (commTok ⟨#[]⟩, a + 1, true) := by
  unfold commentP; dsimp only; rw [if_pos h]
theorem comm_val2 (s : ByteArray) (a : Nat) (h : Sr.hasPre (s.extract a s.size) ⟨#[62]⟩ = false) (h2 : Sr.hasPre (s.extract a s.size) ⟨#[45, 62]⟩ = true) : commentP s a = (commTok ⟨#[]⟩, a + 2, true) := by
  unfold commentP; dsimp only; rw [if_neg (by rw [h]; decide), if_pos h2]
theorem two_ix0 (x y : ByteArray) (w : World) : (Instr.index 101 (.agg #[.string x, .string y]) (.int .i64 0)).run Tryz.prog w = .ok (.string x) w := by kernel_rfl
theorem two_ix1 (x y : ByteArray) (w : World) : (Instr.index 101 (.agg #[.string x, .string y]) (.int .i64 1)).run Tryz.prog w = .ok (.string y) w := by kernel_rfl
theorem three_ix0 (x y z : ByteArray) (w : World) : (Instr.index 102 (.agg #[.string x, .string y, .string z]) (.int .i64 0)).run Tryz.prog w = .ok (.string x) w := by kernel_rfl
theorem three_ix1 (x y z : ByteArray) (w : World) : (Instr.index 102 (.agg #[.string x, .string y, .string z]) (.int .i64 1)).run Tryz.prog w = .ok (.string y) w := by kernel_rfl
theorem three_ix2 (x y z : ByteArray) (w : World) : (Instr.index 102 (.agg #[.string x, .string y, .string z]) (.int .i64 2)).run Tryz.prog w = .ok (.string z) w := by kernel_rfl
theorem hasSuf_raw (s p : ByteArray) : hasSuf s p = (decide (p.size ≤ s.size) && ((s.extract (s.size - p.size) s.size).toList == p.toList)) := by
  unfold hasSuf; rw [Sr.str_eq]; congr
theorem suf_is (s p : ByteArray) (hs : s.size ≤ 1000000) (b : Bool) (h : hasSuf s p = b) (w : World) :
    Calls Tryz.prog 93 #[.string s, .string p] w fun e w' => e = .returned (.bool b) ∧ w' = w := by
  rw [← h, hasSuf_raw, Lib.hasSuffix_raw]
  exact Any.strings_HasSuffix lays100 s p w (by omega)
theorem trim_is (s p : ByteArray) (hs : s.size ≤ 1000000) (h : hasSuf s p = true) (w : World) :
    Calls Tryz.prog 94 #[.string s, .string p] w fun e w' => e = .returned (.string (s.extract 0 (s.size - p.size))) ∧ w' = w := by
  rw [hasSuf_raw, Bool.and_eq_true, decide_eq_true_eq] at h
  rw [← Lib.trimSuffix_hit s p h.1 h.2]
  exact Any.strings_TrimSuffix lays102 s p w (by omega)
theorem over5 {w w1 : World} {x : Value} (hb : Below w.heap.size w w1) (hl : w1.heap[w.heap.size]? = some (.cells #[.int .i64 0, .string ⟨#[]⟩, .string ⟨#[]⟩, .slice none 0 0, .bool false] 27 (0, 0))) :
    (w1.setCell ⟨w.heap.size + 1, 2, none⟩ x).heap[w.heap.size]? = some (.cells #[.int .i64 0, .string ⟨#[]⟩, .string ⟨#[]⟩, .slice none 0 0, .bool false] 27 (0, 0)) ∧ Below w.heap.size w (w1.setCell ⟨w.heap.size + 1, 2, none⟩ x) :=
  ⟨by rw [Below.heap_setCell _ _ _ _ (by show w.heap.size ≠ w.heap.size + 1; omega)]; exact hl, hb.setCell (p := ⟨w.heap.size + 1, 2, none⟩) (by show w.heap.size ≤ w.heap.size + 1; omega) x⟩
theorem trim_n (s p : ByteArray) (n : Nat) (hp : p.size = n) (hs : s.size ≤ 1000000) (h : hasSuf s p = true) (w : World) :
    Calls Tryz.prog 94 #[.string s, .string p] w fun e w' => e = .returned (.string (s.extract 0 (s.size - n))) ∧ w' = w := hp ▸ trim_is s p hs h w
def cQ (r : ByteArray) (i : Nat) : Bool := cEnd1 r i || cEnd2 r i
theorem comm_val3 (s : ByteArray) (a : Nat) (r : ByteArray) (hr : s.extract a s.size = r) (h : Sr.hasPre r ⟨#[62]⟩ = false) (h2 : Sr.hasPre r ⟨#[45, 62]⟩ = false) (i : Nat) (hi : upI (cQ r) r.size 0 = i) (hl : i < r.size) (n : Nat) (hn : (if cEnd1 r i then 3 else 4) = n) : commentP s a = (commTok (r.extract 0 i), a + i + n, true) := by
  subst hr; subst hi; subst hn
  unfold commentP; dsimp only
  rw [if_neg (by rw [h]; decide), if_neg (by rw [h2]; decide)]
  exact if_pos hl
theorem comm_val4 (s : ByteArray) (a : Nat) (r : ByteArray) (hr : s.extract a s.size = r) (h : Sr.hasPre r ⟨#[62]⟩ = false) (h2 : Sr.hasPre r ⟨#[45, 62]⟩ = false) (hi : upI (cQ r) r.size 0 = r.size) (x : ByteArray)
    (hx : (if hasSuf r ⟨#[45, 45, 33]⟩ then r.extract 0 (r.size - 3) else if hasSuf r ⟨#[45, 45]⟩ then r.extract 0 (r.size - 2) else if hasSuf r ⟨#[45]⟩ then r.extract 0 (r.size - 1) else r) = x) : commentP s a = (commTok x, s.size, true) := by
  subst hr; subst hx
  unfold commentP; dsimp only
  rw [if_neg (by rw [h]; decide), if_neg (by rw [h2]; decide)]
  refine if_neg ?_
  intro hl
  have : upI (cQ (s.extract a s.size)) (s.extract a s.size).size 0 < (s.extract a s.size).size := hl
  omega
set_option maxHeartbeats 4000000 in
theorem comment_calls (s : ByteArray) (hs : s.size ≤ 1000000) (a : Nat) (ha : a ≤ s.size) (w : World) :
    Calls Tryz.prog 66 #[.string s, .int .i64 (a : Int)] w (TokEnd (commentP s a) w) := by
  have hap : (a : Int) ≤ (s.size : Int) := by omega
  have hw1 : IntKind.i64.wrap ((a : Int) + 1) = (a : Int) + 1 := IntWalk.i64_in _ (by omega)
  have hw2 : IntKind.i64.wrap ((a : Int) + 2) = (a : Int) + 2 := IntWalk.i64_in _ (by omega)
  have H2 := two_toks w
  have HHS := Lib.hid hs
  have HHA := Lib.hid ha
  have hrs := ext_size s a s.size
  go_enter Tryz.func66, Tryz.ntmps66
  go_wp2_with fail
  generalize (w.alloc (.cells #[.int .i64 0, .string ⟨#[]⟩, .string ⟨#[]⟩, .slice none 0 0, .bool false] 27)).alloc (.cells #[.int .i64 4, .string ⟨#[]⟩, .string ⟨#[]⟩, .slice none 0 0, .bool false] 27) = w1 at H2 ⊢
  obtain ⟨hb1, hl1, ht1⟩ := H2
  have HB := Lib.hid hb1
  have HL := Lib.hid hl1
  have HT := Lib.hid ht1
  obtain ⟨b0, b1, b2, b3, b4⟩ := tbox5 hl1
  obtain ⟨f0, f1, f2, f3, f4⟩ := tfrz5 hl1
  obtain ⟨d0, d1, d2, d3, d4⟩ := tbox5 ht1
  obtain ⟨g0, g1, g2, g3, g4⟩ := tfrz5 ht1
  have HV1 := Lib.hid (comm_val1 s a)
  have HV2 := Lib.hid (comm_val2 s a)
  have HHR := Lib.hid (show (s.extract a s.size).size ≤ 1000000 by omega)
  clear hb1 hl1 ht1 hs ha hrs
  generalize hr : s.extract a s.size = r at *
  have ix0 := two_ix0 ⟨#[62]⟩ ⟨#[45, 62]⟩
  have ix1 := two_ix1 ⟨#[62]⟩ ⟨#[45, 62]⟩
  refine wp_loop_rounds 3 ?_
  rw [rounds_succ]
  cases h1 : Sr.hasPre r ⟨#[62]⟩ with
  | true =>
    have X1 := Lib.hid (pre_is r ⟨#[62]⟩ HHR.out true h1)
    have HV := Lib.hid (HV1.out h1)
    clear h1 HV1 HV2
    go_wp2_with fail
    refine (X1.out _).mono ?_
    rintro e w2 ⟨rfl, rfl⟩
    go_wp2_with fail
    rw [HV.out]
    exact tok_post (commTok ⟨#[]⟩, a + 1, true) w 4 5 6 w.heap.size none 0 rfl rfl rfl rfl (set5_blk HL.out _ _ _ _ _) (isAttrs_nil _ _) (HB.out.trans (set5_below (Nat.le_refl _) _ _ _ _ _)) (fun _ h => nomatch h)
  | false =>
  have X1 := Lib.hid (pre_is r ⟨#[62]⟩ HHR.out false h1)
  have HN1 := Lib.hid h1
  clear h1 HV1
  go_wp2_with fail
  refine (X1.out _).mono ?_
  rintro e w2 ⟨rfl, rfl⟩
  go_wp2_with fail
  rw [rounds_succ]
  cases h2 : Sr.hasPre r ⟨#[45, 62]⟩ with
  | true =>
    have X2 := Lib.hid (pre_is r ⟨#[45, 62]⟩ HHR.out true h2)
    have HV := Lib.hid (HV2.out HN1.out h2)
    clear h2 HV2
    go_wp2_with fail
    refine (X2.out _).mono ?_
    rintro e w2 ⟨rfl, rfl⟩
    go_wp2_with fail
    rw [HV.out]
    exact tok_post (commTok ⟨#[]⟩, a + 2, true) w 4 5 6 w.heap.size none 0 rfl rfl rfl rfl (set5_blk HL.out _ _ _ _ _) (isAttrs_nil _ _) (HB.out.trans (set5_below (Nat.le_refl _) _ _ _ _ _)) (fun _ h => nomatch h)
  | false =>
  have X2 := Lib.hid (pre_is r ⟨#[45, 62]⟩ HHR.out false h2)
  have HN2 := Lib.hid h2
  clear h2 HV2
  go_wp2_with fail
  refine (X2.out _).mono ?_
  rintro e w2 ⟨rfl, rfl⟩
  go_wp2_with fail
  rw [rounds_succ]
  go_wp2_with fail
  clear ix0 ix1
  have ix0 := two_ix0 ⟨#[45, 45, 62]⟩ ⟨#[45, 45, 33, 62]⟩
  have ix1 := two_ix1 ⟨#[45, 45, 62]⟩ ⟨#[45, 45, 33, 62]⟩
  go_loopw [35] (fun i wr => ∃ k : Nat, Hid (k ≤ r.size) ∧ i = .int .i64 (k : Int) ∧ Hid (upI (cQ r) r.size 0 = upI (cQ r) (r.size - k) k) ∧ wr = w1) (fun i _ => r.size - (intOf i).toNat)
  case atStart => exact ⟨0, Lib.hid (Nat.zero_le _), rfl, Lib.hid rfl, rfl⟩
  case round =>
    obtain ⟨k, HK, rfl, HE, rfl⟩ := hrel
    by_cases hlt : k < r.size
    · have hz : (k : Int) < (r.size : Int) := by omega
      have hz2 : (k : Int) ≤ (r.size : Int) := by omega
      have HLT := Lib.hid hlt
      have hwk : IntKind.i64.wrap ((k : Int) + 1) = (k : Int) + 1 := IntWalk.i64_in _ (by have := HHR.out; omega)
      have hwa : IntKind.i64.wrap ((a : Int) + (k : Int)) = (a : Int) + (k : Int) := IntWalk.i64_in _ (by have := HHR.out; have := HHS.out; have := HHA.out; omega)
      have hw3 : IntKind.i64.wrap ((a : Int) + (k : Int) + 3) = (a : Int) + (k : Int) + 3 := IntWalk.i64_in _ (by have := HHR.out; have := HHS.out; have := HHA.out; omega)
      have hw4 : IntKind.i64.wrap ((a : Int) + (k : Int) + 4) = (a : Int) + (k : Int) + 4 := IntWalk.i64_in _ (by have := HHR.out; have := HHS.out; have := HHA.out; omega)
      have hxs := ext_size r k r.size
      have HXS := Lib.hid (show (r.extract k r.size).size ≤ 1000000 by have := HHR.out; omega)
      have HN := Lib.hid (show cQ r k = false → upI (cQ r) (r.size - k) k = upI (cQ r) (r.size - (k + 1)) (k + 1) by
        intro h; rw [show r.size - k = (r.size - (k + 1)) + 1 by omega]; exact upI_next h)
      have HH := Lib.hid (show cQ r k = true → upI (cQ r) (r.size - k) k = k by
        intro h; rw [show r.size - k = (r.size - (k + 1)) + 1 by omega]; exact upI_here h)
      have HO := Lib.hid (show cQ r k = (cEnd1 r k || cEnd2 r k) from rfl)
      have HV := Lib.hid (comm_val3 s a r hr HN1.out HN2.out k)
      clear hxs hlt
      have HW := Lib.hid (show (k : Int) + 1 = ((k + 1 : Nat) : Int) by omega)
      go_wp2_with fail
      refine wp_loop_rounds 3 ?_
      rw [rounds_succ]
      cases e1 : cEnd1 r k with
      | true =>
        have Y1 := Lib.hid (pre_is (r.extract k r.size) ⟨#[45, 45, 62]⟩ HXS.out true (cEnd1_is r k _ e1))
        have HVV := Lib.hid (HV.out (HE.out.trans (HH.out (by rw [HO.out, e1]; rfl))) HLT.out 3 (by rw [e1]; rfl))
        clear e1
        go_wp2_with fail
        refine (Y1.out _).mono ?_
        rintro e w2 ⟨rfl, rfl⟩
        go_wp2_with fail
        rw [HVV.out]
        obtain ⟨l2, bb2⟩ := over5 (x := .string (r.extract 0 k)) HB.out HL.out
        exact tok_post (commTok (r.extract 0 k), a + k + 3, true) w 4 5 6 w.heap.size none 0 rfl rfl rfl rfl (set5_blk l2 _ _ _ _ _) (isAttrs_nil _ _) (bb2.trans (set5_below (Nat.le_refl _) _ _ _ _ _)) (fun _ h => nomatch h)
      | false =>
      have Y1 := Lib.hid (pre_is (r.extract k r.size) ⟨#[45, 45, 62]⟩ HXS.out false (cEnd1_is r k _ e1))
      have HE1 := Lib.hid e1
      clear e1
      go_wp2_with fail
      refine (Y1.out _).mono ?_
      rintro e w2 ⟨rfl, rfl⟩
      go_wp2_with fail
      rw [rounds_succ]
      cases e2 : cEnd2 r k with
      | true =>
        have Y2 := Lib.hid (pre_is (r.extract k r.size) ⟨#[45, 45, 33, 62]⟩ HXS.out true (cEnd2_is r k _ e2))
        have HVV := Lib.hid (HV.out (HE.out.trans (HH.out (by rw [HO.out, HE1.out, e2]; rfl))) HLT.out 4 (by rw [HE1.out]; rfl))
        clear e2
        go_wp2_with fail
        refine (Y2.out _).mono ?_
        rintro e w2 ⟨rfl, rfl⟩
        go_wp2_with fail
        rw [HVV.out]
        obtain ⟨l2, bb2⟩ := over5 (x := .string (r.extract 0 k)) HB.out HL.out
        exact tok_post (commTok (r.extract 0 k), a + k + 4, true) w 4 5 6 w.heap.size none 0 rfl rfl rfl rfl (set5_blk l2 _ _ _ _ _) (isAttrs_nil _ _) (bb2.trans (set5_below (Nat.le_refl _) _ _ _ _ _)) (fun _ h => nomatch h)
      | false =>
      have Y2 := Lib.hid (pre_is (r.extract k r.size) ⟨#[45, 45, 33, 62]⟩ HXS.out false (cEnd2_is r k _ e2))
      have HR := Lib.hid (HE.out.trans (HN.out (by rw [HO.out, HE1.out, e2]; rfl)))
      clear e2
      go_wp2_with fail
      refine (Y2.out _).mono ?_
      rintro e w2 ⟨rfl, rfl⟩
      go_wp2_with fail
      rw [rounds_succ]
      go_wp2_with fail
      go_roundw
      case rel => exact ⟨k + 1, Lib.hid (by have := HLT.out; omega), by rw [HW.out], HR, trivial⟩
      case measure => simp [intOf]; have := HLT.out; omega
    · have hz : ¬ ((k : Int) < (r.size : Int)) := by omega
      have HEND := Lib.hid (show upI (cQ r) r.size 0 = r.size by have := HE.out; rw [show r.size - k = 0 by omega] at this; rw [this, upI_zero]; have := HK.out; omega)
      have HV := Lib.hid (comm_val4 s a r hr HN1.out HN2.out HEND.out)
      clear hlt
      clear ix0 ix1
      have ix0 := three_ix0 ⟨#[45, 45, 33]⟩ ⟨#[45, 45]⟩ ⟨#[45]⟩
      have ix1 := three_ix1 ⟨#[45, 45, 33]⟩ ⟨#[45, 45]⟩ ⟨#[45]⟩
      have ix2 := three_ix2 ⟨#[45, 45, 33]⟩ ⟨#[45, 45]⟩ ⟨#[45]⟩
      go_wp2_with fail
      refine wp_loop_rounds 4 ?_
      rw [rounds_succ]
      cases s0 : hasSuf r ⟨#[45, 45, 33]⟩ with
      | true =>
        have Z := Lib.hid (suf_is r ⟨#[45, 45, 33]⟩ HHR.out true s0)
        have ZT := Lib.hid (trim_n r ⟨#[45, 45, 33]⟩ 3 rfl HHR.out s0)
        have HVV := Lib.hid (HV.out (r.extract 0 (r.size - 3)) (by rw [if_pos s0]))
        clear s0 HV
        go_wp2_with fail
        refine (Z.out _).mono ?_
        rintro e w2 ⟨rfl, hw2⟩
        subst hw2
        go_wp2_with fail
        refine (ZT.out _).mono ?_
        rintro e w2 ⟨rfl, hw2⟩
        subst hw2
        go_wp2_with fail
        rw [HVV.out]
        obtain ⟨l2, bb2⟩ := over5 (x := .string r) HB.out HL.out
        obtain ⟨l3, bb3⟩ := over5 (x := .string (r.extract 0 (r.size - 3))) bb2 l2
        exact tok_post (commTok (r.extract 0 (r.size - 3)), s.size, true) w 4 5 6 w.heap.size none 0 rfl rfl rfl rfl (set5_blk l3 _ _ _ _ _) (isAttrs_nil _ _) (bb3.trans (set5_below (Nat.le_refl _) _ _ _ _ _)) (fun _ h => nomatch h)
      | false =>
      have Z0 := Lib.hid (suf_is r ⟨#[45, 45, 33]⟩ HHR.out false s0)
      have S0 := Lib.hid s0
      clear s0
      go_wp2_with fail
      refine (Z0.out _).mono ?_
      rintro e w2 ⟨rfl, hw2⟩
      subst hw2
      go_wp2_with fail
      rw [rounds_succ]
      cases s1 : hasSuf r ⟨#[45, 45]⟩ with
      | true =>
        have Z := Lib.hid (suf_is r ⟨#[45, 45]⟩ HHR.out true s1)
        have ZT := Lib.hid (trim_n r ⟨#[45, 45]⟩ 2 rfl HHR.out s1)
        have HVV := Lib.hid (HV.out (r.extract 0 (r.size - 2)) (by rw [if_neg (by rw [S0.out]; decide), if_pos s1]))
        clear s1 HV
        go_wp2_with fail
        refine (Z.out _).mono ?_
        rintro e w2 ⟨rfl, hw2⟩
        subst hw2
        go_wp2_with fail
        refine (ZT.out _).mono ?_
        rintro e w2 ⟨rfl, hw2⟩
        subst hw2
        go_wp2_with fail
        rw [HVV.out]
        obtain ⟨l2, bb2⟩ := over5 (x := .string r) HB.out HL.out
        obtain ⟨l3, bb3⟩ := over5 (x := .string (r.extract 0 (r.size - 2))) bb2 l2
        exact tok_post (commTok (r.extract 0 (r.size - 2)), s.size, true) w 4 5 6 w.heap.size none 0 rfl rfl rfl rfl (set5_blk l3 _ _ _ _ _) (isAttrs_nil _ _) (bb3.trans (set5_below (Nat.le_refl _) _ _ _ _ _)) (fun _ h => nomatch h)
      | false =>
      have Z1 := Lib.hid (suf_is r ⟨#[45, 45]⟩ HHR.out false s1)
      have S1 := Lib.hid s1
      clear s1
      go_wp2_with fail
      refine (Z1.out _).mono ?_
      rintro e w2 ⟨rfl, hw2⟩
      subst hw2
      go_wp2_with fail
      rw [rounds_succ]
      cases s2 : hasSuf r ⟨#[45]⟩ with
      | true =>
        have Z := Lib.hid (suf_is r ⟨#[45]⟩ HHR.out true s2)
        have ZT := Lib.hid (trim_n r ⟨#[45]⟩ 1 rfl HHR.out s2)
        have HVV := Lib.hid (HV.out (r.extract 0 (r.size - 1)) (by rw [if_neg (by rw [S0.out]; decide), if_neg (by rw [S1.out]; decide), if_pos s2]))
        clear s2 HV
        go_wp2_with fail
        refine (Z.out _).mono ?_
        rintro e w2 ⟨rfl, hw2⟩
        subst hw2
        go_wp2_with fail
        refine (ZT.out _).mono ?_
        rintro e w2 ⟨rfl, hw2⟩
        subst hw2
        go_wp2_with fail
        rw [HVV.out]
        obtain ⟨l2, bb2⟩ := over5 (x := .string r) HB.out HL.out
        obtain ⟨l3, bb3⟩ := over5 (x := .string (r.extract 0 (r.size - 1))) bb2 l2
        exact tok_post (commTok (r.extract 0 (r.size - 1)), s.size, true) w 4 5 6 w.heap.size none 0 rfl rfl rfl rfl (set5_blk l3 _ _ _ _ _) (isAttrs_nil _ _) (bb3.trans (set5_below (Nat.le_refl _) _ _ _ _ _)) (fun _ h => nomatch h)
      | false =>
      have Z2 := Lib.hid (suf_is r ⟨#[45]⟩ HHR.out false s2)
      have S2 := Lib.hid s2
      clear s2
      go_wp2_with fail
      refine (Z2.out _).mono ?_
      rintro e w2 ⟨rfl, hw2⟩
      subst hw2
      go_wp2_with fail
      rw [rounds_succ]
      have HVV := Lib.hid (HV.out r (by rw [if_neg (by rw [S0.out]; decide), if_neg (by rw [S1.out]; decide), if_neg (by rw [S2.out]; decide)]))
      clear HV
      go_wp2_with fail
      rw [HVV.out]
      obtain ⟨l2, bb2⟩ := over5 (x := .string r) HB.out HL.out
      exact tok_post (commTok r, s.size, true) w 4 5 6 w.heap.size none 0 rfl rfl rfl rfl (set5_blk l2 _ _ _ _ _) (isAttrs_nil _ _) (bb2.trans (set5_below (Nat.le_refl _) _ _ _ _ _)) (fun _ h => nomatch h)
end Go.Proofs.YtbdgoffbkenofaaGreat.Tk
