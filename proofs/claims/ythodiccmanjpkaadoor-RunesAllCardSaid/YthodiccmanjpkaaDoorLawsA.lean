/- The laws RunesBytes, RunesLowers, RunesCleans, RunesParts: their walks. -/
import Derived.Test.YthodiccmanjpkaaDoorSmallW
namespace Go.Proofs.YthodiccmanjpkaaDoor.Wk
open Go Go.RowKit Go.Lib Go.Proofs.YthodiccmanjpkaaDoor.Ru
set_option linter.unusedVariables false

def TrueEnd (w : World) (e : Ending) (w' : World) : Prop := e = .returned (.bool true) ∧ Below w.heap.size w w'
def cnt (p : Int → Bool) (k : Nat) : Nat := ((List.range k).filter fun i : Nat => p (i : Int)).length
theorem cnt_succ (p : Int → Bool) (k : Nat) : cnt p (k + 1) = if p (k : Int) then cnt p k + 1 else cnt p k := by
  unfold cnt
  rw [List.range_succ, List.filter_append]
  by_cases h : p (k : Int) = true <;> simp [h]
theorem cnt_yes (p : Int → Bool) (k : Nat) (h : p (k : Int) = true) : cnt p (k + 1) = cnt p k + 1 := by rw [cnt_succ, if_pos h]
theorem cnt_no (p : Int → Bool) (k : Nat) (h : p (k : Int) = false) : cnt p (k + 1) = cnt p k := by rw [cnt_succ, if_neg (by rw [h]; decide)]
theorem cnt_le (p : Int → Bool) (k : Nat) : cnt p k ≤ k := by
  unfold cnt; have := List.length_filter_le (fun i : Nat => p (i : Int)) (List.range k); simpa using this
theorem cnt_blank : cnt blankB 256 = 4 := by decide +kernel
theorem cnt_letter : cnt letterB 256 = 52 := by decide +kernel
theorem cnt_zero (p : Int → Bool) : cnt p 0 = 0 := rfl
attribute [irreducible] cnt
theorem b12 (w : World) : Calls Tryd.prog 15 #[.int .u8 12] w (BoolEnd true w) := blank_calls 12 w
theorem b13 (w : World) : Calls Tryd.prog 15 #[.int .u8 13] w (BoolEnd false w) := blank_calls 13 w
theorem b11 (w : World) : Calls Tryd.prog 15 #[.int .u8 11] w (BoolEnd false w) := blank_calls 11 w
set_option maxRecDepth 100000 in
set_option maxHeartbeats 2000000 in
theorem runesBytes (w : World) (hT : Tabs w) : Calls Tryd.prog 7 #[] w fun e w' => e = .returned (.bool true) ∧ Below w.heap.size w w' := by
  have HT := Lib.hid hT
  clear hT
  go_enter Tryd.func7, Tryd.ntmps7
  go_wp2_with fail
  go_loop [1, 2, 3] (fun a b i => ∃ k : Nat, k ≤ 256 ∧ i = .int .i64 k ∧ a = .int .i64 (cnt blankB k) ∧ b = .int .i64 (cnt letterB k)) (fun _ _ i => 256 - (RowKit.intOf i).toNat)
  case atStart => exact ⟨0, by omega, rfl, by rw [cnt_zero]; rfl, by rw [cnt_zero]; rfl⟩
  case round =>
    obtain ⟨k, hk, rfl, rfl, rfl⟩ := hrel
    have l1 := cnt_le blankB k
    have l2 := cnt_le letterB k
    by_cases hlt : k < 256
    · have Y1 := Lib.hid (cnt_yes blankB k)
      have N1 := Lib.hid (cnt_no blankB k)
      have Y2 := Lib.hid (cnt_yes letterB k)
      have N2 := Lib.hid (cnt_no letterB k)
      go_wp2_with fail
      refine (blank_calls _ _).mono ?_
      rintro e w' ⟨rfl, rfl⟩
      have hlt' : (k : Int) < 256 := by omega
      cases hb1 : blankB (k : Int)
      all_goals
        have HB1 := Lib.hid hb1
        clear hb1
        go_wp2_with fail
        refine (letter_calls _ _).mono ?_
        rintro e w' ⟨rfl, rfl⟩
        cases hb2 : letterB (k : Int)
        all_goals
          have HB2 := Lib.hid hb2
          clear hb2
          go_wp2_with fail
          go_round
          case rel => exact ⟨k + 1, by omega, by go_num, by first | rw [N1.out HB1.out] | (rw [Y1.out HB1.out]; go_num), by first | rw [N2.out HB2.out] | (rw [Y2.out HB2.out]; go_num)⟩
          case measure => simp [RowKit.intOf]; omega
    · obtain rfl : k = 256 := by omega
      rw [cnt_blank, cnt_letter]
      go_wp2_with fail
      refine (b12 _).mono ?_
      rintro e w' ⟨rfl, rfl⟩
      go_wp2_with fail
      refine (b13 _).mono ?_
      rintro e w' ⟨rfl, rfl⟩
      go_wp2_with fail
      refine (b11 _).mono ?_
      rintro e w' ⟨rfl, rfl⟩
      go_wp2_with fail
      refine (awake_calls _ HT.out).mono ?_
      rintro e w' ⟨rfl, hb⟩
      go_wp2_with fail
      go_ret
      exact ⟨rfl, hb⟩

/-! ### RunesLowers -/
def low (s : ByteArray) : ByteArray := ⟨(lower s.data.toList).toArray⟩
theorem low_toList (s : ByteArray) : (low s).data.toList = lower s.data.toList := rfl
theorem low_size (s : ByteArray) : (low s).size = s.size := by
  rw [Lib.size_eq, low_toList, lower_length, ← Lib.size_eq]
theorem low_low (s : ByteArray) : low (low s) = low s := ba_ext (by rw [low_toList, low_toList, lower_lower])
theorem low_get (s : ByteArray) (i : Nat) (h : i < s.size) (h' : i < (low s).size) : (low s)[i] = lowB s[i] := by
  have e1 : (low s)[i] = (low s).data.toList.getD i 0 := by rw [Lib.getD_get!', show (low s).get! i = (low s)[i] from get_at _ i h']
  have e2 : s[i] = s.data.toList.getD i 0 := by rw [Lib.getD_get!', show s.get! i = s[i] from get_at _ i h]
  have hi : i < s.data.toList.length := by rw [← Lib.size_eq]; exact h
  rw [e1, e2, low_toList]
  simp [lower, List.getD, List.getElem?_map, List.getElem?_eq_getElem hi]
attribute [irreducible] low
theorem low_calls (s : ByteArray) (w : World) (hs : s.size ≤ maxLen) :
    Calls Tryd.prog 12 #[.string s] w fun e w' => e = .returned (.string (low s)) ∧ Below w.heap.size w w' :=
  (lower_calls s w hs).mono fun e w' ⟨h, b⟩ => ⟨by rw [h]; unfold low; rfl, b⟩
theorem low2_calls (s : ByteArray) (w : World) (hs : (low s).size ≤ maxLen) :
    Calls Tryd.prog 12 #[.string (low s)] w fun e w' => e = .returned (.string (low s)) ∧ Below w.heap.size w w' :=
  (low_calls (low s) w hs).mono fun e w' ⟨h, b⟩ => ⟨by rw [h, low_low], b⟩
theorem lowv_calls (s : ByteArray) (w : World) (hs : (low s).size ≤ 9223372036854775807) (hT : Tabs w) :
    Calls Tryd.prog 11 #[.string (low s)] w fun e w' => e = .returned (.bool (Lib.validD s.data.toList)) ∧ Below w.heap.size w w' :=
  (valid_calls (low s) w hs hT).mono fun e w' ⟨h, b⟩ => ⟨by rw [h, low_toList, valid_lower], b⟩
theorem below_drewN {B : Nat} {a w : World} (h : Below B a w) (n : Nat) : Below B a (w.drewN n) := ⟨h.os, h.tape, h.output, h.size, h.block⟩
theorem beq_selfB (b : Bool) : (b == b) = true := by simp
set_option maxRecDepth 100000 in
set_option maxHeartbeats 2000000 in
theorem runesLowers (s : ByteArray) (hs : s.size ≤ maxLen) (w : World) (hT : Tabs w) : Calls Tryd.prog 5 #[.string s] w fun e w' => e = .returned (.bool true) ∧ Below w.heap.size w w' := by
  have HT := Lib.hid hT
  clear hT
  have hs' := hs
  unfold maxLen at hs'
  have hz := low_size s
  have hz2 : (low s).size ≤ maxLen := by omega
  go_enter Tryd.func5, Tryd.ntmps5
  go_wp2_with fail
  refine (low_calls s _ hs).mono ?_
  rintro e w1 ⟨rfl, b1⟩
  have B1 := Lib.hid b1
  clear b1
  go_wp2_with fail
  refine (low2_calls s _ hz2).mono ?_
  rintro e w2 ⟨rfl, b2⟩
  have B2 := Lib.hid (B1.out.trans (b2.mono B1.out.size))
  clear b2
  go_wp2_with fail
  go_loopw [4] (fun i wr => ∃ k : Nat, k ≤ s.size ∧ i = .int .i64 k ∧ Below w.heap.size w wr) (fun i _ => s.size - (RowKit.intOf i).toNat)
  case atStart => exact ⟨0, by omega, rfl, B2.out⟩
  case round =>
    obtain ⟨k, hk, rfl, hb⟩ := hrel
    have HB := Lib.hid hb
    clear hb
    by_cases hlt : k < s.size
    · have hlt2 : k < (low s).size := by omega
      have hlt' : (k : Int) < (s.size : Int) := by omega
      have hg := low_get s k hlt hlt2
      have hx := s[k].toNat_lt
      have hL := Lib.hid (lowB_low s[k])
      have hN := Lib.hid (lowB_not s[k])
      generalize hxk : s[k] = x at hg hx hL hN
      by_cases c0 : (65 : Int) ≤ (x.toNat : Int)
      · by_cases c1 : (x.toNat : Int) ≤ 90
        · have hy : ((low s)[k].toNat : Int) = (x.toNat : Int) + 32 := by rw [hg]; exact hL.out c0 c1
          clear hg
          go_wp2_with fail
          go_quiet (fail)
          go_wp2_with fail
          go_roundw
          case rel => exact ⟨k + 1, by omega, by go_num, below_drewN HB.out _⟩
          case measure => simp [RowKit.intOf]; omega
        have hy : ((low s)[k].toNat : Int) = (x.toNat : Int) := by rw [hg, hN.out (by omega)]
        have hd : decide ((x.toNat : Int) ≤ 90) = false := by simpa using c1
        clear hg
        go_wp2_with fail
        go_quiet (fail)
        go_wp2_with fail
        go_roundw
        case rel => exact ⟨k + 1, by omega, by go_num, below_drewN HB.out _⟩
        case measure => simp [RowKit.intOf]; omega
      have hy : ((low s)[k].toNat : Int) = (x.toNat : Int) := by rw [hg, hN.out (by omega)]
      have hd : decide ((65 : Int) ≤ (x.toNat : Int)) = false := by simpa using c0
      clear hg
      go_wp2_with fail
      go_quiet (fail)
      go_wp2_with fail
      go_roundw
      case rel => exact ⟨k + 1, by omega, by go_num, below_drewN HB.out _⟩
      case measure => simp [RowKit.intOf]; omega
    · obtain rfl : k = s.size := by omega
      go_wp2_with fail
      refine (lowv_calls s _ (by omega) (tabs_below HT.out HB.out)).mono ?_
      rintro e w3 ⟨rfl, b3⟩
      have B3 := Lib.hid (HB.out.trans (b3.mono HB.out.size))
      clear b3
      go_wp2_with fail
      refine (valid_calls s _ (by omega) (tabs_below HT.out B3.out)).mono ?_
      rintro e w4 ⟨rfl, b4⟩
      have B4 := Lib.hid (B3.out.trans (b4.mono B3.out.size))
      clear b4
      have hbb := beq_selfB (validD s.data.toList)
      go_wp2_with fail
      refine (awake_calls _ (tabs_below HT.out B4.out)).mono ?_
      rintro e w5 ⟨rfl, b5⟩
      have B5 := Lib.hid (B4.out.trans (b5.mono B4.out.size))
      clear b5
      go_wp2_with fail
      go_ret
      exact ⟨rfl, B5.out⟩

/-! ### RunesCleans -/
def cln (s : ByteArray) : ByteArray := ⟨(clean s.data.toList).toArray⟩
theorem cln_toList (s : ByteArray) : (cln s).data.toList = clean s.data.toList := rfl
theorem cln_size (s : ByteArray) : (cln s).size ≤ 3 * s.size := by
  rw [Lib.size_eq, cln_toList, Lib.size_eq]; exact clean_length _
theorem cln_cln (s : ByteArray) : cln (cln s) = cln s := ba_ext (by rw [cln_toList, cln_toList, clean_clean])
theorem cln_valid (s : ByteArray) : validD (cln s).data.toList = true := by rw [cln_toList]; exact clean_valid _
theorem cln_get (s : ByteArray) (i : Nat) (h : i < (cln s).size) : ((cln s)[i].toNat : Int) ≠ 0 ∧ ((cln s)[i].toNat : Int) ≠ 13 := by
  have hm : (cln s)[i] ∈ (cln s).data.toList := Array.getElem_mem_toList (xs := (cln s).data) h
  rw [cln_toList] at hm
  have := clean_mem _ _ hm
  exact ⟨fun e => this.1 ((byte_eq _ 0 (by omega)).2 e), fun e => this.2 ((byte_eq _ 13 (by omega)).2 e)⟩
theorem cln_append (a b : ByteArray) (h : validD a.data.toList = true) (hl : a.data.toList.getLast? ≠ some 13) : cln (a ++ b) = cln a ++ cln b := ba_ext (by
  rw [cln_toList, show (a ++ b).data.toList = a.data.toList ++ b.data.toList by simp, clean_append _ _ h hl]
  simp [cln_toList])
theorem low_append (a b : ByteArray) : low (a ++ b) = low a ++ low b := ba_ext (by
  rw [low_toList, show (a ++ b).data.toList = a.data.toList ++ b.data.toList by simp, lower_append]
  simp [low_toList])
attribute [irreducible] cln
theorem cln_calls (s : ByteArray) (w : World) (hs : s.size ≤ 35184372088832) :
    Calls Tryd.prog 10 #[.string s] w fun e w' => e = .returned (.string (cln s)) ∧ Below w.heap.size w w' :=
  (clean_calls s w hs).mono fun e w' ⟨h, b⟩ => ⟨by rw [h]; unfold cln; rfl, b⟩
theorem cln2_calls (s : ByteArray) (w : World) (hs : (cln s).size ≤ 35184372088832) :
    Calls Tryd.prog 10 #[.string (cln s)] w fun e w' => e = .returned (.string (cln s)) ∧ Below w.heap.size w w' :=
  (cln_calls (cln s) w hs).mono fun e w' ⟨h, b⟩ => ⟨by rw [h, cln_cln], b⟩
theorem clnv_calls (s : ByteArray) (w : World) (hs : (cln s).size ≤ 9223372036854775807) (hT : Tabs w) :
    Calls Tryd.prog 11 #[.string (cln s)] w fun e w' => e = .returned (.bool true) ∧ Below w.heap.size w w' :=
  (valid_calls (cln s) w hs hT).mono fun e w' ⟨h, b⟩ => ⟨by rw [h, cln_valid], b⟩
set_option maxRecDepth 100000 in
set_option maxHeartbeats 2000000 in
theorem runesCleans (s : ByteArray) (hs : s.size ≤ maxLen) (w : World) (hT : Tabs w) : Calls Tryd.prog 3 #[.string s] w fun e w' => e = .returned (.bool true) ∧ Below w.heap.size w w' := by
  have HT := Lib.hid hT
  clear hT
  unfold maxLen at hs
  by_cases hbig : 3000 < s.size
  · have hbig' : (3000 : Int) < (s.size : Int) := by omega
    go_enter Tryd.func3, Tryd.ntmps3
    go_wp2_with fail
    refine (awake_calls _ HT.out).mono ?_
    rintro e w5 ⟨rfl, b5⟩
    go_wp2_with fail
    go_ret
    exact ⟨rfl, b5⟩
  have hz := cln_size s
  have hle : ((cln s).size : Int) ≤ 3 * (s.size : Int) := by omega
  go_enter Tryd.func3, Tryd.ntmps3
  go_wp2_with fail
  refine (cln_calls s _ (by omega)).mono ?_
  rintro e w1 ⟨rfl, b1⟩
  have B1 := Lib.hid b1
  clear b1
  go_wp2_with fail
  go_loop [4] (fun i => ∃ k : Nat, k ≤ (cln s).size ∧ i = .int .i64 k) (fun i => (cln s).size - (RowKit.intOf i).toNat)
  case atStart => exact ⟨0, by omega, rfl⟩
  case round =>
    obtain ⟨k, hk, rfl⟩ := hrel
    by_cases hlt : k < (cln s).size
    · have hlt' : (k : Int) < ((cln s).size : Int) := by omega
      obtain ⟨g0, g13⟩ := cln_get s k hlt
      have t0 : (((cln s)[k].toNat : Int) == 0) = false := beq_eq_false_iff_ne.2 g0
      have t1 : (((cln s)[k].toNat : Int) == 13) = false := beq_eq_false_iff_ne.2 g13
      go_wp2_with fail
      go_round
      case rel => exact ⟨k + 1, by omega, by go_num⟩
      case measure => simp [RowKit.intOf]; omega
    · obtain rfl : k = (cln s).size := by omega
      go_wp2_with fail
      refine (clnv_calls s _ (by omega) (tabs_below HT.out B1.out)).mono ?_
      rintro e w3 ⟨rfl, b3⟩
      have B3 := Lib.hid (B1.out.trans (b3.mono B1.out.size))
      clear b3
      go_wp2_with fail
      refine (cln2_calls s _ (by omega)).mono ?_
      rintro e w4 ⟨rfl, b4⟩
      have B4 := Lib.hid (B3.out.trans (b4.mono B3.out.size))
      clear b4
      go_wp2_with fail
      refine (awake_calls _ (tabs_below HT.out B4.out)).mono ?_
      rintro e w5 ⟨rfl, b5⟩
      have B5 := Lib.hid (B4.out.trans (b5.mono B4.out.size))
      clear b5
      go_wp2_with fail
      go_ret
      exact ⟨rfl, B5.out⟩
end Go.Proofs.YthodiccmanjpkaaDoor.Wk
