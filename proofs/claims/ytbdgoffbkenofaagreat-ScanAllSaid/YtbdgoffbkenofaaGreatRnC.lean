/- The document's Decode, walked (by gen_sd.py, out of the char templates). -/
import Derived.Test.YtbdgoffbkenofaaGreatRef
import Derived.Test.YtbdgoffbkenofaaGreatDec
import Derived.Test.YtbdgoffbkenofaaGreatTkV
import Derived.Test.YtbdgoffbkenofaaGreatTkLow
import Derived.Test.YtbdgoffbkenofaaGreatTkBr
import Derived.WalkSpells
import Derived.WalkLawsBesides
namespace Go.Proofs.YtbdgoffbkenofaaGreat.Ch
open Go Go.RowKit Go.Proofs.YtbdgoffbkenofaaGreat.Sr Go.Proofs.YtbdgoffbkenofaaGreat.Ct
set_option linter.unusedVariables false
set_option maxRecDepth 100000

theorem app_list (a b : ByteArray) : (a ++ b).data.toList = a.data.toList ++ b.data.toList := by rw [ByteArray.data_append, Array.toList_append]
theorem of_list {a : ByteArray} {l : List UInt8} (h : a.data.toList = l) : a = ⟨l.toArray⟩ := by subst h; rfl
theorem str_int {a b : ByteArray} (h : a = b) : Value.string a = .string b := by rw [h]
theorem rdecode_calls (s : ByteArray) (hs : s.size ≤ 1000000) (attr : Bool) (w : World) :
    Calls Tryz.prog 15 #[.string s, .bool attr] w fun e w' => e = .returned (.string (decB s attr)) ∧ Below w.heap.size w w' := by
  go_enter Tryz.func15, Tryz.ntmps15
  go_wp2_with fail
  go_loopw [5, 6, 7, 8, 17] (fun t5 t6 _ _ _ wr => ∃ (k : Nat) (out : ByteArray), t5 = .string out ∧ t6 = .int .i64 k ∧ k ≤ s.size ∧ out.size ≤ 4 * k ∧ Hid (out.data.toList ++ decK s attr k = decK s attr 0 ∧ Below w.heap.size w wr)) (fun _ t6 _ _ _ _ => s.size - (intOf t6).toNat)
  case atStart => exact ⟨0, _, rfl, rfl, Nat.zero_le _, Nat.le_refl _, Lib.hid ⟨rfl, Below.refl _ _⟩⟩
  case round =>
    obtain ⟨k, out, rfl, rfl, hk, hol, HI⟩ := hrel
    by_cases hlt : k < s.size
    · obtain ⟨⟨t, n⟩, hR⟩ : ∃ r, refI s k attr = r := ⟨_, rfl⟩
      obtain ⟨b1, b2, b3, b4⟩ := refI_bd s k attr hlt
      rw [hR] at b1 b2 b3 b4
      replace b1 : k + n ≤ s.size := b1
      replace b2 : t.size ≤ 4 := b2
      have RX := Lib.hid (ref_as _ rref_all s (by omega) k hk attr t n hR)
      obtain ⟨c, hc⟩ : ∃ c, s[k].toNat = c := ⟨_, rfl⟩
      have hi0 : ∀ w : World, (Instr.index 9 (.string s) (.int .i64 (k : Int))).run Tryz.prog w = .ok (.int .u8 c) w := fun w => run_at s k hlt rfl hc w
      by_cases h38 : c = 38
      · subst h38
        have hn := b3 hc
        replace hn : 1 ≤ n := hn
        have HD := Lib.hid (decK_ref (attr := attr) hlt hc)
        have HR := Lib.hid hR
        have hz : out.size + t.size ≤ maxLen := by unfold maxLen; omega
        clear b3 b4 hR hc
        go_wp2_with fail
        refine (RX.out _).mono ?_
        rintro e w1 ⟨rfl, hb⟩
        have HB := Lib.hid hb
        clear hb RX
        go_wp2_with fail
        go_roundw
        case rel => exact ⟨k + n, out ++ t, rfl, by go_num, b1, by rw [ByteArray.size_append]; omega, Lib.hid ⟨by
          have h1 := HI.out.1
          rw [HD.out, HR.out] at h1
          rw [app_list, List.append_assoc]
          exact h1, HI.out.2.trans (HB.out.mono HI.out.2.size)⟩⟩
        case measure => simp [intOf]; omega
      · have HD := Lib.hid (decK_one (attr := attr) hlt (fun e => h38 (hc.symm.trans e)))
        have q38 : ((c : Int) == 38) = false := by rw [beq_eq_false_iff_ne]; omega
        have hz : out.size + (s.extract k (k + 1)).size ≤ maxLen := by unfold maxLen; rw [ByteArray.size_extract]; omega
        clear b3 b4 hR hc h38
        go_wp2_with fail
        go_roundw
        case rel => exact ⟨k + 1, out ++ s.extract k (k + 1), rfl, by go_num, hlt, by rw [ByteArray.size_append, ByteArray.size_extract]; omega, Lib.hid ⟨by
          have h1 := HI.out.1
          rw [HD.out] at h1
          rw [app_list, cut_one s k hlt, List.append_assoc]
          exact h1, HI.out.2⟩⟩
        case measure => simp [intOf]; omega
    · obtain rfl : k = s.size := by omega
      have HE : Hid (out = decB s attr) := Lib.hid (by
        have h1 := HI.out.1
        rw [decK_end (Nat.le_refl _), List.append_nil] at h1
        unfold decB
        exact of_list h1)
      go_wp2_with fail
      go_ret
      exact ⟨Sr.ret_str HE.out, HI.out.2⟩
end Go.Proofs.YtbdgoffbkenofaaGreat.Ch
namespace Go.Proofs.YtbdgoffbkenofaaGreat.Rn
open Go Go.RowKit Go.Proofs.YtbdgoffbkenofaaGreat.Tk Go.Proofs.YtbdgoffbkenofaaGreat.Tr Go.Proofs.YtbdgoffbkenofaaGreat.Ru
set_option linter.unusedVariables false
set_option maxRecDepth 100000

set_option maxHeartbeats 1000000 in
theorem blank_calls (c : Int) (w : World) : Calls Tryz.prog 74 #[.int .u8 c] w (BoolEnd (blankB c) w) := by
  rcases (show c = 9 ∨ c = 10 ∨ c = 12 ∨ c = 32 ∨ ¬ (c = 9 ∨ c = 10 ∨ c = 12 ∨ c = 32) by omega) with rfl | rfl | rfl | rfl | h
  case inr.inr.inr.inr =>
    have t0 : (c == 9) = false := beq_eq_false_iff_ne.2 (by omega)
    have t1 : (c == 10) = false := beq_eq_false_iff_ne.2 (by omega)
    have t2 : (c == 12) = false := beq_eq_false_iff_ne.2 (by omega)
    have t3 : (c == 32) = false := beq_eq_false_iff_ne.2 (by omega)
    have H := Lib.hid (blank_false c h)
    clear h
    go_enter Tryz.func74, Tryz.ntmps74
    go_wp2_with fail
    go_ret
    exact boolEnd H.out
  all_goals
    go_enter Tryz.func74, Tryz.ntmps74
    go_wp2_with fail
    go_ret
    exact boolEnd (by decide)
set_option maxHeartbeats 1000000 in
theorem letter_calls (c : Int) (w : World) : Calls Tryz.prog 44 #[.int .u8 c] w (BoolEnd (letterB c) w) := by
  by_cases h : 97 ≤ c ∧ c ≤ 122
  · obtain ⟨h1, h2⟩ := h
    have H := Lib.hid (letter_up c ⟨h1, h2⟩)
    go_enter Tryz.func44, Tryz.ntmps44
    go_wp2_with fail
    go_ret
    exact boolEnd H.out
  by_cases h' : 65 ≤ c ∧ c ≤ 90
  · obtain ⟨h1, h2⟩ := h'
    have H := Lib.hid (letter_lo c ⟨h1, h2⟩)
    have t0 : decide (97 ≤ c) = false := decide_eq_false (by omega)
    go_enter Tryz.func44, Tryz.ntmps44
    go_wp2_with fail
    go_ret
    exact boolEnd H.out
  have H := Lib.hid (letter_no c h h')
  rcases (show (97 ≤ c ∧ 122 < c) ∨ (c < 97 ∧ 65 ≤ c ∧ 90 < c) ∨ c < 65 by omega) with ⟨a, b⟩ | ⟨a, b, d⟩ | a
  · have t0 : decide (c ≤ 122) = false := decide_eq_false (by omega)
    have t1 : (65 : Int) ≤ c := by omega
    have t2 : decide (c ≤ 90) = false := decide_eq_false (by omega)
    go_enter Tryz.func44, Tryz.ntmps44
    go_wp2_with fail
    go_ret
    exact boolEnd H.out
  · have t0 : decide (97 ≤ c) = false := decide_eq_false (by omega)
    have t2 : decide (c ≤ 90) = false := decide_eq_false (by omega)
    go_enter Tryz.func44, Tryz.ntmps44
    go_wp2_with fail
    go_ret
    exact boolEnd H.out
  · have t0 : decide (97 ≤ c) = false := decide_eq_false (by omega)
    have t2 : decide (65 ≤ c) = false := decide_eq_false (by omega)
    go_enter Tryz.func44, Tryz.ntmps44
    go_wp2_with fail
    go_ret
    exact boolEnd H.out
theorem rblank (c : Nat) (w : World) : Calls Tryz.prog 74 #[.int .u8 (c : Int)] w fun e w' => e = .returned (.bool (blankN c)) ∧ w = w' := by
  rw [← blankN_eq]; exact blank_calls c w
theorem rletter (c : Nat) (w : World) : Calls Tryz.prog 44 #[.int .u8 (c : Int)] w fun e w' => e = .returned (.bool (letterN c)) ∧ w = w' := by
  rw [← letterN_eq]; exact letter_calls c w
theorem rlower (s : ByteArray) (hs : s.size ≤ 1000000000) (w : World) : Calls Tryz.prog 11 #[.string s] w fun e w' => e = .returned (.string (lowS s)) ∧ Below w.heap.size w w' :=
  Ru.rlower_calls s w (Nat.le_trans hs (by decide))
def hasR (s : ByteArray) (a : Nat) (t : ByteArray) : Bool := decide (a + t.size ≤ s.size) && decide (lowS (s.extract a (a + t.size)) = t)
theorem has_calls (s t : ByteArray) (hs : s.size ≤ 1000000) (ht : t.size ≤ 1000000) (a : Nat) (ha : a ≤ s.size) (w : World) :
    Calls Tryz.prog 50 #[.string s, .int .i64 (a : Int), .string t] w fun e w' => e = .returned (.bool (hasR s a t)) ∧ Below w.heap.size w w' := by
  have HL1 := Lib.hid (rlower (s.extract a (a + t.size)) (by have := ext_size s a (a + t.size); omega))
  have q := Sr.str_eq (lowS (s.extract a (a + t.size))) t
  have hw1 : IntKind.i64.wrap ((s.size : Int) - (a : Int)) = (s.size : Int) - (a : Int) := IntWalk.i64_in _ (by omega)
  have hw2 : IntKind.i64.wrap ((a : Int) + (t.size : Int)) = (a : Int) + (t.size : Int) := IntWalk.i64_in _ (by omega)
  have h0 : (0 : Int) ≤ (a : Int) := by omega
  by_cases h : a + t.size ≤ s.size
  · have HV := Lib.hid (show hasR s a t = decide (lowS (s.extract a (a + t.size)) = t) by unfold hasR; rw [decide_eq_true h]; rfl)
    have h1 : (t.size : Int) ≤ (s.size : Int) - (a : Int) := by omega
    have h2 : (a : Int) + (t.size : Int) ≤ (s.size : Int) := by omega
    have h3 : (a : Int) ≤ (a : Int) + (t.size : Int) := by omega
    generalize lowS (s.extract a (a + t.size)) = l1 at *
    clear h
    go_enter Tryz.func50, Tryz.ntmps50
    go_wp2_with fail
    refine (HL1.out _).mono ?_
    rintro e w2 ⟨rfl, hb2⟩
    have HB2 := Lib.hid hb2
    clear hb2
    go_wp2_with fail
    go_ret
    exact ⟨by rw [HV.out]; rfl, HB2.out⟩
  · have HV := Lib.hid (show hasR s a t = false by unfold hasR; rw [decide_eq_false h]; rfl)
    have h1 : decide ((t.size : Int) ≤ (s.size : Int) - (a : Int)) = false := decide_eq_false (by omega)
    clear h q HL1
    go_enter Tryz.func50, Tryz.ntmps50
    go_wp2_with fail
    go_ret
    exact ⟨by rw [HV.out]; rfl, Below.refl _ _⟩
def findR (s : ByteArray) (a : Nat) (t : ByteArray) : Nat := upI (fun i => hasR s i t) (s.size - a) a
theorem findR_end {s t : ByteArray} {a : Nat} (h : s.size ≤ a) : findR s a t = a := by unfold findR; rw [show s.size - a = 0 by omega]; rfl
theorem findR_here {s t : ByteArray} {a : Nat} (h : a < s.size) (hp : hasR s a t = true) : findR s a t = a := by
  unfold findR; rw [show s.size - a = (s.size - (a + 1)) + 1 by omega]; exact upI_here hp
theorem findR_next {s t : ByteArray} {a : Nat} (h : a < s.size) (hp : hasR s a t = false) : findR s a t = findR s (a + 1) t := by
  unfold findR; rw [show s.size - a = (s.size - (a + 1)) + 1 by omega]; exact upI_next hp
theorem findR_ge (s t : ByteArray) (a : Nat) : a ≤ findR s a t := upI_ge _ _ _
theorem findR_le {s t : ByteArray} {a : Nat} (h : a ≤ s.size) : findR s a t ≤ s.size := by have := upI_le (fun i => hasR s i t) (s.size - a) a; unfold findR; omega
set_option maxHeartbeats 2000000 in
theorem find_calls (s t : ByteArray) (hs : s.size ≤ 1000000) (ht : t.size ≤ 1000000) (a : Nat) (ha : a ≤ s.size) (w : World) :
    Calls Tryz.prog 80 #[.string s, .int .i64 (a : Int), .string t] w fun e w' => e = .returned (.int .i64 (findR s a t : Nat)) ∧ Below w.heap.size w w' := by
  have HS := Lib.hid hs
  have HA := Lib.hid ha
  have HH := Lib.hid (fun (k : Nat) (hk : k ≤ s.size) => has_calls s t hs ht k hk)
  clear hs ha ht
  go_enter Tryz.func80, Tryz.ntmps80
  go_wp2_with fail
  go_loopw [7] (fun i wr => ∃ k : Nat, Hid (a ≤ k) ∧ Hid (k ≤ s.size) ∧ i = .int .i64 (k : Int) ∧ Hid (findR s a t = findR s k t) ∧ Hid (Below w.heap.size w wr)) (fun i _ => s.size - (intOf i).toNat)
  case atStart => exact ⟨a, Lib.hid (Nat.le_refl _), HA, rfl, Lib.hid rfl, Lib.hid (Below.refl _ _)⟩
  case round =>
    obtain ⟨k, HK1, HK2, rfl, HE, HB⟩ := hrel
    by_cases hlt : k < s.size
    · have hz : (k : Int) < (s.size : Int) := by omega
      have HX := Lib.hid (HH.out k (by omega) wr)
      have HLT := Lib.hid hlt
      cases hpc : hasR s k t with
      | true =>
        have HR := Lib.hid (HE.out.trans (findR_here hlt hpc))
        rw [hpc] at HX
        clear hpc hlt
        go_wp2_with fail
        refine HX.out.mono ?_
        rintro e w2 ⟨rfl, hb2⟩
        have HB2 := Lib.hid (HB.out.trans (hb2.mono HB.out.size))
        clear hb2
        go_wp2_with fail
        go_ret
        exact ⟨by rw [HR.out]; rfl, HB2.out⟩
      | false =>
        have HR := Lib.hid (HE.out.trans (findR_next hlt hpc))
        rw [hpc] at HX
        have hw : IntKind.i64.wrap ((k : Int) + 1) = (k : Int) + 1 := IntWalk.i64_in _ (by have := HS.out; omega)
        have HW := Lib.hid (show (k : Int) + 1 = ((k + 1 : Nat) : Int) by omega)
        have HK3 : Hid (a ≤ k + 1) := Lib.hid (by have := HK1.out; omega)
        have HK4 : Hid (k + 1 ≤ s.size) := Lib.hid (by have := HLT.out; omega)
        clear hpc hlt
        go_wp2_with fail
        refine HX.out.mono ?_
        rintro e w2 ⟨rfl, hb2⟩
        have HB2 := Lib.hid (HB.out.trans (hb2.mono HB.out.size))
        clear hb2
        go_wp2_with fail
        go_roundw
        case rel => exact ⟨k + 1, HK3, HK4, by rw [HW.out], HR, HB2⟩
        case measure => simp [intOf]; have := HLT.out; omega
    · have hz : ¬ ((k : Int) < (s.size : Int)) := by omega
      have ek : k = s.size := by have := HK2.out; omega
      have HR := Lib.hid (show findR s a t = s.size from (HE.out.trans (findR_end (by omega))).trans ek)
      clear hlt ek
      go_wp2_with fail
      go_ret
      exact ⟨by rw [HR.out]; rfl, HB.out⟩
theorem letter_at (s : ByteArray) (hs : s.size ≤ 1000000) (a : Nat) (ha : a ≤ 2000000) (w : World) :
    Calls Tryz.prog 48 #[.string s, .int .i64 (a : Int)] w fun e w' => e = .returned (.bool (letterAt s a)) ∧ w = w' := by
  by_cases h : a < s.size
  · have HL := Lib.hid (rletter (bAt s a))
    have HV := Lib.hid (show letterAt s a = letterN (bAt s a) by unfold letterAt; rw [decide_eq_true h]; rfl)
    rw [bAt_in h] at HL HV
    have hz : (a : Int) < (s.size : Int) := by omega
    go_enter Tryz.func48, Tryz.ntmps48
    go_wp2_with fail
    refine (HL.out _).mono ?_
    rintro e w2 ⟨rfl, rfl⟩
    go_wp2_with fail
    go_ret
    exact ⟨by rw [HV.out]; rfl, rfl⟩
  · have HV := Lib.hid (show letterAt s a = false by unfold letterAt; rw [decide_eq_false h]; rfl)
    have hz : ¬ (a : Int) < (s.size : Int) := by omega
    clear h
    go_enter Tryz.func48, Tryz.ntmps48
    go_wp2_with fail
    go_ret
    exact ⟨by rw [HV.out]; rfl, rfl⟩
set_option maxHeartbeats 2000000 in
theorem blanks_calls (s : ByteArray) (hs : s.size ≤ 1000000) (a : Nat) (ha : a ≤ 2000000) (w : World) :
    Calls Tryz.prog 77 #[.string s, .int .i64 (a : Int)] w fun e w' => e = .returned (.int .i64 (pastP s a : Nat)) ∧ w = w' := by
  have HS := Lib.hid hs
  have HA := Lib.hid ha
  clear hs ha
  go_enter Tryz.func77, Tryz.ntmps77
  go_wp2_with fail
  go_loopw [1] (fun i wr => ∃ k : Nat, Hid (a ≤ k) ∧ Hid (k ≤ 2000000) ∧ i = .int .i64 (k : Int) ∧ Hid (pastP s a = pastP s k) ∧ Hid (w = wr)) (fun i _ => s.size - (intOf i).toNat)
  case atStart => exact ⟨a, Lib.hid (Nat.le_refl _), HA, rfl, Lib.hid rfl, Lib.hid rfl⟩
  case round =>
    obtain ⟨k, HK1, HK2, rfl, HE, HB⟩ := hrel
    by_cases hlt : k < s.size
    · have hz : (k : Int) < (s.size : Int) := by omega
      have HX := Lib.hid (rblank (bAt s k) wr)
      have hbk := bAt_in hlt
      have HLT := Lib.hid hlt
      cases hpc : blankN (bAt s k) with
      | false =>
        have HR := Lib.hid (HE.out.trans (upT_here (p := fun c => !blankN c) hlt (by rw [hpc]; rfl)))
        rw [hpc, hbk] at HX
        clear hpc hbk
        go_wp2_with fail
        refine HX.out.mono ?_
        rintro e w2 ⟨rfl, rfl⟩
        go_wp2_with fail
        go_ret
        exact ⟨by rw [HR.out]; rfl, HB.out⟩
      | true =>
        have HR := Lib.hid (HE.out.trans (upT_next (p := fun c => !blankN c) hlt (by rw [hpc]; rfl)))
        rw [hpc, hbk] at HX
        have hw : IntKind.i64.wrap ((k : Int) + 1) = (k : Int) + 1 := IntWalk.i64_in _ (by have := HS.out; omega)
        have HW := Lib.hid (show (k : Int) + 1 = ((k + 1 : Nat) : Int) by omega)
        have HK3 : Hid (a ≤ k + 1) := Lib.hid (by have := HK1.out; omega)
        have HK4 : Hid (k + 1 ≤ 2000000) := Lib.hid (by have := HLT.out; have := HS.out; omega)
        clear hpc hbk
        go_wp2_with fail
        refine HX.out.mono ?_
        rintro e w2 ⟨rfl, rfl⟩
        go_wp2_with fail
        go_roundw
        case rel => exact ⟨k + 1, HK3, HK4, by rw [HW.out], HR, HB⟩
        case measure => simp [intOf]; have := HLT.out; omega
    · have hz : ¬ (k : Int) < (s.size : Int) := by omega
      have HR := Lib.hid (show pastP s a = k from HE.out.trans (upT_end (by omega)))
      clear hlt
      go_wp2_with fail
      go_ret
      exact ⟨by rw [HR.out]; rfl, HB.out⟩
end Go.Proofs.YtbdgoffbkenofaaGreat.Rn
namespace Go.Proofs.YtbdgoffbkenofaaGreat.Rn
open Go Go.RowKit Go.Lib Go.Proofs.YtbdgoffbkenofaaGreat.Tk Go.Proofs.YtbdgoffbkenofaaGreat.Tr
set_option linter.unusedVariables false
set_option maxRecDepth 100000

def endsR (s : ByteArray) (i : Nat) (r : ByteArray) : Bool := hasR s i ((⟨#[60, 47]⟩ : ByteArray) ++ r) && decide (i + 2 + r.size < s.size) && closesN (bAt s (i + 2 + r.size))
set_option maxHeartbeats 4000000 in
theorem ends_calls (s r : ByteArray) (hs : s.size ≤ 900000) (hr : r.size ≤ 900000) (a : Nat) (ha : a ≤ s.size) (w : World) :
    Calls Tryz.prog 46 #[.string s, .int .i64 (a : Int), .string r] w fun e w' => e = .returned (.bool (endsR s a r)) ∧ Below w.heap.size w w' := by
  have HH := Lib.hid (has_calls s ((⟨#[60, 47]⟩ : ByteArray) ++ r) (by omega) (by rw [ByteArray.size_append]; show 2 + r.size ≤ _; omega) a ha)
  have hw1 : IntKind.i64.wrap ((a : Int) + 2) = (a : Int) + 2 := IntWalk.i64_in _ (by omega)
  have hw2 : IntKind.i64.wrap ((a : Int) + 2 + (r.size : Int)) = (a : Int) + 2 + (r.size : Int) := IntWalk.i64_in _ (by omega)
  have hzz : ((⟨#[60, 47]⟩ : ByteArray) ++ r).size = 2 + r.size := by rw [ByteArray.size_append]; rfl
  have hsm : r.size ≤ 900000 := hr
  cases hh : hasR s a ((⟨#[60, 47]⟩ : ByteArray) ++ r) with
  | false =>
    have HV := Lib.hid (show endsR s a r = false by unfold endsR; rw [hh]; rfl)
    rw [hh] at HH
    clear hh
    go_enter Tryz.func46, Tryz.ntmps46
    go_wp2_with fail
    refine (HH.out _).mono ?_
    rintro e w2 ⟨rfl, hb2⟩
    have HB2 := Lib.hid hb2
    clear hb2
    go_wp2_with fail
    go_ret
    exact ⟨by rw [HV.out]; rfl, HB2.out⟩
  | true =>
    rw [hh] at HH
    by_cases hk : a + 2 + r.size < s.size
    · have hz : (a : Int) + 2 + (r.size : Int) < (s.size : Int) := by omega
      have hbk := bAt_in hk
      have HV := Lib.hid (show endsR s a r = closesN (bAt s (a + 2 + r.size)) by unfold endsR; rw [hh, decide_eq_true hk]; rfl)
      have HBL := Lib.hid (rblank (bAt s (a + 2 + r.size)))
      unfold closesN at HV
      have q1 : ((bAt s (a + 2 + r.size) : Int) == 47) = decide (bAt s (a + 2 + r.size) = 47) := eq_nat (bAt s (a + 2 + r.size)) 47
      have q2 : ((bAt s (a + 2 + r.size) : Int) == 62) = decide (bAt s (a + 2 + r.size) = 62) := eq_nat (bAt s (a + 2 + r.size)) 62
      generalize blankN (bAt s (a + 2 + r.size)) = b0 at *
      generalize decide (bAt s (a + 2 + r.size) = 47) = b1 at *
      generalize decide (bAt s (a + 2 + r.size) = 62) = b2 at *
      rw [hbk] at HBL q1 q2
      have hidx : ((a : Int) + 2 + (r.size : Int)).toNat = a + 2 + r.size := by omega
      clear hh hbk
      go_enter Tryz.func46, Tryz.ntmps46
      cases b0 <;> cases b1 <;> cases b2 <;> (
        go_wp2_with fail
        refine (HH.out _).mono ?_
        rintro e w2 ⟨rfl, hb2⟩
        have HB2 := Lib.hid hb2
        clear hb2
        go_wp2_with fail
        refine (HBL.out _).mono ?_
        rintro e w3 ⟨rfl, rfl⟩
        go_wp2_with fail
        go_ret
        exact ⟨by rw [HV.out]; rfl, HB2.out⟩)
    · have hz : decide ((a : Int) + 2 + (r.size : Int) < (s.size : Int)) = false := decide_eq_false (by omega)
      have HV := Lib.hid (show endsR s a r = false by unfold endsR; rw [hh, decide_eq_false hk]; rfl)
      clear hh hk
      go_enter Tryz.func46, Tryz.ntmps46
      go_wp2_with fail
      refine (HH.out _).mono ?_
      rintro e w2 ⟨rfl, hb2⟩
      have HB2 := Lib.hid hb2
      clear hb2
      go_wp2_with fail
      go_ret
      exact ⟨by rw [HV.out]; rfl, HB2.out⟩
/-- Is a byte one of these signs? -/
def sgN (sg : ByteArray) (c : Nat) : Bool := decide (∃ i, i < sg.size ∧ bAt sg i = c)
def upR (sg s : ByteArray) (a : Nat) : Nat := upT (fun c => blankN c || sgN sg c) s a
set_option maxHeartbeats 4000000 in
theorem upto_calls (s sg : ByteArray) (hs : s.size ≤ 1000000) (hg : sg.size ≤ 1000) (a : Nat) (ha : a ≤ 2000000) (w : World) :
    Calls Tryz.prog 75 #[.string s, .int .i64 (a : Int), .string sg] w fun e w' => e = .returned (.int .i64 (upR sg s a : Nat)) ∧ Below w.heap.size w w' := by
  have HS := Lib.hid hs
  have HA := Lib.hid ha
  have HG := Lib.hid hg
  clear hs ha hg
  go_enter Tryz.func75, Tryz.ntmps75
  go_wp2_with fail
  go_loopw [1] (fun i wr => ∃ k : Nat, Hid (a ≤ k) ∧ Hid (k ≤ 2000000) ∧ i = .int .i64 (k : Int) ∧ Hid (upR sg s a = upR sg s k) ∧ Hid (Below w.heap.size w wr)) (fun i _ => s.size - (RowKit.intOf i).toNat)
  case atStart => exact ⟨a, Lib.hid (Nat.le_refl _), HA, rfl, Lib.hid rfl, Lib.hid (Below.refl _ _)⟩
  case round =>
    obtain ⟨k, HK1, HK2, rfl, HE, HB⟩ := hrel
    by_cases hlt : k < s.size
    · have hz : (k : Int) < (s.size : Int) := by omega
      have HX := Lib.hid (rblank (bAt s k) wr)
      have hbk := bAt_in hlt
      have HLT := Lib.hid hlt
      have HH := Lib.hid (upT_here (p := fun c => blankN c || sgN sg c) hlt)
      have HN := Lib.hid (upT_next (p := fun c => blankN c || sgN sg c) hlt)
      cases hpc : blankN (bAt s k) with
      | true =>
        have HR := Lib.hid (HE.out.trans (HH.out (by rw [hpc]; rfl)))
        rw [hpc, hbk] at HX
        clear hpc hbk HH HN
        go_wp2_with fail
        refine HX.out.mono ?_
        rintro e w2 ⟨rfl, rfl⟩
        go_wp2_with fail
        go_ret
        exact ⟨by rw [HR.out]; rfl, HB.out⟩
      | false =>
        replace HH := Lib.hid (show sgN sg (bAt s k) = true → upR sg s a = k from fun h => HE.out.trans (HH.out (by rw [hpc, h]; rfl)))
        replace HN := Lib.hid (show sgN sg (bAt s k) = false → upR sg s a = upR sg s (k + 1) from fun h => HE.out.trans (HN.out (by rw [hpc, h]; rfl)))
        rw [hpc, hbk] at HX
        have hw : IntKind.i64.wrap ((k : Int) + 1) = (k : Int) + 1 := IntWalk.i64_in _ (by have := HS.out; omega)
        have HW := Lib.hid (show (k : Int) + 1 = ((k + 1 : Nat) : Int) by omega)
        have HK3 : Hid (a ≤ k + 1) := Lib.hid (by have := HK1.out; omega)
        have HK4 : Hid (k + 1 ≤ 2000000) := Lib.hid (by have := HLT.out; have := HS.out; omega)
        have HBK := Lib.hid hbk
        clear hpc hbk
        go_wp2_with fail
        refine HX.out.mono ?_
        rintro e w2 ⟨rfl, rfl⟩
        go_wp2_with fail
        go_loopw [7] (fun t7 wr => ∃ i : Nat, t7 = .int .i64 (i : Int) ∧ Hid (i ≤ sg.size) ∧ Hid (∀ j, j < i → bAt sg j ≠ bAt s k) ∧ Hid (Below w.heap.size w wr)) (fun t7 _ => sg.size - (RowKit.intOf t7).toNat)
        case atStart => exact ⟨0, rfl, Lib.hid (Nat.zero_le _), Lib.hid (fun j hj => by omega), HB⟩
        case round =>
          obtain ⟨i, rfl, HI, HNO, HB⟩ := hrel
          by_cases hi : i < sg.size
          · have hiz : (i : Int) < (sg.size : Int) := by omega
            have hib := bAt_in hi
            have HIL := Lib.hid hi
            have hwi : IntKind.i64.wrap ((i : Int) + 1) = (i : Int) + 1 := IntWalk.i64_in _ (by have := HG.out; omega)
            have hwi0 : IntKind.i64.wrap (i : Int) = (i : Int) := IntWalk.i64_in _ (by have := HG.out; omega)
            have hwk0 : IntKind.i64.wrap (k : Int) = (k : Int) := IntWalk.i64_in _ (by have := HS.out; omega)
            by_cases hc : bAt s k = bAt sg i
            · have q : (((s[k]'hlt).toNat : Int) == ((sg[i]'hi).toNat : Int)) = true := by rw [← bAt_in hlt, ← hib, hc]; exact beq_self_eq_true _
              have HV := Lib.hid (HH.out (decide_eq_true ⟨i, hi, hc.symm⟩))
              clear hc hib
              go_wp2_with fail
              refine wp_region_quiet_below mixedT (by kernel_rfl) ?_
              repeat (go_big_quiet_step (fail))
              refine wpQuiet_nil ?_
              rintro w5 ⟨gg, hgg⟩
              have hb5 : Below wr.heap.size wr w5 := hgg ▸ below_regrown wr gg.d gg.os
              have HB6 := Lib.hid (HB.out.trans (hb5.mono HB.out.size))
              clear hgg gg hb5
              go_wp2_with fail
              go_ret
              exact ⟨by rw [HV.out]; rfl, HB6.out⟩
            · have q : (((s[k]'hlt).toNat : Int) == ((sg[i]'hi).toNat : Int)) = false := by rw [← bAt_in hlt, ← hib, beq_eq_false_iff_ne]; omega
              have HNO2 : Hid (∀ j, j < i + 1 → bAt sg j ≠ bAt s k) := Lib.hid (fun j hj => by
                rcases Nat.lt_succ_iff_lt_or_eq.1 hj with h | rfl
                · exact HNO.out j h
                · exact fun e => hc e.symm)
              clear hc hib
              go_wp2_with fail
              refine wp_region_quiet_below mixedT (by kernel_rfl) ?_
              repeat (go_big_quiet_step (fail))
              refine wpQuiet_nil ?_
              rintro w5 ⟨gg, hgg⟩
              have hb5 : Below wr.heap.size wr w5 := hgg ▸ below_regrown wr gg.d gg.os
              have HB6 := Lib.hid (HB.out.trans (hb5.mono HB.out.size))
              clear hgg gg hb5
              go_wp2_with fail
              go_roundw
              case rel => exact ⟨i + 1, by go_num, Lib.hid HIL.out, HNO2, HB6⟩
              case measure => simp [RowKit.intOf]; have := HIL.out; omega
          · have hiz : ¬ (i : Int) < (sg.size : Int) := by omega
            have HV := Lib.hid (HN.out (decide_eq_false (fun ⟨j, h1, h2⟩ => HNO.out j (by have := HI.out; omega) h2)))
            clear hi
            go_wp2_with fail
            go_roundw
            case rel => exact ⟨k + 1, HK3, HK4, by rw [HW.out], HV, HB⟩
            case measure => simp [RowKit.intOf]; have := HLT.out; omega
    · have hz : ¬ (k : Int) < (s.size : Int) := by omega
      have HR := Lib.hid (show upR sg s a = k from HE.out.trans (upT_end (by omega)))
      clear hlt
      go_wp2_with fail
      go_ret
      exact ⟨by rw [HR.out]; rfl, HB.out⟩
end Go.Proofs.YtbdgoffbkenofaaGreat.Rn
namespace Go.Proofs.YtbdgoffbkenofaaGreat.Rn
open Go Go.RowKit Go.Proofs.YtbdgoffbkenofaaGreat.Tk Go.Proofs.YtbdgoffbkenofaaGreat.Tr
set_option linter.unusedVariables false
set_option maxRecDepth 100000

def gtB : ByteArray := ⟨#[62]⟩
def bogusR (s : ByteArray) (a : Nat) : Out := (commTok (s.extract a (findR s a ⟨#[62]⟩)), min (findR s a ⟨#[62]⟩ + 1) s.size, true)
set_option maxHeartbeats 2000000 in
theorem rbogus_calls (s : ByteArray) (hs : s.size ≤ 1000000) (a : Nat) (ha : a ≤ s.size) (w : World) :
    Calls Tryz.prog 53 #[.string s, .int .i64 (a : Int)] w (TokEnd (bogusR s a) w) := by
  have HC := Lib.hid (find_calls s ⟨#[62]⟩ hs (by decide) a ha)
  have h1 : a ≤ findR s a ⟨#[62]⟩ := findR_ge _ _ _
  have h2 : findR s a ⟨#[62]⟩ ≤ s.size := findR_le ha
  unfold bogusR
  generalize findR s a ⟨#[62]⟩ = c at *
  have hw : IntKind.i64.wrap ((c : Int) + 1) = (c : Int) + 1 := IntWalk.i64_in _ (by omega)
  have h3 : (a : Int) ≤ (c : Int) := by omega
  have h4 : (c : Int) ≤ (s.size : Int) := by omega
  have HM := Lib.hid (show ((min (c + 1) s.size : Nat) : Int) = min ((c : Int) + 1) (s.size : Int) by omega)
  have HB1 : Hid (Below w.heap.size w (w.alloc (.cells zeroTok 27))) := Lib.hid ((Below.refl _ w).alloc (Nat.le_refl _) _)
  have HL1 := Lib.hid (alloc_new w (.cells zeroTok 27))
  unfold zeroTok at HB1 HL1
  clear h1 h2
  go_enter Tryz.func53, Tryz.ntmps53
  go_wp2_with fail
  refine (HC.out _).mono ?_
  rintro e w2 ⟨rfl, hb2⟩
  have HB2 := Lib.hid (HB1.out.trans (hb2.mono HB1.out.size))
  have hl2 := (hb2.block _ (lt_of_block HL1.out)).trans HL1.out
  have HL2 := Lib.hid hl2
  obtain ⟨b0, b1, b2, b3, b4⟩ := tbox5 hl2
  obtain ⟨f0, f1, f2, f3, f4⟩ := tfrz5 hl2
  clear hb2 hl2
  go_wp2_with fail
  exact tok_post (commTok (s.extract a c), min (c + 1) s.size, true) w 4 5 6 w.heap.size none 0 rfl rfl (by show _ = Value.int .i64 ((min (c + 1) s.size : Nat) : Int); rw [HM.out]; rfl) rfl (set5_blk HL2.out _ _ _ _ _) (isAttrs_nil _ _) (HB2.out.trans (set5_below (Nat.le_refl _) _ _ _ _ _)) (fun _ h => nomatch h)
def doctypeR (s : ByteArray) (a : Nat) : Out :=
  (⟨5, lowS (s.extract (pastP s a) (upR ⟨#[62]⟩ s (pastP s a))), ⟨#[]⟩, [], false⟩, min (findR s (upR ⟨#[62]⟩ s (pastP s a)) ⟨#[62]⟩ + 1) s.size, true)
set_option maxHeartbeats 4000000 in
theorem rdoctype_calls (s : ByteArray) (hs : s.size ≤ 1000000) (a : Nat) (ha : a ≤ s.size) (w : World) :
    Calls Tryz.prog 52 #[.string s, .int .i64 (a : Int)] w (TokEnd (doctypeR s a) w) := by
  have HP := Lib.hid (blanks_calls s (by omega) a (by omega))
  have hb0 : a ≤ pastP s a := upT_ge _ _ _
  have hb1 : pastP s a ≤ s.size := upT_le _ ha
  have HU := Lib.hid (upto_calls s ⟨#[62]⟩ (by omega) (by decide) (pastP s a) (by omega))
  have he0 : pastP s a ≤ upR ⟨#[62]⟩ s (pastP s a) := upT_ge _ _ _
  have he1 : upR ⟨#[62]⟩ s (pastP s a) ≤ s.size := upT_le _ hb1
  unfold doctypeR
  generalize pastP s a = b at *
  generalize upR ⟨#[62]⟩ s b = e at *
  have HC := Lib.hid (find_calls s ⟨#[62]⟩ hs (by decide) e he1)
  have h1 : e ≤ findR s e ⟨#[62]⟩ := findR_ge _ _ _
  have h2 : findR s e ⟨#[62]⟩ ≤ s.size := findR_le he1
  generalize findR s e ⟨#[62]⟩ = c at *
  have HLW := Lib.hid (rlower (s.extract b e) (by have := ext_size s b e; omega))
  generalize lowS (s.extract b e) = x at *
  have hw : IntKind.i64.wrap ((c : Int) + 1) = (c : Int) + 1 := IntWalk.i64_in _ (by omega)
  have HM := Lib.hid (show ((min (c + 1) s.size : Nat) : Int) = min ((c : Int) + 1) (s.size : Int) by omega)
  have h3 : (b : Int) ≤ (e : Int) := by omega
  have h4 : (e : Int) ≤ (s.size : Int) := by omega
  have HB1 : Hid (Below w.heap.size w (w.alloc (.cells zeroTok 27))) := Lib.hid ((Below.refl _ w).alloc (Nat.le_refl _) _)
  have HL1 := Lib.hid (alloc_new w (.cells zeroTok 27))
  unfold zeroTok at HB1 HL1
  clear hb0 hb1 he0 he1 h1 h2
  go_enter Tryz.func52, Tryz.ntmps52
  go_wp2_with fail
  refine (HP.out _).mono ?_
  rintro e w2 ⟨rfl, hw2⟩
  have HB2 := Lib.hid (hw2 ▸ HB1.out)
  have HL2 := Lib.hid (hw2 ▸ HL1.out)
  clear hw2
  go_wp2_with fail
  refine (HU.out _).mono ?_
  rintro e w3 ⟨rfl, hb3⟩
  have HB3 := Lib.hid (HB2.out.trans (hb3.mono HB2.out.size))
  have HL3 := Lib.hid ((hb3.block _ (lt_of_block HL2.out)).trans HL2.out)
  clear hb3
  go_wp2_with fail
  refine (HC.out _).mono ?_
  rintro e w4 ⟨rfl, hb4⟩
  have HB4 := Lib.hid (HB3.out.trans (hb4.mono HB3.out.size))
  have HL4 := Lib.hid ((hb4.block _ (lt_of_block HL3.out)).trans HL3.out)
  clear hb4
  go_wp2_with fail
  refine (HLW.out _).mono ?_
  rintro e w5 ⟨rfl, hb5⟩
  have HB5 := Lib.hid (HB4.out.trans (hb5.mono HB4.out.size))
  have hl5 := (hb5.block _ (lt_of_block HL4.out)).trans HL4.out
  have HL5 := Lib.hid hl5
  obtain ⟨b0, b1, b2, b3, b4⟩ := tbox5 hl5
  obtain ⟨f0, f1, f2, f3, f4⟩ := tfrz5 hl5
  clear hb5 hl5
  go_wp2_with fail
  exact tok_post (⟨5, x, ⟨#[]⟩, [], false⟩, min (c + 1) s.size, true) w 4 5 6 w.heap.size none 0 rfl rfl (by show _ = Value.int .i64 ((min (c + 1) s.size : Nat) : Int); rw [HM.out]; rfl) rfl (set5_blk HL5.out _ _ _ _ _) (isAttrs_nil _ _) (HB5.out.trans (set5_below (Nat.le_refl _) _ _ _ _ _)) (fun _ h => nomatch h)
theorem rblankB (c : Nat) (w : World) : Calls Tryz.prog 74 #[.int .u8 (c : Int)] w fun e w' => e = .returned (.bool (blankN c)) ∧ Below w.heap.size w w' :=
  (rblank c w).mono fun e w' ⟨h1, h2⟩ => ⟨h1, h2 ▸ Below.refl _ _⟩
def cutR (s : ByteArray) (p : Nat) (b : Bool) (k : Nat) : Nat := upT (fun c => decide (c = 60) || (blankN c != b)) s k
def textR (s : ByteArray) (a : Nat) : Out := (textTok (Ch.decB (s.extract a (cutR s a (blankN (bAt s a)) a)) false) false, cutR s a (blankN (bAt s a)) a, true)
set_option maxHeartbeats 4000000 in
theorem rtext_calls (s : ByteArray) (hs : s.size ≤ 1000000) (a : Nat) (ha : a < s.size) (w : World) :
    Calls Tryz.prog 47 #[.string s, .int .i64 (a : Int)] w (TokEnd (textR s a) w) := by
  have HA := Lib.hid ha
  have HS := Lib.hid hs
  have HBA := Lib.hid (rblankB (bAt s a))
  have h1 : a ≤ cutR s a (blankN (bAt s a)) a := upT_ge _ _ _
  have h2 : cutR s a (blankN (bAt s a)) a ≤ s.size := upT_le _ (by omega)
  unfold textR
  generalize blankN (bAt s a) = b at *
  obtain ⟨ca, hca⟩ : ∃ ca, (s[a]'ha).toNat = ca := ⟨_, rfl⟩
  rw [bAt_in ha, hca] at HBA
  have hia : ∀ w : World, (Instr.index 9 (.string s) (.int .i64 (a : Int))).run Tryz.prog w = .ok (.int .u8 ca) w := fun w => Ch.run_at s a ha rfl hca w
  obtain ⟨e, he⟩ : ∃ e, cutR s a b a = e := ⟨_, rfl⟩
  rw [he] at h1 h2 ⊢
  have HE := Lib.hid he
  have h3 : (a : Int) ≤ (e : Int) := by omega
  have h4 : (e : Int) ≤ (s.size : Int) := by omega
  have HD := Lib.hid (Ch.rdecode_calls (s.extract a e) (Nat.le_trans (ext_size s a e) (by omega)) false)
  generalize Ch.decB (s.extract a e) false = dv at *
  have HB1 : Hid (Below w.heap.size w (w.alloc (.cells zeroTok 27))) := Lib.hid ((Below.refl _ w).alloc (Nat.le_refl _) _)
  have HL1 := Lib.hid (alloc_new w (.cells zeroTok 27))
  unfold zeroTok at HB1 HL1
  have haz : (a : Int) < (s.size : Int) := by omega
  clear hs h1 h2 he hca ha
  go_enter Tryz.func47, Tryz.ntmps47
  go_wp2_with fail
  generalize w.alloc (.cells #[.int .i64 0, .string ⟨#[]⟩, .string ⟨#[]⟩, .slice none 0 0, .bool false] 27) = wx at *
  go_loopw [7] (fun t7 wr => ∃ k : Nat, t7 = .int .i64 (k : Int) ∧ Hid (k ≤ s.size) ∧ Hid (cutR s a b k = e) ∧ Hid (Below w.heap.size w wr) ∧ Hid (wr.heap[w.heap.size]? = some (.cells #[.int .i64 0, .string ⟨#[]⟩, .string ⟨#[]⟩, .slice none 0 0, .bool false] 27 (0, 0)))) (fun t7 _ => s.size - (intOf t7).toNat)
  case atStart => exact ⟨a, rfl, Lib.hid (Nat.le_of_lt HA.out), HE, HB1, HL1⟩
  case round =>
    obtain ⟨k, rfl, HK, HEK, HB, HL⟩ := hrel
    have hwk0 : IntKind.i64.wrap (k : Int) = (k : Int) := IntWalk.i64_in _ (by have := HS.out; have := HK.out; omega)
    have hwa0 : IntKind.i64.wrap (a : Int) = (a : Int) := IntWalk.i64_in _ (by have := HS.out; omega)
    by_cases hlt : k < s.size
    · have hz : (k : Int) < (s.size : Int) := by omega
      obtain ⟨c, hc⟩ : ∃ c, (s[k]'hlt).toNat = c := ⟨_, rfl⟩
      have hbk : bAt s k = c := (bAt_in hlt).trans hc
      have hik : ∀ w : World, (Instr.index 9 (.string s) (.int .i64 (k : Int))).run Tryz.prog w = .ok (.int .u8 c) w := fun w => Ch.run_at s k hlt rfl hc w
      have HLT := Lib.hid hlt
      have hwn : IntKind.i64.wrap ((k : Int) + 1) = (k : Int) + 1 := IntWalk.i64_in _ (by have := HS.out; omega)
      have HH := Lib.hid (upT_here (p := fun c => decide (c = 60) || (blankN c != b)) hlt)
      have HN := Lib.hid (upT_next (p := fun c => decide (c = 60) || (blankN c != b)) hlt)
      have HBK := Lib.hid (rblankB (bAt s k))
      by_cases h60 : bAt s k = 60
      · have q : ((c : Int) != 60) = false := by rw [← hbk, h60]; rfl
        have ek : e = k := by rw [← HEK.out]; exact HH.out (by rw [decide_eq_true h60]; rfl)
        subst ek
        clear hbk h60 HH HN HBK hc hlt
        go_wp2_with fail
        refine wp_region_quiet_below mixedT (by kernel_rfl) ?_
        repeat (go_big_quiet_step (fail))
        refine wpQuiet_nil ?_
        rintro w5 ⟨gg, hgg⟩
        have hb5 : Below wr.heap.size wr w5 := hgg ▸ below_regrown wr gg.d gg.os
        have HB6 := Lib.hid (HB.out.trans (hb5.mono HB.out.size))
        have HL6 := Lib.hid ((hb5.block _ (lt_of_block HL.out)).trans HL.out)
        clear hgg gg hb5
        go_wp2_with fail
        refine (HD.out _).mono ?_
        rintro e' wq ⟨rfl, hb⟩
        have HB7 := Lib.hid (HB6.out.trans (hb.mono HB6.out.size))
        have hl7 := (hb.block _ (lt_of_block HL6.out)).trans HL6.out
        have HL7 := Lib.hid hl7
        obtain ⟨b0, b1, b2, b3, b4⟩ := tbox5 hl7
        obtain ⟨f0, f1, f2, f3, f4⟩ := tfrz5 hl7
        clear hb hl7
        go_wp2_with fail
        exact tok_post (textTok dv false, e, true) w 4 5 6 w.heap.size none 0 rfl rfl rfl rfl (set5_blk HL7.out _ _ _ _ _) (isAttrs_nil _ _) (HB7.out.trans (set5_below (Nat.le_refl _) _ _ _ _ _)) (fun _ h => nomatch h)
      · have q : ((c : Int) != 60) = true := by rw [← hbk]; simp; omega
        by_cases hbb : blankN (bAt s k) = b
        · have q2 : (blankN (bAt s k) == b) = true := by rw [hbb]; exact beq_self_eq_true _
          have EN := Lib.hid (show cutR s a b (k + 1) = e by rw [← HEK.out]; exact (HN.out (by rw [decide_eq_false h60, hbb]; simp)).symm)
          rw [hbb, hbk] at HBK
          clear hbk h60 HH HN q2 hc hlt
          cases b <;> (
            go_wp2_with fail
            refine wp_region_quiet_below mixedT (by kernel_rfl) ?_
            repeat (go_big_quiet_step (fail))
            go_big_quiet_step ((go_at_call 74; exact Calls.regrown_of (HBK.out _)))
            repeat (go_big_quiet_step (fail))
            go_big_quiet_step ((go_at_call 74; exact Calls.regrown_of (HBA.out _)))
            repeat (go_big_quiet_step (fail))
            refine wpQuiet_nil ?_
            rintro w5 ⟨gg, hgg⟩
            have hb5 : Below wr.heap.size wr w5 := hgg ▸ below_regrown wr gg.d gg.os
            have HB6 := Lib.hid (HB.out.trans (hb5.mono HB.out.size))
            have HL6 := Lib.hid ((hb5.block _ (lt_of_block HL.out)).trans HL.out)
            clear hgg gg hb5
            go_wp2_with fail
            go_roundw
            case rel => exact ⟨k + 1, by go_num, Lib.hid HLT.out, EN, HB6, HL6⟩
            case measure => simp [intOf]; have := HLT.out; omega)
        · have ek : e = k := by rw [← HEK.out]; exact HH.out (by rw [Bool.or_eq_true]; exact .inr (by simpa using hbb))
          subst ek
          obtain ⟨b2, hb2⟩ : ∃ b2, blankN (bAt s e) = b2 := ⟨_, rfl⟩
          rw [hb2, hbk] at HBK
          rw [hb2] at hbb
          clear hbk h60 HH HN hc hlt hb2
          cases b <;> cases b2 <;> first | exact absurd rfl hbb | (
            clear hbb
            go_wp2_with fail
            refine wp_region_quiet_below mixedT (by kernel_rfl) ?_
            repeat (go_big_quiet_step (fail))
            go_big_quiet_step ((go_at_call 74; exact Calls.regrown_of (HBK.out _)))
            repeat (go_big_quiet_step (fail))
            go_big_quiet_step ((go_at_call 74; exact Calls.regrown_of (HBA.out _)))
            repeat (go_big_quiet_step (fail))
            refine wpQuiet_nil ?_
            rintro w5 ⟨gg, hgg⟩
            have hb5 : Below wr.heap.size wr w5 := hgg ▸ below_regrown wr gg.d gg.os
            have HB6 := Lib.hid (HB.out.trans (hb5.mono HB.out.size))
            have HL6 := Lib.hid ((hb5.block _ (lt_of_block HL.out)).trans HL.out)
            clear hgg gg hb5
            go_wp2_with fail
            refine (HD.out _).mono ?_
            rintro e' wq ⟨rfl, hb⟩
            have HB7 := Lib.hid (HB6.out.trans (hb.mono HB6.out.size))
            have hl7 := (hb.block _ (lt_of_block HL6.out)).trans HL6.out
            have HL7 := Lib.hid hl7
            obtain ⟨b0, b1, b2, b3, b4⟩ := tbox5 hl7
            obtain ⟨f0, f1, f2, f3, f4⟩ := tfrz5 hl7
            clear hb hl7
            go_wp2_with fail
            exact tok_post (textTok dv false, e, true) w 4 5 6 w.heap.size none 0 rfl rfl rfl rfl (set5_blk HL7.out _ _ _ _ _) (isAttrs_nil _ _) (HB7.out.trans (set5_below (Nat.le_refl _) _ _ _ _ _)) (fun _ h => nomatch h))
    · have hz : decide (k < s.size) = false := decide_eq_false hlt
      have ek : e = k := by rw [← HEK.out]; exact upT_end (by omega)
      subst ek
      clear hlt
      go_wp2_with fail
      refine wp_region_quiet_below mixedT (by kernel_rfl) ?_
      repeat (go_big_quiet_step (fail))
      refine wpQuiet_nil ?_
      rintro w5 ⟨gg, hgg⟩
      have hb5 : Below wr.heap.size wr w5 := hgg ▸ below_regrown wr gg.d gg.os
      have HB6 := Lib.hid (HB.out.trans (hb5.mono HB.out.size))
      have HL6 := Lib.hid ((hb5.block _ (lt_of_block HL.out)).trans HL.out)
      clear hgg gg hb5
      go_wp2_with fail
      refine (HD.out _).mono ?_
      rintro e' wq ⟨rfl, hb⟩
      have HB7 := Lib.hid (HB6.out.trans (hb.mono HB6.out.size))
      have hl7 := (hb.block _ (lt_of_block HL6.out)).trans HL6.out
      have HL7 := Lib.hid hl7
      obtain ⟨b0, b1, b2, b3, b4⟩ := tbox5 hl7
      obtain ⟨f0, f1, f2, f3, f4⟩ := tfrz5 hl7
      clear hb hl7
      go_wp2_with fail
      exact tok_post (textTok dv false, e, true) w 4 5 6 w.heap.size none 0 rfl rfl rfl rfl (set5_blk HL7.out _ _ _ _ _) (isAttrs_nil _ _) (HB7.out.trans (set5_below (Nat.le_refl _) _ _ _ _ _)) (fun _ h => nomatch h)
end Go.Proofs.YtbdgoffbkenofaaGreat.Rn
namespace Go.Proofs.YtbdgoffbkenofaaGreat.Rn
open Go Go.RowKit Go.Lib Go.Proofs.YtbdgoffbkenofaaGreat.Tk Go.Proofs.YtbdgoffbkenofaaGreat.Tr Go.Proofs.YtbdgoffbkenofaaGreat.Br
set_option linter.unusedVariables false
set_option maxRecDepth 100000

theorem nameB_yes {x : UInt8} (h : x.toNat = 34 ∨ x.toNat = 39 ∨ x.toNat = 60 ∨ x.toNat = 61) : (nameB x).toNat = 95 := by
  unfold nameB
  have e : ∀ n : Nat, n < 256 → x.toNat = n → x = UInt8.ofNat n := fun n hn h => UInt8.toNat_inj.1 (by rw [h]; simp; omega)
  rw [if_pos]
  · rfl
  · rcases h with h | h | h | h
    · exact .inl (e 34 (by decide) h)
    · exact .inr (.inl (e 39 (by decide) h))
    · exact .inr (.inr (.inl (e 60 (by decide) h)))
    · exact .inr (.inr (.inr (e 61 (by decide) h)))
theorem nameB_no {x : UInt8} (h : ¬ (x.toNat = 34 ∨ x.toNat = 39 ∨ x.toNat = 60 ∨ x.toNat = 61)) : nameB x = x := by
  unfold nameB
  rw [if_neg]
  rintro (h1 | h1 | h1 | h1) <;> subst h1 <;> exact h (by decide)
theorem name_is (s : ByteArray) : (⟨((lowS s).data.toList.map nameB).toArray⟩ : ByteArray) = namedP s := rfl
set_option maxHeartbeats 4000000 in
theorem name_calls (s : ByteArray) (hs : s.size ≤ 1000000) (w : World) :
    Calls Tryz.prog 76 #[.string s] w fun e w' => e = .returned (.string (namedP s)) ∧ Below w.heap.size w w' := by
  have HL := Lib.hid (rlower s (by omega) w)
  rw [← name_is]
  have hz0 := lowS_size s
  generalize lowS s = l at *
  rw [← hz0] at hs
  clear hz0
  go_enter Tryz.func76, Tryz.ntmps76
  go_wp2_with fail
  refine HL.out.mono ?_
  rintro e w0 ⟨rfl, hb0⟩
  have HB0 := Lib.hid hb0
  have hcv := Lib.run_convert_string_bytes (P := Tryz.prog) w0 9 49 5 l Tryz.underlying9 Tryz.underlying49 Tryz.underlying5
  have H0 := mapRel_zero nameB l w0 5
  generalize bytesWorld w0 5 l = w1 at hcv H0
  generalize grownCap w0 l.size 0 5 = cap at hcv
  clear hb0 HL
  go_wp2_with fail
  go_loopw [4] (fun i wr => ∃ k : Nat, k ≤ l.size ∧ i = .int .i64 k ∧ MapRel nameB l w0.heap.size k w0 wr) (fun i _ => l.size - (RowKit.intOf i).toNat)
  case atStart => exact ⟨0, by omega, rfl, H0⟩
  case round =>
    obtain ⟨k, hk, rfl, hR⟩ := hrel
    by_cases hlt : k < l.size
    · have hc := hR.cell k hlt
      have hf := hR.free k hlt
      have HS : Hid _ := Lib.hid (hR.step hlt)
      have HK : Hid _ := Lib.hid (hR.keep (i := k))
      rw [show mid nameB l k k = l.data.toList.getD k 0 by unfold mid; rw [if_neg (by omega)]] at hc
      generalize hx : l.data.toList.getD k 0 = x at hc HS HK
      have hx1 := x.toNat_lt
      have hlt' : (k : Int) < (l.size : Int) := by omega
      by_cases c1 : x.toNat = 34
      · have HV := Lib.hid (nameB_yes (x := x) (by omega))
        have q1 : ((x.toNat : Int) == 34) = true := by rw [c1]; rfl
        clear hx hx1
        go_wp2_with fail
        go_roundw
        case rel => exact ⟨k + 1, by omega, by go_num, by rw [show (95 : Int) = ((nameB x).toNat : Int) from by rw [HV.out]; rfl]; exact HS.out⟩
        case measure => simp [RowKit.intOf]; omega
      have q1 : ((x.toNat : Int) == 34) = false := by rw [beq_eq_false_iff_ne]; omega
      by_cases c2 : x.toNat = 39
      · have HV := Lib.hid (nameB_yes (x := x) (by omega))
        have q2 : ((x.toNat : Int) == 39) = true := by rw [c2]; rfl
        clear hx hx1
        go_wp2_with fail
        go_roundw
        case rel => exact ⟨k + 1, by omega, by go_num, by rw [show (95 : Int) = ((nameB x).toNat : Int) from by rw [HV.out]; rfl]; exact HS.out⟩
        case measure => simp [RowKit.intOf]; omega
      have q2 : ((x.toNat : Int) == 39) = false := by rw [beq_eq_false_iff_ne]; omega
      by_cases c3 : x.toNat = 60
      · have HV := Lib.hid (nameB_yes (x := x) (by omega))
        have q3 : ((x.toNat : Int) == 60) = true := by rw [c3]; rfl
        clear hx hx1
        go_wp2_with fail
        go_roundw
        case rel => exact ⟨k + 1, by omega, by go_num, by rw [show (95 : Int) = ((nameB x).toNat : Int) from by rw [HV.out]; rfl]; exact HS.out⟩
        case measure => simp [RowKit.intOf]; omega
      have q3 : ((x.toNat : Int) == 60) = false := by rw [beq_eq_false_iff_ne]; omega
      by_cases c4 : x.toNat = 61
      · have HV := Lib.hid (nameB_yes (x := x) (by omega))
        have q4 : ((x.toNat : Int) == 61) = true := by rw [c4]; rfl
        clear hx hx1
        go_wp2_with fail
        go_roundw
        case rel => exact ⟨k + 1, by omega, by go_num, by rw [show (95 : Int) = ((nameB x).toNat : Int) from by rw [HV.out]; rfl]; exact HS.out⟩
        case measure => simp [RowKit.intOf]; omega
      have q4 : ((x.toNat : Int) == 61) = false := by rw [beq_eq_false_iff_ne]; omega
      have HNO := Lib.hid (nameB_no (x := x) (by omega))
      clear c1 c2 c3 c4 hx hx1
      go_wp2_with fail
      go_roundw
      case rel => exact ⟨k + 1, by omega, by go_num, HK.out HNO.out⟩
      case measure => simp [RowKit.intOf]; omega
    · obtain rfl : k = l.size := by omega
      have hb := hR.string cap
      have HB9 := Lib.hid (HB0.out.trans (hR.bel.mono HB0.out.size))
      go_wp2_with fail
      go_ret
      exact ⟨rfl, HB9.out⟩
end Go.Proofs.YtbdgoffbkenofaaGreat.Rn
namespace Go.Proofs.YtbdgoffbkenofaaGreat.Rn
open Go Go.RowKit Go.Proofs.YtbdgoffbkenofaaGreat.Tk Go.Proofs.YtbdgoffbkenofaaGreat.Tr
set_option linter.unusedVariables false
set_option maxRecDepth 100000

def valueR (s : ByteArray) (a : Nat) : ByteArray × Nat :=
  if a < s.size ∧ (bAt s a = 34 ∨ bAt s a = 39) then
    if s.size ≤ findR s (a + 1) (s.extract a (a + 1)) then (⟨#[]⟩, s.size + 1)
    else (Ch.decB (s.extract (a + 1) (findR s (a + 1) (s.extract a (a + 1)))) true, findR s (a + 1) (s.extract a (a + 1)) + 1)
  else (Ch.decB (s.extract a (upR ⟨#[62]⟩ s a)) true, upR ⟨#[62]⟩ s a)
/-- A value with its place. -/
def ValEnd (v : ByteArray × Nat) (w : World) (e : Ending) (w' : World) : Prop := e = .returned (.tuple #[.string v.1, .int .i64 (v.2 : Int)]) ∧ Below w.heap.size w w'
set_option maxHeartbeats 4000000 in
theorem value_calls (s : ByteArray) (hs : s.size ≤ 1000000) (a : Nat) (ha : a ≤ s.size) (w : World) :
    Calls Tryz.prog 78 #[.string s, .int .i64 (a : Int)] w (ValEnd (valueR s a) w) := by
  by_cases c : a < s.size ∧ (bAt s a = 34 ∨ bAt s a = 39)
  · obtain ⟨hlt, hq⟩ := c
    have hz : (a : Int) < (s.size : Int) := by omega
    have hw1 : IntKind.i64.wrap ((a : Int) + 1) = (a : Int) + 1 := IntWalk.i64_in _ (by omega)
    have h2 : (a : Int) + 1 ≤ (s.size : Int) := by omega
    have h3 : (a : Int) ≤ (a : Int) + 1 := by omega
    have HF := Lib.hid (find_calls s (s.extract a (a + 1)) hs (Nat.le_trans (ext_size s a (a + 1)) hs) (a + 1) (by omega))
    have hf1 : a + 1 ≤ findR s (a + 1) (s.extract a (a + 1)) := findR_ge _ _ _
    have hf2 : findR s (a + 1) (s.extract a (a + 1)) ≤ s.size := findR_le (by omega)
    have HV : Hid (valueR s a = if s.size ≤ findR s (a + 1) (s.extract a (a + 1)) then (⟨#[]⟩, s.size + 1) else (Ch.decB (s.extract (a + 1) (findR s (a + 1) (s.extract a (a + 1)))) true, findR s (a + 1) (s.extract a (a + 1)) + 1)) := Lib.hid (by unfold valueR; exact if_pos ⟨hlt, hq⟩)
    generalize findR s (a + 1) (s.extract a (a + 1)) = p at *
    have HS := Lib.hid hs
    by_cases hp : s.size ≤ p
    · have hpz : (s.size : Int) ≤ (p : Int) := by omega
      have hws : IntKind.i64.wrap ((s.size : Int) + 1) = (s.size : Int) + 1 := IntWalk.i64_in _ (by omega)
      have HV2 := Lib.hid (HV.out.trans (if_pos hp))
      have HE : Hid ((((s.size + 1 : Nat)) : Int) = (s.size : Int) + 1) := Lib.hid (by omega)
      have hbk := bAt_in hlt
      clear HV hp
      rcases hq with hq | hq <;> (
        rw [hbk] at hq
        have q1 : ((s[a].toNat : Int) == 34) = decide (s[a].toNat = 34) := eq_nat s[a].toNat 34
        have q2 : ((s[a].toNat : Int) == 39) = decide (s[a].toNat = 39) := eq_nat s[a].toNat 39
        rw [hq] at q1 q2
        simp only [decide_true, Nat.reduceEqDiff, decide_false] at q1 q2
        clear hbk hf1 hf2 hs
        go_enter Tryz.func78, Tryz.ntmps78
        go_wp2_with fail
        refine (HF.out _).mono ?_
        rintro e w2 ⟨rfl, hb2⟩
        have HB2 := Lib.hid hb2
        clear hb2
        go_wp2_with fail
        go_ret2
        exact ⟨by rw [HV2.out, ← HE.out]; rfl, HB2.out⟩)
    · have hpz : ¬ (s.size : Int) ≤ (p : Int) := by omega
      have hwp : IntKind.i64.wrap ((p : Int) + 1) = (p : Int) + 1 := IntWalk.i64_in _ (by omega)
      have h4 : (a : Int) + 1 ≤ (p : Int) := by omega
      have h5 : (p : Int) ≤ (s.size : Int) := by omega
      have HV2 := Lib.hid (HV.out.trans (if_neg hp))
      have HD := Lib.hid (Ch.rdecode_calls (s.extract (a + 1) p) (Nat.le_trans (ext_size s (a + 1) p) (by omega)) true)
      generalize Ch.decB (s.extract (a + 1) p) true = dv at *
      have hbk := bAt_in hlt
      clear HV hp
      rcases hq with hq | hq <;> (
        rw [hbk] at hq
        have q1 : ((s[a].toNat : Int) == 34) = decide (s[a].toNat = 34) := eq_nat s[a].toNat 34
        have q2 : ((s[a].toNat : Int) == 39) = decide (s[a].toNat = 39) := eq_nat s[a].toNat 39
        rw [hq] at q1 q2
        simp only [decide_true, Nat.reduceEqDiff, decide_false] at q1 q2
        clear hbk hf1 hf2 hs
        go_enter Tryz.func78, Tryz.ntmps78
        go_wp2_with fail
        refine (HF.out _).mono ?_
        rintro e w2 ⟨rfl, hb2⟩
        have HB2 := Lib.hid hb2
        clear hb2
        go_wp2_with fail
        refine (HD.out _).mono ?_
        rintro e w3 ⟨rfl, hb3⟩
        have HB3 := Lib.hid (HB2.out.trans (hb3.mono HB2.out.size))
        clear hb3
        go_wp2_with fail
        go_ret2
        exact ⟨by rw [HV2.out]; rfl, HB3.out⟩)
  · have HV : Hid (valueR s a = (Ch.decB (s.extract a (upR ⟨#[62]⟩ s a)) true, upR ⟨#[62]⟩ s a)) := Lib.hid (by unfold valueR; exact if_neg c)
    have HU := Lib.hid (upto_calls s ⟨#[62]⟩ (by omega) (by decide) a (by omega))
    have he0 : a ≤ upR ⟨#[62]⟩ s a := upT_ge _ _ _
    have he1 : upR ⟨#[62]⟩ s a ≤ s.size := upT_le _ ha
    generalize upR ⟨#[62]⟩ s a = p at *
    have HD := Lib.hid (Ch.rdecode_calls (s.extract a p) (Nat.le_trans (ext_size s a p) (by omega)) true)
    generalize Ch.decB (s.extract a p) true = dv at *
    have h4 : (a : Int) ≤ (p : Int) := by omega
    have h5 : (p : Int) ≤ (s.size : Int) := by omega
    by_cases hlt : a < s.size
    · have hz : (a : Int) < (s.size : Int) := by omega
      have hbk := bAt_in hlt
      have q1 : ((s[a].toNat : Int) == 34) = false := by rw [← hbk, beq_eq_false_iff_ne]; intro e; exact c ⟨hlt, .inl (by omega)⟩
      have q2 : ((s[a].toNat : Int) == 39) = false := by rw [← hbk, beq_eq_false_iff_ne]; intro e; exact c ⟨hlt, .inr (by omega)⟩
      clear hbk he0 he1 c
      go_enter Tryz.func78, Tryz.ntmps78
      go_wp2_with fail
      refine (HU.out _).mono ?_
      rintro e w2 ⟨rfl, hb2⟩
      have HB2 := Lib.hid hb2
      clear hb2
      go_wp2_with fail
      refine (HD.out _).mono ?_
      rintro e w3 ⟨rfl, hb3⟩
      have HB3 := Lib.hid (HB2.out.trans (hb3.mono HB2.out.size))
      clear hb3
      go_wp2_with fail
      go_ret2
      exact ⟨by rw [HV.out]; rfl, HB3.out⟩
    · have hz : decide (a < s.size) = false := decide_eq_false hlt
      clear he0 he1 c hlt
      go_enter Tryz.func78, Tryz.ntmps78
      go_wp2_with fail
      refine (HU.out _).mono ?_
      rintro e w2 ⟨rfl, hb2⟩
      have HB2 := Lib.hid hb2
      clear hb2
      go_wp2_with fail
      refine (HD.out _).mono ?_
      rintro e w3 ⟨rfl, hb3⟩
      have HB3 := Lib.hid (HB2.out.trans (hb3.mono HB2.out.size))
      clear hb3
      go_wp2_with fail
      go_ret2
      exact ⟨by rw [HV.out]; rfl, HB3.out⟩
end Go.Proofs.YtbdgoffbkenofaaGreat.Rn
