/- charref.numeric. -/
import Derived.Test.YtbdgoffbkenofaaGreatNum
import Derived.Test.YtbdgoffbkenofaaGreatLok
namespace Go.Proofs.YtbdgoffbkenofaaGreat.Ch
open Go Go.RowKit Go.Proofs.YtbdgoffbkenofaaGreat.Sr Go.Proofs.YtbdgoffbkenofaaGreat.Ct
set_option linter.unusedVariables false

def hexAt (s : ByteArray) (f : Nat) : Bool := decide (s.data.toList[f]? = some 120) || decide (s.data.toList[f]? = some 88)
theorem byte_at {s : ByteArray} {k : Nat} (h : k < s.size) : s.data.toList[k]? = some s[k] := by
  rw [List.getElem?_eq_getElem (show k < s.data.toList.length from h)]; rfl
theorem byte_is {b : UInt8} {n : Nat} (hn : n < 256) : b.toNat = n ↔ b = UInt8.ofNat n := by
  constructor
  · intro h; rw [← h]; simp
  · rintro rfl; simp; omega
theorem hexAt_end {s : ByteArray} {f : Nat} (h : s.size ≤ f) : hexAt s f = false := by
  unfold hexAt
  rw [List.getElem?_eq_none (show s.data.toList.length ≤ f from h)]; rfl
theorem hexAt_in {s : ByteArray} {f : Nat} (h : f < s.size) : hexAt s f = (decide (s[f].toNat = 120) || decide (s[f].toNat = 88)) := by
  unfold hexAt
  rw [byte_at h, Bool.eq_iff_iff]
  simp only [Bool.or_eq_true, decide_eq_true_eq, Option.some.injEq]
  rw [byte_is (by decide), byte_is (by decide)]
  rfl
def semiAt (s : ByteArray) (e : Nat) : Nat := if s.data.toList[e]? = some 59 then 1 else 0
theorem semi_end {s : ByteArray} {f : Nat} (h : s.size ≤ f) : semiAt s f = 0 := by
  unfold semiAt
  rw [List.getElem?_eq_none (show s.data.toList.length ≤ f from h)]; rfl
theorem semi_yes {s : ByteArray} {f : Nat} (h : f < s.size) (hc : s[f].toNat = 59) : semiAt s f = 1 := by
  unfold semiAt
  rw [byte_at h, (byte_is (by decide)).1 hc]; rfl
theorem semi_no {s : ByteArray} {f : Nat} (h : f < s.size) (hc : ¬ s[f].toNat = 59) : semiAt s f = 0 := by
  unfold semiAt
  rw [byte_at h, if_neg]
  intro e; injection e with e
  exact hc ((byte_is (by decide)).2 e)
/-- What begins behind a number sign: its bytes, how many it has. -/
def numAt (s : ByteArray) (f : Nat) (hex : Bool) (k : Nat) : ByteArray × Nat :=
  if (numL hex (s.data.toList.drop f) 0).2 = 0 then (⟨#[38]⟩, 1) else (Utf8.encode (code (numL hex (s.data.toList.drop f) 0).1), f + (numL hex (s.data.toList.drop f) 0).2 + semiAt s (f + (numL hex (s.data.toList.drop f) 0).2) - k)
def numV (s : ByteArray) (k : Nat) : ByteArray × Nat := numAt s (if hexAt s (k + 2) = true then k + 3 else k + 2) (hexAt s (k + 2)) k
theorem numV_dec {s : ByteArray} {k : Nat} (h : hexAt s (k + 2) = false) : numV s k = numAt s (k + 2) false k := by unfold numV; rw [h]; rfl
theorem numV_hex {s : ByteArray} {k : Nat} (h : hexAt s (k + 2) = true) : numV s k = numAt s (k + 3) true k := by unfold numV; rw [h]; rfl
theorem numAt_no {s : ByteArray} {f k : Nat} {hex : Bool} (h : (numL hex (s.data.toList.drop f) 0).2 = 0) : numAt s f hex k = (⟨#[38]⟩, 1) := by unfold numAt; rw [if_pos h]
theorem numAt_yes {s : ByteArray} {f k n t : Nat} {hex : Bool} {v : Int} (hn : 0 < n) (h : numL hex (s.data.toList.drop f) 0 = (v, n)) (ht : semiAt s (f + n) = t) : numAt s f hex k = (Utf8.encode (code v), f + n + t - k) := by
  unfold numAt; rw [h, if_neg (by show ¬ n = 0; omega), ht]
attribute [irreducible] hexAt semiAt numAt numV
theorem number_at (s : ByteArray) (hs : s.size ≤ 1000000000) (f : Nat) (hf : f ≤ s.size) (hex : Bool) (b : Int) (hb : baseI hex = b) (m : Int) (hm : (f : Int) = m) (v : Int) (n : Nat) (h : numL hex (s.data.toList.drop f) 0 = (v, n)) (w : World) :
    Calls Tryz.prog 118 #[.string s, .int .i64 m, .int .i64 b] w fun e w' => e = .returned (.tuple #[.int .i64 v, .int .i64 (m + (n : Int))]) ∧ w = w' := by
  have := number_calls s hs f hf hex w
  rw [h, hm, hb] at this
  exact this
theorem put_calls (v : Int) (h0 : -2147483648 ≤ v) (h1 : v ≤ 2147483647) (w : World) :
    Calls Tryz.prog 119 #[.int .i32 v] w fun e w' => e = .returned (.string (Utf8.encode v)) ∧ w = w' := by
  go_enter Tryz.func119, Tryz.ntmps119
  go_wp2_with fail
  go_ret
  exact ⟨rfl, rfl⟩
def NumEnd (s : ByteArray) (k : Nat) (w : World) (e : Ending) (w' : World) : Prop := e = .returned (.tuple #[.string (numV s k).1, .int .i64 ((numV s k).2 : Int)]) ∧ Below w.heap.size w w'
theorem num_end {s : ByteArray} {k : Nat} {w w' : World} {t : ByteArray} {n : Nat} {m : Int} (h : numV s k = (t, n)) (hm : (n : Int) = m) (hb : Below w.heap.size w w') : NumEnd s k w (.returned (.tuple #[.string t, .int .i64 m])) w' := ⟨by rw [h, hm], hb⟩
theorem run_at (s : ByteArray) (i : Nat) (hi : i < s.size) {m : Int} (hm : m = (i : Int)) {c : Nat} (hc : s[i].toNat = c) (w : World) : (Instr.index 9 (.string s) (.int .i64 m)).run Tryz.prog w = .ok (.int .u8 c) w := by
  subst hm
  unfold Instr.index
  simp only [Sem.run_bind, asIntOf, Sem.run_pure, Result.andThen_ok, run_underlying Tryz.underlying9]
  rw [if_pos (by omega), show ((i : Int)).toNat = i by omega]
  simp [hi, hc]
set_option maxHeartbeats 1000000 in
theorem numeric_end (s : ByteArray) (hs : s.size ≤ 1000000000) (k : Nat) (w : World) (hk : k + 2 = s.size) :
    Calls Tryz.prog 102 #[.string s, .int .i64 k] w (NumEnd s k w) := by
  have hX : Hid (hexAt s (k + 2) = false) := Lib.hid (hexAt_end (by omega))
  have hfs : k + 2 ≤ s.size := by omega
  obtain ⟨⟨v, n⟩, hR⟩ : ∃ r, numL false (s.data.toList.drop (k + 2)) 0 = r := ⟨_, rfl⟩
  have hn : n ≤ s.size - (k + 2) := by
    have h := numL_len false (s.data.toList.drop (k + 2)) 0
    rw [hR, List.length_drop] at h
    exact h
  have hv := numL_bd false (s.data.toList.drop (k + 2)) 0 (by decide) (by decide)
  rw [hR] at hv
  obtain ⟨hv0, hv1⟩ := hv
  replace hv0 : 0 ≤ v := hv0
  replace hv1 : v ≤ 1114112 := hv1
  have NC := Lib.hid (number_at s hs (k + 2) hfs false 10 rfl ((k : Int) + 2) (by omega) v n hR)
  obtain ⟨hcd0, hcd1⟩ := code_small v
  have HR := Lib.hid hR
  have HD := Lib.hid (numV_dec hX.out)
  clear hR
  by_cases hn0 : n = 0
  · subst hn0
    have HF := Lib.hid (HD.out.trans (numAt_no (congrArg Prod.snd HR.out)))
    go_enter Tryz.func102, Tryz.ntmps102
    go_wp2_with fail
    refine (NC.out _).mono ?_
    rintro e w1 ⟨rfl, rfl⟩
    clear NC
    go_wp2_with fail
    go_ret2
    exact num_end HF.out rfl (Below.refl _ _)
  · omega
set_option maxHeartbeats 1000000 in
theorem numeric_x (s : ByteArray) (hs : s.size ≤ 1000000000) (k : Nat) (w : World) (hk : k + 2 < s.size) (hc : s[k + 2].toNat = 120) :
    Calls Tryz.prog 102 #[.string s, .int .i64 k] w (NumEnd s k w) := by
  have hX : Hid (hexAt s (k + 2) = true) := Lib.hid (by rw [hexAt_in hk, hc]; rfl)
  have hi0 : ∀ w : World, (Instr.index 9 (.string s) (.int .i64 ((k : Int) + 2))).run Tryz.prog w = .ok (.int .u8 120) w := fun w => run_at s (k + 2) hk (by omega) hc w
  clear hc
  have hfs : k + 3 ≤ s.size := by omega
  obtain ⟨⟨v, n⟩, hR⟩ : ∃ r, numL true (s.data.toList.drop (k + 3)) 0 = r := ⟨_, rfl⟩
  have hn : n ≤ s.size - (k + 3) := by
    have h := numL_len true (s.data.toList.drop (k + 3)) 0
    rw [hR, List.length_drop] at h
    exact h
  have hv := numL_bd true (s.data.toList.drop (k + 3)) 0 (by decide) (by decide)
  rw [hR] at hv
  obtain ⟨hv0, hv1⟩ := hv
  replace hv0 : 0 ≤ v := hv0
  replace hv1 : v ≤ 1114112 := hv1
  have NC := Lib.hid (number_at s hs (k + 3) hfs true 16 rfl ((k : Int) + 2 + 1) (by omega) v n hR)
  obtain ⟨hcd0, hcd1⟩ := code_small v
  have HR := Lib.hid hR
  have HD := Lib.hid (numV_hex hX.out)
  clear hR
  by_cases hn0 : n = 0
  · subst hn0
    have HF := Lib.hid (HD.out.trans (numAt_no (congrArg Prod.snd HR.out)))
    go_enter Tryz.func102, Tryz.ntmps102
    go_wp2_with fail
    refine (NC.out _).mono ?_
    rintro e w1 ⟨rfl, rfl⟩
    clear NC
    go_wp2_with fail
    go_ret2
    exact num_end HF.out rfl (Below.refl _ _)
  · have hn1 : 0 < n := by omega
    have q1 : (((k : Int) + 2 + 1 + (n : Int)) == ((k : Int) + 2 + 1)) = false := by rw [beq_eq_false_iff_ne]; omega
    by_cases he : k + 3 + n = s.size
    · have HF := Lib.hid (HD.out.trans (numAt_yes hn1 HR.out (semi_end (Nat.le_of_eq he.symm))))
      go_enter Tryz.func102, Tryz.ntmps102
      go_wp2_with fail
      refine (NC.out _).mono ?_
      rintro e w1 ⟨rfl, rfl⟩
      clear NC
      go_wp2_with fail
      refine (code_calls _ _).mono ?_
      rintro e w2 ⟨rfl, hb2⟩
      have HB := Lib.hid hb2
      clear hb2
      go_wp2_with fail
      refine (put_calls _ (by omega) (by omega) _).mono ?_
      rintro e w3 ⟨rfl, rfl⟩
      go_wp2_with fail
      go_ret2
      exact num_end HF.out (by omega) HB.out
    · have hel : k + 3 + n < s.size := by omega
      obtain ⟨c2, hc2⟩ : ∃ c, s[k + 3 + n].toNat = c := ⟨_, rfl⟩
      by_cases h59 : c2 = 59
      · subst h59
        have HF := Lib.hid (HD.out.trans (numAt_yes hn1 HR.out (semi_yes hel hc2)))
        have HC2 := Lib.hid hc2
        clear hc2
        have hidx : ∀ w : World, (Instr.index 9 (.string s) (.int .i64 ((k : Int) + 2 + 1 + (n : Int)))).run Tryz.prog w = .ok (.int .u8 59) w := fun w => run_at s (k + 3 + n) hel (by omega) HC2.out w
        go_enter Tryz.func102, Tryz.ntmps102
        go_wp2_with fail
        refine (NC.out _).mono ?_
        rintro e w1 ⟨rfl, rfl⟩
        clear NC
        go_wp2_with fail
        refine (code_calls _ _).mono ?_
        rintro e w2 ⟨rfl, hb2⟩
        have HB := Lib.hid hb2
        clear hb2
        go_wp2_with fail
        refine (put_calls _ (by omega) (by omega) _).mono ?_
        rintro e w3 ⟨rfl, rfl⟩
        go_wp2_with fail
        go_ret2
        exact num_end HF.out (by omega) HB.out
      · have HF := Lib.hid (HD.out.trans (numAt_yes hn1 HR.out (semi_no hel (fun e => h59 (hc2.symm.trans e)))))
        have q2 : ((c2 : Int) == 59) = false := by rw [beq_eq_false_iff_ne]; omega
        have HC2 := Lib.hid hc2
        clear hc2
        have hidx : ∀ w : World, (Instr.index 9 (.string s) (.int .i64 ((k : Int) + 2 + 1 + (n : Int)))).run Tryz.prog w = .ok (.int .u8 ((c2 : Nat) : Int)) w := fun w => run_at s (k + 3 + n) hel (by omega) HC2.out w
        go_enter Tryz.func102, Tryz.ntmps102
        go_wp2_with fail
        refine (NC.out _).mono ?_
        rintro e w1 ⟨rfl, rfl⟩
        clear NC
        go_wp2_with fail
        refine (code_calls _ _).mono ?_
        rintro e w2 ⟨rfl, hb2⟩
        have HB := Lib.hid hb2
        clear hb2
        go_wp2_with fail
        refine (put_calls _ (by omega) (by omega) _).mono ?_
        rintro e w3 ⟨rfl, rfl⟩
        go_wp2_with fail
        go_ret2
        exact num_end HF.out (by omega) HB.out
set_option maxHeartbeats 1000000 in
theorem numeric_X (s : ByteArray) (hs : s.size ≤ 1000000000) (k : Nat) (w : World) (hk : k + 2 < s.size) (hc : s[k + 2].toNat = 88) :
    Calls Tryz.prog 102 #[.string s, .int .i64 k] w (NumEnd s k w) := by
  have hX : Hid (hexAt s (k + 2) = true) := Lib.hid (by rw [hexAt_in hk, hc]; rfl)
  have hi0 : ∀ w : World, (Instr.index 9 (.string s) (.int .i64 ((k : Int) + 2))).run Tryz.prog w = .ok (.int .u8 88) w := fun w => run_at s (k + 2) hk (by omega) hc w
  clear hc
  have hfs : k + 3 ≤ s.size := by omega
  obtain ⟨⟨v, n⟩, hR⟩ : ∃ r, numL true (s.data.toList.drop (k + 3)) 0 = r := ⟨_, rfl⟩
  have hn : n ≤ s.size - (k + 3) := by
    have h := numL_len true (s.data.toList.drop (k + 3)) 0
    rw [hR, List.length_drop] at h
    exact h
  have hv := numL_bd true (s.data.toList.drop (k + 3)) 0 (by decide) (by decide)
  rw [hR] at hv
  obtain ⟨hv0, hv1⟩ := hv
  replace hv0 : 0 ≤ v := hv0
  replace hv1 : v ≤ 1114112 := hv1
  have NC := Lib.hid (number_at s hs (k + 3) hfs true 16 rfl ((k : Int) + 2 + 1) (by omega) v n hR)
  obtain ⟨hcd0, hcd1⟩ := code_small v
  have HR := Lib.hid hR
  have HD := Lib.hid (numV_hex hX.out)
  clear hR
  by_cases hn0 : n = 0
  · subst hn0
    have HF := Lib.hid (HD.out.trans (numAt_no (congrArg Prod.snd HR.out)))
    go_enter Tryz.func102, Tryz.ntmps102
    go_wp2_with fail
    refine (NC.out _).mono ?_
    rintro e w1 ⟨rfl, rfl⟩
    clear NC
    go_wp2_with fail
    go_ret2
    exact num_end HF.out rfl (Below.refl _ _)
  · have hn1 : 0 < n := by omega
    have q1 : (((k : Int) + 2 + 1 + (n : Int)) == ((k : Int) + 2 + 1)) = false := by rw [beq_eq_false_iff_ne]; omega
    by_cases he : k + 3 + n = s.size
    · have HF := Lib.hid (HD.out.trans (numAt_yes hn1 HR.out (semi_end (Nat.le_of_eq he.symm))))
      go_enter Tryz.func102, Tryz.ntmps102
      go_wp2_with fail
      refine (NC.out _).mono ?_
      rintro e w1 ⟨rfl, rfl⟩
      clear NC
      go_wp2_with fail
      refine (code_calls _ _).mono ?_
      rintro e w2 ⟨rfl, hb2⟩
      have HB := Lib.hid hb2
      clear hb2
      go_wp2_with fail
      refine (put_calls _ (by omega) (by omega) _).mono ?_
      rintro e w3 ⟨rfl, rfl⟩
      go_wp2_with fail
      go_ret2
      exact num_end HF.out (by omega) HB.out
    · have hel : k + 3 + n < s.size := by omega
      obtain ⟨c2, hc2⟩ : ∃ c, s[k + 3 + n].toNat = c := ⟨_, rfl⟩
      by_cases h59 : c2 = 59
      · subst h59
        have HF := Lib.hid (HD.out.trans (numAt_yes hn1 HR.out (semi_yes hel hc2)))
        have HC2 := Lib.hid hc2
        clear hc2
        have hidx : ∀ w : World, (Instr.index 9 (.string s) (.int .i64 ((k : Int) + 2 + 1 + (n : Int)))).run Tryz.prog w = .ok (.int .u8 59) w := fun w => run_at s (k + 3 + n) hel (by omega) HC2.out w
        go_enter Tryz.func102, Tryz.ntmps102
        go_wp2_with fail
        refine (NC.out _).mono ?_
        rintro e w1 ⟨rfl, rfl⟩
        clear NC
        go_wp2_with fail
        refine (code_calls _ _).mono ?_
        rintro e w2 ⟨rfl, hb2⟩
        have HB := Lib.hid hb2
        clear hb2
        go_wp2_with fail
        refine (put_calls _ (by omega) (by omega) _).mono ?_
        rintro e w3 ⟨rfl, rfl⟩
        go_wp2_with fail
        go_ret2
        exact num_end HF.out (by omega) HB.out
      · have HF := Lib.hid (HD.out.trans (numAt_yes hn1 HR.out (semi_no hel (fun e => h59 (hc2.symm.trans e)))))
        have q2 : ((c2 : Int) == 59) = false := by rw [beq_eq_false_iff_ne]; omega
        have HC2 := Lib.hid hc2
        clear hc2
        have hidx : ∀ w : World, (Instr.index 9 (.string s) (.int .i64 ((k : Int) + 2 + 1 + (n : Int)))).run Tryz.prog w = .ok (.int .u8 ((c2 : Nat) : Int)) w := fun w => run_at s (k + 3 + n) hel (by omega) HC2.out w
        go_enter Tryz.func102, Tryz.ntmps102
        go_wp2_with fail
        refine (NC.out _).mono ?_
        rintro e w1 ⟨rfl, rfl⟩
        clear NC
        go_wp2_with fail
        refine (code_calls _ _).mono ?_
        rintro e w2 ⟨rfl, hb2⟩
        have HB := Lib.hid hb2
        clear hb2
        go_wp2_with fail
        refine (put_calls _ (by omega) (by omega) _).mono ?_
        rintro e w3 ⟨rfl, rfl⟩
        go_wp2_with fail
        go_ret2
        exact num_end HF.out (by omega) HB.out
set_option maxHeartbeats 1000000 in
theorem numeric_d (s : ByteArray) (hs : s.size ≤ 1000000000) (k : Nat) (w : World) (hk : k + 2 < s.size) (c : Nat) (hc : s[k + 2].toNat = c) (hx1 : ¬ c = 120) (hx2 : ¬ c = 88) :
    Calls Tryz.prog 102 #[.string s, .int .i64 k] w (NumEnd s k w) := by
  have hX : Hid (hexAt s (k + 2) = false) := Lib.hid (by rw [hexAt_in hk, hc]; simp [hx1, hx2])
  have hi0 : ∀ w : World, (Instr.index 9 (.string s) (.int .i64 ((k : Int) + 2))).run Tryz.prog w = .ok (.int .u8 c) w := fun w => run_at s (k + 2) hk (by omega) hc w
  clear hc
  have qx1 : ((c : Int) == 120) = false := by rw [beq_eq_false_iff_ne]; omega
  have qx2 : ((c : Int) == 88) = false := by rw [beq_eq_false_iff_ne]; omega
  have hfs : k + 2 ≤ s.size := by omega
  obtain ⟨⟨v, n⟩, hR⟩ : ∃ r, numL false (s.data.toList.drop (k + 2)) 0 = r := ⟨_, rfl⟩
  have hn : n ≤ s.size - (k + 2) := by
    have h := numL_len false (s.data.toList.drop (k + 2)) 0
    rw [hR, List.length_drop] at h
    exact h
  have hv := numL_bd false (s.data.toList.drop (k + 2)) 0 (by decide) (by decide)
  rw [hR] at hv
  obtain ⟨hv0, hv1⟩ := hv
  replace hv0 : 0 ≤ v := hv0
  replace hv1 : v ≤ 1114112 := hv1
  have NC := Lib.hid (number_at s hs (k + 2) hfs false 10 rfl ((k : Int) + 2) (by omega) v n hR)
  obtain ⟨hcd0, hcd1⟩ := code_small v
  have HR := Lib.hid hR
  have HD := Lib.hid (numV_dec hX.out)
  clear hR
  by_cases hn0 : n = 0
  · subst hn0
    have HF := Lib.hid (HD.out.trans (numAt_no (congrArg Prod.snd HR.out)))
    go_enter Tryz.func102, Tryz.ntmps102
    go_wp2_with fail
    refine (NC.out _).mono ?_
    rintro e w1 ⟨rfl, rfl⟩
    clear NC
    go_wp2_with fail
    go_ret2
    exact num_end HF.out rfl (Below.refl _ _)
  · have hn1 : 0 < n := by omega
    have q1 : (((k : Int) + 2 + (n : Int)) == ((k : Int) + 2)) = false := by rw [beq_eq_false_iff_ne]; omega
    by_cases he : k + 2 + n = s.size
    · have HF := Lib.hid (HD.out.trans (numAt_yes hn1 HR.out (semi_end (Nat.le_of_eq he.symm))))
      go_enter Tryz.func102, Tryz.ntmps102
      go_wp2_with fail
      refine (NC.out _).mono ?_
      rintro e w1 ⟨rfl, rfl⟩
      clear NC
      go_wp2_with fail
      refine (code_calls _ _).mono ?_
      rintro e w2 ⟨rfl, hb2⟩
      have HB := Lib.hid hb2
      clear hb2
      go_wp2_with fail
      refine (put_calls _ (by omega) (by omega) _).mono ?_
      rintro e w3 ⟨rfl, rfl⟩
      go_wp2_with fail
      go_ret2
      exact num_end HF.out (by omega) HB.out
    · have hel : k + 2 + n < s.size := by omega
      obtain ⟨c2, hc2⟩ : ∃ c, s[k + 2 + n].toNat = c := ⟨_, rfl⟩
      by_cases h59 : c2 = 59
      · subst h59
        have HF := Lib.hid (HD.out.trans (numAt_yes hn1 HR.out (semi_yes hel hc2)))
        have HC2 := Lib.hid hc2
        clear hc2
        have hidx : ∀ w : World, (Instr.index 9 (.string s) (.int .i64 ((k : Int) + 2 + (n : Int)))).run Tryz.prog w = .ok (.int .u8 59) w := fun w => run_at s (k + 2 + n) hel (by omega) HC2.out w
        go_enter Tryz.func102, Tryz.ntmps102
        go_wp2_with fail
        refine (NC.out _).mono ?_
        rintro e w1 ⟨rfl, rfl⟩
        clear NC
        go_wp2_with fail
        refine (code_calls _ _).mono ?_
        rintro e w2 ⟨rfl, hb2⟩
        have HB := Lib.hid hb2
        clear hb2
        go_wp2_with fail
        refine (put_calls _ (by omega) (by omega) _).mono ?_
        rintro e w3 ⟨rfl, rfl⟩
        go_wp2_with fail
        go_ret2
        exact num_end HF.out (by omega) HB.out
      · have HF := Lib.hid (HD.out.trans (numAt_yes hn1 HR.out (semi_no hel (fun e => h59 (hc2.symm.trans e)))))
        have q2 : ((c2 : Int) == 59) = false := by rw [beq_eq_false_iff_ne]; omega
        have HC2 := Lib.hid hc2
        clear hc2
        have hidx : ∀ w : World, (Instr.index 9 (.string s) (.int .i64 ((k : Int) + 2 + (n : Int)))).run Tryz.prog w = .ok (.int .u8 ((c2 : Nat) : Int)) w := fun w => run_at s (k + 2 + n) hel (by omega) HC2.out w
        go_enter Tryz.func102, Tryz.ntmps102
        go_wp2_with fail
        refine (NC.out _).mono ?_
        rintro e w1 ⟨rfl, rfl⟩
        clear NC
        go_wp2_with fail
        refine (code_calls _ _).mono ?_
        rintro e w2 ⟨rfl, hb2⟩
        have HB := Lib.hid hb2
        clear hb2
        go_wp2_with fail
        refine (put_calls _ (by omega) (by omega) _).mono ?_
        rintro e w3 ⟨rfl, rfl⟩
        go_wp2_with fail
        go_ret2
        exact num_end HF.out (by omega) HB.out
theorem numeric_calls (s : ByteArray) (hs : s.size ≤ 1000000000) (k : Nat) (hk : k + 2 ≤ s.size) (w : World) : Calls Tryz.prog 102 #[.string s, .int .i64 k] w (NumEnd s k w) := by
  rcases Nat.lt_or_ge (k + 2) s.size with h | h
  · by_cases h1 : s[k + 2].toNat = 120
    · exact numeric_x s hs k w h h1
    · by_cases h2 : s[k + 2].toNat = 88
      · exact numeric_X s hs k w h h2
      · exact numeric_d s hs k w h _ rfl h1 h2
  · exact numeric_end s hs k w (by omega)
end Go.Proofs.YtbdgoffbkenofaaGreat.Ch
namespace Go.Proofs.YtbdgoffbkenofaaGreat.Ch
open Go Go.RowKit Go.Proofs.YtbdgoffbkenofaaGreat.Sr Go.Proofs.YtbdgoffbkenofaaGreat.Ct
set_option linter.unusedVariables false
set_option maxRecDepth 100000

theorem slot_int {a b : Int} (h : a = b) : Value.int .i64 a = .int .i64 b := by rw [h]
set_option maxHeartbeats 800000 in
theorem rnumber_end (s : ByteArray) (hs : s.size ≤ 1000000000) (k : Nat) (w : World) (hk : k + 2 = s.size) :
    Calls Tryz.prog 42 #[.string s, .int .i64 k] w (NumEnd s k w) := by
  have hX : Hid (hexAt s (k + 2) = false) := Lib.hid (hexAt_end (by omega))
  have hfs : k + 2 ≤ s.size := by omega
  obtain ⟨⟨v, n⟩, hR⟩ : ∃ r, numL false (s.data.toList.drop (k + 2)) 0 = r := ⟨_, rfl⟩
  have hn : n ≤ s.size - (k + 2) := by
    have h := numL_len false (s.data.toList.drop (k + 2)) 0
    rw [hR, List.length_drop] at h
    exact h
  have hv := numL_bd false (s.data.toList.drop (k + 2)) 0 (by decide) (by decide)
  rw [hR] at hv
  obtain ⟨hv0, hv1⟩ := hv
  replace hv0 : 0 ≤ v := hv0
  replace hv1 : v ≤ 1114112 := hv1
  obtain ⟨hcd0, hcd1⟩ := code_small v
  have HR := Lib.hid hR
  have HD := Lib.hid (numV_dec hX.out)
  clear hR
  by_cases hn0 : n = 0
  · have HF := Lib.hid (HD.out.trans (numAt_no ((congrArg Prod.snd HR.out).trans hn0)))
    have HN0 := Lib.hid hn0
    have hnl : n ≤ 0 := by omega
    clear hn0
    by_cases he : k + 2 + n = s.size
    · skip
      go_enter Tryz.func42, Tryz.ntmps42
      go_wp2_with fail
      go_loop [6, 10] (fun a x => ∃ (j : Nat) (y : Int), k + 2 + j ≤ s.size ∧ 0 ≤ y ∧ y ≤ 1114112 ∧ a = .int .i64 ((k : Int) + 2 + (j : Int)) ∧ x = .int .i64 y ∧ Hid (numL false (s.data.toList.drop (k + 2)) 0 = ((numL false (s.data.toList.drop (k + 2 + j)) y).1, (numL false (s.data.toList.drop (k + 2 + j)) y).2 + j))) (fun a _ => s.size - (intOf a).toNat)
      case atStart => exact ⟨0, 0, by omega, by decide, by decide, slot_int (by omega), rfl, Lib.hid (by simp)⟩
      case round =>
        obtain ⟨j, y, hjs, hy0, hy1, rfl, rfl, HJ⟩ := hrel
        by_cases hjl : k + 2 + j < s.size
        · exfalso; omega
        · have hx : n = j ∧ v = y := by
            have h := HJ.out
            rw [numL_end (show s.size ≤ k + 2 + j by omega), HR.out] at h
            injection h with h1 h2
            exact ⟨by omega, h1⟩
          obtain ⟨hjn, rfl⟩ := hx
          have q0 : (((k : Int) + 2 + (j : Int)) == ((k : Int) + 2)) = true := by rw [beq_iff_eq]; omega
          clear hjn
          go_wp2_with fail
          go_ret2
          exact num_end HF.out rfl (Below.refl _ _)
    · exfalso; omega
  · exfalso; omega
set_option maxHeartbeats 800000 in
theorem rnumber_x (s : ByteArray) (hs : s.size ≤ 1000000000) (k : Nat) (w : World) (hk : k + 2 < s.size) (hc : s[k + 2].toNat = 120) :
    Calls Tryz.prog 42 #[.string s, .int .i64 k] w (NumEnd s k w) := by
  have hX : Hid (hexAt s (k + 2) = true) := Lib.hid (by rw [hexAt_in hk, hc]; rfl)
  have hi0 : ∀ w : World, (Instr.index 9 (.string s) (.int .i64 ((k : Int) + 2))).run Tryz.prog w = .ok (.int .u8 120) w := fun w => run_at s (k + 2) hk (by omega) hc w
  clear hc
  have hfs : k + 3 ≤ s.size := by omega
  obtain ⟨⟨v, n⟩, hR⟩ : ∃ r, numL true (s.data.toList.drop (k + 3)) 0 = r := ⟨_, rfl⟩
  have hn : n ≤ s.size - (k + 3) := by
    have h := numL_len true (s.data.toList.drop (k + 3)) 0
    rw [hR, List.length_drop] at h
    exact h
  have hv := numL_bd true (s.data.toList.drop (k + 3)) 0 (by decide) (by decide)
  rw [hR] at hv
  obtain ⟨hv0, hv1⟩ := hv
  replace hv0 : 0 ≤ v := hv0
  replace hv1 : v ≤ 1114112 := hv1
  obtain ⟨hcd0, hcd1⟩ := code_small v
  have HR := Lib.hid hR
  have HD := Lib.hid (numV_hex hX.out)
  clear hR
  by_cases hn0 : n = 0
  · have HF := Lib.hid (HD.out.trans (numAt_no ((congrArg Prod.snd HR.out).trans hn0)))
    have HN0 := Lib.hid hn0
    have hnl : n ≤ 0 := by omega
    clear hn0
    by_cases he : k + 3 + n = s.size
    · skip
      go_enter Tryz.func42, Tryz.ntmps42
      go_wp2_with fail
      go_loop [6, 10] (fun a x => ∃ (j : Nat) (y : Int), k + 3 + j ≤ s.size ∧ 0 ≤ y ∧ y ≤ 1114112 ∧ a = .int .i64 ((k : Int) + 2 + 1 + (j : Int)) ∧ x = .int .i64 y ∧ Hid (numL true (s.data.toList.drop (k + 3)) 0 = ((numL true (s.data.toList.drop (k + 3 + j)) y).1, (numL true (s.data.toList.drop (k + 3 + j)) y).2 + j))) (fun a _ => s.size - (intOf a).toNat)
      case atStart => exact ⟨0, 0, by omega, by decide, by decide, slot_int (by omega), rfl, Lib.hid (by simp)⟩
      case round =>
        obtain ⟨j, y, hjs, hy0, hy1, rfl, rfl, HJ⟩ := hrel
        by_cases hjl : k + 3 + j < s.size
        · exfalso; omega
        · have hx : n = j ∧ v = y := by
            have h := HJ.out
            rw [numL_end (show s.size ≤ k + 3 + j by omega), HR.out] at h
            injection h with h1 h2
            exact ⟨by omega, h1⟩
          obtain ⟨hjn, rfl⟩ := hx
          have q0 : (((k : Int) + 2 + 1 + (j : Int)) == ((k : Int) + 2 + 1)) = true := by rw [beq_iff_eq]; omega
          clear hjn
          go_wp2_with fail
          go_ret2
          exact num_end HF.out rfl (Below.refl _ _)
    · have hel : k + 3 + n < s.size := by omega
      go_enter Tryz.func42, Tryz.ntmps42
      go_wp2_with fail
      go_loop [6, 10] (fun a x => ∃ (j : Nat) (y : Int), k + 3 + j ≤ s.size ∧ 0 ≤ y ∧ y ≤ 1114112 ∧ a = .int .i64 ((k : Int) + 2 + 1 + (j : Int)) ∧ x = .int .i64 y ∧ Hid (numL true (s.data.toList.drop (k + 3)) 0 = ((numL true (s.data.toList.drop (k + 3 + j)) y).1, (numL true (s.data.toList.drop (k + 3 + j)) y).2 + j))) (fun a _ => s.size - (intOf a).toNat)
      case atStart => exact ⟨0, 0, by omega, by decide, by decide, slot_int (by omega), rfl, Lib.hid (by simp)⟩
      case round =>
        obtain ⟨j, y, hjs, hy0, hy1, rfl, rfl, HJ⟩ := hrel
        by_cases hjl : k + 3 + j < s.size
        · obtain ⟨c3, hc3⟩ : ∃ c, s[k + 3 + j].toNat = c := ⟨_, rfl⟩
          have hcb : c3 < 256 := by have := s[k + 3 + j].toNat_lt; omega
          have hid3 : ∀ w : World, (Instr.index 9 (.string s) (.int .i64 ((k : Int) + 2 + 1 + (j : Int)))).run Tryz.prog w = .ok (.int .u8 ((c3 : Nat) : Int)) w := fun w => run_at s (k + 3 + j) hjl (by omega) hc3 w
          have D := Lib.hid (rdigit_calls c3 hcb true w)
          obtain ⟨hd0, hd1⟩ := dig_bd c3 true
          have hc3' := Lib.hid hc3
          clear hc3
          by_cases hd : digI c3 true < 0
          · have hx : n = j ∧ v = y := by
              have h := HJ.out
              rw [numL_stop hjl (by rw [hc3'.out]; exact hd), HR.out] at h
              injection h with h1 h2
              exact ⟨by omega, h1⟩
            obtain ⟨hjn, rfl⟩ := hx
            have q0 : (((k : Int) + 2 + 1 + (j : Int)) == ((k : Int) + 2 + 1)) = true := by rw [beq_iff_eq]; omega
            clear hjn
            go_wp2_with fail
            refine D.out.mono ?_
            rintro e w' ⟨rfl, rfl⟩
            clear D
            go_wp2_with fail
            go_ret2
            exact num_end HF.out rfl (Below.refl _ _)
          · have hd2 : 0 ≤ digI c3 true := by omega
            go_wp2_with fail
            refine D.out.mono ?_
            rintro e w' ⟨rfl, rfl⟩
            go_wp2_with fail
            refine D.out.mono ?_
            rintro e w' ⟨rfl, rfl⟩
            clear D
            go_wp2_with fail
            go_round
            case rel =>
              refine ⟨j + 1, min (y * 16 + digI c3 true) 1114112, by omega, by omega, by omega, slot_int (by omega), slot_int (by first | (split <;> omega) | omega), Lib.hid ?_⟩
              have h := HJ.out
              rw [numL_go hjl (by rw [hc3'.out]; omega), hc3'.out] at h
              rw [h]
              have e1 : k + 3 + (j + 1) = k + 3 + j + 1 := by omega
              rw [e1]
              simp only [baseI, cond, Nat.add_assoc, Nat.add_comm 1 j]
            case measure => simp [intOf]; omega
        · have hx : n = j ∧ v = y := by
            have h := HJ.out
            rw [numL_end (show s.size ≤ k + 3 + j by omega), HR.out] at h
            injection h with h1 h2
            exact ⟨by omega, h1⟩
          obtain ⟨hjn, rfl⟩ := hx
          have q0 : (((k : Int) + 2 + 1 + (j : Int)) == ((k : Int) + 2 + 1)) = true := by rw [beq_iff_eq]; omega
          exfalso; omega
  · have hn1 : 0 < n := by omega
    have q1 : (((k : Int) + 2 + 1 + (n : Int)) == ((k : Int) + 2 + 1)) = false := by rw [beq_eq_false_iff_ne]; omega
    by_cases he : k + 3 + n = s.size
    · have HF := Lib.hid (HD.out.trans (numAt_yes hn1 HR.out (semi_end (Nat.le_of_eq he.symm))))
      go_enter Tryz.func42, Tryz.ntmps42
      go_wp2_with fail
      go_loop [6, 10] (fun a x => ∃ (j : Nat) (y : Int), k + 3 + j ≤ s.size ∧ 0 ≤ y ∧ y ≤ 1114112 ∧ a = .int .i64 ((k : Int) + 2 + 1 + (j : Int)) ∧ x = .int .i64 y ∧ Hid (numL true (s.data.toList.drop (k + 3)) 0 = ((numL true (s.data.toList.drop (k + 3 + j)) y).1, (numL true (s.data.toList.drop (k + 3 + j)) y).2 + j))) (fun a _ => s.size - (intOf a).toNat)
      case atStart => exact ⟨0, 0, by omega, by decide, by decide, slot_int (by omega), rfl, Lib.hid (by simp)⟩
      case round =>
        obtain ⟨j, y, hjs, hy0, hy1, rfl, rfl, HJ⟩ := hrel
        by_cases hjl : k + 3 + j < s.size
        · obtain ⟨c3, hc3⟩ : ∃ c, s[k + 3 + j].toNat = c := ⟨_, rfl⟩
          have hcb : c3 < 256 := by have := s[k + 3 + j].toNat_lt; omega
          have hid3 : ∀ w : World, (Instr.index 9 (.string s) (.int .i64 ((k : Int) + 2 + 1 + (j : Int)))).run Tryz.prog w = .ok (.int .u8 ((c3 : Nat) : Int)) w := fun w => run_at s (k + 3 + j) hjl (by omega) hc3 w
          have D := Lib.hid (rdigit_calls c3 hcb true w)
          obtain ⟨hd0, hd1⟩ := dig_bd c3 true
          have hc3' := Lib.hid hc3
          clear hc3
          by_cases hd : digI c3 true < 0
          · have hx : n = j ∧ v = y := by
              have h := HJ.out
              rw [numL_stop hjl (by rw [hc3'.out]; exact hd), HR.out] at h
              injection h with h1 h2
              exact ⟨by omega, h1⟩
            obtain ⟨rfl, rfl⟩ := hx
            exfalso; omega
          · have hd2 : 0 ≤ digI c3 true := by omega
            go_wp2_with fail
            refine D.out.mono ?_
            rintro e w' ⟨rfl, rfl⟩
            go_wp2_with fail
            refine D.out.mono ?_
            rintro e w' ⟨rfl, rfl⟩
            clear D
            go_wp2_with fail
            go_round
            case rel =>
              refine ⟨j + 1, min (y * 16 + digI c3 true) 1114112, by omega, by omega, by omega, slot_int (by omega), slot_int (by first | (split <;> omega) | omega), Lib.hid ?_⟩
              have h := HJ.out
              rw [numL_go hjl (by rw [hc3'.out]; omega), hc3'.out] at h
              rw [h]
              have e1 : k + 3 + (j + 1) = k + 3 + j + 1 := by omega
              rw [e1]
              simp only [baseI, cond, Nat.add_assoc, Nat.add_comm 1 j]
            case measure => simp [intOf]; omega
        · have hx : n = j ∧ v = y := by
            have h := HJ.out
            rw [numL_end (show s.size ≤ k + 3 + j by omega), HR.out] at h
            injection h with h1 h2
            exact ⟨by omega, h1⟩
          obtain ⟨rfl, rfl⟩ := hx
          go_wp2_with fail
          refine (rcode_calls _ _).mono ?_
          rintro e w2 ⟨rfl, rfl⟩
          go_wp2_with fail
          refine (rput_calls _ (by omega) (by omega) _).mono ?_
          rintro e w3 ⟨rfl, hb2⟩
          have HB := Lib.hid hb2
          clear hb2
          go_wp2_with fail
          go_ret2
          exact num_end HF.out (by omega) HB.out
    · have hel : k + 3 + n < s.size := by omega
      obtain ⟨c2, hc2⟩ : ∃ c, s[k + 3 + n].toNat = c := ⟨_, rfl⟩
      have HC2 := Lib.hid hc2
      by_cases h59 : c2 = 59
      · have HF := Lib.hid (HD.out.trans (numAt_yes hn1 HR.out (semi_yes hel (hc2.trans h59))))
        clear hc2
        go_enter Tryz.func42, Tryz.ntmps42
        go_wp2_with fail
        go_loop [6, 10] (fun a x => ∃ (j : Nat) (y : Int), k + 3 + j ≤ s.size ∧ 0 ≤ y ∧ y ≤ 1114112 ∧ a = .int .i64 ((k : Int) + 2 + 1 + (j : Int)) ∧ x = .int .i64 y ∧ Hid (numL true (s.data.toList.drop (k + 3)) 0 = ((numL true (s.data.toList.drop (k + 3 + j)) y).1, (numL true (s.data.toList.drop (k + 3 + j)) y).2 + j))) (fun a _ => s.size - (intOf a).toNat)
        case atStart => exact ⟨0, 0, by omega, by decide, by decide, slot_int (by omega), rfl, Lib.hid (by simp)⟩
        case round =>
          obtain ⟨j, y, hjs, hy0, hy1, rfl, rfl, HJ⟩ := hrel
          by_cases hjl : k + 3 + j < s.size
          · obtain ⟨c3, hc3⟩ : ∃ c, s[k + 3 + j].toNat = c := ⟨_, rfl⟩
            have hcb : c3 < 256 := by have := s[k + 3 + j].toNat_lt; omega
            have hid3 : ∀ w : World, (Instr.index 9 (.string s) (.int .i64 ((k : Int) + 2 + 1 + (j : Int)))).run Tryz.prog w = .ok (.int .u8 ((c3 : Nat) : Int)) w := fun w => run_at s (k + 3 + j) hjl (by omega) hc3 w
            have D := Lib.hid (rdigit_calls c3 hcb true w)
            obtain ⟨hd0, hd1⟩ := dig_bd c3 true
            have hc3' := Lib.hid hc3
            clear hc3
            by_cases hd : digI c3 true < 0
            · have hx : n = j ∧ v = y := by
                have h := HJ.out
                rw [numL_stop hjl (by rw [hc3'.out]; exact hd), HR.out] at h
                injection h with h1 h2
                exact ⟨by omega, h1⟩
              obtain ⟨rfl, rfl⟩ := hx
              go_wp2_with fail
              refine D.out.mono ?_
              rintro e w' ⟨rfl, rfl⟩
              clear D
              obtain rfl : c3 = c2 := hc3'.out.symm.trans HC2.out
              subst h59
              go_wp2_with fail
              refine (rcode_calls _ _).mono ?_
              rintro e w2 ⟨rfl, rfl⟩
              go_wp2_with fail
              refine (rput_calls _ (by omega) (by omega) _).mono ?_
              rintro e w3 ⟨rfl, hb2⟩
              have HB := Lib.hid hb2
              clear hb2
              go_wp2_with fail
              go_ret2
              exact num_end HF.out (by omega) HB.out
            · have hd2 : 0 ≤ digI c3 true := by omega
              go_wp2_with fail
              refine D.out.mono ?_
              rintro e w' ⟨rfl, rfl⟩
              go_wp2_with fail
              refine D.out.mono ?_
              rintro e w' ⟨rfl, rfl⟩
              clear D
              go_wp2_with fail
              go_round
              case rel =>
                refine ⟨j + 1, min (y * 16 + digI c3 true) 1114112, by omega, by omega, by omega, slot_int (by omega), slot_int (by first | (split <;> omega) | omega), Lib.hid ?_⟩
                have h := HJ.out
                rw [numL_go hjl (by rw [hc3'.out]; omega), hc3'.out] at h
                rw [h]
                have e1 : k + 3 + (j + 1) = k + 3 + j + 1 := by omega
                rw [e1]
                simp only [baseI, cond, Nat.add_assoc, Nat.add_comm 1 j]
              case measure => simp [intOf]; omega
          · have hx : n = j ∧ v = y := by
              have h := HJ.out
              rw [numL_end (show s.size ≤ k + 3 + j by omega), HR.out] at h
              injection h with h1 h2
              exact ⟨by omega, h1⟩
            obtain ⟨rfl, rfl⟩ := hx
            exfalso; omega
      · have HF := Lib.hid (HD.out.trans (numAt_yes hn1 HR.out (semi_no hel (fun e => h59 (hc2.symm.trans e)))))
        have q2 : ((c2 : Int) == 59) = false := by rw [beq_eq_false_iff_ne]; omega
        clear hc2
        go_enter Tryz.func42, Tryz.ntmps42
        go_wp2_with fail
        go_loop [6, 10] (fun a x => ∃ (j : Nat) (y : Int), k + 3 + j ≤ s.size ∧ 0 ≤ y ∧ y ≤ 1114112 ∧ a = .int .i64 ((k : Int) + 2 + 1 + (j : Int)) ∧ x = .int .i64 y ∧ Hid (numL true (s.data.toList.drop (k + 3)) 0 = ((numL true (s.data.toList.drop (k + 3 + j)) y).1, (numL true (s.data.toList.drop (k + 3 + j)) y).2 + j))) (fun a _ => s.size - (intOf a).toNat)
        case atStart => exact ⟨0, 0, by omega, by decide, by decide, slot_int (by omega), rfl, Lib.hid (by simp)⟩
        case round =>
          obtain ⟨j, y, hjs, hy0, hy1, rfl, rfl, HJ⟩ := hrel
          by_cases hjl : k + 3 + j < s.size
          · obtain ⟨c3, hc3⟩ : ∃ c, s[k + 3 + j].toNat = c := ⟨_, rfl⟩
            have hcb : c3 < 256 := by have := s[k + 3 + j].toNat_lt; omega
            have hid3 : ∀ w : World, (Instr.index 9 (.string s) (.int .i64 ((k : Int) + 2 + 1 + (j : Int)))).run Tryz.prog w = .ok (.int .u8 ((c3 : Nat) : Int)) w := fun w => run_at s (k + 3 + j) hjl (by omega) hc3 w
            have D := Lib.hid (rdigit_calls c3 hcb true w)
            obtain ⟨hd0, hd1⟩ := dig_bd c3 true
            have hc3' := Lib.hid hc3
            clear hc3
            by_cases hd : digI c3 true < 0
            · have hx : n = j ∧ v = y := by
                have h := HJ.out
                rw [numL_stop hjl (by rw [hc3'.out]; exact hd), HR.out] at h
                injection h with h1 h2
                exact ⟨by omega, h1⟩
              obtain ⟨rfl, rfl⟩ := hx
              go_wp2_with fail
              refine D.out.mono ?_
              rintro e w' ⟨rfl, rfl⟩
              clear D
              obtain rfl : c3 = c2 := hc3'.out.symm.trans HC2.out
              go_wp2_with fail
              refine (rcode_calls _ _).mono ?_
              rintro e w2 ⟨rfl, rfl⟩
              go_wp2_with fail
              refine (rput_calls _ (by omega) (by omega) _).mono ?_
              rintro e w3 ⟨rfl, hb2⟩
              have HB := Lib.hid hb2
              clear hb2
              go_wp2_with fail
              go_ret2
              exact num_end HF.out (by omega) HB.out
            · have hd2 : 0 ≤ digI c3 true := by omega
              go_wp2_with fail
              refine D.out.mono ?_
              rintro e w' ⟨rfl, rfl⟩
              go_wp2_with fail
              refine D.out.mono ?_
              rintro e w' ⟨rfl, rfl⟩
              clear D
              go_wp2_with fail
              go_round
              case rel =>
                refine ⟨j + 1, min (y * 16 + digI c3 true) 1114112, by omega, by omega, by omega, slot_int (by omega), slot_int (by first | (split <;> omega) | omega), Lib.hid ?_⟩
                have h := HJ.out
                rw [numL_go hjl (by rw [hc3'.out]; omega), hc3'.out] at h
                rw [h]
                have e1 : k + 3 + (j + 1) = k + 3 + j + 1 := by omega
                rw [e1]
                simp only [baseI, cond, Nat.add_assoc, Nat.add_comm 1 j]
              case measure => simp [intOf]; omega
          · have hx : n = j ∧ v = y := by
              have h := HJ.out
              rw [numL_end (show s.size ≤ k + 3 + j by omega), HR.out] at h
              injection h with h1 h2
              exact ⟨by omega, h1⟩
            obtain ⟨rfl, rfl⟩ := hx
            exfalso; omega
set_option maxHeartbeats 800000 in
theorem rnumber_X (s : ByteArray) (hs : s.size ≤ 1000000000) (k : Nat) (w : World) (hk : k + 2 < s.size) (hc : s[k + 2].toNat = 88) :
    Calls Tryz.prog 42 #[.string s, .int .i64 k] w (NumEnd s k w) := by
  have hX : Hid (hexAt s (k + 2) = true) := Lib.hid (by rw [hexAt_in hk, hc]; rfl)
  have hi0 : ∀ w : World, (Instr.index 9 (.string s) (.int .i64 ((k : Int) + 2))).run Tryz.prog w = .ok (.int .u8 88) w := fun w => run_at s (k + 2) hk (by omega) hc w
  clear hc
  have hfs : k + 3 ≤ s.size := by omega
  obtain ⟨⟨v, n⟩, hR⟩ : ∃ r, numL true (s.data.toList.drop (k + 3)) 0 = r := ⟨_, rfl⟩
  have hn : n ≤ s.size - (k + 3) := by
    have h := numL_len true (s.data.toList.drop (k + 3)) 0
    rw [hR, List.length_drop] at h
    exact h
  have hv := numL_bd true (s.data.toList.drop (k + 3)) 0 (by decide) (by decide)
  rw [hR] at hv
  obtain ⟨hv0, hv1⟩ := hv
  replace hv0 : 0 ≤ v := hv0
  replace hv1 : v ≤ 1114112 := hv1
  obtain ⟨hcd0, hcd1⟩ := code_small v
  have HR := Lib.hid hR
  have HD := Lib.hid (numV_hex hX.out)
  clear hR
  by_cases hn0 : n = 0
  · have HF := Lib.hid (HD.out.trans (numAt_no ((congrArg Prod.snd HR.out).trans hn0)))
    have HN0 := Lib.hid hn0
    have hnl : n ≤ 0 := by omega
    clear hn0
    by_cases he : k + 3 + n = s.size
    · skip
      go_enter Tryz.func42, Tryz.ntmps42
      go_wp2_with fail
      go_loop [6, 10] (fun a x => ∃ (j : Nat) (y : Int), k + 3 + j ≤ s.size ∧ 0 ≤ y ∧ y ≤ 1114112 ∧ a = .int .i64 ((k : Int) + 2 + 1 + (j : Int)) ∧ x = .int .i64 y ∧ Hid (numL true (s.data.toList.drop (k + 3)) 0 = ((numL true (s.data.toList.drop (k + 3 + j)) y).1, (numL true (s.data.toList.drop (k + 3 + j)) y).2 + j))) (fun a _ => s.size - (intOf a).toNat)
      case atStart => exact ⟨0, 0, by omega, by decide, by decide, slot_int (by omega), rfl, Lib.hid (by simp)⟩
      case round =>
        obtain ⟨j, y, hjs, hy0, hy1, rfl, rfl, HJ⟩ := hrel
        by_cases hjl : k + 3 + j < s.size
        · exfalso; omega
        · have hx : n = j ∧ v = y := by
            have h := HJ.out
            rw [numL_end (show s.size ≤ k + 3 + j by omega), HR.out] at h
            injection h with h1 h2
            exact ⟨by omega, h1⟩
          obtain ⟨hjn, rfl⟩ := hx
          have q0 : (((k : Int) + 2 + 1 + (j : Int)) == ((k : Int) + 2 + 1)) = true := by rw [beq_iff_eq]; omega
          clear hjn
          go_wp2_with fail
          go_ret2
          exact num_end HF.out rfl (Below.refl _ _)
    · have hel : k + 3 + n < s.size := by omega
      go_enter Tryz.func42, Tryz.ntmps42
      go_wp2_with fail
      go_loop [6, 10] (fun a x => ∃ (j : Nat) (y : Int), k + 3 + j ≤ s.size ∧ 0 ≤ y ∧ y ≤ 1114112 ∧ a = .int .i64 ((k : Int) + 2 + 1 + (j : Int)) ∧ x = .int .i64 y ∧ Hid (numL true (s.data.toList.drop (k + 3)) 0 = ((numL true (s.data.toList.drop (k + 3 + j)) y).1, (numL true (s.data.toList.drop (k + 3 + j)) y).2 + j))) (fun a _ => s.size - (intOf a).toNat)
      case atStart => exact ⟨0, 0, by omega, by decide, by decide, slot_int (by omega), rfl, Lib.hid (by simp)⟩
      case round =>
        obtain ⟨j, y, hjs, hy0, hy1, rfl, rfl, HJ⟩ := hrel
        by_cases hjl : k + 3 + j < s.size
        · obtain ⟨c3, hc3⟩ : ∃ c, s[k + 3 + j].toNat = c := ⟨_, rfl⟩
          have hcb : c3 < 256 := by have := s[k + 3 + j].toNat_lt; omega
          have hid3 : ∀ w : World, (Instr.index 9 (.string s) (.int .i64 ((k : Int) + 2 + 1 + (j : Int)))).run Tryz.prog w = .ok (.int .u8 ((c3 : Nat) : Int)) w := fun w => run_at s (k + 3 + j) hjl (by omega) hc3 w
          have D := Lib.hid (rdigit_calls c3 hcb true w)
          obtain ⟨hd0, hd1⟩ := dig_bd c3 true
          have hc3' := Lib.hid hc3
          clear hc3
          by_cases hd : digI c3 true < 0
          · have hx : n = j ∧ v = y := by
              have h := HJ.out
              rw [numL_stop hjl (by rw [hc3'.out]; exact hd), HR.out] at h
              injection h with h1 h2
              exact ⟨by omega, h1⟩
            obtain ⟨hjn, rfl⟩ := hx
            have q0 : (((k : Int) + 2 + 1 + (j : Int)) == ((k : Int) + 2 + 1)) = true := by rw [beq_iff_eq]; omega
            clear hjn
            go_wp2_with fail
            refine D.out.mono ?_
            rintro e w' ⟨rfl, rfl⟩
            clear D
            go_wp2_with fail
            go_ret2
            exact num_end HF.out rfl (Below.refl _ _)
          · have hd2 : 0 ≤ digI c3 true := by omega
            go_wp2_with fail
            refine D.out.mono ?_
            rintro e w' ⟨rfl, rfl⟩
            go_wp2_with fail
            refine D.out.mono ?_
            rintro e w' ⟨rfl, rfl⟩
            clear D
            go_wp2_with fail
            go_round
            case rel =>
              refine ⟨j + 1, min (y * 16 + digI c3 true) 1114112, by omega, by omega, by omega, slot_int (by omega), slot_int (by first | (split <;> omega) | omega), Lib.hid ?_⟩
              have h := HJ.out
              rw [numL_go hjl (by rw [hc3'.out]; omega), hc3'.out] at h
              rw [h]
              have e1 : k + 3 + (j + 1) = k + 3 + j + 1 := by omega
              rw [e1]
              simp only [baseI, cond, Nat.add_assoc, Nat.add_comm 1 j]
            case measure => simp [intOf]; omega
        · have hx : n = j ∧ v = y := by
            have h := HJ.out
            rw [numL_end (show s.size ≤ k + 3 + j by omega), HR.out] at h
            injection h with h1 h2
            exact ⟨by omega, h1⟩
          obtain ⟨hjn, rfl⟩ := hx
          have q0 : (((k : Int) + 2 + 1 + (j : Int)) == ((k : Int) + 2 + 1)) = true := by rw [beq_iff_eq]; omega
          exfalso; omega
  · have hn1 : 0 < n := by omega
    have q1 : (((k : Int) + 2 + 1 + (n : Int)) == ((k : Int) + 2 + 1)) = false := by rw [beq_eq_false_iff_ne]; omega
    by_cases he : k + 3 + n = s.size
    · have HF := Lib.hid (HD.out.trans (numAt_yes hn1 HR.out (semi_end (Nat.le_of_eq he.symm))))
      go_enter Tryz.func42, Tryz.ntmps42
      go_wp2_with fail
      go_loop [6, 10] (fun a x => ∃ (j : Nat) (y : Int), k + 3 + j ≤ s.size ∧ 0 ≤ y ∧ y ≤ 1114112 ∧ a = .int .i64 ((k : Int) + 2 + 1 + (j : Int)) ∧ x = .int .i64 y ∧ Hid (numL true (s.data.toList.drop (k + 3)) 0 = ((numL true (s.data.toList.drop (k + 3 + j)) y).1, (numL true (s.data.toList.drop (k + 3 + j)) y).2 + j))) (fun a _ => s.size - (intOf a).toNat)
      case atStart => exact ⟨0, 0, by omega, by decide, by decide, slot_int (by omega), rfl, Lib.hid (by simp)⟩
      case round =>
        obtain ⟨j, y, hjs, hy0, hy1, rfl, rfl, HJ⟩ := hrel
        by_cases hjl : k + 3 + j < s.size
        · obtain ⟨c3, hc3⟩ : ∃ c, s[k + 3 + j].toNat = c := ⟨_, rfl⟩
          have hcb : c3 < 256 := by have := s[k + 3 + j].toNat_lt; omega
          have hid3 : ∀ w : World, (Instr.index 9 (.string s) (.int .i64 ((k : Int) + 2 + 1 + (j : Int)))).run Tryz.prog w = .ok (.int .u8 ((c3 : Nat) : Int)) w := fun w => run_at s (k + 3 + j) hjl (by omega) hc3 w
          have D := Lib.hid (rdigit_calls c3 hcb true w)
          obtain ⟨hd0, hd1⟩ := dig_bd c3 true
          have hc3' := Lib.hid hc3
          clear hc3
          by_cases hd : digI c3 true < 0
          · have hx : n = j ∧ v = y := by
              have h := HJ.out
              rw [numL_stop hjl (by rw [hc3'.out]; exact hd), HR.out] at h
              injection h with h1 h2
              exact ⟨by omega, h1⟩
            obtain ⟨rfl, rfl⟩ := hx
            exfalso; omega
          · have hd2 : 0 ≤ digI c3 true := by omega
            go_wp2_with fail
            refine D.out.mono ?_
            rintro e w' ⟨rfl, rfl⟩
            go_wp2_with fail
            refine D.out.mono ?_
            rintro e w' ⟨rfl, rfl⟩
            clear D
            go_wp2_with fail
            go_round
            case rel =>
              refine ⟨j + 1, min (y * 16 + digI c3 true) 1114112, by omega, by omega, by omega, slot_int (by omega), slot_int (by first | (split <;> omega) | omega), Lib.hid ?_⟩
              have h := HJ.out
              rw [numL_go hjl (by rw [hc3'.out]; omega), hc3'.out] at h
              rw [h]
              have e1 : k + 3 + (j + 1) = k + 3 + j + 1 := by omega
              rw [e1]
              simp only [baseI, cond, Nat.add_assoc, Nat.add_comm 1 j]
            case measure => simp [intOf]; omega
        · have hx : n = j ∧ v = y := by
            have h := HJ.out
            rw [numL_end (show s.size ≤ k + 3 + j by omega), HR.out] at h
            injection h with h1 h2
            exact ⟨by omega, h1⟩
          obtain ⟨rfl, rfl⟩ := hx
          go_wp2_with fail
          refine (rcode_calls _ _).mono ?_
          rintro e w2 ⟨rfl, rfl⟩
          go_wp2_with fail
          refine (rput_calls _ (by omega) (by omega) _).mono ?_
          rintro e w3 ⟨rfl, hb2⟩
          have HB := Lib.hid hb2
          clear hb2
          go_wp2_with fail
          go_ret2
          exact num_end HF.out (by omega) HB.out
    · have hel : k + 3 + n < s.size := by omega
      obtain ⟨c2, hc2⟩ : ∃ c, s[k + 3 + n].toNat = c := ⟨_, rfl⟩
      have HC2 := Lib.hid hc2
      by_cases h59 : c2 = 59
      · have HF := Lib.hid (HD.out.trans (numAt_yes hn1 HR.out (semi_yes hel (hc2.trans h59))))
        clear hc2
        go_enter Tryz.func42, Tryz.ntmps42
        go_wp2_with fail
        go_loop [6, 10] (fun a x => ∃ (j : Nat) (y : Int), k + 3 + j ≤ s.size ∧ 0 ≤ y ∧ y ≤ 1114112 ∧ a = .int .i64 ((k : Int) + 2 + 1 + (j : Int)) ∧ x = .int .i64 y ∧ Hid (numL true (s.data.toList.drop (k + 3)) 0 = ((numL true (s.data.toList.drop (k + 3 + j)) y).1, (numL true (s.data.toList.drop (k + 3 + j)) y).2 + j))) (fun a _ => s.size - (intOf a).toNat)
        case atStart => exact ⟨0, 0, by omega, by decide, by decide, slot_int (by omega), rfl, Lib.hid (by simp)⟩
        case round =>
          obtain ⟨j, y, hjs, hy0, hy1, rfl, rfl, HJ⟩ := hrel
          by_cases hjl : k + 3 + j < s.size
          · obtain ⟨c3, hc3⟩ : ∃ c, s[k + 3 + j].toNat = c := ⟨_, rfl⟩
            have hcb : c3 < 256 := by have := s[k + 3 + j].toNat_lt; omega
            have hid3 : ∀ w : World, (Instr.index 9 (.string s) (.int .i64 ((k : Int) + 2 + 1 + (j : Int)))).run Tryz.prog w = .ok (.int .u8 ((c3 : Nat) : Int)) w := fun w => run_at s (k + 3 + j) hjl (by omega) hc3 w
            have D := Lib.hid (rdigit_calls c3 hcb true w)
            obtain ⟨hd0, hd1⟩ := dig_bd c3 true
            have hc3' := Lib.hid hc3
            clear hc3
            by_cases hd : digI c3 true < 0
            · have hx : n = j ∧ v = y := by
                have h := HJ.out
                rw [numL_stop hjl (by rw [hc3'.out]; exact hd), HR.out] at h
                injection h with h1 h2
                exact ⟨by omega, h1⟩
              obtain ⟨rfl, rfl⟩ := hx
              go_wp2_with fail
              refine D.out.mono ?_
              rintro e w' ⟨rfl, rfl⟩
              clear D
              obtain rfl : c3 = c2 := hc3'.out.symm.trans HC2.out
              subst h59
              go_wp2_with fail
              refine (rcode_calls _ _).mono ?_
              rintro e w2 ⟨rfl, rfl⟩
              go_wp2_with fail
              refine (rput_calls _ (by omega) (by omega) _).mono ?_
              rintro e w3 ⟨rfl, hb2⟩
              have HB := Lib.hid hb2
              clear hb2
              go_wp2_with fail
              go_ret2
              exact num_end HF.out (by omega) HB.out
            · have hd2 : 0 ≤ digI c3 true := by omega
              go_wp2_with fail
              refine D.out.mono ?_
              rintro e w' ⟨rfl, rfl⟩
              go_wp2_with fail
              refine D.out.mono ?_
              rintro e w' ⟨rfl, rfl⟩
              clear D
              go_wp2_with fail
              go_round
              case rel =>
                refine ⟨j + 1, min (y * 16 + digI c3 true) 1114112, by omega, by omega, by omega, slot_int (by omega), slot_int (by first | (split <;> omega) | omega), Lib.hid ?_⟩
                have h := HJ.out
                rw [numL_go hjl (by rw [hc3'.out]; omega), hc3'.out] at h
                rw [h]
                have e1 : k + 3 + (j + 1) = k + 3 + j + 1 := by omega
                rw [e1]
                simp only [baseI, cond, Nat.add_assoc, Nat.add_comm 1 j]
              case measure => simp [intOf]; omega
          · have hx : n = j ∧ v = y := by
              have h := HJ.out
              rw [numL_end (show s.size ≤ k + 3 + j by omega), HR.out] at h
              injection h with h1 h2
              exact ⟨by omega, h1⟩
            obtain ⟨rfl, rfl⟩ := hx
            exfalso; omega
      · have HF := Lib.hid (HD.out.trans (numAt_yes hn1 HR.out (semi_no hel (fun e => h59 (hc2.symm.trans e)))))
        have q2 : ((c2 : Int) == 59) = false := by rw [beq_eq_false_iff_ne]; omega
        clear hc2
        go_enter Tryz.func42, Tryz.ntmps42
        go_wp2_with fail
        go_loop [6, 10] (fun a x => ∃ (j : Nat) (y : Int), k + 3 + j ≤ s.size ∧ 0 ≤ y ∧ y ≤ 1114112 ∧ a = .int .i64 ((k : Int) + 2 + 1 + (j : Int)) ∧ x = .int .i64 y ∧ Hid (numL true (s.data.toList.drop (k + 3)) 0 = ((numL true (s.data.toList.drop (k + 3 + j)) y).1, (numL true (s.data.toList.drop (k + 3 + j)) y).2 + j))) (fun a _ => s.size - (intOf a).toNat)
        case atStart => exact ⟨0, 0, by omega, by decide, by decide, slot_int (by omega), rfl, Lib.hid (by simp)⟩
        case round =>
          obtain ⟨j, y, hjs, hy0, hy1, rfl, rfl, HJ⟩ := hrel
          by_cases hjl : k + 3 + j < s.size
          · obtain ⟨c3, hc3⟩ : ∃ c, s[k + 3 + j].toNat = c := ⟨_, rfl⟩
            have hcb : c3 < 256 := by have := s[k + 3 + j].toNat_lt; omega
            have hid3 : ∀ w : World, (Instr.index 9 (.string s) (.int .i64 ((k : Int) + 2 + 1 + (j : Int)))).run Tryz.prog w = .ok (.int .u8 ((c3 : Nat) : Int)) w := fun w => run_at s (k + 3 + j) hjl (by omega) hc3 w
            have D := Lib.hid (rdigit_calls c3 hcb true w)
            obtain ⟨hd0, hd1⟩ := dig_bd c3 true
            have hc3' := Lib.hid hc3
            clear hc3
            by_cases hd : digI c3 true < 0
            · have hx : n = j ∧ v = y := by
                have h := HJ.out
                rw [numL_stop hjl (by rw [hc3'.out]; exact hd), HR.out] at h
                injection h with h1 h2
                exact ⟨by omega, h1⟩
              obtain ⟨rfl, rfl⟩ := hx
              go_wp2_with fail
              refine D.out.mono ?_
              rintro e w' ⟨rfl, rfl⟩
              clear D
              obtain rfl : c3 = c2 := hc3'.out.symm.trans HC2.out
              go_wp2_with fail
              refine (rcode_calls _ _).mono ?_
              rintro e w2 ⟨rfl, rfl⟩
              go_wp2_with fail
              refine (rput_calls _ (by omega) (by omega) _).mono ?_
              rintro e w3 ⟨rfl, hb2⟩
              have HB := Lib.hid hb2
              clear hb2
              go_wp2_with fail
              go_ret2
              exact num_end HF.out (by omega) HB.out
            · have hd2 : 0 ≤ digI c3 true := by omega
              go_wp2_with fail
              refine D.out.mono ?_
              rintro e w' ⟨rfl, rfl⟩
              go_wp2_with fail
              refine D.out.mono ?_
              rintro e w' ⟨rfl, rfl⟩
              clear D
              go_wp2_with fail
              go_round
              case rel =>
                refine ⟨j + 1, min (y * 16 + digI c3 true) 1114112, by omega, by omega, by omega, slot_int (by omega), slot_int (by first | (split <;> omega) | omega), Lib.hid ?_⟩
                have h := HJ.out
                rw [numL_go hjl (by rw [hc3'.out]; omega), hc3'.out] at h
                rw [h]
                have e1 : k + 3 + (j + 1) = k + 3 + j + 1 := by omega
                rw [e1]
                simp only [baseI, cond, Nat.add_assoc, Nat.add_comm 1 j]
              case measure => simp [intOf]; omega
          · have hx : n = j ∧ v = y := by
              have h := HJ.out
              rw [numL_end (show s.size ≤ k + 3 + j by omega), HR.out] at h
              injection h with h1 h2
              exact ⟨by omega, h1⟩
            obtain ⟨rfl, rfl⟩ := hx
            exfalso; omega
set_option maxHeartbeats 800000 in
theorem rnumber_d (s : ByteArray) (hs : s.size ≤ 1000000000) (k : Nat) (w : World) (hk : k + 2 < s.size) (c : Nat) (hc : s[k + 2].toNat = c) (hx1 : ¬ c = 120) (hx2 : ¬ c = 88) :
    Calls Tryz.prog 42 #[.string s, .int .i64 k] w (NumEnd s k w) := by
  have hX : Hid (hexAt s (k + 2) = false) := Lib.hid (by rw [hexAt_in hk, hc]; simp [hx1, hx2])
  have hi0 : ∀ w : World, (Instr.index 9 (.string s) (.int .i64 ((k : Int) + 2))).run Tryz.prog w = .ok (.int .u8 c) w := fun w => run_at s (k + 2) hk (by omega) hc w
  have hc0 := Lib.hid hc
  clear hc
  have qx1 : ((c : Int) == 120) = false := by rw [beq_eq_false_iff_ne]; omega
  have qx2 : ((c : Int) == 88) = false := by rw [beq_eq_false_iff_ne]; omega
  have hfs : k + 2 ≤ s.size := by omega
  obtain ⟨⟨v, n⟩, hR⟩ : ∃ r, numL false (s.data.toList.drop (k + 2)) 0 = r := ⟨_, rfl⟩
  have hn : n ≤ s.size - (k + 2) := by
    have h := numL_len false (s.data.toList.drop (k + 2)) 0
    rw [hR, List.length_drop] at h
    exact h
  have hv := numL_bd false (s.data.toList.drop (k + 2)) 0 (by decide) (by decide)
  rw [hR] at hv
  obtain ⟨hv0, hv1⟩ := hv
  replace hv0 : 0 ≤ v := hv0
  replace hv1 : v ≤ 1114112 := hv1
  obtain ⟨hcd0, hcd1⟩ := code_small v
  have HR := Lib.hid hR
  have HD := Lib.hid (numV_dec hX.out)
  clear hR
  by_cases hn0 : n = 0
  · have HF := Lib.hid (HD.out.trans (numAt_no ((congrArg Prod.snd HR.out).trans hn0)))
    have HN0 := Lib.hid hn0
    have hnl : n ≤ 0 := by omega
    clear hn0
    by_cases he : k + 2 + n = s.size
    · exfalso; omega
    · have hel : k + 2 + n < s.size := by omega
      go_enter Tryz.func42, Tryz.ntmps42
      go_wp2_with fail
      go_loop [6, 10] (fun a x => ∃ (j : Nat) (y : Int), k + 2 + j ≤ s.size ∧ 0 ≤ y ∧ y ≤ 1114112 ∧ a = .int .i64 ((k : Int) + 2 + (j : Int)) ∧ x = .int .i64 y ∧ Hid (numL false (s.data.toList.drop (k + 2)) 0 = ((numL false (s.data.toList.drop (k + 2 + j)) y).1, (numL false (s.data.toList.drop (k + 2 + j)) y).2 + j))) (fun a _ => s.size - (intOf a).toNat)
      case atStart => exact ⟨0, 0, by omega, by decide, by decide, slot_int (by omega), rfl, Lib.hid (by simp)⟩
      case round =>
        obtain ⟨j, y, hjs, hy0, hy1, rfl, rfl, HJ⟩ := hrel
        by_cases hjl : k + 2 + j < s.size
        · obtain ⟨c3, hc3⟩ : ∃ c, s[k + 2 + j].toNat = c := ⟨_, rfl⟩
          have hcb : c3 < 256 := by have := s[k + 2 + j].toNat_lt; omega
          have hid3 : ∀ w : World, (Instr.index 9 (.string s) (.int .i64 ((k : Int) + 2 + (j : Int)))).run Tryz.prog w = .ok (.int .u8 ((c3 : Nat) : Int)) w := fun w => run_at s (k + 2 + j) hjl (by omega) hc3 w
          have D := Lib.hid (rdigit_calls c3 hcb false w)
          obtain ⟨hd0, hd1⟩ := dig_bd c3 false
          have hc3' := Lib.hid hc3
          clear hc3
          by_cases hd : digI c3 false < 0
          · have hx : n = j ∧ v = y := by
              have h := HJ.out
              rw [numL_stop hjl (by rw [hc3'.out]; exact hd), HR.out] at h
              injection h with h1 h2
              exact ⟨by omega, h1⟩
            obtain ⟨hjn, rfl⟩ := hx
            have q0 : (((k : Int) + 2 + (j : Int)) == ((k : Int) + 2)) = true := by rw [beq_iff_eq]; omega
            clear hjn
            go_wp2_with fail
            refine D.out.mono ?_
            rintro e w' ⟨rfl, rfl⟩
            clear D
            go_wp2_with fail
            go_ret2
            exact num_end HF.out rfl (Below.refl _ _)
          · have hd2 : 0 ≤ digI c3 false := by omega
            go_wp2_with fail
            refine D.out.mono ?_
            rintro e w' ⟨rfl, rfl⟩
            go_wp2_with fail
            refine D.out.mono ?_
            rintro e w' ⟨rfl, rfl⟩
            clear D
            go_wp2_with fail
            go_round
            case rel =>
              refine ⟨j + 1, min (y * 10 + digI c3 false) 1114112, by omega, by omega, by omega, slot_int (by omega), slot_int (by first | (split <;> omega) | omega), Lib.hid ?_⟩
              have h := HJ.out
              rw [numL_go hjl (by rw [hc3'.out]; omega), hc3'.out] at h
              rw [h]
              have e1 : k + 2 + (j + 1) = k + 2 + j + 1 := by omega
              rw [e1]
              simp only [baseI, cond, Nat.add_assoc, Nat.add_comm 1 j]
            case measure => simp [intOf]; omega
        · have hx : n = j ∧ v = y := by
            have h := HJ.out
            rw [numL_end (show s.size ≤ k + 2 + j by omega), HR.out] at h
            injection h with h1 h2
            exact ⟨by omega, h1⟩
          obtain ⟨hjn, rfl⟩ := hx
          have q0 : (((k : Int) + 2 + (j : Int)) == ((k : Int) + 2)) = true := by rw [beq_iff_eq]; omega
          exfalso; omega
  · have hn1 : 0 < n := by omega
    have q1 : (((k : Int) + 2 + (n : Int)) == ((k : Int) + 2)) = false := by rw [beq_eq_false_iff_ne]; omega
    by_cases he : k + 2 + n = s.size
    · have HF := Lib.hid (HD.out.trans (numAt_yes hn1 HR.out (semi_end (Nat.le_of_eq he.symm))))
      go_enter Tryz.func42, Tryz.ntmps42
      go_wp2_with fail
      go_loop [6, 10] (fun a x => ∃ (j : Nat) (y : Int), k + 2 + j ≤ s.size ∧ 0 ≤ y ∧ y ≤ 1114112 ∧ a = .int .i64 ((k : Int) + 2 + (j : Int)) ∧ x = .int .i64 y ∧ Hid (numL false (s.data.toList.drop (k + 2)) 0 = ((numL false (s.data.toList.drop (k + 2 + j)) y).1, (numL false (s.data.toList.drop (k + 2 + j)) y).2 + j))) (fun a _ => s.size - (intOf a).toNat)
      case atStart => exact ⟨0, 0, by omega, by decide, by decide, slot_int (by omega), rfl, Lib.hid (by simp)⟩
      case round =>
        obtain ⟨j, y, hjs, hy0, hy1, rfl, rfl, HJ⟩ := hrel
        by_cases hjl : k + 2 + j < s.size
        · obtain ⟨c3, hc3⟩ : ∃ c, s[k + 2 + j].toNat = c := ⟨_, rfl⟩
          have hcb : c3 < 256 := by have := s[k + 2 + j].toNat_lt; omega
          have hid3 : ∀ w : World, (Instr.index 9 (.string s) (.int .i64 ((k : Int) + 2 + (j : Int)))).run Tryz.prog w = .ok (.int .u8 ((c3 : Nat) : Int)) w := fun w => run_at s (k + 2 + j) hjl (by omega) hc3 w
          have D := Lib.hid (rdigit_calls c3 hcb false w)
          obtain ⟨hd0, hd1⟩ := dig_bd c3 false
          have hc3' := Lib.hid hc3
          clear hc3
          by_cases hd : digI c3 false < 0
          · have hx : n = j ∧ v = y := by
              have h := HJ.out
              rw [numL_stop hjl (by rw [hc3'.out]; exact hd), HR.out] at h
              injection h with h1 h2
              exact ⟨by omega, h1⟩
            obtain ⟨rfl, rfl⟩ := hx
            exfalso; omega
          · have hd2 : 0 ≤ digI c3 false := by omega
            go_wp2_with fail
            refine D.out.mono ?_
            rintro e w' ⟨rfl, rfl⟩
            go_wp2_with fail
            refine D.out.mono ?_
            rintro e w' ⟨rfl, rfl⟩
            clear D
            go_wp2_with fail
            go_round
            case rel =>
              refine ⟨j + 1, min (y * 10 + digI c3 false) 1114112, by omega, by omega, by omega, slot_int (by omega), slot_int (by first | (split <;> omega) | omega), Lib.hid ?_⟩
              have h := HJ.out
              rw [numL_go hjl (by rw [hc3'.out]; omega), hc3'.out] at h
              rw [h]
              have e1 : k + 2 + (j + 1) = k + 2 + j + 1 := by omega
              rw [e1]
              simp only [baseI, cond, Nat.add_assoc, Nat.add_comm 1 j]
            case measure => simp [intOf]; omega
        · have hx : n = j ∧ v = y := by
            have h := HJ.out
            rw [numL_end (show s.size ≤ k + 2 + j by omega), HR.out] at h
            injection h with h1 h2
            exact ⟨by omega, h1⟩
          obtain ⟨rfl, rfl⟩ := hx
          go_wp2_with fail
          refine (rcode_calls _ _).mono ?_
          rintro e w2 ⟨rfl, rfl⟩
          go_wp2_with fail
          refine (rput_calls _ (by omega) (by omega) _).mono ?_
          rintro e w3 ⟨rfl, hb2⟩
          have HB := Lib.hid hb2
          clear hb2
          go_wp2_with fail
          go_ret2
          exact num_end HF.out (by omega) HB.out
    · have hel : k + 2 + n < s.size := by omega
      obtain ⟨c2, hc2⟩ : ∃ c, s[k + 2 + n].toNat = c := ⟨_, rfl⟩
      have HC2 := Lib.hid hc2
      by_cases h59 : c2 = 59
      · have HF := Lib.hid (HD.out.trans (numAt_yes hn1 HR.out (semi_yes hel (hc2.trans h59))))
        clear hc2
        go_enter Tryz.func42, Tryz.ntmps42
        go_wp2_with fail
        go_loop [6, 10] (fun a x => ∃ (j : Nat) (y : Int), k + 2 + j ≤ s.size ∧ 0 ≤ y ∧ y ≤ 1114112 ∧ a = .int .i64 ((k : Int) + 2 + (j : Int)) ∧ x = .int .i64 y ∧ Hid (numL false (s.data.toList.drop (k + 2)) 0 = ((numL false (s.data.toList.drop (k + 2 + j)) y).1, (numL false (s.data.toList.drop (k + 2 + j)) y).2 + j))) (fun a _ => s.size - (intOf a).toNat)
        case atStart => exact ⟨0, 0, by omega, by decide, by decide, slot_int (by omega), rfl, Lib.hid (by simp)⟩
        case round =>
          obtain ⟨j, y, hjs, hy0, hy1, rfl, rfl, HJ⟩ := hrel
          by_cases hjl : k + 2 + j < s.size
          · obtain ⟨c3, hc3⟩ : ∃ c, s[k + 2 + j].toNat = c := ⟨_, rfl⟩
            have hcb : c3 < 256 := by have := s[k + 2 + j].toNat_lt; omega
            have hid3 : ∀ w : World, (Instr.index 9 (.string s) (.int .i64 ((k : Int) + 2 + (j : Int)))).run Tryz.prog w = .ok (.int .u8 ((c3 : Nat) : Int)) w := fun w => run_at s (k + 2 + j) hjl (by omega) hc3 w
            have D := Lib.hid (rdigit_calls c3 hcb false w)
            obtain ⟨hd0, hd1⟩ := dig_bd c3 false
            have hc3' := Lib.hid hc3
            clear hc3
            by_cases hd : digI c3 false < 0
            · have hx : n = j ∧ v = y := by
                have h := HJ.out
                rw [numL_stop hjl (by rw [hc3'.out]; exact hd), HR.out] at h
                injection h with h1 h2
                exact ⟨by omega, h1⟩
              obtain ⟨rfl, rfl⟩ := hx
              go_wp2_with fail
              refine D.out.mono ?_
              rintro e w' ⟨rfl, rfl⟩
              clear D
              obtain rfl : c3 = c2 := hc3'.out.symm.trans HC2.out
              subst h59
              go_wp2_with fail
              refine (rcode_calls _ _).mono ?_
              rintro e w2 ⟨rfl, rfl⟩
              go_wp2_with fail
              refine (rput_calls _ (by omega) (by omega) _).mono ?_
              rintro e w3 ⟨rfl, hb2⟩
              have HB := Lib.hid hb2
              clear hb2
              go_wp2_with fail
              go_ret2
              exact num_end HF.out (by omega) HB.out
            · have hd2 : 0 ≤ digI c3 false := by omega
              go_wp2_with fail
              refine D.out.mono ?_
              rintro e w' ⟨rfl, rfl⟩
              go_wp2_with fail
              refine D.out.mono ?_
              rintro e w' ⟨rfl, rfl⟩
              clear D
              go_wp2_with fail
              go_round
              case rel =>
                refine ⟨j + 1, min (y * 10 + digI c3 false) 1114112, by omega, by omega, by omega, slot_int (by omega), slot_int (by first | (split <;> omega) | omega), Lib.hid ?_⟩
                have h := HJ.out
                rw [numL_go hjl (by rw [hc3'.out]; omega), hc3'.out] at h
                rw [h]
                have e1 : k + 2 + (j + 1) = k + 2 + j + 1 := by omega
                rw [e1]
                simp only [baseI, cond, Nat.add_assoc, Nat.add_comm 1 j]
              case measure => simp [intOf]; omega
          · have hx : n = j ∧ v = y := by
              have h := HJ.out
              rw [numL_end (show s.size ≤ k + 2 + j by omega), HR.out] at h
              injection h with h1 h2
              exact ⟨by omega, h1⟩
            obtain ⟨rfl, rfl⟩ := hx
            exfalso; omega
      · have HF := Lib.hid (HD.out.trans (numAt_yes hn1 HR.out (semi_no hel (fun e => h59 (hc2.symm.trans e)))))
        have q2 : ((c2 : Int) == 59) = false := by rw [beq_eq_false_iff_ne]; omega
        clear hc2
        go_enter Tryz.func42, Tryz.ntmps42
        go_wp2_with fail
        go_loop [6, 10] (fun a x => ∃ (j : Nat) (y : Int), k + 2 + j ≤ s.size ∧ 0 ≤ y ∧ y ≤ 1114112 ∧ a = .int .i64 ((k : Int) + 2 + (j : Int)) ∧ x = .int .i64 y ∧ Hid (numL false (s.data.toList.drop (k + 2)) 0 = ((numL false (s.data.toList.drop (k + 2 + j)) y).1, (numL false (s.data.toList.drop (k + 2 + j)) y).2 + j))) (fun a _ => s.size - (intOf a).toNat)
        case atStart => exact ⟨0, 0, by omega, by decide, by decide, slot_int (by omega), rfl, Lib.hid (by simp)⟩
        case round =>
          obtain ⟨j, y, hjs, hy0, hy1, rfl, rfl, HJ⟩ := hrel
          by_cases hjl : k + 2 + j < s.size
          · obtain ⟨c3, hc3⟩ : ∃ c, s[k + 2 + j].toNat = c := ⟨_, rfl⟩
            have hcb : c3 < 256 := by have := s[k + 2 + j].toNat_lt; omega
            have hid3 : ∀ w : World, (Instr.index 9 (.string s) (.int .i64 ((k : Int) + 2 + (j : Int)))).run Tryz.prog w = .ok (.int .u8 ((c3 : Nat) : Int)) w := fun w => run_at s (k + 2 + j) hjl (by omega) hc3 w
            have D := Lib.hid (rdigit_calls c3 hcb false w)
            obtain ⟨hd0, hd1⟩ := dig_bd c3 false
            have hc3' := Lib.hid hc3
            clear hc3
            by_cases hd : digI c3 false < 0
            · have hx : n = j ∧ v = y := by
                have h := HJ.out
                rw [numL_stop hjl (by rw [hc3'.out]; exact hd), HR.out] at h
                injection h with h1 h2
                exact ⟨by omega, h1⟩
              obtain ⟨rfl, rfl⟩ := hx
              go_wp2_with fail
              refine D.out.mono ?_
              rintro e w' ⟨rfl, rfl⟩
              clear D
              obtain rfl : c3 = c2 := hc3'.out.symm.trans HC2.out
              go_wp2_with fail
              refine (rcode_calls _ _).mono ?_
              rintro e w2 ⟨rfl, rfl⟩
              go_wp2_with fail
              refine (rput_calls _ (by omega) (by omega) _).mono ?_
              rintro e w3 ⟨rfl, hb2⟩
              have HB := Lib.hid hb2
              clear hb2
              go_wp2_with fail
              go_ret2
              exact num_end HF.out (by omega) HB.out
            · have hd2 : 0 ≤ digI c3 false := by omega
              go_wp2_with fail
              refine D.out.mono ?_
              rintro e w' ⟨rfl, rfl⟩
              go_wp2_with fail
              refine D.out.mono ?_
              rintro e w' ⟨rfl, rfl⟩
              clear D
              go_wp2_with fail
              go_round
              case rel =>
                refine ⟨j + 1, min (y * 10 + digI c3 false) 1114112, by omega, by omega, by omega, slot_int (by omega), slot_int (by first | (split <;> omega) | omega), Lib.hid ?_⟩
                have h := HJ.out
                rw [numL_go hjl (by rw [hc3'.out]; omega), hc3'.out] at h
                rw [h]
                have e1 : k + 2 + (j + 1) = k + 2 + j + 1 := by omega
                rw [e1]
                simp only [baseI, cond, Nat.add_assoc, Nat.add_comm 1 j]
              case measure => simp [intOf]; omega
          · have hx : n = j ∧ v = y := by
              have h := HJ.out
              rw [numL_end (show s.size ≤ k + 2 + j by omega), HR.out] at h
              injection h with h1 h2
              exact ⟨by omega, h1⟩
            obtain ⟨rfl, rfl⟩ := hx
            exfalso; omega
theorem rnumber_calls (s : ByteArray) (hs : s.size ≤ 1000000000) (k : Nat) (hk : k + 2 ≤ s.size) (w : World) : Calls Tryz.prog 42 #[.string s, .int .i64 k] w (NumEnd s k w) := by
  rcases Nat.lt_or_ge (k + 2) s.size with h | h
  · by_cases h1 : s[k + 2].toNat = 120
    · exact rnumber_x s hs k w h h1
    · by_cases h2 : s[k + 2].toNat = 88
      · exact rnumber_X s hs k w h h2
      · exact rnumber_d s hs k w h _ rfl h1 h2
  · exact rnumber_end s hs k w (by omega)
end Go.Proofs.YtbdgoffbkenofaaGreat.Ch
