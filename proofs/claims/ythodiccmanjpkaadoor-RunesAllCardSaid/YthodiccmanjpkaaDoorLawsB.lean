/- The laws RunesParts, RunesLists, RunesAll: their walks. -/
import Derived.Test.YthodiccmanjpkaaDoorLawsA
namespace Go.Proofs.YthodiccmanjpkaaDoor.Wk
open Go Go.RowKit Go.Lib Go.Proofs.YthodiccmanjpkaaDoor.Ru
set_option linter.unusedVariables false

theorem clnab_calls (a b : ByteArray) (w : World) (hs : (a ++ b).size ≤ 35184372088832) (h : Hid (cln (a ++ b) = cln a ++ cln b)) :
    Calls Tryd.prog 10 #[.string (a ++ b)] w fun e w' => e = .returned (.string (cln a ++ cln b)) ∧ Below w.heap.size w w' :=
  (cln_calls (a ++ b) w hs).mono fun e w' ⟨h1, b⟩ => ⟨by rw [h1, h.out], b⟩
theorem lowab_calls (a b : ByteArray) (w : World) (hs : (a ++ b).size ≤ maxLen) :
    Calls Tryd.prog 12 #[.string (a ++ b)] w fun e w' => e = .returned (.string (low a ++ low b)) ∧ Below w.heap.size w w' :=
  (low_calls (a ++ b) w hs).mono fun e w' ⟨h1, b⟩ => ⟨by rw [h1, low_append], b⟩
theorem va_calls (a : ByteArray) (v : Bool) (w : World) (hs : a.size ≤ 9223372036854775807) (hT : Tabs w) (h : Hid (validD a.data.toList = v)) :
    Calls Tryd.prog 11 #[.string a] w fun e w' => e = .returned (.bool v) ∧ Below w.heap.size w w' :=
  (valid_calls a w hs hT).mono fun e w' ⟨h1, b⟩ => ⟨by rw [h1, h.out], b⟩
set_option maxRecDepth 100000 in
set_option maxHeartbeats 2000000 in
theorem runesParts (a b : ByteArray) (ha : a.size ≤ maxLen) (hb : b.size ≤ maxLen) (w : World) (hT : Tabs w) : Calls Tryd.prog 4 #[.string a, .string b] w fun e w' => e = .returned (.bool true) ∧ Below w.heap.size w w' := by
  have HT := Lib.hid hT
  clear hT
  unfold maxLen at ha hb
  by_cases hbig : 2000 < a.size
  · have hbig' : (2000 : Int) < (a.size : Int) := by omega
    go_enter Tryd.func4, Tryd.ntmps4
    go_wp2_with fail
    refine (awake_calls _ HT.out).mono ?_
    rintro e w5 ⟨rfl, b5⟩
    go_wp2_with fail
    go_ret
    exact ⟨rfl, b5⟩
  have d1 : decide (2000 < (a.size : Int)) = false := decide_eq_false (by omega)
  by_cases hbig2 : 2000 < b.size
  · have hbig' : (2000 : Int) < (b.size : Int) := by omega
    go_enter Tryd.func4, Tryd.ntmps4
    go_wp2_with fail
    refine (awake_calls _ HT.out).mono ?_
    rintro e w5 ⟨rfl, b5⟩
    go_wp2_with fail
    go_ret
    exact ⟨rfl, b5⟩
  have d2 : decide (2000 < (b.size : Int)) = false := decide_eq_false (by omega)
  cases hv : validD a.data.toList
  · have HV := Lib.hid hv
    clear hv
    go_enter Tryd.func4, Tryd.ntmps4
    go_wp2_with fail
    refine (va_calls a _ _ (by omega) HT.out HV).mono ?_
    rintro e w4 ⟨rfl, b4⟩
    go_wp2_with fail
    refine (awake_calls _ (tabs_below HT.out b4)).mono ?_
    rintro e w5 ⟨rfl, b5⟩
    go_wp2_with fail
    go_ret
    exact ⟨rfl, b4.trans (b5.mono b4.size)⟩
  have HV := Lib.hid hv
  clear hv
  have z1 := cln_size a
  have z2 := cln_size b
  have z3 := low_size a
  have z4 := low_size b
  by_cases hsz : a.size = 0
  · have hl : a.toList = [] := by rw [ByteArray.toList_eq]; exact List.eq_nil_of_length_eq_zero (by rw [← Lib.size_eq]; exact hsz)
    have HA := Lib.hid (cln_append a b HV.out (by rw [← ByteArray.toList_eq, hl]; simp))
    clear hsz
    go_enter Tryd.func4, Tryd.ntmps4
    go_wp2_with fail
    refine (va_calls a _ _ (by omega) HT.out HV).mono ?_
    rintro e w4 ⟨rfl, b4⟩
    go_wp2_with fail
    refine (clnab_calls a b _ (by rw [ByteArray.size_append]; omega) HA).mono ?_
    rintro e w5 ⟨rfl, b5⟩
    have B5 := Lib.hid (b4.trans (b5.mono b4.size))
    clear b5 b4
    go_wp2_with fail
    refine (cln_calls a _ (by omega)).mono ?_
    rintro e w6 ⟨rfl, b6⟩
    have B6 := Lib.hid (B5.out.trans (b6.mono B5.out.size))
    clear b6
    go_wp2_with fail
    refine (cln_calls b _ (by omega)).mono ?_
    rintro e w7 ⟨rfl, b7⟩
    have B7 := Lib.hid (B6.out.trans (b7.mono B6.out.size))
    clear b7
    go_wp2_with fail
    refine (lowab_calls a b _ (by rw [ByteArray.size_append]; unfold maxLen; omega)).mono ?_
    rintro e w8 ⟨rfl, b8⟩
    have B8 := Lib.hid (B7.out.trans (b8.mono B7.out.size))
    clear b8
    go_wp2_with fail
    refine (low_calls a _ (by unfold maxLen; omega)).mono ?_
    rintro e w9 ⟨rfl, b9⟩
    have B9 := Lib.hid (B8.out.trans (b9.mono B8.out.size))
    clear b9
    go_wp2_with fail
    refine (low_calls b _ (by unfold maxLen; omega)).mono ?_
    rintro e w10 ⟨rfl, b10⟩
    have B10 := Lib.hid (B9.out.trans (b10.mono B9.out.size))
    clear b10
    go_wp2_with fail
    refine (awake_calls _ (tabs_below HT.out B10.out)).mono ?_
    rintro e w11 ⟨rfl, b11⟩
    have B11 := Lib.hid (B10.out.trans (b11.mono B10.out.size))
    clear b11
    go_wp2_with fail
    go_ret
    exact ⟨rfl, B11.out⟩
  have h1 : (1 : Int) ≤ (a.size : Int) := by omega
  have hl : ¬ a.toList = [] := fun e => by
    rw [ByteArray.toList_eq] at e
    have := congrArg List.length e
    rw [← Lib.size_eq, List.length_nil] at this
    omega
  have he : (!a.toList.isEmpty) = true := by
    cases h : a.toList with
    | nil => exact absurd h hl
    | cons x xs => rfl
  have hlast : ∀ h : a.size - 1 < a.size, a.data.toList.getLast? = some a[a.size - 1] := fun h => by
    rw [List.getLast?_eq_getElem?, ← Lib.size_eq]
    have h2 : a.size - 1 < a.data.toList.length := by rw [← Lib.size_eq]; exact h
    rw [List.getElem?_eq_getElem h2]
    rfl
  have hlt : a.size - 1 < a.size := by omega
  by_cases h13 : (a[a.size - 1].toNat : Int) = 13
  · have t0 : ((a[a.size - 1].toNat : Int) == 13) = true := by rw [h13]; rfl
    clear h13 hlast
    go_enter Tryd.func4, Tryd.ntmps4
    go_wp2_with fail
    refine (va_calls a _ _ (by omega) HT.out HV).mono ?_
    rintro e w4 ⟨rfl, b4⟩
    go_wp2_with fail
    refine (awake_calls _ (tabs_below HT.out b4)).mono ?_
    rintro e w5 ⟨rfl, b5⟩
    go_wp2_with fail
    go_ret
    exact ⟨rfl, b4.trans (b5.mono b4.size)⟩
  have t0 : ((a[a.size - 1].toNat : Int) == 13) = false := beq_eq_false_iff_ne.2 h13
  have HA := Lib.hid (cln_append a b HV.out (by rw [hlast hlt]; intro e; injection e with e; exact h13 (by rw [e]; rfl)))
  clear h13 hlast
  go_enter Tryd.func4, Tryd.ntmps4
  go_wp2_with fail
  refine (va_calls a _ _ (by omega) HT.out HV).mono ?_
  rintro e w4 ⟨rfl, b4⟩
  go_wp2_with fail
  refine (clnab_calls a b _ (by rw [ByteArray.size_append]; omega) HA).mono ?_
  rintro e w5 ⟨rfl, b5⟩
  have B5 := Lib.hid (b4.trans (b5.mono b4.size))
  clear b5 b4
  go_wp2_with fail
  refine (cln_calls a _ (by omega)).mono ?_
  rintro e w6 ⟨rfl, b6⟩
  have B6 := Lib.hid (B5.out.trans (b6.mono B5.out.size))
  clear b6
  go_wp2_with fail
  refine (cln_calls b _ (by omega)).mono ?_
  rintro e w7 ⟨rfl, b7⟩
  have B7 := Lib.hid (B6.out.trans (b7.mono B6.out.size))
  clear b7
  go_wp2_with fail
  refine (lowab_calls a b _ (by rw [ByteArray.size_append]; unfold maxLen; omega)).mono ?_
  rintro e w8 ⟨rfl, b8⟩
  have B8 := Lib.hid (B7.out.trans (b8.mono B7.out.size))
  clear b8
  go_wp2_with fail
  refine (low_calls a _ (by unfold maxLen; omega)).mono ?_
  rintro e w9 ⟨rfl, b9⟩
  have B9 := Lib.hid (B8.out.trans (b9.mono B8.out.size))
  clear b9
  go_wp2_with fail
  refine (low_calls b _ (by unfold maxLen; omega)).mono ?_
  rintro e w10 ⟨rfl, b10⟩
  have B10 := Lib.hid (B9.out.trans (b10.mono B9.out.size))
  clear b10
  go_wp2_with fail
  refine (awake_calls _ (tabs_below HT.out B10.out)).mono ?_
  rintro e w11 ⟨rfl, b11⟩
  have B11 := Lib.hid (B10.out.trans (b11.mono B10.out.size))
  clear b11
  go_wp2_with fail
  go_ret
  exact ⟨rfl, B11.out⟩

/-! ### RunesAll -/
theorem rcln_calls (s : ByteArray) (w : World) (hs : s.size ≤ 35184372088832) :
    Calls Tryd.prog 18 #[.string s] w fun e w' => e = .returned (.string (cln s)) ∧ w = w' :=
  (rclean_calls s w hs).mono fun e w' ⟨h, b⟩ => ⟨by rw [h]; unfold cln; rfl, b⟩
theorem rlow_calls (s : ByteArray) (w : World) (hs : s.size ≤ maxLen) :
    Calls Tryd.prog 19 #[.string s] w fun e w' => e = .returned (.string (low s)) ∧ Below w.heap.size w w' :=
  (rlower_calls s w hs).mono fun e w' ⟨h, b⟩ => ⟨by rw [h]; unfold low; rfl, b⟩
theorem rv_calls (s : ByteArray) (v : Bool) (w : World) (hs : s.size ≤ 140737488355328) (h : Hid (validD s.data.toList = v)) :
    Calls Tryd.prog 17 #[.string s] w fun e w' => e = .returned (.bool v) ∧ w = w' :=
  (rvalid_calls s w hs).mono fun e w' ⟨h1, b⟩ => ⟨by rw [h1, h.out], b⟩
set_option maxRecDepth 100000 in
set_option maxHeartbeats 2000000 in
theorem runesAll (s : ByteArray) (r c : Int) (hs : s.size ≤ maxLen) (hr : (Lit.int .i32 r).wf = true) (hc : (Lit.int .u8 c).wf = true) (w : World) (hT : Tabs w) : Calls Tryd.prog 8 #[.string s, .int .i32 r, .int .u8 c] w fun e w' => e = .returned (.bool true) ∧ Below w.heap.size w w' := by
  have HT := Lib.hid hT
  clear hT
  have r0 : -2147483648 ≤ r := by have e : IntKind.i32.min = -2147483648 := rfl; simp [Lit.wf, e] at hr; omega
  have r1 : r ≤ 2147483647 := by have e : IntKind.i32.max = 2147483647 := rfl; simp [Lit.wf, e] at hr; omega
  clear hr hc
  unfold maxLen at hs
  by_cases hbig : 3000 < s.size
  · have hbig' : (3000 : Int) < (s.size : Int) := by omega
    go_enter Tryd.func8, Tryd.ntmps8
    go_wp2_with fail
    refine (awake_calls _ HT.out).mono ?_
    rintro e w5 ⟨rfl, b5⟩
    go_wp2_with fail
    go_ret
    exact ⟨rfl, b5⟩
  obtain ⟨v, hv⟩ : ∃ v, validD s.data.toList = v := ⟨_, rfl⟩
  have HV := Lib.hid hv
  clear hv
  have e1 := beq_selfB v
  have e2 := beq_selfB (blankB c)
  have e3 := beq_selfB (letterB c)
  go_enter Tryd.func8, Tryd.ntmps8
  go_wp2_with fail
  refine (va_calls s _ _ (by omega) HT.out HV).mono ?_
  rintro e w1 ⟨rfl, b1⟩
  have B1 := Lib.hid b1
  clear b1
  go_wp2_with fail
  refine (rv_calls s _ _ (by omega) HV).mono ?_
  rintro e w2 ⟨rfl, rfl⟩
  go_wp2_with fail
  refine (cln_calls s _ (by omega)).mono ?_
  rintro e w3 ⟨rfl, b3⟩
  have B3 := Lib.hid (B1.out.trans (b3.mono B1.out.size))
  clear b3
  go_wp2_with fail
  refine (rcln_calls s _ (by omega)).mono ?_
  rintro e w4 ⟨rfl, rfl⟩
  go_wp2_with fail
  refine (low_calls s _ (by unfold maxLen; omega)).mono ?_
  rintro e w5 ⟨rfl, b5⟩
  have B5 := Lib.hid (B3.out.trans (b5.mono B3.out.size))
  clear b5
  go_wp2_with fail
  refine (rlow_calls s _ (by unfold maxLen; omega)).mono ?_
  rintro e w6 ⟨rfl, b6⟩
  have B6 := Lib.hid (B5.out.trans (b6.mono B5.out.size))
  clear b6
  go_wp2_with fail
  refine (put_calls r _).mono ?_
  rintro e w7 ⟨rfl, rfl⟩
  go_wp2_with fail
  refine (Ct.rput_calls r r0 r1 _).mono ?_
  rintro e w8 ⟨rfl, b8⟩
  have B8 := Lib.hid (B6.out.trans (b8.mono B6.out.size))
  clear b8
  go_wp2_with fail
  refine (blank_calls c _).mono ?_
  rintro e w9 ⟨rfl, rfl⟩
  go_wp2_with fail
  refine (rblank_calls c _).mono ?_
  rintro e w10 ⟨rfl, rfl⟩
  go_wp2_with fail
  refine (letter_calls c _).mono ?_
  rintro e w11 ⟨rfl, rfl⟩
  go_wp2_with fail
  refine (rletter_calls c _).mono ?_
  rintro e w12 ⟨rfl, rfl⟩
  go_wp2_with fail
  refine (awake_calls _ (tabs_below HT.out B8.out)).mono ?_
  rintro e w13 ⟨rfl, b13⟩
  have B13 := Lib.hid (B8.out.trans (b13.mono B8.out.size))
  clear b13
  go_wp2_with fail
  go_ret
  exact ⟨rfl, B13.out⟩

/-! ### RunesLists -/
/-- A row of numbers that came in. -/
def IsRow (k : IntKind) (w : World) (a : Option Addr) (len cap : Nat) (zs : List Int) : Prop :=
  (a = none ∧ len = 0 ∧ cap = 0 ∧ zs = []) ∨
    ∃ x, a = some x ∧ len ≤ cap ∧ cap ≤ maxLen ∧ zs.length = cap ∧ (∀ i, i < zs.length → w.cell? (x.add i) = some (.int k (zs.getD i 0))) ∧ ∀ n ∈ zs, (Lit.int k n).wf = true
theorem cell_flat {w : World} {a : Addr} {v : Value} (h : w.cell? a = some v) : a.spot = none := by
  unfold World.cell? at h
  cases hb : w.heap[a.block]? with
  | none => rw [hb] at h; cases h
  | some o => rw [hb] at h; cases o <;> simp at h; exact h.1
theorem flat_addr {w : World} {a : Addr} {v : Value} (h : w.cell? a = some v) : a = ⟨a.block, a.off, none⟩ := by
  have := cell_flat h
  cases a; simp_all
theorem add_flat (b o n : Nat) : (⟨b, o, none⟩ : Addr).add n = ⟨b, o + n, none⟩ := by
  unfold Addr.add; split
  · rename_i h; subst h; rfl
  · rfl
theorem enc_toList (z : Int) : (Utf8.encode z).toList = encodeRune z := by rw [ByteArray.toList_eq]; exact encode_eq z
theorem enc_sizes (z : Int) : 1 ≤ (Utf8.encode z).size ∧ (Utf8.encode z).size ≤ 4 := by
  have := enc_length z
  rw [Lib.size_eq, encode_eq]; exact this
theorem enc_yes (z : Int) (h : badRune z ∨ z = 65533) : ((Utf8.encode z).toList == [239, 191, 189]) = true := by
  rw [enc_toList, beq_iff_eq]; exact (enc_fffd z).2 h
theorem enc_no (z : Int) (h : ¬ (badRune z ∨ z = 65533)) : ((Utf8.encode z).toList == [239, 191, 189]) = false := by
  rw [enc_toList, beq_eq_false_iff_ne]; exact fun e => h ((enc_fffd z).1 e)
theorem runes_add (s : ByteArray) (z : Int) (h : Hid (Runes s.data.toList)) : Hid (Runes (s ++ Utf8.encode z).data.toList) := by
  have e : (s ++ Utf8.encode z).data.toList = s.data.toList ++ encodeRune z := by simp [encode_eq]
  rw [e]
  exact Lib.hid (h.out.append (Runes.one (piece_enc z)))
theorem place1_calls (v : Int) (h0 : 0 ≤ v) (h1 : v ≤ 9223372036854775807) (w : World) :
    Calls Tryd.prog 14 #[.int .i64 v, .int .i64 1] w fun e w' => e = .returned (.int .i64 0) ∧ w = w' := by
  go_enter Tryd.func14, Tryd.ntmps14
  go_wp2_with fail
  go_ret
  exact ⟨rfl, rfl⟩
set_option maxRecDepth 100000 in
set_option maxHeartbeats 4000000 in
theorem runesLists (a : Option Addr) (len cap : Nat) (zs : List Int) (w : World) (hR : IsRow .i32 w a len cap zs) (hT : Tabs w) : Calls Tryd.prog 6 #[.slice a len cap] w fun e w' => e = .returned (.bool true) ∧ Below w.heap.size w w' := by
  have HT := Lib.hid hT
  clear hT
  by_cases hbig : 200 < len
  · have hbig' : (200 : Int) < (len : Int) := by omega
    have hlen : len ≤ 9223372036854775807 := by
      rcases hR with ⟨_, h, _⟩ | ⟨x, _, h1, h2, _⟩
      · omega
      · unfold maxLen at h2; omega
    clear hR
    go_enter Tryd.func6, Tryd.ntmps6
    go_wp2_with fail
    refine (awake_calls _ HT.out).mono ?_
    rintro e w5 ⟨rfl, b5⟩
    go_wp2_with fail
    go_ret
    exact ⟨rfl, b5⟩
  have hcell : ∀ k, k < len → ∃ b off z, a = some ⟨b, off, none⟩ ∧ w.cell? ⟨b, off + k, none⟩ = some (.int .i32 z) ∧ -2147483648 ≤ z ∧ z ≤ 2147483647 := by
    intro k hk
    rcases hR with ⟨_, h, _⟩ | ⟨x, rfl, h1, h2, hz, hc, hw⟩
    · omega
    · have hkz : k < zs.length := by omega
      have hwf := hw (zs.getD k 0) (by rw [List.getD, List.getElem?_eq_getElem hkz]; exact List.getElem_mem hkz)
      have c0 := hc 0 (by omega)
      rw [show x.add 0 = x by simp [Addr.add]] at c0
      have hf := flat_addr c0
      have ck := hc k hkz
      rw [hf, add_flat] at ck
      have e1 : IntKind.i32.min = -2147483648 := rfl
      have e2 : IntKind.i32.max = 2147483647 := rfl
      generalize zs.getD k 0 = z at hwf ck
      simp [Lit.wf, e1, e2] at hwf
      exact ⟨x.block, x.off, z, by rw [← hf], ck, by omega, by omega⟩
  have HC := Lib.hid hcell
  clear hcell hR
  go_enter Tryd.func6, Tryd.ntmps6
  go_wp2_with fail
  go_loop [3, 4] (fun sv i => ∃ (k : Nat) (s : ByteArray), k ≤ len ∧ i = .int .i64 k ∧ sv = .string s ∧ s.size ≤ 4 * k ∧ Hid (Runes s.data.toList)) (fun _ i => len - (RowKit.intOf i).toNat)
  case atStart => exact ⟨0, ByteArray.empty, by omega, rfl, rfl, by simp, Lib.hid .nil⟩
  case round =>
    obtain ⟨k, s, hk, rfl, rfl, hsz, HS⟩ := hrel
    by_cases hlt : k < len
    · obtain ⟨b, off, z, rfl, hc, z0, z1⟩ := HC.out k hlt
      have hlt' : (k : Int) < (len : Int) := by omega
      obtain ⟨l1, l4⟩ := enc_sizes z
      have HA := Lib.hid (runes_add s z HS)
      have q1 : decide (((Utf8.encode z).size : Int) < 1) = false := decide_eq_false (by omega)
      have q4 : decide (4 < ((Utf8.encode z).size : Int)) = false := decide_eq_false (by omega)
      rcases (show z < 0 ∨ (0 ≤ z ∧ 1114111 < z) ∨ (55296 ≤ z ∧ z ≤ 57343) ∨ z = 65533 ∨ (0 ≤ z ∧ z < 55296) ∨ (57343 < z ∧ z ≤ 1114111 ∧ z ≠ 65533) by omega) with h | ⟨h, h2⟩ | ⟨h, h2⟩ | h | ⟨h, h2⟩ | ⟨h, h2, h3⟩
      · have t0 := enc_yes z (.inl (.inl h))
        have t1 : (z != 65533) = true := by rw [bne_iff_ne]; omega
        go_wp2_with fail
        refine (put_calls _ _).mono ?_
        rintro e w1 ⟨rfl, rfl⟩
        go_wp2_with fail
        go_round
        case rel => exact ⟨k + 1, s ++ Utf8.encode z, by omega, by go_num, rfl, by rw [ByteArray.size_append]; omega, HA.out⟩
        case measure => simp [RowKit.intOf]; omega
      · have t0 := enc_yes z (.inl (.inr (.inl h2)))
        have t1 : (z != 65533) = true := by rw [bne_iff_ne]; omega
        have t2 : decide (z < 0) = false := decide_eq_false (by omega)
        go_wp2_with fail
        refine (put_calls _ _).mono ?_
        rintro e w1 ⟨rfl, rfl⟩
        go_wp2_with fail
        go_round
        case rel => exact ⟨k + 1, s ++ Utf8.encode z, by omega, by go_num, rfl, by rw [ByteArray.size_append]; omega, HA.out⟩
        case measure => simp [RowKit.intOf]; omega
      · have t0 := enc_yes z (.inl (.inr (.inr ⟨h, h2⟩)))
        have t1 : (z != 65533) = true := by rw [bne_iff_ne]; omega
        have t2 : decide (z < 0) = false := decide_eq_false (by omega)
        have t3 : decide (1114111 < z) = false := decide_eq_false (by omega)
        go_wp2_with fail
        refine (put_calls _ _).mono ?_
        rintro e w1 ⟨rfl, rfl⟩
        go_wp2_with fail
        go_round
        case rel => exact ⟨k + 1, s ++ Utf8.encode z, by omega, by go_num, rfl, by rw [ByteArray.size_append]; omega, HA.out⟩
        case measure => simp [RowKit.intOf]; omega
      · have t0 := enc_yes z (.inr h)
        subst h
        go_wp2_with fail
        refine (put_calls _ _).mono ?_
        rintro e w1 ⟨rfl, rfl⟩
        go_wp2_with fail
        go_round
        case rel => exact ⟨k + 1, s ++ Utf8.encode 65533, by omega, by go_num, rfl, by rw [ByteArray.size_append]; omega, HA.out⟩
        case measure => simp [RowKit.intOf]; omega
      · have t0 := enc_no z (by unfold badRune; omega)
        have t2 : decide (z < 0) = false := decide_eq_false (by omega)
        have t3 : decide (1114111 < z) = false := decide_eq_false (by omega)
        have t4 : decide (55296 ≤ z) = false := decide_eq_false (by omega)
        go_wp2_with fail
        refine (put_calls _ _).mono ?_
        rintro e w1 ⟨rfl, rfl⟩
        go_wp2_with fail
        go_round
        case rel => exact ⟨k + 1, s ++ Utf8.encode z, by omega, by go_num, rfl, by rw [ByteArray.size_append]; omega, HA.out⟩
        case measure => simp [RowKit.intOf]; omega
      · have t0 := enc_no z (by unfold badRune; omega)
        have t2 : decide (z < 0) = false := decide_eq_false (by omega)
        have t3 : decide (1114111 < z) = false := decide_eq_false (by omega)
        have t4 : decide (z ≤ 57343) = false := decide_eq_false (by omega)
        have t5 : (55296 : Int) ≤ z := by omega
        clear h3
        go_wp2_with fail
        refine (put_calls _ _).mono ?_
        rintro e w1 ⟨rfl, rfl⟩
        go_wp2_with fail
        go_round
        case rel => exact ⟨k + 1, s ++ Utf8.encode z, by omega, by go_num, rfl, by rw [ByteArray.size_append]; omega, HA.out⟩
        case measure => simp [RowKit.intOf]; omega
    · obtain rfl : k = len := by omega
      have HV := Lib.hid (valid_runes HS.out)
      go_wp2_with fail
      refine (va_calls s _ _ (by omega) HT.out HV).mono ?_
      rintro e w1 ⟨rfl, b1⟩
      have B1 := Lib.hid b1
      clear b1
      go_wp2_with fail
      refine (place1_calls _ (by omega) (by omega) _).mono ?_
      rintro e w2 ⟨rfl, rfl⟩
      go_wp2_with fail
      refine (awake_calls _ (tabs_below HT.out B1.out)).mono ?_
      rintro e w3 ⟨rfl, b3⟩
      have B3 := Lib.hid (B1.out.trans (b3.mono B1.out.size))
      clear b3
      go_wp2_with fail
      go_ret
      exact ⟨rfl, B3.out⟩
end Go.Proofs.YthodiccmanjpkaaDoor.Wk
