/- The document's Valid and Clean; a byte's sorts. -/
import Derived.Test.YthodiccmanjpkaaDoorNextW
import Derived.WalkLawsBesides
import Derived.WalkSpells
namespace Go.Proofs.YthodiccmanjpkaaDoor.Ru
open Go Go.RowKit Go.Lib
set_option linter.unusedVariables false

theorem drop_ne (s : ByteArray) (i : Nat) (h : i < s.size) : s.data.toList.drop i ≠ [] := fun e => by
  have := congrArg List.length e
  rw [List.length_drop, ← Lib.size_eq] at this
  simp at this; omega
theorem next_bad (s : ByteArray) (i : Nat) (h : (Utf8.decode s i).1 = 65533 ∧ (Utf8.decode s i).2 = 1) : nextV s i = (0, 0) := by unfold nextV; exact if_pos h
theorem next_ok (s : ByteArray) (i : Nat) (h : ¬ ((Utf8.decode s i).1 = 65533 ∧ (Utf8.decode s i).2 = 1)) : nextV s i = (((Utf8.decode s i).1 : Int), ((Utf8.decode s i).2 : Int)) := by unfold nextV; exact if_neg h
def DBad (s : ByteArray) (i : Nat) : Prop := (Utf8.decode s i).1 = 65533 ∧ (Utf8.decode s i).2 = 1
theorem bad_at (s : ByteArray) (i : Nat) : Bad (s.data.toList.drop i) ↔ DBad s i := by unfold Bad DBad; rw [decodeL_drop]
theorem valid_no (s : ByteArray) (i : Nat) (hi : i < s.size) (h : DBad s i) : validD (s.data.toList.drop i) = false := by
  rw [validD_step _ (drop_ne s i hi), decodeL_drop]; exact if_pos h
theorem valid_go (s : ByteArray) (i : Nat) (hi : i < s.size) (h : ¬ DBad s i) : validD (s.data.toList.drop i) = validD (s.data.toList.drop (i + (Utf8.decode s i).2)) := by
  rw [validD_step _ (drop_ne s i hi), decodeL_drop, List.drop_drop]; exact if_neg h
theorem width_ok (s : ByteArray) (i : Nat) (hi : i < s.size) : 1 ≤ (Utf8.decode s i).2 ∧ i + (Utf8.decode s i).2 ≤ s.size ∧ (Utf8.decode s i).2 ≤ 4 := by
  have h1 := decodeL_width (s.data.toList.drop i)
  have h2 := decodeL_le (s.data.toList.drop i) (drop_ne s i hi)
  rw [decodeL_drop] at h1 h2
  rw [List.length_drop, ← Lib.size_eq] at h2
  refine ⟨h1, by omega, ?_⟩
  rw [← decodeL_drop, decodeL_N]
  rcases decodeN_shape (s.data.toList.drop i).length ((s.data.toList.drop i).getD 0 0).toNat ((s.data.toList.drop i).getD 1 0).toNat ((s.data.toList.drop i).getD 2 0).toNat ((s.data.toList.drop i).getD 3 0).toNat with ⟨c, e⟩ | ⟨c1, c2, c3, cv, e⟩ | ⟨c1, c2, c3, c4, cv, cs, e⟩ | ⟨c1, c2, c3, c4, c5, cv, cw, e⟩ | e
  all_goals (rw [e]; dsimp only; omega)

theorem next_calls_bad (s : ByteArray) (i : Nat) (w : World) (hs : s.size ≤ 140737488355328) (hi : i < s.size) (h : Hid (nextV s i = (0, 0))) :
    Calls Tryd.prog 27 #[.string s, .int .i64 i] w fun e w' => e = .returned (.tuple #[.int .i32 0, .int .i64 0]) ∧ w = w' :=
  (next_calls s i w hs hi).mono fun e w' ⟨h1, h2⟩ => ⟨by rw [h1, h.out], h2⟩
theorem next_calls_ok (s : ByteArray) (i : Nat) (v d : Int) (w : World) (hs : s.size ≤ 140737488355328) (hi : i < s.size) (h : Hid (nextV s i = (v, d))) :
    Calls Tryd.prog 27 #[.string s, .int .i64 i] w fun e w' => e = .returned (.tuple #[.int .i32 v, .int .i64 d]) ∧ w = w' :=
  (next_calls s i w hs hi).mono fun e w' ⟨h1, h2⟩ => ⟨by rw [h1, h.out], h2⟩

set_option maxHeartbeats 1000000 in
set_option maxRecDepth 100000 in
theorem rvalid_calls (s : ByteArray) (w : World) (hs : s.size ≤ 140737488355328) :
    Calls Tryd.prog 17 #[.string s] w fun e w' => e = .returned (.bool (validD s.data.toList)) ∧ w = w' := by
  go_enter Tryd.func17, Tryd.ntmps17
  go_wp2
  go_loop [3] (fun i => ∃ k : Nat, k ≤ s.size ∧ i = .int .i64 k ∧ Hid (validD s.data.toList = validD (s.data.toList.drop k))) (fun i => s.size - (intOf i).toNat)
  case atStart => exact ⟨0, by omega, rfl, Lib.hid (by rw [List.drop_zero])⟩
  case round =>
    obtain ⟨k, hk, rfl, HV⟩ := hrel
    by_cases hlt : k < s.size
    · obtain ⟨hw1, hw2, hw4⟩ := width_ok s k hlt
      by_cases hb : DBad s k
      · have HN := Lib.hid (valid_no s k hlt hb)
        have HX := Lib.hid (next_bad s k hb)
        clear hb
        go_wp2_with fail
        refine (next_calls_bad s k _ hs hlt HX).mono ?_
        rintro e w' ⟨rfl, rfl⟩
        go_wp2_with fail
        go_ret
        exact ⟨by rw [HV.out, HN.out]; rfl, rfl⟩
      · have HN := Lib.hid (valid_go s k hlt hb)
        have HX := Lib.hid (next_ok s k hb)
        clear hb
        generalize (Utf8.decode s k).2 = d at hw1 hw2 hw4 HN HX
        generalize (Utf8.decode s k).1 = v at HX
        have hn0 : ((d : Int) == 0) = false := by rw [beq_eq_false_iff_ne]; omega
        go_wp2_with fail
        refine (next_calls_ok s k _ _ _ hs hlt HX).mono ?_
        rintro e w' ⟨rfl, rfl⟩
        go_wp2_with fail
        go_round
        case rel => exact ⟨k + d, hw2, by go_num, Lib.hid (by rw [HV.out, HN.out])⟩
        case measure => simp [intOf]; omega
    · obtain rfl : k = s.size := by omega
      have HE := Lib.hid (show validD (s.data.toList.drop s.size) = true by rw [List.drop_eq_nil_of_le (by rw [← Lib.size_eq]; omega)]; rfl)
      go_wp2_with fail
      go_ret
      exact ⟨by rw [HV.out, HE.out]; rfl, rfl⟩

/-! ### Clean -/
theorem head_at (s : ByteArray) (i : Nat) (h : i < s.size) : (s.data.toList.drop i).getD 0 0 = s[i] := by
  rw [getD_dropU, Nat.add_zero, Lib.getD_get!', show s.get! i = s[i] from get_at s i h]
theorem ba_ext {a b : ByteArray} (h : a.data.toList = b.data.toList) : a = b := by
  cases a; cases b; simp at h; simp [h]
theorem byte_eq (x : UInt8) (n : Nat) (hn : n < 256) : x = UInt8.ofNat n ↔ (x.toNat : Int) = n := by
  rw [← UInt8.toNat_inj]; simp; omega
/-- From here on Clean gives this. -/
def cl (s : ByteArray) (i : Nat) : List UInt8 := clean (s.data.toList.drop i)
theorem cl_end (s : ByteArray) (i : Nat) (h : ¬ i < s.size) : cl s i = [] := by
  unfold cl; rw [List.drop_eq_nil_of_le (by rw [← Lib.size_eq]; omega)]; rfl
theorem cl_bad (s : ByteArray) (i : Nat) (hi : i < s.size) (h : DBad s i ∨ (s[i].toNat : Int) = 0) : cl s i = fffd ++ cl s (i + 1) := by
  unfold cl
  rw [clean_bad _ (drop_ne s i hi) ?_, List.drop_drop]
  rcases h with h | h
  · exact .inl ((bad_at s i).2 h)
  · exact .inr (by rw [head_at s i hi]; exact (byte_eq _ 0 (by omega)).2 h)
theorem cl_13 (s : ByteArray) (i : Nat) (hi : i < s.size) (h : (s[i].toNat : Int) = 13) (hn : ¬ (∃ h1 : i + 1 < s.size, (s[i + 1].toNat : Int) = 10)) : cl s i = [10] ++ cl s (i + 1) := by
  unfold cl
  rw [clean_13 _ (by rw [head_at s i hi]; exact (byte_eq _ 13 (by omega)).2 h), List.drop_drop, if_neg ?_]; rfl
  intro e
  rw [getD_dropU] at e
  by_cases h1 : i + 1 < s.size
  · rw [Lib.getD_get!', show s.get! (i + 1) = s[i + 1] from get_at s (i + 1) h1] at e
    exact hn ⟨h1, (byte_eq _ 10 (by omega)).1 e⟩
  · rw [List.getD, List.getElem?_eq_none (by rw [← Lib.size_eq]; omega)] at e
    simp at e
theorem cl_1310 (s : ByteArray) (i : Nat) (hi : i < s.size) (h : (s[i].toNat : Int) = 13) (h1 : i + 1 < s.size) (hn : (s[i + 1].toNat : Int) = 10) : cl s i = [10] ++ cl s (i + 2) := by
  unfold cl
  rw [clean_13 _ (by rw [head_at s i hi]; exact (byte_eq _ 13 (by omega)).2 h), List.drop_drop, if_pos ?_]; rfl
  rw [getD_dropU, Lib.getD_get!', show s.get! (i + 1) = s[i + 1] from get_at s (i + 1) h1]
  exact (byte_eq _ 10 (by omega)).2 hn
theorem cl_rune (s : ByteArray) (i : Nat) (hi : i < s.size) (h : ¬ DBad s i) (h0 : ¬ (s[i].toNat : Int) = 0) (h13 : ¬ (s[i].toNat : Int) = 13) : cl s i = (s.extract i (i + (Utf8.decode s i).2)).data.toList ++ cl s (i + (Utf8.decode s i).2) := by
  unfold cl
  rw [clean_rune _ (drop_ne s i hi) (fun e => h ((bad_at s i).1 e)) (by rw [head_at s i hi]; exact fun e => h0 ((byte_eq _ 0 (by omega)).1 e)) (by rw [head_at s i hi]; exact fun e => h13 ((byte_eq _ 13 (by omega)).1 e)), decodeL_drop, List.drop_drop]
  congr 1
  rw [ByteArray.data_extract, Array.toList_extract, List.extract_eq_take_drop]
  congr 1; omega
theorem width_13 (s : ByteArray) (i : Nat) (hi : i < s.size) (h : (s[i].toNat : Int) = 13) : (Utf8.decode s i).2 = 1 := by
  rw [← decodeL_drop]
  refine width_lt _ ?_
  rw [(head_lt (s.data.toList.drop i) 13 (by omega)).2 (by rw [head_at s i hi]; exact (byte_eq _ 13 (by omega)).2 h)]
  omega
attribute [irreducible] cl
theorem acc_add (a b : ByteArray) (r q : List UInt8) (h : Hid (q = a.data.toList ++ (b.data.toList ++ r))) : Hid (q = (a ++ b).data.toList ++ r) := by
  rw [h.out]; exact Lib.hid (by simp)
theorem add_fffd (s : ByteArray) (k : Nat) (t : ByteArray) (h : Hid (cl s 0 = t.data.toList ++ cl s k)) (e : cl s k = fffd ++ cl s (k + 1)) : Hid (cl s 0 = (t ++ ⟨#[239, 191, 189]⟩).data.toList ++ cl s (k + 1)) :=
  acc_add _ _ _ _ (Lib.hid (by rw [h.out, e]; rfl))
theorem add_10 (s : ByteArray) (k m : Nat) (t : ByteArray) (h : Hid (cl s 0 = t.data.toList ++ cl s k)) (e : cl s k = [10] ++ cl s m) : Hid (cl s 0 = (t ++ ⟨#[10]⟩).data.toList ++ cl s m) :=
  acc_add _ _ _ _ (Lib.hid (by rw [h.out, e]))
theorem add_rune (s : ByteArray) (k m : Nat) (t b : ByteArray) (h : Hid (cl s 0 = t.data.toList ++ cl s k)) (e : cl s k = b.data.toList ++ cl s m) : Hid (cl s 0 = (t ++ b).data.toList ++ cl s m) :=
  acc_add _ _ _ _ (Lib.hid (by rw [h.out, e]))

set_option maxHeartbeats 4000000 in
set_option maxRecDepth 100000 in
theorem rclean_calls (s : ByteArray) (w : World) (hs : s.size ≤ 35184372088832) :
    Calls Tryd.prog 18 #[.string s] w fun e w' => e = .returned (.string ⟨(clean s.data.toList).toArray⟩) ∧ w = w' := by
  have H0 := Lib.hid (show cl s 0 = clean s.data.toList by unfold cl; rw [List.drop_zero])
  go_enter Tryd.func18, Tryd.ntmps18
  go_wp2
  go_loop [3, 4] (fun tv i => ∃ (k : Nat) (t : ByteArray), k ≤ s.size ∧ i = .int .i64 k ∧ tv = .string t ∧ t.size ≤ 3 * k ∧ Hid (cl s 0 = t.data.toList ++ cl s k)) (fun _ i => s.size - (intOf i).toNat)
  case atStart => exact ⟨0, ByteArray.empty, by omega, rfl, rfl, by simp, Lib.hid (by simp)⟩
  case round =>
    obtain ⟨k, t, hk, rfl, rfl, htz, HC⟩ := hrel
    by_cases hlt : k < s.size
    · obtain ⟨hw1, hw2, hw4⟩ := width_ok s k hlt
      have B0 := Lib.hid (cl_bad s k hlt)
      have B1 := Lib.hid (cl_13 s k hlt)
      have B2 := Lib.hid (cl_1310 s k hlt)
      have B3 := Lib.hid (cl_rune s k hlt)
      by_cases hb : DBad s k
      · have HX := Lib.hid (next_bad s k hb)
        have HB := Lib.hid hb
        clear hb
        go_wp2_with fail
        refine (next_calls_bad s k _ (by omega) hlt HX).mono ?_
        rintro e w' ⟨rfl, rfl⟩
        go_wp2_with fail
        go_round
        case rel => exact ⟨k + 1, t ++ ⟨#[239, 191, 189]⟩, by omega, by go_num, rfl, by rw [ByteArray.size_append, show (⟨#[239, 191, 189]⟩ : ByteArray).size = 3 from rfl]; omega, add_fffd s k t HC (B0.out (.inl HB.out))⟩
        case measure => simp [intOf]; omega
      · have HX := Lib.hid (next_ok s k hb)
        have HB := Lib.hid hb
        clear hb
        have W13 := Lib.hid (width_13 s k hlt)
        generalize (Utf8.decode s k).2 = d at hw1 hw2 hw4 B3 HX W13
        generalize (Utf8.decode s k).1 = v at HX
        have hn0 : ((d : Int) == 0) = false := by rw [beq_eq_false_iff_ne]; omega
        by_cases c0 : (s[k].toNat : Int) = 0
        · have t0 : ((s[k].toNat : Int) == 0) = true := by rw [c0]; rfl
          have HE := Lib.hid c0
          clear c0
          go_wp2_with fail
          refine (next_calls_ok s k _ _ _ (by omega) hlt HX).mono ?_
          rintro e w' ⟨rfl, rfl⟩
          go_wp2_with fail
          go_round
          case rel => exact ⟨k + 1, t ++ ⟨#[239, 191, 189]⟩, by omega, by go_num, rfl, by rw [ByteArray.size_append, show (⟨#[239, 191, 189]⟩ : ByteArray).size = 3 from rfl]; omega, add_fffd s k t HC (B0.out (.inr HE.out))⟩
          case measure => simp [intOf]; omega
        have t0 : ((s[k].toNat : Int) == 0) = false := by rw [beq_eq_false_iff_ne]; exact c0
        have N0 := Lib.hid c0
        clear c0
        by_cases c13 : (s[k].toNat : Int) = 13
        · have t1 : ((s[k].toNat : Int) == 13) = true := by rw [c13]; rfl
          have HE := Lib.hid c13
          have HD := Lib.hid (W13.out c13)
          clear c13
          by_cases h1 : k + 1 < s.size
          · have h1' : (k : Int) + 1 < (s.size : Int) := by omega
            by_cases c10 : (s[k + 1].toNat : Int) = 10
            · have t2 : ((s[k + 1].toNat : Int) == 10) = true := by rw [c10]; rfl
              have HF := Lib.hid c10
              clear c10
              go_wp2_with fail
              refine (next_calls_ok s k _ _ _ (by omega) hlt HX).mono ?_
              rintro e w' ⟨rfl, rfl⟩
              go_wp2_with fail
              go_round
              case rel => exact ⟨k + 2, t ++ ⟨#[10]⟩, by omega, by go_num, rfl, by rw [ByteArray.size_append, show (⟨#[10]⟩ : ByteArray).size = 1 from rfl]; omega, add_10 s k _ t HC (B2.out HE.out h1 HF.out)⟩
              case measure => simp [intOf]; omega
            · have t2 : ((s[k + 1].toNat : Int) == 10) = false := by rw [beq_eq_false_iff_ne]; exact c10
              have HF := Lib.hid (show ¬ ∃ h1 : k + 1 < s.size, (s[k + 1].toNat : Int) = 10 from fun ⟨_, h⟩ => c10 h)
              clear c10
              go_wp2_with fail
              refine (next_calls_ok s k _ _ _ (by omega) hlt HX).mono ?_
              rintro e w' ⟨rfl, rfl⟩
              go_wp2_with fail
              go_round
              case rel => exact ⟨k + d, t ++ ⟨#[10]⟩, by omega, by go_num, rfl, by rw [ByteArray.size_append, show (⟨#[10]⟩ : ByteArray).size = 1 from rfl]; omega, by rw [HD.out]; exact add_10 s k _ t HC (B1.out HE.out HF.out)⟩
              case measure => simp [intOf]; omega
          · have hd : decide ((k : Int) + 1 < (s.size : Int)) = false := by simp; omega
            have HF := Lib.hid (show ¬ ∃ h1 : k + 1 < s.size, (s[k + 1].toNat : Int) = 10 from fun ⟨h, _⟩ => h1 h)
            go_wp2_with fail
            refine (next_calls_ok s k _ _ _ (by omega) hlt HX).mono ?_
            rintro e w' ⟨rfl, rfl⟩
            go_wp2_with fail
            go_round
            case rel => exact ⟨k + d, t ++ ⟨#[10]⟩, by omega, by go_num, rfl, by rw [ByteArray.size_append, show (⟨#[10]⟩ : ByteArray).size = 1 from rfl]; omega, by rw [HD.out]; exact add_10 s k _ t HC (B1.out HE.out HF.out)⟩
            case measure => simp [intOf]; omega
        have t1 : ((s[k].toNat : Int) == 13) = false := by rw [beq_eq_false_iff_ne]; exact c13
        have N13 := Lib.hid c13
        clear c13
        have hw2' : (k : Int) + (d : Int) ≤ (s.size : Int) := by omega
        go_wp2_with fail
        refine (next_calls_ok s k _ _ _ (by omega) hlt HX).mono ?_
        rintro e w' ⟨rfl, rfl⟩
        go_wp2_with fail
        go_round
        case rel => exact ⟨k + d, t ++ s.extract k (k + d), hw2, by go_num, rfl, by rw [ByteArray.size_append, ByteArray.size_extract]; omega, add_rune s k _ t _ HC (B3.out HB.out N0.out N13.out)⟩
        case measure => simp [intOf]; omega
    · obtain rfl : k = s.size := by omega
      have HE := Lib.hid (cl_end s s.size (by omega))
      go_wp2_with fail
      go_ret
      refine ⟨?_, rfl⟩
      have e := HC.out
      rw [HE.out, List.append_nil, H0.out] at e
      show Ending.returned (.string t) = _
      rw [show t = ⟨(clean s.data.toList).toArray⟩ from ba_ext (by rw [← e])]
end Go.Proofs.YthodiccmanjpkaaDoor.Ru
