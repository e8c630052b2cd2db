/- TokenRaws, walked. -/
import Derived.Test.YtpbdkloohhjapaaGreatTkW
import Derived.Test.YtpbdkloohhjapaaGreatTkPr
namespace Go.Proofs.YtpbdkloohhjapaaGreat.Wk
open Go Go.RowKit Go.Proofs.YtpbdkloohhjapaaGreat.Tk Go.Proofs.YtpbdkloohhjapaaGreat.Tr
set_option linter.unusedVariables false
set_option maxRecDepth 100000

def rwA : Array Value := #[.string ⟨#[116, 105, 116, 108, 101]⟩, .string ⟨#[116, 101, 120, 116, 97, 114, 101, 97]⟩, .string ⟨#[115, 116, 121, 108, 101]⟩, .string ⟨#[115, 99, 114, 105, 112, 116]⟩, .string ⟨#[120, 109, 112]⟩, .string ⟨#[105, 102, 114, 97, 109, 101]⟩, .string ⟨#[110, 111, 101, 109, 98, 101, 100]⟩, .string ⟨#[110, 111, 102, 114, 97, 109, 101, 115]⟩]
def rwU : Array Value := #[.string ⟨#[84, 73, 84, 76, 69]⟩, .string ⟨#[84, 69, 88, 84, 65, 82, 69, 65]⟩, .string ⟨#[83, 84, 89, 76, 69]⟩, .string ⟨#[83, 67, 82, 73, 80, 84]⟩, .string ⟨#[88, 77, 80]⟩, .string ⟨#[73, 70, 82, 65, 77, 69]⟩, .string ⟨#[78, 79, 69, 77, 66, 69, 68]⟩, .string ⟨#[78, 79, 70, 82, 65, 77, 69, 83]⟩]
theorem rw_ix (k : Nat) (hk : k < 8) : ∃ n N : ByteArray, (rwA[k]? = some (.string n)) ∧ (∀ w : World, (Instr.index 38 (.agg rwU) (.int .i64 k)).run Tryz.prog w = .ok (.string N) w) ∧ RawN n n ∧ RawN n N ∧ n.size ≤ 8 := by
  have h : k = 0 ∨ k = 1 ∨ k = 2 ∨ k = 3 ∨ k = 4 ∨ k = 5 ∨ k = 6 ∨ k = 7 := by omega
  rcases h with rfl | rfl | rfl | rfl | rfl | rfl | rfl | rfl
  · exact ⟨⟨#[116, 105, 116, 108, 101]⟩, ⟨#[84, 73, 84, 76, 69]⟩, rfl, fun w => by kernel_rfl, ⟨by decide, by decide, by decide +kernel, by decide +kernel, by decide +kernel, by decide +kernel⟩, ⟨by decide, by decide, by decide +kernel, by decide +kernel, by decide +kernel, by decide +kernel⟩, by decide⟩
  · exact ⟨⟨#[116, 101, 120, 116, 97, 114, 101, 97]⟩, ⟨#[84, 69, 88, 84, 65, 82, 69, 65]⟩, rfl, fun w => by kernel_rfl, ⟨by decide, by decide, by decide +kernel, by decide +kernel, by decide +kernel, by decide +kernel⟩, ⟨by decide, by decide, by decide +kernel, by decide +kernel, by decide +kernel, by decide +kernel⟩, by decide⟩
  · exact ⟨⟨#[115, 116, 121, 108, 101]⟩, ⟨#[83, 84, 89, 76, 69]⟩, rfl, fun w => by kernel_rfl, ⟨by decide, by decide, by decide +kernel, by decide +kernel, by decide +kernel, by decide +kernel⟩, ⟨by decide, by decide, by decide +kernel, by decide +kernel, by decide +kernel, by decide +kernel⟩, by decide⟩
  · exact ⟨⟨#[115, 99, 114, 105, 112, 116]⟩, ⟨#[83, 67, 82, 73, 80, 84]⟩, rfl, fun w => by kernel_rfl, ⟨by decide, by decide, by decide +kernel, by decide +kernel, by decide +kernel, by decide +kernel⟩, ⟨by decide, by decide, by decide +kernel, by decide +kernel, by decide +kernel, by decide +kernel⟩, by decide⟩
  · exact ⟨⟨#[120, 109, 112]⟩, ⟨#[88, 77, 80]⟩, rfl, fun w => by kernel_rfl, ⟨by decide, by decide, by decide +kernel, by decide +kernel, by decide +kernel, by decide +kernel⟩, ⟨by decide, by decide, by decide +kernel, by decide +kernel, by decide +kernel, by decide +kernel⟩, by decide⟩
  · exact ⟨⟨#[105, 102, 114, 97, 109, 101]⟩, ⟨#[73, 70, 82, 65, 77, 69]⟩, rfl, fun w => by kernel_rfl, ⟨by decide, by decide, by decide +kernel, by decide +kernel, by decide +kernel, by decide +kernel⟩, ⟨by decide, by decide, by decide +kernel, by decide +kernel, by decide +kernel, by decide +kernel⟩, by decide⟩
  · exact ⟨⟨#[110, 111, 101, 109, 98, 101, 100]⟩, ⟨#[78, 79, 69, 77, 66, 69, 68]⟩, rfl, fun w => by kernel_rfl, ⟨by decide, by decide, by decide +kernel, by decide +kernel, by decide +kernel, by decide +kernel⟩, ⟨by decide, by decide, by decide +kernel, by decide +kernel, by decide +kernel, by decide +kernel⟩, by decide⟩
  · exact ⟨⟨#[110, 111, 102, 114, 97, 109, 101, 115]⟩, ⟨#[78, 79, 70, 82, 65, 77, 69, 83]⟩, rfl, fun w => by kernel_rfl, ⟨by decide, by decide, by decide +kernel, by decide +kernel, by decide +kernel, by decide +kernel⟩, ⟨by decide, by decide, by decide +kernel, by decide +kernel, by decide +kernel, by decide +kernel⟩, by decide⟩
theorem rw_next (s n o x : ByteArray) (hs : s.size ≤ 900000) (hn : n.size ≤ 8) (a : Nat) (ha : a ≤ 1000000) (i : Int) (hi : (a : Int) = i) (kind : Int) (b : Bool) (k : Nat) (m : Int) (hm : (k : Int) = m) (h : nextP s a n = (⟨kind, o, x, [], b⟩, k, true)) (W : World) :
    Calls Tryz.prog 11 #[.string s, .int .i64 i, .string n] W fun e w' => ∃ A ac, e = .returned (.tuple #[.agg #[.int .i64 kind, .string o, .string x, .slice A 0 ac, .bool b], .int .i64 m, .bool true]) ∧ Below W.heap.size W w' :=
  (next_as s n hs (by omega) a ha i hi ⟨kind, o, x, [], b⟩ k true h m hm W).mono fun e w' ⟨A, ac, h1, h2, h3, h4⟩ => ⟨A, ac, h1, h3⟩
set_option maxHeartbeats 8000000 in
theorem tokenRaws (a : ByteArray) (which : Int) (upper : Bool) (w0 : a.size ≤ maxLen) (u1 : (Lit.int .i64 which).wf = true) (w : World) :
    Calls Tryz.prog 6 #[.string a, .int .i64 which, .bool upper] w fun e w' => e = .returned (.bool true) ∧ Below w.heap.size w w' := by
  have P1 := Lib.hid (placeN_calls which 8 (by decide) (by decide) 8 rfl)
  have hpk := placeN_lt which (n := 8) (by decide)
  obtain ⟨n, N, X1, X2, R1, R2, hnz⟩ := rw_ix (placeN which 8) hpk
  generalize placeN which 8 = pn at *
  have g1 := alloc_new w (.cells rwA 38)
  have HB0 := Lib.hid ((Below.refl _ w).alloc (Nat.le_refl _) (.cells rwA 38))
  have c0 : (w.alloc (.cells rwA 38)).cell? ⟨w.heap.size, pn, none⟩ = some (.string n) := by rw [block_cell g1]; exact X1
  unfold rwA at g1 HB0 c0
  unfold rwU at X2
  clear g1 X1 u1
  have hpk2 : (pn : Int) < 8 := by omega
  go_enter Tryz.func6, Tryz.ntmps6
  go_wp2_with fail
  refine (P1.out _).mono ?_
  rintro e w1 ⟨rfl, rfl⟩
  generalize w.alloc (.cells #[.string ⟨#[116, 105, 116, 108, 101]⟩, .string ⟨#[116, 101, 120, 116, 97, 114, 101, 97]⟩, .string ⟨#[115, 116, 121, 108, 101]⟩, .string ⟨#[115, 99, 114, 105, 112, 116]⟩, .string ⟨#[120, 109, 112]⟩, .string ⟨#[105, 102, 114, 97, 109, 101]⟩, .string ⟨#[110, 111, 101, 109, 98, 101, 100]⟩, .string ⟨#[110, 111, 102, 114, 97, 109, 101, 115]⟩] 38) = w1 at *
  by_cases hl : 1000 < a.size
  · clear X2 R1 R2
    go_wp2_with fail
    refine (awake_calls _).mono ?_
    rintro e w2 ⟨rfl, hb⟩
    have HB1 := Lib.hid (HB0.out.trans (hb.mono HB0.out.size))
    clear hb
    go_wp2_with fail
    go_ret
    exact ⟨rfl, HB1.out⟩
  by_cases hz : a.size = 0
  · have he := isEmpty_of hz
    clear X2 R1 R2
    go_wp2_with fail
    refine (awake_calls _).mono ?_
    rintro e w2 ⟨rfl, hb⟩
    have HB1 := Lib.hid (HB0.out.trans (hb.mono HB0.out.size))
    clear hb
    go_wp2_with fail
    go_ret
    exact ⟨rfl, HB1.out⟩
  have has : a.size ≤ 1000 := by omega
  have hp : 0 < a.size := by omega
  have he := isEmpty_not hp
  have HP := Lib.hid hp
  have HNZ := Lib.hid hnz
  have R1' := Lib.hid R1
  have R2' := Lib.hid R2
  have HAS := Lib.hid has
  have z1 : (⟨#[60, 47, 98, 62, 60, 47]⟩ : ByteArray).size = 6 := rfl
  have z2 : (⟨#[120, 62]⟩ : ByteArray).size = 2 := rfl
  have z3 : (⟨#[60, 47]⟩ : ByteArray).size = 2 := rfl
  have z4 : (⟨#[62]⟩ : ByteArray).size = 1 := rfl
  have z5 : (⟨#[32, 62]⟩ : ByteArray).size = 2 := rfl
  have hsN := R2.sz
  have HCI : Hid (∀ M z : ByteArray, RawN n M → (z = ⟨#[62]⟩ ∨ z = ⟨#[32, 62]⟩) → (∀ i, i < a.size → bAt a i ≠ 38 ∧ bAt a i ≠ 47) → _) := Lib.hid fun M z hM hzz hc => raw_text (n := n) (N := M) (a := a) (z := z) hM HP.out hc hzz
  clear R1 R2 hl hz hp w0
  go_wp2_with fail
  go_loop [9] (fun t => ∃ i : Nat, i ≤ a.size ∧ t = .int .i64 i ∧ Hid (∀ j, j < i → bAt a j ≠ 38 ∧ bAt a j ≠ 47)) (fun t => a.size - (intOf t).toNat)
  case atStart => exact ⟨0, Nat.zero_le _, rfl, Lib.hid (fun j h => absurd h (Nat.not_lt_zero _))⟩
  case round =>
    obtain ⟨i, hi, rfl, HI⟩ := hrel
    by_cases hlt : i < a.size
    · have hz3 : (i : Int) < (a.size : Int) := by omega
      have j0 : ∀ w : World, (Instr.index 9 (.string a) (.int .i64 (i : Int))).run Tryz.prog w = .ok (.int .u8 (bAt a i : Nat)) w := fun w => Ch.run_at a i (by omega) rfl (bAt_in (by omega)).symm w
      obtain ⟨x, hx⟩ : ∃ x, bAt a i = x := ⟨_, rfl⟩
      rw [hx] at j0
      by_cases c1 : x = 38
      · subst c1
        clear hx
        go_wp2_with fail
        refine (awake_calls _).mono ?_
        rintro e w2 ⟨rfl, hb⟩
        have HB1 := Lib.hid (HB0.out.trans (hb.mono HB0.out.size))
        clear hb
        go_wp2_with fail
        go_ret
        exact ⟨rfl, HB1.out⟩
      have p1 : ((x : Int) == 38) = false := by rw [beq_eq_false_iff_ne]; omega
      by_cases c2 : x = 47
      · subst c2
        clear hx c1
        go_wp2_with fail
        refine (awake_calls _).mono ?_
        rintro e w2 ⟨rfl, hb⟩
        have HB1 := Lib.hid (HB0.out.trans (hb.mono HB0.out.size))
        clear hb
        go_wp2_with fail
        go_ret
        exact ⟨rfl, HB1.out⟩
      have p2 : ((x : Int) == 47) = false := by rw [beq_eq_false_iff_ne]; omega
      have HI2 : Hid (∀ j, j < i + 1 → bAt a j ≠ 38 ∧ bAt a j ≠ 47) := Lib.hid fun j hj => by
        rcases Nat.lt_or_ge j i with h | h
        · exact HI.out j h
        · obtain rfl : j = i := by omega
          exact ⟨fun x => c1 (hx.symm.trans x), fun x => c2 (hx.symm.trans x)⟩
      clear hx c1 c2
      go_wp2_with fail
      go_round
      case rel => exact ⟨i + 1, by omega, by go_num, HI2⟩
      case measure => simp [intOf]; omega
    · have hz3 : ¬ (i : Int) < (a.size : Int) := by omega
      have HC2 : Hid (∀ j, j < a.size → bAt a j ≠ 38 ∧ bAt a j ≠ 47) := Lib.hid fun j hj => HI.out j (by omega)
      cases upper with
    | false =>
      obtain ⟨n1, n2⟩ := HCI.out n ⟨#[62]⟩ R1'.out (.inl rfl) HC2.out
      have s1 : ((((a ++ ⟨#[60, 47, 98, 62, 60, 47]⟩) ++ n) ++ ⟨#[120, 62]⟩) ++ (((⟨#[60, 47]⟩ : ByteArray) ++ n) ++ ⟨#[62]⟩)).size ≤ 900000 := by simp only [ByteArray.size_append, z1, z2, z3, z4]; omega
      have N1 := Lib.hid (rw_next _ n _ _ s1 hnz 0 (by decide) 0 rfl 3 true (a.size + 8 + n.size) ((a.size : Int) + 6 + (n.size : Int) + 2) (by omega) n1)
      have N2 := Lib.hid (rw_next _ n _ _ s1 hnz (a.size + 8 + n.size) (by omega) ((a.size : Int) + 6 + (n.size : Int) + 2) (by omega) 2 false (a.size + 8 + n.size + (2 + n.size + 1)) ((a.size : Int) + 6 + (n.size : Int) + 2 + (2 + (n.size : Int) + 1)) (by omega) n2)
      have hw : IntKind.i64.wrap ((a.size : Int) + 6 + (n.size : Int) + 2 + (2 + (n.size : Int) + 1)) = (a.size : Int) + 6 + (n.size : Int) + 2 + (2 + (n.size : Int) + 1) := IntWalk.i64_in _ (by omega)
      clear n1 n2 s1 HI
      go_wp2_with fail
      refine (N1.out _).mono ?_
      rintro e w2 ⟨A1, c1, rfl, hb⟩
      have HB1 := Lib.hid (HB0.out.trans (hb.mono HB0.out.size))
      clear hb N1
      go_wp2_with fail
      refine (N2.out _).mono ?_
      rintro e w3 ⟨A2, c2, rfl, hb⟩
      have g1 := alloc_new w2 (.cells #[.int .i64 3, .string ⟨#[]⟩, .string (((a ++ ⟨#[60, 47, 98, 62, 60, 47]⟩) ++ n) ++ ⟨#[120, 62]⟩), .slice A1 0 c1, .bool true] 25)
      have g2 := (hb.block _ (lt_of_block g1)).trans g1
      have hb2 := ((Below.refl _ w2).alloc (Nat.le_refl _) (.cells #[.int .i64 3, .string ⟨#[]⟩, .string (((a ++ ⟨#[60, 47, 98, 62, 60, 47]⟩) ++ n) ++ ⟨#[120, 62]⟩), .slice A1 0 c1, .bool true] 25)).trans (hb.mono (by simp))
      have HB2 := Lib.hid (HB1.out.trans (hb2.mono HB1.out.size))
      have HB3 := Lib.hid (HB2.out.alloc HB2.out.size (.cells #[.int .i64 2, .string n, .string ⟨#[]⟩, .slice A2 0 c2, .bool false] 25))
      obtain ⟨x0, x1, x2, x3, x4⟩ := tbox5 (alloc_old g2 (.cells #[.int .i64 2, .string n, .string ⟨#[]⟩, .slice A2 0 c2, .bool false] 25))
      obtain ⟨y0, y1, y2, y3, y4⟩ := tbox5 (alloc_new w3 (.cells #[.int .i64 2, .string n, .string ⟨#[]⟩, .slice A2 0 c2, .bool false] 25))
      clear hb hb2 g1 g2 N2
      go_wp2_with fail
      refine (awake_calls _).mono ?_
      rintro e w4 ⟨rfl, hb⟩
      have HB4 := Lib.hid (HB3.out.trans (hb.mono HB3.out.size))
      clear hb
      go_wp2_with fail
      go_ret
      exact ⟨rfl, HB4.out⟩
    | true =>
      obtain ⟨n1, n2⟩ := HCI.out N ⟨#[32, 62]⟩ R2'.out (.inr rfl) HC2.out
      have s1 : ((((a ++ ⟨#[60, 47, 98, 62, 60, 47]⟩) ++ n) ++ ⟨#[120, 62]⟩) ++ (((⟨#[60, 47]⟩ : ByteArray) ++ N) ++ ⟨#[32, 62]⟩)).size ≤ 900000 := by simp only [ByteArray.size_append, z1, z2, z3, z5]; omega
      have N1 := Lib.hid (rw_next _ n _ _ s1 hnz 0 (by decide) 0 rfl 3 true (a.size + 8 + n.size) ((a.size : Int) + 6 + (n.size : Int) + 2) (by omega) n1)
      have N2 := Lib.hid (rw_next _ n _ _ s1 hnz (a.size + 8 + n.size) (by omega) ((a.size : Int) + 6 + (n.size : Int) + 2) (by omega) 2 false (a.size + 8 + n.size + (2 + N.size + 2)) ((a.size : Int) + 6 + (n.size : Int) + 2 + (2 + (N.size : Int) + 2)) (by omega) n2)
      have hw : IntKind.i64.wrap ((a.size : Int) + 6 + (n.size : Int) + 2 + (2 + (N.size : Int) + 2)) = (a.size : Int) + 6 + (n.size : Int) + 2 + (2 + (N.size : Int) + 2) := IntWalk.i64_in _ (by omega)
      clear n1 n2 s1 HI
      go_wp2_with fail
      refine (P1.out _).mono ?_
      rintro e wx ⟨rfl, rfl⟩
      go_wp2_with fail
      refine (N1.out _).mono ?_
      rintro e w2 ⟨A1, c1, rfl, hb⟩
      have HB1 := Lib.hid (HB0.out.trans (hb.mono HB0.out.size))
      clear hb N1
      go_wp2_with fail
      refine (N2.out _).mono ?_
      rintro e w3 ⟨A2, c2, rfl, hb⟩
      have g1 := alloc_new w2 (.cells #[.int .i64 3, .string ⟨#[]⟩, .string (((a ++ ⟨#[60, 47, 98, 62, 60, 47]⟩) ++ n) ++ ⟨#[120, 62]⟩), .slice A1 0 c1, .bool true] 25)
      have g2 := (hb.block _ (lt_of_block g1)).trans g1
      have hb2 := ((Below.refl _ w2).alloc (Nat.le_refl _) (.cells #[.int .i64 3, .string ⟨#[]⟩, .string (((a ++ ⟨#[60, 47, 98, 62, 60, 47]⟩) ++ n) ++ ⟨#[120, 62]⟩), .slice A1 0 c1, .bool true] 25)).trans (hb.mono (by simp))
      have HB2 := Lib.hid (HB1.out.trans (hb2.mono HB1.out.size))
      have HB3 := Lib.hid (HB2.out.alloc HB2.out.size (.cells #[.int .i64 2, .string n, .string ⟨#[]⟩, .slice A2 0 c2, .bool false] 25))
      obtain ⟨x0, x1, x2, x3, x4⟩ := tbox5 (alloc_old g2 (.cells #[.int .i64 2, .string n, .string ⟨#[]⟩, .slice A2 0 c2, .bool false] 25))
      obtain ⟨y0, y1, y2, y3, y4⟩ := tbox5 (alloc_new w3 (.cells #[.int .i64 2, .string n, .string ⟨#[]⟩, .slice A2 0 c2, .bool false] 25))
      clear hb hb2 g1 g2 N2
      go_wp2_with fail
      refine (awake_calls _).mono ?_
      rintro e w4 ⟨rfl, hb⟩
      have HB4 := Lib.hid (HB3.out.trans (hb.mono HB3.out.size))
      clear hb
      go_wp2_with fail
      go_ret
      exact ⟨rfl, HB4.out⟩
end Go.Proofs.YtpbdkloohhjapaaGreat.Wk
