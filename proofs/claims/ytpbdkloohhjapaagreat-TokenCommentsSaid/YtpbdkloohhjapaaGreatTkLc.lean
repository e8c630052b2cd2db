/- TokenComments, walked. -/
import Derived.Test.YtpbdkloohhjapaaGreatTkW
import Derived.Test.YtpbdkloohhjapaaGreatTkPc
namespace Go.Proofs.YtpbdkloohhjapaaGreat.Wk
open Go Go.RowKit Go.Proofs.YtpbdkloohhjapaaGreat.Tk Go.Proofs.YtpbdkloohhjapaaGreat.Tr
set_option linter.unusedVariables false
set_option maxRecDepth 100000

theorem same_comm (a : ByteArray) (A B : Option Addr) (ac bc : Nat) (w W : World) (hW : Below w.heap.size w W) (hA : IsAttrs w w.heap.size [] A ac) (hB : IsAttrs w w.heap.size [] B bc) :
    Calls Tryz.prog 12 #[.agg #[.int .i64 4, .string ⟨#[]⟩, .string a, .slice A 0 ac, .bool false], .agg #[.int .i64 4, .string ⟨#[]⟩, .string a, .slice B 0 bc, .bool false]] W fun e w' => e = .returned (.bool true) ∧ Below W.heap.size W w' := by
  have := same_token (commTok a) (commTok a) A B ac bc W (Nat.zero_le _) (isAttrs_below hA hW) (isAttrs_below hB hW)
  rw [decide_eq_true rfl] at this
  exact this
/-- token.Next at a comment. -/
theorem next_comm (s a : ByteArray) (hs : s.size ≤ 900000) (k : Nat) (m : Int) (hm : (k : Int) = m) (h : nextP s 0 ⟨#[]⟩ = (commTok a, k, true)) (W : World) :
    Calls Tryz.prog 11 #[.string s, .int .i64 0, .string ⟨#[]⟩] W fun e w' => ∃ A ac, e = .returned (.tuple #[.agg #[.int .i64 4, .string ⟨#[]⟩, .string a, .slice A 0 ac, .bool false], .int .i64 m, .bool true]) ∧ IsAttrs w' w'.heap.size [] A ac ∧ Below W.heap.size W w' :=
  (next_as s ⟨#[]⟩ hs (by decide) 0 (by decide) 0 rfl (commTok a) k true h m hm W).mono fun e w' ⟨A, ac, h1, h2, h3, h4⟩ => ⟨A, ac, h1, h2, h3⟩
/-- Four pieces that lie in memory. -/
structure CmI (w0 w : World) (k1 k2 k3 k4 : Nat) (a : ByteArray) (A1 A2 A3 : Option Addr) (c1 c2 c3 : Nat) : Prop where
  b1 : w.heap[k1]? = some (.cells #[.int .i64 4, .string ⟨#[]⟩, .string a, .slice A1 0 c1, .bool false] 25 (0, 0))
  b2 : w.heap[k2]? = some (.cells #[.int .i64 4, .string ⟨#[]⟩, .string a, .slice A2 0 c2, .bool false] 25 (0, 0))
  b3 : w.heap[k3]? = some (.cells #[.int .i64 4, .string ⟨#[]⟩, .string a, .slice A3 0 c3, .bool false] 25 (0, 0))
  b4 : w.heap[k4]? = some (.cells #[.int .i64 4, .string ⟨#[]⟩, .string a, .slice none 0 0, .bool false] 25 (0, 0))
  a1 : IsAttrs w w.heap.size [] A1 c1
  a2 : IsAttrs w w.heap.size [] A2 c2
  a3 : IsAttrs w w.heap.size [] A3 c3
  bel : Below w0.heap.size w0 w
theorem CmI.keep {w0 w w' : World} {k1 k2 k3 k4 : Nat} {a : ByteArray} {A1 A2 A3 : Option Addr} {c1 c2 c3 : Nat} (h : CmI w0 w k1 k2 k3 k4 a A1 A2 A3 c1 c2 c3) (hb : Below w.heap.size w w') : CmI w0 w' k1 k2 k3 k4 a A1 A2 A3 c1 c2 c3 :=
  ⟨(hb.block _ (lt_of_block h.b1)).trans h.b1, (hb.block _ (lt_of_block h.b2)).trans h.b2, (hb.block _ (lt_of_block h.b3)).trans h.b3, (hb.block _ (lt_of_block h.b4)).trans h.b4, isAttrs_below h.a1 hb, isAttrs_below h.a2 hb, isAttrs_below h.a3 hb, h.bel.trans (hb.mono h.bel.size)⟩
set_option maxHeartbeats 8000000 in
theorem tokenComments (a b : ByteArray) (w0 : a.size ≤ maxLen) (w1 : b.size ≤ maxLen) (w : World) :
    Calls Tryz.prog 5 #[.string a, .string b] w fun e w' => e = .returned (.bool true) ∧ Below w.heap.size w w' := by
  by_cases hl : 1000 < a.size
  · go_enter Tryz.func5, Tryz.ntmps5
    go_wp2_with fail
    refine (awake_calls _).mono ?_
    rintro e w1 ⟨rfl, hb⟩
    go_wp2_with fail
    go_ret
    exact ⟨rfl, hb⟩
  by_cases hl2 : 1000 < b.size
  · go_enter Tryz.func5, Tryz.ntmps5
    go_wp2_with fail
    refine (awake_calls _).mono ?_
    rintro e w1 ⟨rfl, hb⟩
    go_wp2_with fail
    go_ret
    exact ⟨rfl, hb⟩
  by_cases hz : a.size = 0
  · have he := isEmpty_of hz
    go_enter Tryz.func5, Tryz.ntmps5
    go_wp2_with fail
    refine (awake_calls _).mono ?_
    rintro e w1 ⟨rfl, hb⟩
    go_wp2_with fail
    go_ret
    exact ⟨rfl, hb⟩
  have has : a.size ≤ 1000 := by omega
  have hbs : b.size ≤ 1000 := by omega
  have hp : 0 < a.size := by omega
  have he := isEmpty_not hp
  have i0 : ∀ w : World, (Instr.index 9 (.string a) (.int .i64 0)).run Tryz.prog w = .ok (.int .u8 (bAt a 0 : Nat)) w := fun w => Ch.run_at a 0 hp rfl (bAt_in hp).symm w
  have hw : IntKind.i64.wrap ((a.size : Int) - 1) = (a.size : Int) - 1 := IntWalk.i64_in _ (by omega)
  have i1 : ∀ w : World, (Instr.index 9 (.string a) (.int .i64 ((a.size : Int) - 1))).run Tryz.prog w = .ok (.int .u8 (bAt a (a.size - 1) : Nat)) w := fun w => Ch.run_at a (a.size - 1) (by omega) (by omega) (bAt_in (by omega)).symm w
  have HC : Hid (∀ c d e : Nat, bAt a 0 = c → bAt a (a.size - 1) = e → c ≠ 62 → c ≠ 45 → e ≠ 45 → (∀ i, i + 1 < a.size → ¬ (bAt a i = 45 ∧ bAt a (i + 1) = 45)) → NoEnd a) := Lib.hid fun c d e h1 h2 h3 h4 h5 h6 => ⟨hp, by omega, by omega, by omega, h6⟩
  obtain ⟨c, hc⟩ : ∃ c, bAt a 0 = c := ⟨_, rfl⟩
  obtain ⟨d, hd⟩ : ∃ d, bAt a (a.size - 1) = d := ⟨_, rfl⟩
  replace HC := Lib.hid (HC.out c 0 d hc hd)
  rw [hc] at i0
  rw [hd] at i1
  clear hc hd w0 w1 hl hl2 hz
  by_cases c1 : c = 62
  · subst c1
    go_enter Tryz.func5, Tryz.ntmps5
    go_wp2_with fail
    refine (awake_calls _).mono ?_
    rintro e w1 ⟨rfl, hb⟩
    go_wp2_with fail
    go_ret
    exact ⟨rfl, hb⟩
  have q1 : ((c : Int) == 62) = false := by rw [beq_eq_false_iff_ne]; omega
  by_cases c2 : c = 45
  · subst c2
    go_enter Tryz.func5, Tryz.ntmps5
    go_wp2_with fail
    refine (awake_calls _).mono ?_
    rintro e w1 ⟨rfl, hb⟩
    go_wp2_with fail
    go_ret
    exact ⟨rfl, hb⟩
  have q2 : ((c : Int) == 45) = false := by rw [beq_eq_false_iff_ne]; omega
  by_cases c3 : d = 45
  · subst c3
    go_enter Tryz.func5, Tryz.ntmps5
    go_wp2_with fail
    refine (awake_calls _).mono ?_
    rintro e w1 ⟨rfl, hb⟩
    go_wp2_with fail
    go_ret
    exact ⟨rfl, hb⟩
  have q3 : ((d : Int) == 45) = false := by rw [beq_eq_false_iff_ne]; omega
  replace HC := Lib.hid (HC.out c1 c2 c3)
  clear c1 c2 c3
  go_enter Tryz.func5, Tryz.ntmps5
  go_wp2_with fail
  go_loop [5] (fun t => ∃ i : Nat, i ≤ a.size ∧ t = .int .i64 i ∧ Hid (∀ j, j < i → ¬ (bAt a j = 45 ∧ bAt a (j + 1) = 45))) (fun t => a.size - (intOf t).toNat)
  case atStart => exact ⟨0, Nat.zero_le _, rfl, Lib.hid (fun j h => absurd h (Nat.not_lt_zero _))⟩
  case round =>
    obtain ⟨i, hi, rfl, HI⟩ := hrel
    have hwi : IntKind.i64.wrap ((i : Int) + 1) = (i : Int) + 1 := IntWalk.i64_in _ (by omega)
    by_cases hlt : i + 1 < a.size
    · have hz : (i : Int) + 1 < (a.size : Int) := by omega
      have j0 : ∀ w : World, (Instr.index 9 (.string a) (.int .i64 (i : Int))).run Tryz.prog w = .ok (.int .u8 (bAt a i : Nat)) w := fun w => Ch.run_at a i (by omega) rfl (bAt_in (by omega)).symm w
      have j1 : ∀ w : World, (Instr.index 9 (.string a) (.int .i64 ((i : Int) + 1))).run Tryz.prog w = .ok (.int .u8 (bAt a (i + 1) : Nat)) w := fun w => Ch.run_at a (i + 1) (by omega) (by omega) (bAt_in (by omega)).symm w
      obtain ⟨x, hx⟩ : ∃ x, bAt a i = x := ⟨_, rfl⟩
      obtain ⟨y, hy⟩ : ∃ y, bAt a (i + 1) = y := ⟨_, rfl⟩
      rw [hx] at j0
      rw [hy] at j1
      by_cases c1 : x = 45
      · by_cases c2 : y = 45
        · subst c1; subst c2
          clear hx hy
          go_wp2_with fail
          refine (awake_calls _).mono ?_
          rintro e w1 ⟨rfl, hb⟩
          go_wp2_with fail
          go_ret
          exact ⟨rfl, hb⟩
        · have HI2 : Hid (∀ j, j < i + 1 → ¬ (bAt a j = 45 ∧ bAt a (j + 1) = 45)) := Lib.hid fun j hj => by
            rcases Nat.lt_or_ge j i with h | h
            · exact HI.out j h
            · obtain rfl : j = i := by omega
              exact fun x => c2 (hy.symm.trans x.2)
          subst c1
          have p2 : ((y : Int) == 45) = false := by rw [beq_eq_false_iff_ne]; omega
          clear hx hy c2
          go_wp2_with fail
          go_round
          case rel => exact ⟨i + 1, by omega, by go_num, HI2⟩
          case measure => simp [intOf]; omega
      · have HI2 : Hid (∀ j, j < i + 1 → ¬ (bAt a j = 45 ∧ bAt a (j + 1) = 45)) := Lib.hid fun j hj => by
          rcases Nat.lt_or_ge j i with h | h
          · exact HI.out j h
          · obtain rfl : j = i := by omega
            exact fun x => c1 (hx.symm.trans x.1)
        have p1 : ((x : Int) == 45) = false := by rw [beq_eq_false_iff_ne]; omega
        clear hx hy c1
        go_wp2_with fail
        go_round
        case rel => exact ⟨i + 1, by omega, by go_num, HI2⟩
        case measure => simp [intOf]; omega
    · have hz : ¬ (i : Int) + 1 < (a.size : Int) := by omega
      obtain ⟨n1, n2, n3⟩ := comments b (HC.out fun j hj => HI.out j (by omega))
      have s1 : ((((⟨#[60, 33, 45, 45]⟩ : ByteArray) ++ a) ++ ⟨#[45, 45, 62]⟩) ++ b).size ≤ 900000 := by simp only [ByteArray.size_append, show (⟨#[60, 33, 45, 45]⟩ : ByteArray).size = 4 from rfl, show (⟨#[45, 45, 62]⟩ : ByteArray).size = 3 from rfl]; omega
      have s2 : ((((⟨#[60, 33, 45, 45]⟩ : ByteArray) ++ a) ++ ⟨#[45, 45, 33, 62]⟩) ++ b).size ≤ 900000 := by simp only [ByteArray.size_append, show (⟨#[60, 33, 45, 45]⟩ : ByteArray).size = 4 from rfl, show (⟨#[45, 45, 33, 62]⟩ : ByteArray).size = 4 from rfl]; omega
      have s3 : (((⟨#[60, 33, 45, 45]⟩ : ByteArray) ++ a) ++ ⟨#[45, 45]⟩).size ≤ 900000 := by simp only [ByteArray.size_append, show (⟨#[60, 33, 45, 45]⟩ : ByteArray).size = 4 from rfl, show (⟨#[45, 45]⟩ : ByteArray).size = 2 from rfl]; omega
      have N1 := Lib.hid (next_comm _ a s1 (7 + a.size) (7 + (a.size : Int)) (by omega) n1)
      have N2 := Lib.hid (next_comm _ a s2 (8 + a.size) (8 + (a.size : Int)) (by omega) n2)
      have N3 := Lib.hid (next_comm _ a s3 (6 + a.size) (6 + (a.size : Int)) (by omega) n3)
      have hw7 : IntKind.i64.wrap (7 + (a.size : Int)) = 7 + (a.size : Int) := IntWalk.i64_in _ (by omega)
      have hw8 : IntKind.i64.wrap (8 + (a.size : Int)) = 8 + (a.size : Int) := IntWalk.i64_in _ (by omega)
      clear n1 n2 n3 s1 s2 s3 HC HI i0 i1 q1 q2 q3
      have z1 : 4 + a.size + 4 + b.size ≤ maxLen := by unfold maxLen; omega
      go_wp2_with fail
      refine (N1.out _).mono ?_
      rintro e w1 ⟨A1, c1, rfl, ha1, hb1⟩
      have HB1 := Lib.hid hb1
      have HA1 := Lib.hid ha1
      clear ha1 hb1 N1
      go_wp2_with fail
      refine (N2.out _).mono ?_
      rintro e w2 ⟨A2, c2, rfl, ha2, hb2⟩
      have g1 := alloc_new w1 (.cells #[.int .i64 4, .string ⟨#[]⟩, .string a, .slice A1 0 c1, .bool false] 25)
      have HK1 := Lib.hid ((hb2.block _ (lt_of_block g1)).trans g1)
      have hb2' := ((Below.refl _ w1).alloc (Nat.le_refl _) (.cells #[.int .i64 4, .string ⟨#[]⟩, .string a, .slice A1 0 c1, .bool false] 25)).trans (hb2.mono (by simp))
      have HB2 := Lib.hid (HB1.out.trans (hb2'.mono HB1.out.size))
      have HA2 := Lib.hid ha2
      replace HA1 := Lib.hid (isAttrs_below HA1.out hb2')
      clear ha2 hb2 hb2' N2 g1
      go_wp2_with fail
      refine (N3.out _).mono ?_
      rintro e w3 ⟨A3, c3, rfl, ha3, hb3⟩
      have g1 := alloc_new w2 (.cells #[.int .i64 4, .string ⟨#[]⟩, .string a, .slice A2 0 c2, .bool false] 25)
      have HK2 := Lib.hid ((hb3.block _ (lt_of_block g1)).trans g1)
      have hb3' := ((Below.refl _ w2).alloc (Nat.le_refl _) (.cells #[.int .i64 4, .string ⟨#[]⟩, .string a, .slice A2 0 c2, .bool false] 25)).trans (hb3.mono (by simp))
      have HB3 := Lib.hid (HB2.out.trans (hb3'.mono HB2.out.size))
      have HA3 := Lib.hid ha3
      replace HA1 := Lib.hid (isAttrs_below HA1.out hb3')
      replace HA2 := Lib.hid (isAttrs_below HA2.out hb3')
      replace HK1 := Lib.hid ((hb3'.block _ (lt_of_block HK1.out)).trans HK1.out)
      clear ha3 hb3 hb3' N3 g1
      have HM : Hid (CmI w ((w3.alloc (.cells #[.int .i64 4, .string ⟨#[]⟩, .string a, .slice A3 0 c3, .bool false] 25)).alloc (.cells #[.int .i64 4, .string ⟨#[]⟩, .string a, .slice none 0 0, .bool false] 25)) w1.heap.size w2.heap.size w3.heap.size (w3.heap.size + 1) a A1 A2 A3 c1 c2 c3) := Lib.hid (by
        have hb4 := (((Below.refl _ w3).alloc (Nat.le_refl _) (.cells #[.int .i64 4, .string ⟨#[]⟩, .string a, .slice A3 0 c3, .bool false] 25)).alloc (by simp) (.cells #[.int .i64 4, .string ⟨#[]⟩, .string a, .slice none 0 0, .bool false] 25))
        refine ⟨(hb4.block _ (lt_of_block HK1.out)).trans HK1.out, (hb4.block _ (lt_of_block HK2.out)).trans HK2.out, alloc_old (alloc_new w3 _) _, ?_, isAttrs_below HA1.out hb4, isAttrs_below HA2.out hb4, isAttrs_below HA3.out hb4, HB3.out.trans (hb4.mono HB3.out.size)⟩
        have := alloc_new (w3.alloc (.cells #[.int .i64 4, .string ⟨#[]⟩, .string a, .slice A3 0 c3, .bool false] 25)) (.cells #[.int .i64 4, .string ⟨#[]⟩, .string a, .slice none 0 0, .bool false] 25)
        simpa using this)
      clear HA1 HA2 HA3 HK1 HK2 HB1 HB2 HB3
      obtain ⟨x10, x11, x12, x13, x14⟩ := tbox5 HM.out.b1
      obtain ⟨x20, x21, x22, x23, x24⟩ := tbox5 HM.out.b2
      obtain ⟨x30, x31, x32, x33, x34⟩ := tbox5 HM.out.b3
      obtain ⟨x40, x41, x42, x43, x44⟩ := tbox5 HM.out.b4
      go_wp2_with fail
      refine (same_comm a A1 none c1 0 _ _ (Below.refl _ _) HM.out.a1 (isAttrs_nil _ _)).mono ?_
      rintro e w4 ⟨rfl, hb⟩
      replace HM := Lib.hid (HM.out.keep hb)
      clear hb
      obtain ⟨x10, x11, x12, x13, x14⟩ := tbox5 HM.out.b1
      obtain ⟨x20, x21, x22, x23, x24⟩ := tbox5 HM.out.b2
      obtain ⟨x30, x31, x32, x33, x34⟩ := tbox5 HM.out.b3
      obtain ⟨x40, x41, x42, x43, x44⟩ := tbox5 HM.out.b4
      go_wp2_with fail
      refine (same_comm a A2 none c2 0 _ _ (Below.refl _ _) HM.out.a2 (isAttrs_nil _ _)).mono ?_
      rintro e w5 ⟨rfl, hb⟩
      replace HM := Lib.hid (HM.out.keep hb)
      clear hb
      obtain ⟨x10, x11, x12, x13, x14⟩ := tbox5 HM.out.b1
      obtain ⟨x20, x21, x22, x23, x24⟩ := tbox5 HM.out.b2
      obtain ⟨x30, x31, x32, x33, x34⟩ := tbox5 HM.out.b3
      obtain ⟨x40, x41, x42, x43, x44⟩ := tbox5 HM.out.b4
      go_wp2_with fail
      refine (same_comm a A3 none c3 0 _ _ (Below.refl _ _) HM.out.a3 (isAttrs_nil _ _)).mono ?_
      rintro e w6 ⟨rfl, hb⟩
      replace HM := Lib.hid (HM.out.keep hb)
      clear hb
      go_wp2_with fail
      refine (awake_calls _).mono ?_
      rintro e w7 ⟨rfl, hb⟩
      replace HM := Lib.hid (HM.out.keep hb)
      clear hb
      go_wp2_with fail
      go_ret
      exact ⟨rfl, HM.out.bel⟩
end Go.Proofs.YtpbdkloohhjapaaGreat.Wk
