/- TokenGoes, walked. -/
import Derived.Test.YtpbdkloohhjapaaGreatTkW
namespace Go.Proofs.YtpbdkloohhjapaaGreat.Wk
open Go Go.RowKit Go.Proofs.YtpbdkloohhjapaaGreat.Tk Go.Proofs.YtpbdkloohhjapaaGreat.Tr
set_option linter.unusedVariables false
set_option maxRecDepth 100000

theorem same_none (A : Option Addr) (ac : Nat) (W : World) (hA : IsAttrs W W.heap.size [] A ac) :
    Calls Tryz.prog 12 #[.agg #[.int .i64 0, .string ⟨#[]⟩, .string ⟨#[]⟩, .slice A 0 ac, .bool false], .agg #[.int .i64 0, .string ⟨#[]⟩, .string ⟨#[]⟩, .slice none 0 0, .bool false]] W fun e w' => e = .returned (.bool true) ∧ Below W.heap.size W w' := by
  have := same_token tok0 tok0 A none ac 0 W (Nat.zero_le _) hA (isAttrs_nil _ _)
  rw [decide_eq_true rfl] at this
  exact this
set_option maxHeartbeats 8000000 in
theorem tokenGoes (s raw : ByteArray) (w0 : s.size ≤ maxLen) (w1 : raw.size ≤ maxLen) (w : World) :
    Calls Tryz.prog 3 #[.string s, .string raw] w fun e w' => e = .returned (.bool true) ∧ Below w.heap.size w w' := by
  by_cases hl : 1500 < s.size
  · go_enter Tryz.func3, Tryz.ntmps3
    go_wp2_with fail
    refine (awake_calls _).mono ?_
    rintro e w1 ⟨rfl, hb⟩
    go_wp2_with fail
    go_ret
    exact ⟨rfl, hb⟩
  by_cases hl2 : 100 < raw.size
  · go_enter Tryz.func3, Tryz.ntmps3
    go_wp2_with fail
    refine (awake_calls _).mono ?_
    rintro e w1 ⟨rfl, hb⟩
    go_wp2_with fail
    go_ret
    exact ⟨rfl, hb⟩
  have hs : s.size ≤ 1500 := by omega
  have hr : raw.size ≤ 100 := by omega
  have HS := Lib.hid hs
  have HR := Lib.hid hr
  clear w0 w1 hl hl2
  go_enter Tryz.func3, Tryz.ntmps3
  go_wp2_with fail
  clear hs hr
  go_loopw [1, 5, 6] (fun t1 t5 t6 wr => ∃ (r : ByteArray) (p i : Nat), t1 = .string r ∧ t5 = .int .i64 (p : Int) ∧ t6 = .int .i64 (i : Int) ∧ Hid (r.size ≤ 100) ∧ Hid (i ≤ p) ∧ Hid (p ≤ s.size) ∧ Hid (Below w.heap.size w wr)) (fun _ _ t6 _ => s.size + 1 - (intOf t6).toNat)
  case atStart => exact ⟨raw, 0, 0, rfl, rfl, rfl, HR, Lib.hid (Nat.le_refl _), Lib.hid (Nat.zero_le _), Lib.hid (Below.refl _ _)⟩
  case round =>
    obtain ⟨r, p, i, rfl, rfl, rfl, HRR, HIP, HPS, HB⟩ := hrel
    have hi : (i : Int) ≤ (s.size : Int) := by have := HIP.out; have := HPS.out; omega
    rcases hn : nextP s p r with ⟨o, k, ok⟩
    have HN := next_as s r (by have := HS.out; omega) (by have := HRR.out; omega) p (by have := HS.out; have := HPS.out; omega) p rfl o k ok hn k rfl
    unfold tokV at HN
    replace HN := Lib.hid HN
    have HIS := Lib.hid (show i ≤ s.size by omega)
    by_cases hp : s.size ≤ p
    · have e := next_end s r p hp
      rw [hn] at e
      injection e with e1 e2
      injection e2 with e2 e3
      subst e1; subst e2; subst e3
      have hz : (p : Int) ≥ (s.size : Int) := by omega
      clear hn hp
      go_wp2_with fail
      refine (HN.out _).mono ?_
      rintro e w1 ⟨A, ac, rfl, hat, hb, hfr⟩
      have HB1 := Lib.hid (HB.out.trans (hb.mono HB.out.size))
      have HB2 := Lib.hid (HB1.out.alloc HB1.out.size (.cells #[.int .i64 6, .string ⟨#[]⟩, .string ⟨#[]⟩, .slice A 0 ac, .bool false] 25))
      obtain ⟨x0, x1, x2, x3, x4⟩ := tbox5 (alloc_new w1 (.cells #[.int .i64 6, .string ⟨#[]⟩, .string ⟨#[]⟩, .slice A 0 ac, .bool false] 25))
      clear hat hb hfr
      go_wp2_with fail
      refine (awake_calls _).mono ?_
      rintro e w2 ⟨rfl, hb⟩
      replace HB2 := Lib.hid (HB2.out.trans (hb.mono HB2.out.size))
      clear hb
      go_wp2_with fail
      go_ret
      exact ⟨rfl, HB2.out⟩
    · have hg := next_goes s r p (by omega)
      rw [hn] at hg
      obtain ⟨g1, g2, g3, g4⟩ := hg
      have k1 : ¬ (k : Int) ≤ (p : Int) := by have : p < k := g1; omega
      have k2 : (k : Int) ≤ (s.size : Int) := by have : k ≤ s.size := g2; omega
      have HK : Hid (i + 1 ≤ k ∧ k ≤ s.size) := Lib.hid ⟨by have := HIP.out; have : p < k := g1; omega, g2⟩
      have hwi : IntKind.i64.wrap ((i : Int) + 1) = (i : Int) + 1 := IntWalk.i64_in _ (by have := HS.out; omega)
      cases ok with
      | true =>
        have q6 : (o.kind == 6) = false := by
          rw [beq_eq_false_iff_ne]
          have := g4 rfl
          have : o.kind ≤ 5 := this.2
          omega
        clear g1 g2 g3 g4 hn hp
        go_wp2_with fail
        refine (HN.out _).mono ?_
        rintro e w1 ⟨A, ac, rfl, hat, hb, hfr⟩
        have HB1 := Lib.hid (HB.out.trans (hb.mono HB.out.size))
        have HB2 := Lib.hid (HB1.out.alloc HB1.out.size (.cells #[.int .i64 o.kind, .string o.name, .string o.text, .slice A o.attrs.length ac, .bool o.raw] 25))
        obtain ⟨x0, x1, x2, x3, x4⟩ := tbox5 (alloc_new w1 (.cells #[.int .i64 o.kind, .string o.name, .string o.text, .slice A o.attrs.length ac, .bool o.raw] 25))
        clear hat hb hfr
        go_wp2_with fail
        go_roundw
        case rel => exact ⟨⟨#[]⟩, k, i + 1, rfl, rfl, by go_num, Lib.hid (Nat.zero_le _), Lib.hid HK.out.1, Lib.hid HK.out.2, HB2⟩
        case measure => simp [intOf]; have := HIS.out; omega
      | false =>
        have : o = tok0 := g3 rfl
        subst this
        clear g1 g2 g3 g4 hn hp
        go_wp2_with fail
        refine (HN.out _).mono ?_
        rintro e w1 ⟨A, ac, rfl, hat, hb, hfr⟩
        have HB1 := Lib.hid (HB.out.trans (hb.mono HB.out.size))
        have HB2 := Lib.hid (HB1.out.alloc HB1.out.size (.cells #[.int .i64 0, .string ⟨#[]⟩, .string ⟨#[]⟩, .slice A 0 ac, .bool false] 25))
        obtain ⟨x0, x1, x2, x3, x4⟩ := tbox5 (alloc_new w1 (.cells #[.int .i64 0, .string ⟨#[]⟩, .string ⟨#[]⟩, .slice A 0 ac, .bool false] 25))
        have HA := Lib.hid (isAttrs_below hat ((Below.refl _ w1).alloc (Nat.le_refl _) (.cells #[.int .i64 0, .string ⟨#[]⟩, .string ⟨#[]⟩, .slice A 0 ac, .bool false] 25)))
        clear hat hb hfr
        unfold tok0
        go_wp2_with fail
        refine (same_none A ac _ HA.out).mono ?_
        rintro e w2 ⟨rfl, hb⟩
        replace HB2 := Lib.hid (HB2.out.trans (hb.mono HB2.out.size))
        clear hb
        go_wp2_with fail
        go_roundw
        case rel => exact ⟨⟨#[]⟩, k, i + 1, rfl, rfl, by go_num, Lib.hid (Nat.zero_le _), Lib.hid HK.out.1, Lib.hid HK.out.2, HB2⟩
        case measure => simp [intOf]; have := HIS.out; omega
end Go.Proofs.YtpbdkloohhjapaaGreat.Wk
