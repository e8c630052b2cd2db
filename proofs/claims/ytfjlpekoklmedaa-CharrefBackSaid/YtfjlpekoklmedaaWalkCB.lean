/- CharrefBack, walked. -/
import Derived.Test.YtfjlpekoklmedaaBack
namespace Go.Proofs.Ytfjlpekoklmedaa.Wk
open Go Go.RowKit Go.Proofs.Ytfjlpekoklmedaa.Ch Go.Proofs.Ytfjlpekoklmedaa.Gr
set_option linter.unusedVariables false
set_option maxRecDepth 100000

set_option maxHeartbeats 4000000 in
theorem charrefBack (s : ByteArray) (attr : Bool) (w0 : s.size ≤ maxLen) (w : World) :
    Calls Try.prog 9 #[.string s, .bool attr] w fun e w' => e = .returned (.bool true) ∧ Below w.heap.size w w' := by
  by_cases hl : 3000 < s.size
  · go_enter Try.func9, Try.ntmps9
    go_wp2_with fail
    refine (cawake_calls _).mono ?_
    rintro e w1 ⟨rfl, hb⟩
    go_wp2_with fail
    go_ret
    exact ⟨rfl, hb⟩
  have hs : s.size ≤ 3000 := by omega
  clear w0 hl
  have EA := Lib.hid (escape_calls s attr (by omega))
  have hz := escB_size attr s
  have hsg := escB_signs attr s
  have B1 := Lib.hid (back_all attr attr s)
  have B2 := Lib.hid (back_all attr (!attr) s)
  generalize escB attr s = t at EA hz hsg B1 B2
  have hts : t.size ≤ 18000 := by omega
  have HSG := Lib.hid hsg
  have DA := Lib.hid (decode_calls t (by omega) attr)
  have DB := Lib.hid (decode_calls t (by omega) (!attr))
  clear hz hsg
  cases attr
  all_goals
    go_enter Try.func9, Try.ntmps9
    go_wp2_with fail
    refine (EA.out _).mono ?_
    rintro e w1 ⟨rfl, hb⟩
    have HB1 := Lib.hid hb
    clear hb EA
    go_wp2_with fail
    go_loop [6] (fun x => ∃ i : Nat, i ≤ t.size ∧ x = .int .i64 i) (fun x => t.size - (intOf x).toNat)
    case atStart => exact ⟨0, Nat.zero_le _, rfl⟩
    case round =>
      obtain ⟨i, hi, rfl⟩ := hrel
      by_cases hlt : i < t.size
      · obtain ⟨c, hc⟩ : ∃ c, t[i].toNat = c := ⟨_, rfl⟩
        have hi0 : ∀ w : World, (Instr.index 9 (.string t) (.int .i64 (i : Int))).run Try.prog w = .ok (.int .u8 c) w := fun w => run_at t i hlt rfl hc w
        obtain ⟨a1, a2, a3⟩ := HSG.out i hlt
        rw [hc] at a1 a2 a3
        have q1 : ((c : Int) == 60) = false := by rw [beq_eq_false_iff_ne]; omega
        have q2 : ((c : Int) == 62) = false := by rw [beq_eq_false_iff_ne]; omega
        first
          | (have q3 : ((c : Int) == 34) = false := by
              have : ¬ c = 34 := by first | exact a3 rfl | exact a3 trivial
              rw [beq_eq_false_iff_ne]; omega
             clear hc a1 a2 a3
             go_wp2_with fail
             go_round
             case rel => exact ⟨i + 1, hlt, by go_num⟩
             case measure => simp [intOf]; omega)
          | (clear hc a1 a2 a3
             go_wp2_with fail
             go_round
             case rel => exact ⟨i + 1, hlt, by go_num⟩
             case measure => simp [intOf]; omega)
      · obtain rfl : i = t.size := by omega
        go_wp2_with fail
        refine (DA.out _).mono ?_
        rintro e w2 ⟨rfl, hb⟩
        have HB2 := Lib.hid (HB1.out.trans (hb.mono HB1.out.size))
        rw [B1.out]
        clear hb
        go_wp2_with fail
        refine (DB.out _).mono ?_
        rintro e w3 ⟨rfl, hb⟩
        have HB3 := Lib.hid (HB2.out.trans (hb.mono HB2.out.size))
        rw [B2.out]
        clear hb
        go_wp2_with fail
        refine (cawake_calls _).mono ?_
        rintro e w7 ⟨rfl, hb⟩
        have HB7 := Lib.hid (HB3.out.trans (hb.mono HB3.out.size))
        clear hb
        go_wp2_with fail
        go_ret
        exact ⟨rfl, HB7.out⟩
end Go.Proofs.Ytfjlpekoklmedaa.Wk
