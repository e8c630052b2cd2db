/- TokenOdds, walked. -/
import Derived.Test.YtpbdkloohhjapaaGreatTkW
namespace Go.Proofs.YtpbdkloohhjapaaGreat.Wk
open Go Go.RowKit Go.Proofs.YtpbdkloohhjapaaGreat.Tk Go.Proofs.YtpbdkloohhjapaaGreat.Tr
set_option linter.unusedVariables false
set_option maxRecDepth 100000

def odA : Array Value := #[.string ⟨#[60]⟩, .string ⟨#[60, 32, 97, 62]⟩, .string ⟨#[60, 47]⟩, .string ⟨#[60, 49, 62]⟩, .string ⟨#[60, 61]⟩]
def odS : Array Value := #[.string ⟨#[60, 33, 120, 62]⟩, .string ⟨#[60, 63, 120, 62]⟩, .string ⟨#[60, 47, 32, 120, 62]⟩, .string ⟨#[60, 33, 62]⟩, .string ⟨#[60, 33, 91, 67, 68, 65, 84, 65, 91, 120, 93, 93, 62]⟩, .string ⟨#[60, 47, 49]⟩]
def odW : Array Value := #[.string ⟨#[120]⟩, .string ⟨#[63, 120]⟩, .string ⟨#[32, 120]⟩, .string ⟨#[]⟩, .string ⟨#[91, 67, 68, 65, 84, 65, 91, 120, 93, 93]⟩, .string ⟨#[49]⟩]
theorem od_ix (k : Nat) (hk : k < 5) : ∃ t : ByteArray, odA[k]? = some (.string t) ∧ nextP t 0 ⟨#[]⟩ = (textTok ⟨#[60]⟩ false, 1, true) ∧ t.size ≤ 20 := by
  have h : k = 0 ∨ k = 1 ∨ k = 2 ∨ k = 3 ∨ k = 4 := by omega
  rcases h with rfl | rfl | rfl | rfl | rfl
  · exact ⟨⟨#[60]⟩, rfl, by decide +kernel, by decide⟩
  · exact ⟨⟨#[60, 32, 97, 62]⟩, rfl, by decide +kernel, by decide⟩
  · exact ⟨⟨#[60, 47]⟩, rfl, by decide +kernel, by decide⟩
  · exact ⟨⟨#[60, 49, 62]⟩, rfl, by decide +kernel, by decide⟩
  · exact ⟨⟨#[60, 61]⟩, rfl, by decide +kernel, by decide⟩
theorem od_ix2 (k : Nat) (hk : k < 6) : ∃ t x : ByteArray, odS[k]? = some (.string t) ∧ odW[k]? = some (.string x) ∧ nextP t 0 ⟨#[]⟩ = (commTok x, t.size, true) ∧ t.size ≤ 20 := by
  have h : k = 0 ∨ k = 1 ∨ k = 2 ∨ k = 3 ∨ k = 4 ∨ k = 5 := by omega
  rcases h with rfl | rfl | rfl | rfl | rfl | rfl
  · exact ⟨⟨#[60, 33, 120, 62]⟩, ⟨#[120]⟩, rfl, rfl, by decide +kernel, by decide⟩
  · exact ⟨⟨#[60, 63, 120, 62]⟩, ⟨#[63, 120]⟩, rfl, rfl, by decide +kernel, by decide⟩
  · exact ⟨⟨#[60, 47, 32, 120, 62]⟩, ⟨#[32, 120]⟩, rfl, rfl, by decide +kernel, by decide⟩
  · exact ⟨⟨#[60, 33, 62]⟩, ⟨#[]⟩, rfl, rfl, by decide +kernel, by decide⟩
  · exact ⟨⟨#[60, 33, 91, 67, 68, 65, 84, 65, 91, 120, 93, 93, 62]⟩, ⟨#[91, 67, 68, 65, 84, 65, 91, 120, 93, 93]⟩, rfl, rfl, by decide +kernel, by decide⟩
  · exact ⟨⟨#[60, 47, 49]⟩, ⟨#[49]⟩, rfl, rfl, by decide +kernel, by decide⟩
theorem od_last : nextP ⟨#[60, 47, 62]⟩ 0 ⟨#[]⟩ = (tok0, 3, false) := by decide +kernel
theorem od_next (s o x : ByteArray) (hs : s.size ≤ 900000) (kind : Int) (b ok : Bool) (k : Nat) (m : Int) (hm : (k : Int) = m) (h : nextP s 0 ⟨#[]⟩ = (⟨kind, o, x, [], b⟩, k, ok)) (W : World) :
    Calls Tryz.prog 11 #[.string s, .int .i64 0, .string ⟨#[]⟩] W fun e w' => ∃ A ac, e = .returned (.tuple #[.agg #[.int .i64 kind, .string o, .string x, .slice A 0 ac, .bool b], .int .i64 m, .bool ok]) ∧ Below W.heap.size W w' :=
  (next_as s ⟨#[]⟩ hs (by decide) 0 (by decide) 0 rfl ⟨kind, o, x, [], b⟩ k ok h m hm W).mono fun e w' ⟨A, ac, h1, h2, h3, h4⟩ => ⟨A, ac, h1, h3⟩
set_option maxHeartbeats 8000000 in
theorem tokenOdds (w : World) :
    Calls Tryz.prog 9 #[] w fun e w' => e = .returned (.bool true) ∧ Below w.heap.size w w' := by
  have hb0 := (Below.refl _ w).alloc (Nat.le_refl _) (.cells odA 31)
  have hk0 := alloc_new w (.cells odA 31)
  have HU : Hid (w.alloc (.cells odA 31) = w.alloc (.cells #[.string ⟨#[60]⟩, .string ⟨#[60, 32, 97, 62]⟩, .string ⟨#[60, 47]⟩, .string ⟨#[60, 49, 62]⟩, .string ⟨#[60, 61]⟩] 31)) := Lib.hid rfl
  generalize w.alloc (.cells odA 31) = w1 at *
  have HB := Lib.hid hb0
  have HK := Lib.hid hk0
  clear hb0 hk0
  go_enter Tryz.func9, Tryz.ntmps9
  go_upto_region 1 with (fail)
  go_wp2_with fail
  rw [← HU.out]
  clear HU
  go_loopw [2] (fun t2 wr => ∃ i : Nat, i ≤ 5 ∧ t2 = .int .i64 (i : Int) ∧ Hid (wr.heap[w.heap.size]? = some (.cells odA 31 (0, 0))) ∧ Hid (Below w.heap.size w wr)) (fun t2 _ => 5 - (intOf t2).toNat)
  case atStart => exact ⟨0, Nat.zero_le _, rfl, HK, HB⟩
  case round =>
    clear HK HB
    obtain ⟨i, hi, rfl, HK, HB⟩ := hrel
    by_cases hlt : i < 5
    · have hz : (i : Int) < 5 := by omega
      obtain ⟨t, e1, e2, e3⟩ := od_ix i hlt
      have HN := Lib.hid (od_next t ⟨#[]⟩ ⟨#[60]⟩ (by omega) 3 false true 1 1 rfl e2)
      have c0 : wr.cell? ⟨w.heap.size, i, none⟩ = some (.string t) := by rw [block_cell HK.out]; exact e1
      clear e1 e2 e3
      go_wp2_with fail
      refine (HN.out _).mono ?_
      rintro e w2 ⟨A, ac, rfl, hb⟩
      have hb2 := hb.trans ((Below.refl _ w2).alloc hb.size (.cells #[.int .i64 3, .string ⟨#[]⟩, .string ⟨#[60]⟩, .slice A 0 ac, .bool false] 25))
      replace HK := Lib.hid ((hb2.block _ (lt_of_block HK.out)).trans HK.out)
      replace HB := Lib.hid (HB.out.trans (hb2.mono HB.out.size))
      obtain ⟨x0, x1, x2, x3, x4⟩ := tbox5 (alloc_new w2 (.cells #[.int .i64 3, .string ⟨#[]⟩, .string ⟨#[60]⟩, .slice A 0 ac, .bool false] 25))
      clear hb hb2 c0 HN
      go_wp2_with fail
      go_roundw
      case rel => exact ⟨i + 1, hlt, by go_num, HK, HB⟩
      case measure => simp [intOf]; omega
    · have hz : ¬ (i : Int) < 5 := by omega
      obtain ⟨wa, hwa⟩ : ∃ wa, wa = wr := ⟨_, rfl⟩
      subst hwa
      have hb1 := ((Below.refl _ wa).alloc (Nat.le_refl _) (.cells odS 43)).alloc (by simp) (.cells odW 43)
      have k1 := alloc_old (alloc_new wa (.cells odS 43)) (.cells odW 43)
      have k2 := alloc_new (wa.alloc (.cells odS 43)) (.cells odW 43)
      rw [World.size_alloc] at k2
      have HU : Hid ((wa.alloc (.cells odS 43)).alloc (.cells odW 43) = (wa.alloc (.cells #[.string ⟨#[60, 33, 120, 62]⟩, .string ⟨#[60, 63, 120, 62]⟩, .string ⟨#[60, 47, 32, 120, 62]⟩, .string ⟨#[60, 33, 62]⟩, .string ⟨#[60, 33, 91, 67, 68, 65, 84, 65, 91, 120, 93, 93, 62]⟩, .string ⟨#[60, 47, 49]⟩] 43)).alloc (.cells #[.string ⟨#[120]⟩, .string ⟨#[63, 120]⟩, .string ⟨#[32, 120]⟩, .string ⟨#[]⟩, .string ⟨#[91, 67, 68, 65, 84, 65, 91, 120, 93, 93]⟩, .string ⟨#[49]⟩] 43)) := Lib.hid rfl
      generalize (wa.alloc (.cells odS 43)).alloc (.cells odW 43) = w2 at *
      have HB1 := Lib.hid (HB.out.trans (hb1.mono HB.out.size))
      have HK1 := Lib.hid k1
      have HK2 := Lib.hid k2
      clear hb1 k1 k2 HB HK
      go_wp2_with fail
      rw [← HU.out]
      clear HU
      obtain ⟨sb, hsb⟩ : ∃ sb, wa.heap.size = sb := ⟨_, rfl⟩
      rw [hsb] at HK1 HK2 ⊢
      clear hsb
      go_loopw [8] (fun t8 wr => ∃ i : Nat, i ≤ 6 ∧ t8 = .int .i64 (i : Int) ∧ Hid (wr.heap[sb]? = some (.cells odS 43 (0, 0))) ∧ Hid (wr.heap[sb + 1]? = some (.cells odW 43 (0, 0))) ∧ Hid (Below w.heap.size w wr)) (fun t8 _ => 6 - (intOf t8).toNat)
      case atStart => exact ⟨0, Nat.zero_le _, rfl, HK1, HK2, HB1⟩
      case round =>
        clear HK1 HK2 HB1
        obtain ⟨i, hi, rfl, HK1, HK2, HB1⟩ := hrel
        by_cases hlt2 : i < 6
        · have hz2 : (i : Int) < 6 := by omega
          obtain ⟨t, x, e1, e2, e3, e4⟩ := od_ix2 i hlt2
          have HN := Lib.hid (od_next t ⟨#[]⟩ x (by omega) 4 false true t.size (t.size : Int) rfl e3)
          have c0 : wr.cell? ⟨sb, i, none⟩ = some (.string t) := by rw [block_cell HK1.out]; exact e1
          have HE2 := Lib.hid e2
          have HE1 := Lib.hid e1
          clear e1 e2 e3 e4
          go_wp2_with fail
          refine (HN.out _).mono ?_
          rintro e w3 ⟨A, ac, rfl, hb⟩
          have hb2 := hb.trans ((Below.refl _ w3).alloc hb.size (.cells #[.int .i64 4, .string ⟨#[]⟩, .string x, .slice A 0 ac, .bool false] 25))
          have hk3 := alloc_new w3 (.cells #[.int .i64 4, .string ⟨#[]⟩, .string x, .slice A 0 ac, .bool false] 25)
          clear hb c0 HN
          go_wp2_with fail
          generalize w3.alloc (.cells #[.int .i64 4, .string ⟨#[]⟩, .string x, .slice A 0 ac, .bool false] 25) = w4 at *
          obtain ⟨tb, htb⟩ : ∃ tb, w3.heap.size = tb := ⟨_, rfl⟩
          rw [htb] at hk3 ⊢
          replace HK1 := Lib.hid ((hb2.block _ (lt_of_block HK1.out)).trans HK1.out)
          replace HK2 := Lib.hid ((hb2.block _ (lt_of_block HK2.out)).trans HK2.out)
          replace HB1 := Lib.hid (HB1.out.trans (hb2.mono HB1.out.size))
          obtain ⟨x0, x1, x2, x3, x4⟩ := tbox5 hk3
          have c1 : w4.cell? ⟨sb, i, none⟩ = some (.string t) := by rw [block_cell HK1.out]; exact HE1.out
          have c2 : w4.cell? ⟨sb + 1, i, none⟩ = some (.string x) := by rw [block_cell HK2.out]; exact HE2.out
          have r0 := cell_regrown x0
          have r2 := cell_regrown x2
          have r5 := cell_regrown c1
          have r6 := cell_regrown c2
          clear htb hb2 hk3 x0 x1 x2 x3 x4 c1 c2
          refine wp_region_quiet_below mixedT (by kernel_rfl) ?_
          repeat (go_big_quiet_step (fail))
          refine wpQuiet_nil ?_
          rintro w5 ⟨g, hg⟩
          have hb5 : Below w4.heap.size w4 w5 := hg ▸ below_regrown w4 g.d g.os
          replace HK1 := Lib.hid ((hb5.block _ (lt_of_block HK1.out)).trans HK1.out)
          replace HK2 := Lib.hid ((hb5.block _ (lt_of_block HK2.out)).trans HK2.out)
          replace HB1 := Lib.hid (HB1.out.trans (hb5.mono HB1.out.size))
          clear hg g hb5 r0 r2 r5 r6
          go_wp2_with fail
          go_roundw
          case rel => exact ⟨i + 1, hlt2, by go_num, HK1, HK2, HB1⟩
          case measure => simp [intOf]; omega
        · obtain rfl : i = 6 := by omega
          have HN := Lib.hid (od_next ⟨#[60, 47, 62]⟩ ⟨#[]⟩ ⟨#[]⟩ (by decide) 0 false false 3 3 rfl od_last)
          go_wp2_with fail
          refine (HN.out _).mono ?_
          rintro e w3 ⟨A, ac, rfl, hb⟩
          replace HB1 := Lib.hid ((HB1.out.trans (hb.mono HB1.out.size)).alloc (Nat.le_trans HB1.out.size hb.size) (.cells #[.int .i64 0, .string ⟨#[]⟩, .string ⟨#[]⟩, .slice A 0 ac, .bool false] 25))
          clear hb
          go_wp2_with fail
          refine (awake_calls _).mono ?_
          rintro e w4 ⟨rfl, hb⟩
          replace HB1 := Lib.hid (HB1.out.trans (hb.mono HB1.out.size))
          clear hb
          go_wp2_with fail
          go_ret
          exact ⟨rfl, HB1.out⟩
end Go.Proofs.YtpbdkloohhjapaaGreat.Wk
