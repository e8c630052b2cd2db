/- ScanEnds, walked. -/
import Derived.Test.YtbdgoffbkenofaaGreatScEp
import Derived.Test.YtbdgoffbkenofaaGreatScLw
namespace Go.Proofs.YtbdgoffbkenofaaGreat.Wk
open Go Go.RowKit Go.Proofs.YtbdgoffbkenofaaGreat.Tk Go.Proofs.YtbdgoffbkenofaaGreat.Tr Go.Proofs.YtbdgoffbkenofaaGreat.Sc
set_option linter.unusedVariables false
set_option linter.unusedSimpArgs false
set_option maxRecDepth 100000

theorem low_own {n : ByteArray} (hz : n.size ≤ maxLen) (h : lowS n = n) (w : World) : Calls Tryz.prog 11 #[.string n] w fun e w' => e = .returned (.string n) ∧ Below w.heap.size w w' := by
  have := Ru.rlower_calls n w hz
  rw [show (⟨(Ru.lower n.data.toList).toArray⟩ : ByteArray) = n from h] at this
  exact this
theorem tl_data (b : ByteArray) : b.toList = b.data.toList := by
  obtain ⟨⟨l⟩⟩ := b
  simp
theorem less_facts {x y : ByteArray} (h : Op.bytesLess y.data.toList x.data.toList = true) : Op.bytesLess x.toList y.toList = false ∧ (x.toList == y.toList) = false := by
  rw [Go.Proofs.bytesLess_eq, decide_eq_true_eq] at h
  rw [Go.Proofs.bytesLess_eq, tl_data x, tl_data y, decide_eq_false_iff_not, beq_eq_false_iff_ne]
  exact ⟨List.not_lt.2 (List.le_of_lt h), fun e => by rw [e] at h; exact List.lt_irrefl _ h⟩
set_option maxHeartbeats 8000000 in
theorem scanEnds (s : ByteArray) (w0 : s.size ≤ maxLen) (w : World) :
    Calls Tryz.prog 3 #[.string s] w fun e w' => e = .returned (.bool true) ∧ Below w.heap.size w w' := by
  by_cases hl : 3000 < s.size
  · go_enter Tryz.func3, Tryz.ntmps3
    go_wp2_with fail
    refine (Sc.awake_calls _).mono ?_
    rintro e w1 ⟨rfl, hb⟩
    go_wp2_with fail
    go_ret
    exact ⟨rfl, hb⟩
  have hs : s.size ≤ 3000 := by omega
  have HN := Lib.hid (all_as s (by omega))
  obtain ⟨n, hn1, hn2, hn3, hok⟩ := end_ok (cleanB s)
  have hcz := cleanB_size s
  have HOK := Lib.hid hok
  have HCZ : Hid ((cleanB s).size ≤ 20000) := Lib.hid (by omega)
  have HN1 := Lib.hid hn1
  have hn4 : n ≤ 20000 := by omega
  clear hok hn1 hn3 hcz w0
  go_enter Tryz.func3, Tryz.ntmps3
  go_wp2_with fail
  clear hl hs
  refine (HN.out _).mono ?_
  rintro e w2 ⟨g, ac, xs, rfl, hx, ht, hb⟩
  have hxl : xs.length = n := by rw [← List.length_map (f := Prod.fst), hx]; exact HN1.out
  have HX : Hid (∀ j x, xs[j]? = some x → EndOk x.1 n j (cleanB s).size) := Lib.hid fun j x hj => HOK.out j x.1 (by rw [← hx, List.getElem?_map, hj]; rfl)
  have HXL := Lib.hid hxl
  have HT := Lib.hid ht
  have HB := Lib.hid hb
  rw [hxl]
  clear hx ht hb hxl HN HN1
  go_wp2_with fail
  go_loopw [4] (fun t4 wr => ∃ j : Nat, t4 = .int .i64 (j : Int) ∧ Hid (j ≤ n) ∧ Hid (Below w2.heap.size w2 wr)) (fun t4 _ => n - (intOf t4).toNat)
  case atStart => exact ⟨0, rfl, Lib.hid (Nat.zero_le _), Lib.hid (Below.refl _ _)⟩
  case round =>
    obtain ⟨j, rfl, HJ, HW⟩ := hrel
    rcases Nat.lt_or_ge j n with hlt | hge
    · have hx : xs[j]? = some (xs[j]'(by have := HXL.out; omega)) := List.getElem?_eq_getElem _
      generalize xs[j]'(by have := HXL.out; omega) = x at hx
      obtain ⟨⟨kk, nm, tx, al, rw⟩, A, ac2⟩ := x
      obtain ⟨c0, c1, c2, c3, c4⟩ := (HT.out.keep HW.out).at_ j _ hx
      have HA := Lib.hid ((HT.out.keep HW.out).att _ (List.mem_of_getElem? hx))
      obtain ⟨e6, elow, ehi, enm, elo, een, etx, eso, esz, eal⟩ := HX.out j _ hx
      dsimp only at c0 c1 c2 c3 c4 HA e6 elow ehi enm elo een etx eso esz eal
      have hz : (j : Int) < (n : Int) := by omega
      have HLT := Lib.hid hlt
      have HWS := Lib.hid HW.out.size
      have hbx := alloc_new wr (.cells #[.int .i64 kk, .string nm, .string tx, .slice A al.length ac2, .bool rw] 27)
      have HW2 := Lib.hid (HW.out.alloc HW.out.size (.cells #[.int .i64 kk, .string nm, .string tx, .slice A al.length ac2, .bool rw] 27))
      have HA2 := Lib.hid (isAttrs_below HA.out ((Below.refl _ wr).alloc (Nat.le_refl _) (.cells #[.int .i64 kk, .string nm, .string tx, .slice A al.length ac2, .bool rw] 27)))
      obtain ⟨d0, d1, d2, d3, d4⟩ := tbox5 hbx
      have HBX := Lib.hid hbx
      clear hx hbx HA
      have hkk : kk = 1 ∨ kk = 2 ∨ kk = 3 ∨ kk = 4 ∨ kk = 5 ∨ kk = 6 := by omega
      clear elow ehi
      by_cases hk1 : kk = 1
      · subst hk1
        have q0 := (lit_eq nm [] ⟨#[]⟩ (by decide +kernel)).trans (decide_eq_false (enm rfl))
        have HLW := Lib.hid (fun W => low_own (n := nm) (by have := HCZ.out; unfold maxLen; omega) (elo rfl) W)
        have qe : ((j : Int) == (n : Int) - 1) = false := by rw [beq_eq_false_iff_ne]; omega
        have HSO := Lib.hid eso
        have halz : al.length ≤ 100000 := by have := HCZ.out; omega
        clear hkk enm elo een etx eso esz e6
        go_wp2_with fail
        obtain ⟨w1, hw1⟩ : ∃ w1, wr.alloc (.cells #[.int .i64 1, .string nm, .string tx, .slice A al.length ac2, .bool rw] 27) = w1 := ⟨_, rfl⟩
        rw [hw1] at HW2 HA2 d0 d1 d2 d3 d4 HBX ⊢
        have HB1 : Hid (Below wr.heap.size wr w1) := Lib.hid (hw1 ▸ (Below.refl _ wr).alloc (Nat.le_refl _) _)
        obtain ⟨tb, htb⟩ : ∃ tb, wr.heap.size = tb := ⟨_, rfl⟩
        rw [htb] at d0 d1 d2 d3 d4 HBX ⊢
        have r0 := cell_regrown d0
        have r1 := cell_regrown d1
        have r2 := cell_regrown d2
        have r3 := cell_regrown d3
        clear hw1 htb
        refine wp_region_quiet_below mixedT (by kernel_rfl) ?_
        iterate 10 (go_big_quiet_step (fail))
        go_big_quiet_step ((go_at_call 11; exact Calls.regrown_of (HLW.out _)))
        repeat (go_big_quiet_step (fail))
        refine wpQuiet_nil ?_
        rintro w3 ⟨gg, hgg⟩
        have hb3 : Below w1.heap.size w1 w3 := hgg ▸ below_regrown w1 gg.d gg.os
        have HBX3 := Lib.hid ((hb3.block _ (lt_of_block HBX.out)).trans HBX.out)
        have HW3 := Lib.hid (HW2.out.trans (hb3.mono HW2.out.size))
        have HA3 := Lib.hid (isAttrs_below HA2.out hb3)
        clear hgg gg hb3 r0 r1 r2 r3 d0 d1 d2 d3 d4 c0 c1 c2 c3 c4 HBX HW2 HA2
        obtain ⟨f0, f1, f2, f3, f4⟩ := tbox5 HBX3.out
        go_wp2_with fail
        have HAL : Hid (al.length ≤ 100000) := Lib.hid halz
        obtain ⟨wo, hwo⟩ : ∃ wo, wo = wr := ⟨_, rfl⟩
        subst hwo
        clear q0 HLW qe f0 f1 f2 f3 f4
        go_loopw [6] (fun t6 wr => ∃ q : Nat, t6 = .int .i64 ((q : Int) + 1) ∧ Hid (wr.heap[tb]? = some (.cells #[.int .i64 1, .string nm, .string tx, .slice A al.length ac2, .bool rw] 27 (0, 0))) ∧ Hid (Below w2.heap.size w2 wr) ∧ Hid (IsAttrs wr wr.heap.size al A ac2)) (fun t6 _ => al.length - (intOf t6).toNat)
        case atStart => exact ⟨0, rfl, HBX3, HW3, HA3⟩
        case round =>
          obtain ⟨q, rfl, HBX4, HW4, HA4⟩ := hrel
          obtain ⟨f0, f1, f2, f3, f4⟩ := tbox5 HBX4.out
          clear f0 f1 f2 f4
          by_cases hm : q + 1 < al.length
          · have hx : al[q + 1]? = some (al[q + 1]'hm) := List.getElem?_eq_getElem _
            have hy : al[q]? = some (al[q]'(by omega)) := List.getElem?_eq_getElem _
            have hxy := List.pairwise_iff_getElem.1 HSO.out q (q + 1) (by omega) hm (by omega)
            obtain ⟨ga, oa, rfl, hga, x0, _⟩ := isAttrs_at HA4.out hx
            obtain ⟨gb, ob, eb, _, y0, _⟩ := isAttrs_at HA4.out hy
            injection eb with eb
            injection eb with eb1 eb2
            subst eb1; subst eb2
            generalize al[q + 1]'hm = x at *
            generalize al[q]'(by omega) = y at *
            have hql : (q : Int) + 1 < (al.length : Int) := by omega
            have hql2 : (q : Int) < (al.length : Int) := by omega
            have hwi : IntKind.i64.wrap ((q : Int) + 1 + 1) = (q : Int) + 1 + 1 := IntWalk.i64_in _ (by have := HAL.out; omega)
            have hqb : (q : Int) ≤ 9223372036854775800 := by have := HAL.out; omega
            have HLT2 := Lib.hid hm
            have r0 := cell_regrown x0
            have r1 := cell_regrown y0
            have r3 := cell_regrown f3
            obtain ⟨g1, g2⟩ := less_facts hxy
            clear hx hy hm hga hxy
            go_wp2_with fail
            refine wp_region_quiet_below mixedT (by kernel_rfl) ?_
            repeat (go_big_quiet_step (fail))
            refine wpQuiet_nil ?_
            rintro w5 ⟨gg, hgg⟩
            have hb5 : Below wr.heap.size wr w5 := hgg ▸ below_regrown wr gg.d gg.os
            have HBX5 := Lib.hid ((hb5.block _ (lt_of_block HBX4.out)).trans HBX4.out)
            have HW5 := Lib.hid (HW4.out.trans (hb5.mono HW4.out.size))
            have HA5 := Lib.hid (isAttrs_below HA4.out hb5)
            clear hgg gg hb5 r0 r1 r3 x0 y0 f3
            go_wp2_with fail
            go_roundw
            case rel => exact ⟨q + 1, rfl, HBX5, HW5, HA5⟩
            case measure => simp [intOf]; have := HLT2.out; omega
          · have hql : ¬ (q : Int) + 1 < (al.length : Int) := by omega
            go_wp2_with fail
            go_roundw
            case rel => exact ⟨j + 1, by go_num, Lib.hid HLT.out, HW4⟩
            case measure => simp [intOf]; have := HLT.out; omega
      · have hal : al = [] := een hk1
        subst hal
        simp only [List.length_nil] at HW2 HA2 d0 d1 d2 d3 d4 HBX c3
        have qe : ((j : Int) == (n : Int) - 1) = decide (kk = 6) := by rw [Bool.eq_iff_iff]; simp only [beq_iff_eq, decide_eq_true_eq]; omega
        have q3 : kk = 3 → (tx.toList == []) = false := fun h => (lit_eq tx [] ⟨#[]⟩ (by decide +kernel)).trans (decide_eq_false (etx h))
        clear enm elo een etx eso esz e6
        rcases hkk with rfl | rfl | rfl | rfl | rfl | rfl
        · exact absurd rfl hk1
        · replace qe : ((j : Int) == (n : Int) - 1) = false := qe
          clear q3
          go_wp2_with fail
          obtain ⟨w1, hw1⟩ : ∃ w1, wr.alloc (.cells #[.int .i64 2, .string nm, .string tx, .slice A 0 ac2, .bool rw] 27) = w1 := ⟨_, rfl⟩
          rw [hw1] at HW2 HA2 d0 d1 d2 d3 d4 HBX ⊢
          have HB1 : Hid (Below wr.heap.size wr w1) := Lib.hid (hw1 ▸ (Below.refl _ wr).alloc (Nat.le_refl _) _)
          obtain ⟨tb, htb⟩ : ∃ tb, wr.heap.size = tb := ⟨_, rfl⟩
          rw [htb] at d0 d1 d2 d3 d4 HBX ⊢
          have r0 := cell_regrown d0
          have r1 := cell_regrown d1
          have r2 := cell_regrown d2
          have r3 := cell_regrown d3
          clear hw1 htb
          refine wp_region_quiet_below mixedT (by kernel_rfl) ?_
          repeat (go_big_quiet_step (fail))
          refine wpQuiet_nil ?_
          rintro w3 ⟨gg, hgg⟩
          have hb3 : Below w1.heap.size w1 w3 := hgg ▸ below_regrown w1 gg.d gg.os
          have HBX3 := Lib.hid ((hb3.block _ (lt_of_block HBX.out)).trans HBX.out)
          have HW3 := Lib.hid (HW2.out.trans (hb3.mono HW2.out.size))
          have HA3 := Lib.hid (isAttrs_below HA2.out hb3)
          clear hgg gg hb3 r0 r1 r2 r3 d0 d1 d2 d3 d4 c0 c1 c2 c3 c4 HBX HW2 HA2
          obtain ⟨f0, f1, f2, f3, f4⟩ := tbox5 HBX3.out
          go_wp2_with fail
          go_rounds 1
          refine ⟨⟨j + 1, rfl, Lib.hid HLT.out, HW3⟩, ?_⟩
          simp [intOf]; have := HLT.out; omega
        · replace qe : ((j : Int) == (n : Int) - 1) = false := qe
          replace q3 := q3 rfl
          go_wp2_with fail
          obtain ⟨w1, hw1⟩ : ∃ w1, wr.alloc (.cells #[.int .i64 3, .string nm, .string tx, .slice A 0 ac2, .bool rw] 27) = w1 := ⟨_, rfl⟩
          rw [hw1] at HW2 HA2 d0 d1 d2 d3 d4 HBX ⊢
          have HB1 : Hid (Below wr.heap.size wr w1) := Lib.hid (hw1 ▸ (Below.refl _ wr).alloc (Nat.le_refl _) _)
          obtain ⟨tb, htb⟩ : ∃ tb, wr.heap.size = tb := ⟨_, rfl⟩
          rw [htb] at d0 d1 d2 d3 d4 HBX ⊢
          have r0 := cell_regrown d0
          have r1 := cell_regrown d1
          have r2 := cell_regrown d2
          have r3 := cell_regrown d3
          clear hw1 htb
          refine wp_region_quiet_below mixedT (by kernel_rfl) ?_
          repeat (go_big_quiet_step (fail))
          refine wpQuiet_nil ?_
          rintro w3 ⟨gg, hgg⟩
          have hb3 : Below w1.heap.size w1 w3 := hgg ▸ below_regrown w1 gg.d gg.os
          have HBX3 := Lib.hid ((hb3.block _ (lt_of_block HBX.out)).trans HBX.out)
          have HW3 := Lib.hid (HW2.out.trans (hb3.mono HW2.out.size))
          have HA3 := Lib.hid (isAttrs_below HA2.out hb3)
          clear hgg gg hb3 r0 r1 r2 r3 d0 d1 d2 d3 d4 c0 c1 c2 c3 c4 HBX HW2 HA2
          obtain ⟨f0, f1, f2, f3, f4⟩ := tbox5 HBX3.out
          go_wp2_with fail
          go_rounds 1
          refine ⟨⟨j + 1, rfl, Lib.hid HLT.out, HW3⟩, ?_⟩
          simp [intOf]; have := HLT.out; omega
        · replace qe : ((j : Int) == (n : Int) - 1) = false := qe
          clear q3
          go_wp2_with fail
          obtain ⟨w1, hw1⟩ : ∃ w1, wr.alloc (.cells #[.int .i64 4, .string nm, .string tx, .slice A 0 ac2, .bool rw] 27) = w1 := ⟨_, rfl⟩
          rw [hw1] at HW2 HA2 d0 d1 d2 d3 d4 HBX ⊢
          have HB1 : Hid (Below wr.heap.size wr w1) := Lib.hid (hw1 ▸ (Below.refl _ wr).alloc (Nat.le_refl _) _)
          obtain ⟨tb, htb⟩ : ∃ tb, wr.heap.size = tb := ⟨_, rfl⟩
          rw [htb] at d0 d1 d2 d3 d4 HBX ⊢
          have r0 := cell_regrown d0
          have r1 := cell_regrown d1
          have r2 := cell_regrown d2
          have r3 := cell_regrown d3
          clear hw1 htb
          refine wp_region_quiet_below mixedT (by kernel_rfl) ?_
          repeat (go_big_quiet_step (fail))
          refine wpQuiet_nil ?_
          rintro w3 ⟨gg, hgg⟩
          have hb3 : Below w1.heap.size w1 w3 := hgg ▸ below_regrown w1 gg.d gg.os
          have HBX3 := Lib.hid ((hb3.block _ (lt_of_block HBX.out)).trans HBX.out)
          have HW3 := Lib.hid (HW2.out.trans (hb3.mono HW2.out.size))
          have HA3 := Lib.hid (isAttrs_below HA2.out hb3)
          clear hgg gg hb3 r0 r1 r2 r3 d0 d1 d2 d3 d4 c0 c1 c2 c3 c4 HBX HW2 HA2
          obtain ⟨f0, f1, f2, f3, f4⟩ := tbox5 HBX3.out
          go_wp2_with fail
          go_rounds 1
          refine ⟨⟨j + 1, rfl, Lib.hid HLT.out, HW3⟩, ?_⟩
          simp [intOf]; have := HLT.out; omega
        · replace qe : ((j : Int) == (n : Int) - 1) = false := qe
          clear q3
          go_wp2_with fail
          obtain ⟨w1, hw1⟩ : ∃ w1, wr.alloc (.cells #[.int .i64 5, .string nm, .string tx, .slice A 0 ac2, .bool rw] 27) = w1 := ⟨_, rfl⟩
          rw [hw1] at HW2 HA2 d0 d1 d2 d3 d4 HBX ⊢
          have HB1 : Hid (Below wr.heap.size wr w1) := Lib.hid (hw1 ▸ (Below.refl _ wr).alloc (Nat.le_refl _) _)
          obtain ⟨tb, htb⟩ : ∃ tb, wr.heap.size = tb := ⟨_, rfl⟩
          rw [htb] at d0 d1 d2 d3 d4 HBX ⊢
          have r0 := cell_regrown d0
          have r1 := cell_regrown d1
          have r2 := cell_regrown d2
          have r3 := cell_regrown d3
          clear hw1 htb
          refine wp_region_quiet_below mixedT (by kernel_rfl) ?_
          repeat (go_big_quiet_step (fail))
          refine wpQuiet_nil ?_
          rintro w3 ⟨gg, hgg⟩
          have hb3 : Below w1.heap.size w1 w3 := hgg ▸ below_regrown w1 gg.d gg.os
          have HBX3 := Lib.hid ((hb3.block _ (lt_of_block HBX.out)).trans HBX.out)
          have HW3 := Lib.hid (HW2.out.trans (hb3.mono HW2.out.size))
          have HA3 := Lib.hid (isAttrs_below HA2.out hb3)
          clear hgg gg hb3 r0 r1 r2 r3 d0 d1 d2 d3 d4 c0 c1 c2 c3 c4 HBX HW2 HA2
          obtain ⟨f0, f1, f2, f3, f4⟩ := tbox5 HBX3.out
          go_wp2_with fail
          go_rounds 1
          refine ⟨⟨j + 1, rfl, Lib.hid HLT.out, HW3⟩, ?_⟩
          simp [intOf]; have := HLT.out; omega
        · replace qe : ((j : Int) == (n : Int) - 1) = true := qe
          clear q3
          go_wp2_with fail
          obtain ⟨w1, hw1⟩ : ∃ w1, wr.alloc (.cells #[.int .i64 6, .string nm, .string tx, .slice A 0 ac2, .bool rw] 27) = w1 := ⟨_, rfl⟩
          rw [hw1] at HW2 HA2 d0 d1 d2 d3 d4 HBX ⊢
          have HB1 : Hid (Below wr.heap.size wr w1) := Lib.hid (hw1 ▸ (Below.refl _ wr).alloc (Nat.le_refl _) _)
          obtain ⟨tb, htb⟩ : ∃ tb, wr.heap.size = tb := ⟨_, rfl⟩
          rw [htb] at d0 d1 d2 d3 d4 HBX ⊢
          have r0 := cell_regrown d0
          have r1 := cell_regrown d1
          have r2 := cell_regrown d2
          have r3 := cell_regrown d3
          clear hw1 htb
          refine wp_region_quiet_below mixedT (by kernel_rfl) ?_
          repeat (go_big_quiet_step (fail))
          refine wpQuiet_nil ?_
          rintro w3 ⟨gg, hgg⟩
          have hb3 : Below w1.heap.size w1 w3 := hgg ▸ below_regrown w1 gg.d gg.os
          have HBX3 := Lib.hid ((hb3.block _ (lt_of_block HBX.out)).trans HBX.out)
          have HW3 := Lib.hid (HW2.out.trans (hb3.mono HW2.out.size))
          have HA3 := Lib.hid (isAttrs_below HA2.out hb3)
          clear hgg gg hb3 r0 r1 r2 r3 d0 d1 d2 d3 d4 c0 c1 c2 c3 c4 HBX HW2 HA2
          obtain ⟨f0, f1, f2, f3, f4⟩ := tbox5 HBX3.out
          go_wp2_with fail
          go_rounds 1
          refine ⟨⟨j + 1, rfl, Lib.hid HLT.out, HW3⟩, ?_⟩
          simp [intOf]; have := HLT.out; omega
    · have hz : ¬ (j : Int) < (n : Int) := by omega
      have k0 : (n : Int) > 0 := by omega
      clear hge
      go_wp2_with fail
      refine (Sc.awake_calls _).mono ?_
      rintro e w3 ⟨rfl, hb3⟩
      have HB3 := Lib.hid ((HB.out.trans (HW.out.mono HB.out.size)).trans (hb3.mono (Nat.le_trans HB.out.size HW.out.size)))
      clear hb3
      go_wp2_with fail
      go_ret
      exact ⟨rfl, HB3.out⟩
end Go.Proofs.YtbdgoffbkenofaaGreat.Wk
