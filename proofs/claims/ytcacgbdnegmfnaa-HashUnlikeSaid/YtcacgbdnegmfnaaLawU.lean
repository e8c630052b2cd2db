/- The law of trees that are unlike. -/
import Derived.Test.YtcacgbdnegmfnaaNineW
namespace Go.Proofs.Ytcacgbdnegmfnaa.Wk
open Go Go.RowKit Go.Proofs.Ytcacgbdnegmfnaa.Pl Go.Proofs.Ytcacgbdnegmfnaa.Tr Go.Proofs.Ytcacgbdnegmfnaa.Ha
set_option linter.unusedVariables false
set_option maxHeartbeats 8000000 in
set_option maxRecDepth 100000 in
theorem hashUnlike (w : World) : Calls Try.prog 9 #[] w fun e w' => e = .returned (.bool true) ∧ Below w.heap.size w w' := by
  have HN := nine_kids w
  have HNEW := Lib.hid (nine_new w)
  have HONE := Lib.hid (cells45_one w)
  go_enter Try.func9, Try.ntmps9
  go_wp2_with (refine wpList_store_row rfl 52 (.tmp 1) (.tmp 23) rfl (w.heap.size + 1 + 1 + 1 + 1) (cells45 w) rfl rfl 52 zero45 HNEW.out (by kernel_rfl) rfl HONE.out ?_)
  refine wp_world (nine_row w) ?_
  generalize nineW w = w5 at HN ⊢
  have HK := Lib.hid HN.kids
  have HB5 := Lib.hid HN.bel
  have hl5 := HN.lt
  clear HN
  generalize w.heap.size + 1 + 1 + 1 + 1 = ba at *
  go_loopw [2] (fun i wr => ∃ n : Nat, n ≤ 9 ∧ i = .int .i64 (n : Int) ∧ Below w5.heap.size w5 wr) (fun i _ => 9 - (intOf i).toNat)
  case atStart => exact ⟨0, Nat.zero_le _, rfl, Below.refl _ _⟩
  case round =>
    obtain ⟨n, hn, rfl, hbo⟩ := hrel
    have HBO := Lib.hid hbo
    clear hbo
    obtain ⟨wo, hwo⟩ : ∃ q, q = wr := ⟨wr, rfl⟩
    subst hwo
    rcases Nat.lt_or_ge n 9 with hl | hl
    · have hnl : (n : Int) < 9 := by omega
      go_wp2_with fail
      go_loopw [3] (fun k wr => ∃ m : Nat, m ≤ n ∧ k = .int .i64 (m : Int) ∧ Below w5.heap.size w5 wr) (fun k _ => n - (intOf k).toNat)
      case atStart => exact ⟨0, Nat.zero_le _, rfl, HBO.out⟩
      case round =>
        obtain ⟨m, hm, rfl, hbi⟩ := hrel
        have HBI := Lib.hid hbi
        clear hbi
        rcases Nat.lt_or_ge m n with hlm | hlm
        · have hml : (m : Int) < (n : Int) := by omega
          have hm9 : (m : Int) < 9 := by omega
          obtain ⟨x, hx⟩ : ∃ x, nine[n]? = some x := ⟨_, List.getElem?_eq_getElem (show n < nine.length from hl)⟩
          obtain ⟨y, hy⟩ : ∃ y, nine[m]? = some y := ⟨_, List.getElem?_eq_getElem (show m < nine.length from by show m < 9; omega)⟩
          obtain ⟨x0, x1, x2, x3, x4, c0, c1, c2, c3, c4, hxt⟩ := HK.out.at_ hx
          obtain ⟨y0, y1, y2, y3, y4, d0, d1, d2, d3, d4, hyt⟩ := HK.out.at_ hy
          rw [Nat.zero_add] at c0 c1 c2 c3 c4 d0 d1 d2 d3 d4
          have kc : ∀ o, wr.cell? ⟨ba, o, none⟩ = w5.cell? ⟨ba, o, none⟩ := fun o => HBI.out.cell hl5
          have r0 := cell_regrown ((kc _).trans c0)
          have r1 := cell_regrown ((kc _).trans c1)
          have r2 := cell_regrown ((kc _).trans c2)
          have r3 := cell_regrown ((kc _).trans c3)
          have r4 := cell_regrown ((kc _).trans c4)
          have s0 := cell_regrown ((kc _).trans d0)
          have s1 := cell_regrown ((kc _).trans d1)
          have s2 := cell_regrown ((kc _).trans d2)
          have s3 := cell_regrown ((kc _).trans d3)
          have s4 := cell_regrown ((kc _).trans d4)
          have hne := unlike_at hl hlm hx hy
          have mx := List.mem_of_getElem? hx
          have my := List.mem_of_getElem? hy
          have HOX : Hid (∀ d os, Calls Try.prog 28 #[.agg #[x0, x1, x2, x3, x4]] (Go.Sort.grow (redrawn wr d) os) fun e w' => e = .returned (.int .u64 (un (treeH x))) ∧ Below (Go.Sort.grow (redrawn wr d) os).heap.size (Go.Sort.grow (redrawn wr d) os) w') := Lib.hid fun d os => by
            have hb := HBI.out.trans ((below_regrown wr d os).mono HBI.out.size)
            exact of_calls x _ _ _ _ _ _ (hxt.keep (fun p hp => hb.cell hp) hb.size) (nine_cnt x mx) (okT_att 0 _ (nine_ok x mx)) (okT_sh 0 0 (-1) 0 0 _ (nine_ok x mx))
          have HOY : Hid (∀ d os, Calls Try.prog 28 #[.agg #[y0, y1, y2, y3, y4]] (Go.Sort.grow (redrawn wr d) os) fun e w' => e = .returned (.int .u64 (un (treeH y))) ∧ Below (Go.Sort.grow (redrawn wr d) os).heap.size (Go.Sort.grow (redrawn wr d) os) w') := Lib.hid fun d os => by
            have hb := HBI.out.trans ((below_regrown wr d os).mono HBI.out.size)
            exact of_calls y _ _ _ _ _ _ (hyt.keep (fun p hp => hb.cell hp) hb.size) (nine_cnt y my) (okT_att 0 _ (nine_ok y my)) (okT_sh 0 0 (-1) 0 0 _ (nine_ok y my))
          clear kc c0 c1 c2 c3 c4 d0 d1 d2 d3 d4 hxt hyt mx my hx hy
          generalize un (treeH x) = nx at *
          generalize un (treeH y) = ny at *
          go_wp2_with fail
          refine wp_region_quiet_below mixed (by kernel_rfl) ?_
          repeat (go_big_quiet_step (first
            | (go_at_call 28; exact Calls.regrown_of (HOX.out _ _))
            | (go_at_call 28; exact Calls.regrown_of (HOY.out _ _))))
          refine wpQuiet_nil ?_
          rintro w6 ⟨q, hq⟩
          have HB6 : Hid (Below w5.heap.size w5 w6) := Lib.hid (HBI.out.trans ((hq ▸ below_regrown wr q.d q.os : Below wr.heap.size wr w6).mono HBI.out.size))
          clear hq r0 r1 r2 r3 r4 s0 s1 s2 s3 s4 HOX HOY
          go_wp2_with fail
          go_roundw
          case rel => exact ⟨m + 1, by omega, by go_num, HB6.out⟩
          case measure => simp [intOf]; omega
        · obtain rfl : m = n := by omega
          go_wp2_with fail
          go_roundw
          case rel => exact ⟨m + 1, by omega, by go_num, HBI.out⟩
          case measure => simp [intOf]; omega
    · obtain rfl : n = 9 := by omega
      go_wp2_with fail
      refine (hawake_calls _).mono ?_
      rintro e w6 ⟨rfl, hb6⟩
      have HB6 : Hid (Below w.heap.size w w6) := Lib.hid ((HB5.out.trans (HBO.out.mono HB5.out.size)).trans (hb6.mono (Nat.le_trans HB5.out.size HBO.out.size)))
      clear hb6
      go_wp2_with fail
      go_ret
      exact ⟨rfl, HB6.out⟩
end Go.Proofs.Ytcacgbdnegmfnaa.Wk
