/- token.Next: in a raw element. -/
import Derived.Test.YtbdgoffbkenofaaGreatTkN
namespace Go.Proofs.YtbdgoffbkenofaaGreat.Tk
open Go Go.RowKit Go.Proofs.YtbdgoffbkenofaaGreat.Tr
set_option linter.unusedVariables false
set_option maxRecDepth 100000

set_option maxHeartbeats 8000000 in
theorem nx_raw (s raw : ByteArray) (hs : s.size ≤ 900000) (hr : raw.size ≤ 900000) (a : Nat) (ha : a ≤ 1000000) (c1 : a < s.size) (hraw : raw ≠ ⟨#[]⟩) (c2 : a < rawEndP s a raw) (w : World) :
    Calls Tryz.prog 37 #[.string s, .int .i64 (a : Int), .string raw] w (TokEnd (nextP s a raw) w) := by
  have HS := Lib.hid hs
  have HR := Lib.hid hr
  have h0 : (0 : Int) ≤ (a : Int) := by omega
  have hneg : ¬ (a : Int) < 0 := by omega
  obtain ⟨g1, g2, g3⟩ := nx_boxes s w
  have HI : Hid (NxI s w.heap.size w ((w.alloc (.cells #[.string s] 9)).alloc (.cells #[.int .i64 0, .string ⟨#[]⟩, .string ⟨#[]⟩, .slice none 0 0, .bool false] 27))) := Lib.hid ⟨g2, g3, g1⟩
  have h3 : rawEndP s a raw ≤ s.size := by have := upI_le (rawOk s raw) (s.size - a) a; unfold rawEndP; omega
  have HRE := Lib.hid (rawEnd_calls s raw (by omega) hr a (by omega))
  have hne := empty_toList hraw
  have HV := Lib.hid (fun x h => nextP_raw (x := x) (by omega : ¬ s.size ≤ a) rfl ⟨hraw, c2⟩ h)
  have HLW := Lib.hid (tlower raw (by omega))
  have HRW := Lib.hid (raw_calls (lowS raw))
  generalize rawEndP s a raw = e at *
  generalize lowS raw = lr at *
  have hz : ¬ (s.size : Int) ≤ (a : Int) := by omega
  have hz2 : (a : Int) < (e : Int) := by omega
  have hk1 : (a : Int) ≤ (e : Int) := by omega
  have hk2 : (e : Int) ≤ (s.size : Int) := by omega
  have HD := Lib.hid (Ch.decode_calls (s.extract a e) (Nat.le_trans (ext_size s a e) (by omega)) false)
  have c0 := HI.out.cell
  clear hs hr g1 g2 g3 h3 c1 c2 hraw
  go_enter Tryz.func37, Tryz.ntmps37
  go_wp2_with fail
  refine (HRE.out _).mono ?_
  rintro e' wq ⟨rfl, hb⟩
  replace HI := Lib.hid (HI.out.keep hb)
  clear hb
  have c0 := HI.out.cell
  go_wp2_with fail
  refine (HLW.out _).mono ?_
  rintro e' w4 ⟨rfl, hb⟩
  have HO := Lib.hid (lt_of_block HI.out.res)
  have HT := (hb.block _ (lt_of_block (alloc_new wq _))).trans (alloc_new wq _)
  replace HI := Lib.hid ((HI.out.grow _ _).keep hb)
  obtain ⟨tb, htb⟩ : ∃ tb, wq.heap.size = tb := ⟨_, rfl⟩
  rw [htb] at HT HO ⊢
  clear hb htb c0
  go_wp2_with fail
  refine (HRW.out _).mono ?_
  rintro e' w5 ⟨rfl, rfl⟩
  obtain ⟨d0, d1, d2, d3, d4⟩ := tbox5 HT
  by_cases hr1 : rawP lr = 1
  · have hq : (rawP lr == 1) = true := by rw [hr1]; rfl
    replace HV := Lib.hid (HV.out _ (if_pos hr1))
    generalize Ch.decB (s.extract a e) false = dv at *
    clear hr1
    replace HT := Lib.hid HT
    go_wp2_with fail
    refine (HD.out _).mono ?_
    rintro e' w6 ⟨rfl, hb⟩
    have ht := (hb.block _ (lt_of_block HT.out)).trans HT.out
    replace HI := Lib.hid (HI.out.keep hb)
    obtain ⟨d0, d1, d2, d3, d4⟩ := tbox5 ht
    obtain ⟨k0, k1, k2, k3, k4⟩ := tfrz5 ht
    replace HI := Lib.hid (HI.out.set (p := ⟨tb, 2, none⟩) (.string dv) HO.out)
    obtain ⟨b0, b1, b2, b3, b4⟩ := tbox5 HI.out.res
    obtain ⟨f0, f1, f2, f3, f4⟩ := tfrz5 HI.out.res
    clear hb ht HT
    go_wp2_with fail
    rw [HV.out]
    exact tok_post (textTok dv true, e, true) w 6 7 8 (w.heap.size + 1) none 0 rfl rfl rfl rfl (set5_blk HI.out.res _ _ _ _ _) (isAttrs_nil _ _) (HI.out.end_ _ _ _ _ _) (fun _ h => nomatch h)
  · have hq : (rawP lr == 1) = false := by rw [beq_eq_false_iff_ne]; exact hr1
    replace HV := Lib.hid (HV.out _ (if_neg hr1))
    obtain ⟨b0, b1, b2, b3, b4⟩ := tbox5 HI.out.res
    obtain ⟨f0, f1, f2, f3, f4⟩ := tfrz5 HI.out.res
    clear hr1 HT
    go_wp2_with fail
    rw [HV.out]
    exact tok_post (textTok (s.extract a e) true, e, true) w 6 7 8 (w.heap.size + 1) none 0 rfl rfl rfl rfl (set5_blk HI.out.res _ _ _ _ _) (isAttrs_nil _ _) (HI.out.end_ _ _ _ _ _) (fun _ h => nomatch h)
end Go.Proofs.YtbdgoffbkenofaaGreat.Tk
