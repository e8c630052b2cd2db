/- token.Next: a text. -/
import Derived.Test.YtbdgoffbkenofaaGreatTkN
namespace Go.Proofs.YtbdgoffbkenofaaGreat.Tk
open Go Go.RowKit Go.Proofs.YtbdgoffbkenofaaGreat.Tr
set_option linter.unusedVariables false
set_option maxRecDepth 100000

set_option maxHeartbeats 8000000 in
theorem nx_text1 (s raw : ByteArray) (hs : s.size ≤ 900000) (hr : raw.size ≤ 900000) (a : Nat) (ha : a ≤ 1000000) (c1 : a < s.size) (c2 : ¬ (raw ≠ ⟨#[]⟩ ∧ a < rawEndP s a raw)) (hraw : raw = ⟨#[]⟩) (h60 : bAt s a ≠ 60) (w : World) :
    Calls Tryz.prog 37 #[.string s, .int .i64 (a : Int), .string raw] w (TokEnd (nextP s a raw) w) := by
  have HS := Lib.hid hs
  have HR := Lib.hid hr
  have h0 : (0 : Int) ≤ (a : Int) := by omega
  have hneg : ¬ (a : Int) < 0 := by omega
  obtain ⟨g1, g2, g3⟩ := nx_boxes s w
  have HI : Hid (NxI s w.heap.size w ((w.alloc (.cells #[.string s] 9)).alloc (.cells #[.int .i64 0, .string ⟨#[]⟩, .string ⟨#[]⟩, .slice none 0 0, .bool false] 27))) := Lib.hid ⟨g2, g3, g1⟩
  have hz : ¬ (s.size : Int) ≤ (a : Int) := by omega
  have hlt : a < s.size := by omega
  have hz3 : True := trivial
  have q1 : ((s[a].toNat : Int) != 60) = true := by rw [← bAt_in hlt]; simp; omega
  have HN := Lib.hid ((nextP_rest (by omega) c2).trans (next_text hlt h60))
  have hbk := bAt_in hlt
  have HBL := Lib.hid (tblank (bAt s a))
  rw [hbk] at HBL HN
  generalize blankN s[a].toNat = bl at *
  have h1 := upT_ge (fun c => decide (c = 60) || (blankN c != bl)) s a
  have h2 := upT_le (fun c => decide (c = 60) || (blankN c != bl)) (s := s) (a := a) (by omega)
  have HUP := Lib.hid (fun b e he => text_upTo s (by omega) bl b a e (by omega) he)
  obtain ⟨e, he⟩ : ∃ e, upT (fun c => decide (c = 60) || (blankN c != bl)) s a = e := ⟨_, rfl⟩
  rw [he] at h1 h2 HN
  replace HUP := Lib.hid (fun b => HUP.out b e he)
  have hk1 : (a : Int) ≤ (e : Int) := by omega
  have hk2 : (e : Int) ≤ (s.size : Int) := by omega
  have HD := Lib.hid (Ch.decode_calls (s.extract a e) (Nat.le_trans (ext_size s a e) (by omega)) false)
  generalize Ch.decB (s.extract a e) false = dv at *
  have c0 := HI.out.cell
  clear hs hr g1 g2 g3 h60 c1 h1 h2 hbk he
  subst hraw
  clear c2 HR hz3
  go_enter Tryz.func37, Tryz.ntmps37
  go_wp2_with fail
  generalize ((w.alloc (.cells #[.string s] 9)).alloc (.cells #[.int .i64 0, .string ⟨#[]⟩, .string ⟨#[]⟩, .slice none 0 0, .bool false] 27)) = w2 at *
  refine (HBL.out _).mono ?_
  rintro e' wq' ⟨rfl, rfl⟩
  have c1 := (HI.out.grow #[.bool bl] 4).cell
  go_wp2_with fail
  refine (HUP.out _ _ (alloc_new _ _)).mono ?_
  rintro e' w4 ⟨rfl, hb⟩
  replace HI := Lib.hid ((HI.out.grow _ _).keep hb)
  clear hb
  have c0 := HI.out.cell
  go_wp2_with fail
  refine (HD.out _).mono ?_
  rintro e' wq ⟨rfl, hb⟩
  replace HI := Lib.hid (HI.out.keep hb)
  clear hb
  have c0 := HI.out.cell
  obtain ⟨b0, b1, b2, b3, b4⟩ := tbox5 HI.out.res
  obtain ⟨f0, f1, f2, f3, f4⟩ := tfrz5 HI.out.res
  go_wp2_with fail
  rw [HN.out]
  exact tok_post (textTok dv false, e, true) w 6 7 8 (w.heap.size + 1) none 0 rfl rfl rfl rfl (set5_blk HI.out.res _ _ _ _ _) (isAttrs_nil _ _) (HI.out.end_ _ _ _ _ _) (fun _ h => nomatch h)
set_option maxHeartbeats 8000000 in
theorem nx_text2 (s raw : ByteArray) (hs : s.size ≤ 900000) (hr : raw.size ≤ 900000) (a : Nat) (ha : a ≤ 1000000) (c1 : a < s.size) (c2 : ¬ (raw ≠ ⟨#[]⟩ ∧ a < rawEndP s a raw)) (hraw : raw ≠ ⟨#[]⟩) (h60 : bAt s a ≠ 60) (w : World) :
    Calls Tryz.prog 37 #[.string s, .int .i64 (a : Int), .string raw] w (TokEnd (nextP s a raw) w) := by
  have HS := Lib.hid hs
  have HR := Lib.hid hr
  have h0 : (0 : Int) ≤ (a : Int) := by omega
  have hneg : ¬ (a : Int) < 0 := by omega
  obtain ⟨g1, g2, g3⟩ := nx_boxes s w
  have HI : Hid (NxI s w.heap.size w ((w.alloc (.cells #[.string s] 9)).alloc (.cells #[.int .i64 0, .string ⟨#[]⟩, .string ⟨#[]⟩, .slice none 0 0, .bool false] 27))) := Lib.hid ⟨g2, g3, g1⟩
  have hz : ¬ (s.size : Int) ≤ (a : Int) := by omega
  have hlt : a < s.size := by omega
  have hz3 : True := trivial
  have q1 : ((s[a].toNat : Int) != 60) = true := by rw [← bAt_in hlt]; simp; omega
  have HN := Lib.hid ((nextP_rest (by omega) c2).trans (next_text hlt h60))
  have hbk := bAt_in hlt
  have HBL := Lib.hid (tblank (bAt s a))
  rw [hbk] at HBL HN
  generalize blankN s[a].toNat = bl at *
  have h1 := upT_ge (fun c => decide (c = 60) || (blankN c != bl)) s a
  have h2 := upT_le (fun c => decide (c = 60) || (blankN c != bl)) (s := s) (a := a) (by omega)
  have HUP := Lib.hid (fun b e he => text_upTo s (by omega) bl b a e (by omega) he)
  obtain ⟨e, he⟩ : ∃ e, upT (fun c => decide (c = 60) || (blankN c != bl)) s a = e := ⟨_, rfl⟩
  rw [he] at h1 h2 HN
  replace HUP := Lib.hid (fun b => HUP.out b e he)
  have hk1 : (a : Int) ≤ (e : Int) := by omega
  have hk2 : (e : Int) ≤ (s.size : Int) := by omega
  have HD := Lib.hid (Ch.decode_calls (s.extract a e) (Nat.le_trans (ext_size s a e) (by omega)) false)
  generalize Ch.decB (s.extract a e) false = dv at *
  have c0 := HI.out.cell
  clear hs hr g1 g2 g3 h60 c1 h1 h2 hbk he
  have hne := empty_toList hraw
  have hz2 : ¬ ((rawEndP s a raw : Int) > (a : Int)) := by have : ¬ a < rawEndP s a raw := fun x => c2 ⟨hraw, x⟩; omega
  have HRE := Lib.hid (rawEnd_calls s raw (by have := HS.out; omega) HR.out a (by omega))
  generalize rawEndP s a raw = e0 at *
  clear c2 hraw hz3
  go_enter Tryz.func37, Tryz.ntmps37
  go_wp2_with fail
  refine (HRE.out _).mono ?_
  rintro e' wq ⟨rfl, hb⟩
  replace HI := Lib.hid (HI.out.keep hb)
  clear hb
  have c0 := HI.out.cell
  go_wp2_with fail
  refine (HBL.out _).mono ?_
  rintro e' wq' ⟨rfl, rfl⟩
  have c1 := (HI.out.grow #[.bool bl] 4).cell
  go_wp2_with fail
  refine (HUP.out _ _ (alloc_new _ _)).mono ?_
  rintro e' w4 ⟨rfl, hb⟩
  replace HI := Lib.hid ((HI.out.grow _ _).keep hb)
  clear hb
  have c0 := HI.out.cell
  go_wp2_with fail
  refine (HD.out _).mono ?_
  rintro e' wq ⟨rfl, hb⟩
  replace HI := Lib.hid (HI.out.keep hb)
  clear hb
  have c0 := HI.out.cell
  obtain ⟨b0, b1, b2, b3, b4⟩ := tbox5 HI.out.res
  obtain ⟨f0, f1, f2, f3, f4⟩ := tfrz5 HI.out.res
  go_wp2_with fail
  rw [HN.out]
  exact tok_post (textTok dv false, e, true) w 6 7 8 (w.heap.size + 1) none 0 rfl rfl rfl rfl (set5_blk HI.out.res _ _ _ _ _) (isAttrs_nil _ _) (HI.out.end_ _ _ _ _ _) (fun _ h => nomatch h)
end Go.Proofs.YtbdgoffbkenofaaGreat.Tk
