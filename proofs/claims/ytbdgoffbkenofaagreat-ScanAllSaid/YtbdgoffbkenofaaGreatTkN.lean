/- token.Next: for any source, from any place in it, in any raw element: the piece. The source has 900000 bytes at most. -/
import Derived.Test.YtbdgoffbkenofaaGreatTkG
import Derived.Test.YtbdgoffbkenofaaGreatTkPb
namespace Go.Proofs.YtbdgoffbkenofaaGreat.Tk
open Go Go.RowKit Go.Proofs.YtbdgoffbkenofaaGreat.Tr
set_option linter.unusedVariables false
set_option maxRecDepth 100000

theorem nx_boxes (s : ByteArray) (w : World) : Below w.heap.size w ((w.alloc (.cells #[.string s] 9)).alloc (.cells #[.int .i64 0, .string ⟨#[]⟩, .string ⟨#[]⟩, .slice none 0 0, .bool false] 27)) ∧
    ((w.alloc (.cells #[.string s] 9)).alloc (.cells #[.int .i64 0, .string ⟨#[]⟩, .string ⟨#[]⟩, .slice none 0 0, .bool false] 27)).heap[w.heap.size]? = some (.cells #[.string s] 9 (0, 0)) ∧
    ((w.alloc (.cells #[.string s] 9)).alloc (.cells #[.int .i64 0, .string ⟨#[]⟩, .string ⟨#[]⟩, .slice none 0 0, .bool false] 27)).heap[w.heap.size + 1]? = some (.cells #[.int .i64 0, .string ⟨#[]⟩, .string ⟨#[]⟩, .slice none 0 0, .bool false] 27 (0, 0)) :=
  ⟨((Below.refl _ w).alloc (Nat.le_refl _) _).alloc (by simp) _, alloc_old (alloc_new w _) _, by have := alloc_new (w.alloc (.cells #[.string s] 9)) (.cells #[.int .i64 0, .string ⟨#[]⟩, .string ⟨#[]⟩, .slice none 0 0, .bool false] 27); simpa using this⟩
/-- What is known: the source's box, the result's. -/
structure NxI (s : ByteArray) (b : Nat) (w0 wr : World) : Prop where
  box : wr.heap[b]? = some (.cells #[.string s] 9 (0, 0))
  res : wr.heap[b + 1]? = some (.cells #[.int .i64 0, .string ⟨#[]⟩, .string ⟨#[]⟩, .slice none 0 0, .bool false] 27 (0, 0))
  bel : Below b w0 wr
theorem NxI.keep {s : ByteArray} {b : Nat} {w0 wr w' : World} (h : NxI s b w0 wr) (hb : Below wr.heap.size wr w') : NxI s b w0 w' :=
  ⟨(hb.block _ (lt_of_block h.box)).trans h.box, (hb.block _ (lt_of_block h.res)).trans h.res, h.bel.trans (hb.mono (by have := lt_of_block h.box; omega))⟩
theorem NxI.end_ {s : ByteArray} {b : Nat} {w0 wr : World} (h : NxI s b w0 wr) (v0 v1 v2 v3 v4 : Value) : Below b w0 (((((wr.setCell ⟨b + 1, 0, none⟩ v0).setCell ⟨b + 1, 1, none⟩ v1).setCell ⟨b + 1, 2, none⟩ v2).setCell ⟨b + 1, 3, none⟩ v3).setCell ⟨b + 1, 4, none⟩ v4) :=
  h.bel.trans (set5_below (by omega) _ _ _ _ _)
theorem NxI.cell {s : ByteArray} {b : Nat} {w0 wr : World} (h : NxI s b w0 wr) : wr.cell? ⟨b, 0, none⟩ = some (.string s) := by rw [block_cell h.box]; rfl
theorem NxI.grow {s : ByteArray} {b : Nat} {w0 wr : World} (h : NxI s b w0 wr) (v : Array Value) (T : TypeId) : NxI s b w0 (wr.alloc (.cells v T)) := h.keep ((Below.refl _ wr).alloc (Nat.le_refl _) _)
theorem NxI.set {s : ByteArray} {b : Nat} {w0 wr : World} (h : NxI s b w0 wr) {p : Addr} (v : Value) (hp : b + 1 < p.block) : NxI s b w0 (wr.setCell p v) :=
  ⟨(Below.heap_setCell _ _ _ b (by omega)).trans h.box, (Below.heap_setCell _ _ _ (b + 1) (by omega)).trans h.res, h.bel.setCell (by omega) v⟩
theorem NxI.far {s : ByteArray} {b : Nat} {w0 wr : World} (h : NxI s b w0 wr) {A : Option Addr} (hA : ∀ p, A = some p → wr.heap.size ≤ p.block) : ∀ p, A = some p → b + 2 ≤ p.block := fun p hp => by
  have := hA p hp; have := lt_of_block h.res; omega
theorem nextP_raw {s raw x : ByteArray} {a e : Nat} (h : ¬ s.size ≤ a) (he : rawEndP s a raw = e) (h2 : raw ≠ ⟨#[]⟩ ∧ a < e) (hx : (if rawP (lowS raw) = 1 then Ch.decB (s.extract a e) false else s.extract a e) = x) : nextP s a raw = (textTok x true, e, true) := by
  subst he; subst hx; unfold nextP; exact (if_neg h).trans (if_pos h2)
theorem nextP_rest {s raw : ByteArray} {a : Nat} (h : ¬ s.size ≤ a) (h2 : ¬ (raw ≠ ⟨#[]⟩ ∧ a < rawEndP s a raw)) : nextP s a raw = nextP s a ⟨#[]⟩ := by
  unfold nextP; exact ((if_neg h).trans (if_neg h2)).trans ((if_neg h).trans (if_neg (fun x => x.1 rfl))).symm
theorem empty_toList {raw : ByteArray} (h : raw ≠ ⟨#[]⟩) : (!raw.toList.isEmpty) = true := by
  cases hl : raw.toList with
  | nil =>
    refine absurd (Sr.bytes_eq.1 ?_) h
    rw [← ByteArray.toList_eq, hl]
  | cons x xs => rfl
theorem text_upTo (s : ByteArray) (hs : s.size ≤ 1000000) (bl : Bool) (b a e : Nat) (ha : a ≤ 2000000) (he : upT (fun c => decide (c = 60) || (blankN c != bl)) s a = e) (W : World) (hW : W.heap[b]? = some (.cells #[.bool bl] 4 (0, 0))) :
    Calls Tryz.prog 60 #[.string s, .int .i64 (a : Int), .func (.func 61) #[] #[.pointer (some ⟨b, 0, none⟩)]] W fun e' w' => e' = .returned (.int .i64 (e : Int)) ∧ Below W.heap.size W w' :=
  he ▸ upTo_calls 61 #[.pointer (some ⟨b, 0, none⟩)] (enters_of Tryz.func61 (by kernel_rfl) rfl) _ s (by omega) a (by omega) W (next1 bl b W hW)
theorem letter_w (s : ByteArray) (hs : s.size ≤ 1000000) (i : Nat) (n : Int) (hn : (i : Int) = n) (hi : i ≤ 2000000) (b : Nat) (w : World) (hb : w.heap[b]? = some (.cells #[.string s] 9 (0, 0))) :
    Calls Tryz.prog 62 #[.int .i64 n, .pointer (some ⟨b, 0, none⟩)] w fun e w' => e = .returned (.bool (letterAt s i)) ∧ w = w' := hn ▸ next2 s hs i hi b w hb
theorem tag_w (hsort : SortsAttrs) (s : ByteArray) (hs : s.size ≤ 1000000) (i : Nat) (n : Int) (hn : (i : Int) = n) (hi : i ≤ s.size) (start : Bool) (m : Int) (hm : kindOf start = m) (w : World) :
    Calls Tryz.prog 64 #[.string s, .int .i64 n, .int .i64 m] w (TokEnd (tagP s i start) w) := hn ▸ hm ▸ tag_calls s hs i hi start hsort w
theorem comment_w (s : ByteArray) (hs : s.size ≤ 1000000) (i : Nat) (n : Int) (hn : (i : Int) = n) (hi : i ≤ s.size) (w : World) :
    Calls Tryz.prog 66 #[.string s, .int .i64 n] w (TokEnd (commentP s i) w) := hn ▸ comment_calls s hs i hi w
theorem doctype_w (s : ByteArray) (hs : s.size ≤ 1000000) (i : Nat) (n : Int) (hn : (i : Int) = n) (hi : i ≤ s.size) (w : World) :
    Calls Tryz.prog 67 #[.string s, .int .i64 n] w (TokEnd (doctypeP s i) w) := hn ▸ doctype_calls s hs i hi w
theorem bogus_w (s : ByteArray) (hs : s.size ≤ 1000000) (i : Nat) (n : Int) (hn : (i : Int) = n) (hi : i ≤ s.size) (w : World) :
    Calls Tryz.prog 68 #[.string s, .int .i64 n] w (TokEnd (bogusP s i) w) := hn ▸ bogus_calls s hs i hi w
end Go.Proofs.YtbdgoffbkenofaaGreat.Tk
namespace Go.Proofs.YtbdgoffbkenofaaGreat.Tk
open Go Go.RowKit Go.Proofs.YtbdgoffbkenofaaGreat.Tr
set_option linter.unusedVariables false
set_option maxRecDepth 100000

set_option maxHeartbeats 8000000 in
theorem nx_end (s raw : ByteArray) (hs : s.size ≤ 900000) (hr : raw.size ≤ 900000) (a : Nat) (ha : a ≤ 1000000) (c1 : s.size ≤ a) (w : World) :
    Calls Tryz.prog 37 #[.string s, .int .i64 (a : Int), .string raw] w (TokEnd (nextP s a raw) w) := by
  have HS := Lib.hid hs
  have HR := Lib.hid hr
  have h0 : (0 : Int) ≤ (a : Int) := by omega
  have hneg : ¬ (a : Int) < 0 := by omega
  obtain ⟨g1, g2, g3⟩ := nx_boxes s w
  have HI : Hid (NxI s w.heap.size w ((w.alloc (.cells #[.string s] 9)).alloc (.cells #[.int .i64 0, .string ⟨#[]⟩, .string ⟨#[]⟩, .slice none 0 0, .bool false] 27))) := Lib.hid ⟨g2, g3, g1⟩
  obtain ⟨b0, b1, b2, b3, b4⟩ := tbox5 g3
  obtain ⟨f0, f1, f2, f3, f4⟩ := tfrz5 g3
  clear hs hr g1 g2 g3
  have hz : (s.size : Int) ≤ (a : Int) := by omega
  have HV := Lib.hid (next_end s raw a c1)
  clear c1
  go_enter Tryz.func37, Tryz.ntmps37
  go_wp2_with fail
  rw [HV.out]
  have c0 := HI.out.cell
  generalize ((w.alloc (.cells #[.string s] 9)).alloc (.cells #[.int .i64 0, .string ⟨#[]⟩, .string ⟨#[]⟩, .slice none 0 0, .bool false] 27)) = w2 at *
  go_region
  go_wp2_with fail
  rw [HV.out]
  exact tok_post (⟨6, ⟨#[]⟩, ⟨#[]⟩, [], false⟩, s.size, true) w 6 7 8 (w.heap.size + 1) none 0 rfl rfl rfl rfl (set5_blk HI.out.res _ _ _ _ _) (isAttrs_nil _ _) ((HI.out.end_ _ _ _ _ _).drew) (fun _ h => nomatch h)
end Go.Proofs.YtbdgoffbkenofaaGreat.Tk
namespace Go.Proofs.YtbdgoffbkenofaaGreat.Tk
open Go Go.RowKit Go.Proofs.YtbdgoffbkenofaaGreat.Tr
set_option linter.unusedVariables false
set_option maxRecDepth 100000

set_option maxHeartbeats 8000000 in
theorem nx_raw (s raw : ByteArray) (hs : s.size ≤ 900000) (hr : raw.size ≤ 900000) (a : Nat) (ha : a ≤ 1000000) (c1 : a < s.size) (hraw : raw ≠ ⟨#[]⟩) (c2 : a < rawEndP s a raw) (w : World) :
    Calls Tryz.prog 37 #[.string s, .int .i64 (a : Int), .string raw] w (TokEnd (nextP s a raw) w) := by
  have HS := Lib.hid hs
  have HR := Lib.hid hr
  have h0 : (0 : Int) ≤ (a : Int) := by omega
  have hneg : ¬ (a : Int) < 0 := by omega
  obtain ⟨g1, g2, g3⟩ := nx_boxes s w
  have HI : Hid (NxI s w.heap.size w ((w.alloc (.cells #[.string s] 9)).alloc (.cells #[.int .i64 0, .string ⟨#[]⟩, .string ⟨#[]⟩, .slice none 0 0, .bool false] 27))) := Lib.hid ⟨g2, g3, g1⟩
  have h3 : rawEndP s a raw ≤ s.size := by have := upI_le (rawOk s raw) (s.size - a) a; unfold rawEndP; omega
  have HRE := Lib.hid (rawEnd_calls s raw (by omega) hr a (by omega))
  have hne := empty_toList hraw
  have HV := Lib.hid (fun x h => nextP_raw (x := x) (by omega : ¬ s.size ≤ a) rfl ⟨hraw, c2⟩ h)
  have HLW := Lib.hid (tlower raw (by omega))
  have HRW := Lib.hid (raw_calls (lowS raw))
  generalize rawEndP s a raw = e at *
  generalize lowS raw = lr at *
  have hz : ¬ (s.size : Int) ≤ (a : Int) := by omega
  have hz2 : (a : Int) < (e : Int) := by omega
  have hk1 : (a : Int) ≤ (e : Int) := by omega
  have hk2 : (e : Int) ≤ (s.size : Int) := by omega
  have HD := Lib.hid (Ch.decode_calls (s.extract a e) (Nat.le_trans (ext_size s a e) (by omega)) false)
  have c0 := HI.out.cell
  clear hs hr g1 g2 g3 h3 c1 c2 hraw
  go_enter Tryz.func37, Tryz.ntmps37
  go_wp2_with fail
  refine (HRE.out _).mono ?_
  rintro e' wq ⟨rfl, hb⟩
  replace HI := Lib.hid (HI.out.keep hb)
  clear hb
  have c0 := HI.out.cell
  go_wp2_with fail
  refine (HLW.out _).mono ?_
  rintro e' w4 ⟨rfl, hb⟩
  have HO := Lib.hid (lt_of_block HI.out.res)
  have HT := (hb.block _ (lt_of_block (alloc_new wq _))).trans (alloc_new wq _)
  replace HI := Lib.hid ((HI.out.grow _ _).keep hb)
  obtain ⟨tb, htb⟩ : ∃ tb, wq.heap.size = tb := ⟨_, rfl⟩
  rw [htb] at HT HO ⊢
  clear hb htb c0
  go_wp2_with fail
  refine (HRW.out _).mono ?_
  rintro e' w5 ⟨rfl, rfl⟩
  obtain ⟨d0, d1, d2, d3, d4⟩ := tbox5 HT
  by_cases hr1 : rawP lr = 1
  · have hq : (rawP lr == 1) = true := by rw [hr1]; rfl
    replace HV := Lib.hid (HV.out _ (if_pos hr1))
    generalize Ch.decB (s.extract a e) false = dv at *
    clear hr1
    replace HT := Lib.hid HT
    go_wp2_with fail
    refine (HD.out _).mono ?_
    rintro e' w6 ⟨rfl, hb⟩
    have ht := (hb.block _ (lt_of_block HT.out)).trans HT.out
    replace HI := Lib.hid (HI.out.keep hb)
    obtain ⟨d0, d1, d2, d3, d4⟩ := tbox5 ht
    obtain ⟨k0, k1, k2, k3, k4⟩ := tfrz5 ht
    replace HI := Lib.hid (HI.out.set (p := ⟨tb, 2, none⟩) (.string dv) HO.out)
    obtain ⟨b0, b1, b2, b3, b4⟩ := tbox5 HI.out.res
    obtain ⟨f0, f1, f2, f3, f4⟩ := tfrz5 HI.out.res
    clear hb ht HT
    go_wp2_with fail
    rw [HV.out]
    exact tok_post (textTok dv true, e, true) w 6 7 8 (w.heap.size + 1) none 0 rfl rfl rfl rfl (set5_blk HI.out.res _ _ _ _ _) (isAttrs_nil _ _) (HI.out.end_ _ _ _ _ _) (fun _ h => nomatch h)
  · have hq : (rawP lr == 1) = false := by rw [beq_eq_false_iff_ne]; exact hr1
    replace HV := Lib.hid (HV.out _ (if_neg hr1))
    obtain ⟨b0, b1, b2, b3, b4⟩ := tbox5 HI.out.res
    obtain ⟨f0, f1, f2, f3, f4⟩ := tfrz5 HI.out.res
    clear hr1 HT
    go_wp2_with fail
    rw [HV.out]
    exact tok_post (textTok (s.extract a e) true, e, true) w 6 7 8 (w.heap.size + 1) none 0 rfl rfl rfl rfl (set5_blk HI.out.res _ _ _ _ _) (isAttrs_nil _ _) (HI.out.end_ _ _ _ _ _) (fun _ h => nomatch h)
end Go.Proofs.YtbdgoffbkenofaaGreat.Tk
namespace Go.Proofs.YtbdgoffbkenofaaGreat.Tk
open Go Go.RowKit Go.Proofs.YtbdgoffbkenofaaGreat.Tr
set_option linter.unusedVariables false
set_option maxRecDepth 100000

set_option maxHeartbeats 8000000 in
theorem nx_text1 (s raw : ByteArray) (hs : s.size ≤ 900000) (hr : raw.size ≤ 900000) (a : Nat) (ha : a ≤ 1000000) (c1 : a < s.size) (c2 : ¬ (raw ≠ ⟨#[]⟩ ∧ a < rawEndP s a raw)) (hraw : raw = ⟨#[]⟩) (h60 : bAt s a ≠ 60) (w : World) :
    Calls Tryz.prog 37 #[.string s, .int .i64 (a : Int), .string raw] w (TokEnd (nextP s a raw) w) := by
  have HS := Lib.hid hs
  have HR := Lib.hid hr
  have h0 : (0 : Int) ≤ (a : Int) := by omega
  have hneg : ¬ (a : Int) < 0 := by omega
  obtain ⟨g1, g2, g3⟩ := nx_boxes s w
  have HI : Hid (NxI s w.heap.size w ((w.alloc (.cells #[.string s] 9)).alloc (.cells #[.int .i64 0, .string ⟨#[]⟩, .string ⟨#[]⟩, .slice none 0 0, .bool false] 27))) := Lib.hid ⟨g2, g3, g1⟩
  have hz : ¬ (s.size : Int) ≤ (a : Int) := by omega
  have hlt : a < s.size := by omega
  have hz3 : True := trivial
  have q1 : ((s[a].toNat : Int) != 60) = true := by rw [← bAt_in hlt]; simp; omega
  have HN := Lib.hid ((nextP_rest (by omega) c2).trans (next_text hlt h60))
  have hbk := bAt_in hlt
  have HBL := Lib.hid (tblank (bAt s a))
  rw [hbk] at HBL HN
  generalize blankN s[a].toNat = bl at *
  have h1 := upT_ge (fun c => decide (c = 60) || (blankN c != bl)) s a
  have h2 := upT_le (fun c => decide (c = 60) || (blankN c != bl)) (s := s) (a := a) (by omega)
  have HUP := Lib.hid (fun b e he => text_upTo s (by omega) bl b a e (by omega) he)
  obtain ⟨e, he⟩ : ∃ e, upT (fun c => decide (c = 60) || (blankN c != bl)) s a = e := ⟨_, rfl⟩
  rw [he] at h1 h2 HN
  replace HUP := Lib.hid (fun b => HUP.out b e he)
  have hk1 : (a : Int) ≤ (e : Int) := by omega
  have hk2 : (e : Int) ≤ (s.size : Int) := by omega
  have HD := Lib.hid (Ch.decode_calls (s.extract a e) (Nat.le_trans (ext_size s a e) (by omega)) false)
  generalize Ch.decB (s.extract a e) false = dv at *
  have c0 := HI.out.cell
  clear hs hr g1 g2 g3 h60 c1 h1 h2 hbk he
  subst hraw
  clear c2 HR hz3
  go_enter Tryz.func37, Tryz.ntmps37
  go_wp2_with fail
  generalize ((w.alloc (.cells #[.string s] 9)).alloc (.cells #[.int .i64 0, .string ⟨#[]⟩, .string ⟨#[]⟩, .slice none 0 0, .bool false] 27)) = w2 at *
  refine (HBL.out _).mono ?_
  rintro e' wq' ⟨rfl, rfl⟩
  have c1 := (HI.out.grow #[.bool bl] 4).cell
  go_wp2_with fail
  refine (HUP.out _ _ (alloc_new _ _)).mono ?_
  rintro e' w4 ⟨rfl, hb⟩
  replace HI := Lib.hid ((HI.out.grow _ _).keep hb)
  clear hb
  have c0 := HI.out.cell
  go_wp2_with fail
  refine (HD.out _).mono ?_
  rintro e' wq ⟨rfl, hb⟩
  replace HI := Lib.hid (HI.out.keep hb)
  clear hb
  have c0 := HI.out.cell
  obtain ⟨b0, b1, b2, b3, b4⟩ := tbox5 HI.out.res
  obtain ⟨f0, f1, f2, f3, f4⟩ := tfrz5 HI.out.res
  go_wp2_with fail
  rw [HN.out]
  exact tok_post (textTok dv false, e, true) w 6 7 8 (w.heap.size + 1) none 0 rfl rfl rfl rfl (set5_blk HI.out.res _ _ _ _ _) (isAttrs_nil _ _) (HI.out.end_ _ _ _ _ _) (fun _ h => nomatch h)
set_option maxHeartbeats 8000000 in
theorem nx_text2 (s raw : ByteArray) (hs : s.size ≤ 900000) (hr : raw.size ≤ 900000) (a : Nat) (ha : a ≤ 1000000) (c1 : a < s.size) (c2 : ¬ (raw ≠ ⟨#[]⟩ ∧ a < rawEndP s a raw)) (hraw : raw ≠ ⟨#[]⟩) (h60 : bAt s a ≠ 60) (w : World) :
    Calls Tryz.prog 37 #[.string s, .int .i64 (a : Int), .string raw] w (TokEnd (nextP s a raw) w) := by
  have HS := Lib.hid hs
  have HR := Lib.hid hr
  have h0 : (0 : Int) ≤ (a : Int) := by omega
  have hneg : ¬ (a : Int) < 0 := by omega
  obtain ⟨g1, g2, g3⟩ := nx_boxes s w
  have HI : Hid (NxI s w.heap.size w ((w.alloc (.cells #[.string s] 9)).alloc (.cells #[.int .i64 0, .string ⟨#[]⟩, .string ⟨#[]⟩, .slice none 0 0, .bool false] 27))) := Lib.hid ⟨g2, g3, g1⟩
  have hz : ¬ (s.size : Int) ≤ (a : Int) := by omega
  have hlt : a < s.size := by omega
  have hz3 : True := trivial
  have q1 : ((s[a].toNat : Int) != 60) = true := by rw [← bAt_in hlt]; simp; omega
  have HN := Lib.hid ((nextP_rest (by omega) c2).trans (next_text hlt h60))
  have hbk := bAt_in hlt
  have HBL := Lib.hid (tblank (bAt s a))
  rw [hbk] at HBL HN
  generalize blankN s[a].toNat = bl at *
  have h1 := upT_ge (fun c => decide (c = 60) || (blankN c != bl)) s a
  have h2 := upT_le (fun c => decide (c = 60) || (blankN c != bl)) (s := s) (a := a) (by omega)
  have HUP := Lib.hid (fun b e he => text_upTo s (by omega) bl b a e (by omega) he)
  obtain ⟨e, he⟩ : ∃ e, upT (fun c => decide (c = 60) || (blankN c != bl)) s a = e := ⟨_, rfl⟩
  rw [he] at h1 h2 HN
  replace HUP := Lib.hid (fun b => HUP.out b e he)
  have hk1 : (a : Int) ≤ (e : Int) := by omega
  have hk2 : (e : Int) ≤ (s.size : Int) := by omega
  have HD := Lib.hid (Ch.decode_calls (s.extract a e) (Nat.le_trans (ext_size s a e) (by omega)) false)
  generalize Ch.decB (s.extract a e) false = dv at *
  have c0 := HI.out.cell
  clear hs hr g1 g2 g3 h60 c1 h1 h2 hbk he
  have hne := empty_toList hraw
  have hz2 : ¬ ((rawEndP s a raw : Int) > (a : Int)) := by have : ¬ a < rawEndP s a raw := fun x => c2 ⟨hraw, x⟩; omega
  have HRE := Lib.hid (rawEnd_calls s raw (by have := HS.out; omega) HR.out a (by omega))
  generalize rawEndP s a raw = e0 at *
  clear c2 hraw hz3
  go_enter Tryz.func37, Tryz.ntmps37
  go_wp2_with fail
  refine (HRE.out _).mono ?_
  rintro e' wq ⟨rfl, hb⟩
  replace HI := Lib.hid (HI.out.keep hb)
  clear hb
  have c0 := HI.out.cell
  go_wp2_with fail
  refine (HBL.out _).mono ?_
  rintro e' wq' ⟨rfl, rfl⟩
  have c1 := (HI.out.grow #[.bool bl] 4).cell
  go_wp2_with fail
  refine (HUP.out _ _ (alloc_new _ _)).mono ?_
  rintro e' w4 ⟨rfl, hb⟩
  replace HI := Lib.hid ((HI.out.grow _ _).keep hb)
  clear hb
  have c0 := HI.out.cell
  go_wp2_with fail
  refine (HD.out _).mono ?_
  rintro e' wq ⟨rfl, hb⟩
  replace HI := Lib.hid (HI.out.keep hb)
  clear hb
  have c0 := HI.out.cell
  obtain ⟨b0, b1, b2, b3, b4⟩ := tbox5 HI.out.res
  obtain ⟨f0, f1, f2, f3, f4⟩ := tfrz5 HI.out.res
  go_wp2_with fail
  rw [HN.out]
  exact tok_post (textTok dv false, e, true) w 6 7 8 (w.heap.size + 1) none 0 rfl rfl rfl rfl (set5_blk HI.out.res _ _ _ _ _) (isAttrs_nil _ _) (HI.out.end_ _ _ _ _ _) (fun _ h => nomatch h)
end Go.Proofs.YtbdgoffbkenofaaGreat.Tk
