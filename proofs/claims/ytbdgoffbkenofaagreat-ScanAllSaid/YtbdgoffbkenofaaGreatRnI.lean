/- The document's token: Next: tools, the end, raw elements, texts (by gen_rni.py). -/
import Derived.Test.YtbdgoffbkenofaaGreatRnE
import Derived.Test.YtbdgoffbkenofaaGreatRnH
import Derived.Test.YtbdgoffbkenofaaGreatTkN
import Derived.Test.YtbdgoffbkenofaaGreatTkU
namespace Go.Proofs.YtbdgoffbkenofaaGreat.Rn
open Go Go.RowKit Go.Proofs.YtbdgoffbkenofaaGreat.Tk Go.Proofs.YtbdgoffbkenofaaGreat.Tr
set_option linter.unusedVariables false
set_option maxRecDepth 100000

/-- What is known: the result's box. -/
structure NR (b : Nat) (w0 wr : World) : Prop where
  res : wr.heap[b]? = some (.cells #[.int .i64 0, .string ⟨#[]⟩, .string ⟨#[]⟩, .slice none 0 0, .bool false] 27 (0, 0))
  bel : Below b w0 wr
theorem NR.new (w : World) : NR w.heap.size w (w.alloc (.cells #[.int .i64 0, .string ⟨#[]⟩, .string ⟨#[]⟩, .slice none 0 0, .bool false] 27)) := ⟨alloc_new w _, (Below.refl _ w).alloc (Nat.le_refl _) _⟩
theorem NR.keep {b : Nat} {w0 wr w' : World} (h : NR b w0 wr) (hb : Below wr.heap.size wr w') : NR b w0 w' :=
  ⟨(hb.block _ (lt_of_block h.res)).trans h.res, h.bel.trans (hb.mono (by have := lt_of_block h.res; omega))⟩
theorem NR.end_ {b : Nat} {w0 wr : World} (h : NR b w0 wr) (v0 v1 v2 v3 v4 : Value) : Below b w0 (((((wr.setCell ⟨b, 0, none⟩ v0).setCell ⟨b, 1, none⟩ v1).setCell ⟨b, 2, none⟩ v2).setCell ⟨b, 3, none⟩ v3).setCell ⟨b, 4, none⟩ v4) :=
  h.bel.trans (set5_below (Nat.le_refl _) _ _ _ _ _)
theorem NR.far {b : Nat} {w0 wr : World} (h : NR b w0 wr) {A : Option Addr} (hA : ∀ p, A = some p → wr.heap.size ≤ p.block) : ∀ p, A = some p → b + 1 ≤ p.block := fun p hp => by
  have := hA p hp; have := lt_of_block h.res; omega
def restR (s : ByteArray) (a : Nat) : Out :=
  if bAt s a ≠ 60 then textR s a
  else if letterAt s (a + 1) then tagR s (a + 1) true
  else if hasR s a ⟨#[60, 47]⟩ && letterAt s (a + 2) then tagR s (a + 2) false
  else if hasR s a ⟨#[60, 33, 45, 45]⟩ then commentR s (a + 4)
  else if hasR s a ⟨#[60, 33, 100, 111, 99, 116, 121, 112, 101]⟩ then doctypeR s (a + 9)
  else if hasR s a ⟨#[60, 47, 62]⟩ then (tok0, a + 3, false)
  else if hasR s a ⟨#[60, 33]⟩ || (hasR s a ⟨#[60, 47]⟩ && decide (a + 2 < s.size)) then bogusR s (a + 2)
  else if hasR s a ⟨#[60, 63]⟩ then bogusR s (a + 1)
  else (textTok ⟨#[60]⟩ false, a + 1, true)
def rawER (s : ByteArray) (a : Nat) (r : ByteArray) : Nat := upI (fun i => endsR s i r) (s.size - a) a
def nextR (s : ByteArray) (a : Nat) (raw : ByteArray) : Out :=
  if s.size ≤ a then (⟨6, ⟨#[]⟩, ⟨#[]⟩, [], false⟩, s.size, true)
  else if raw ≠ ⟨#[]⟩ ∧ a < rawER s a (lowS raw) then
    (textTok (if rawP (lowS raw) = 1 then Ch.decB (s.extract a (rawER s a (lowS raw))) false else s.extract a (rawER s a (lowS raw))) true, rawER s a (lowS raw), true)
  else restR s a
theorem nextR_end {s raw : ByteArray} {a : Nat} (h : s.size ≤ a) : nextR s a raw = (⟨6, ⟨#[]⟩, ⟨#[]⟩, [], false⟩, s.size, true) := by unfold nextR; exact if_pos h
theorem nextR_raw {s raw x : ByteArray} {a e : Nat} (h : ¬ s.size ≤ a) (he : rawER s a (lowS raw) = e) (h2 : raw ≠ ⟨#[]⟩ ∧ a < e) (hx : (if rawP (lowS raw) = 1 then Ch.decB (s.extract a e) false else s.extract a e) = x) : nextR s a raw = (textTok x true, e, true) := by
  subst he; subst hx; unfold nextR; exact (if_neg h).trans (if_pos h2)
theorem nextR_rest {s raw : ByteArray} {a : Nat} (h : ¬ s.size ≤ a) (h2 : ¬ (raw ≠ ⟨#[]⟩ ∧ a < rawER s a (lowS raw))) : nextR s a raw = restR s a := by
  unfold nextR; exact (if_neg h).trans (if_neg h2)
theorem restR_text {s : ByteArray} {a : Nat} (h : bAt s a ≠ 60) : restR s a = textR s a := by unfold restR; exact if_pos h
theorem restR_lt {s : ByteArray} {a : Nat} (h : bAt s a = 60) : restR s a = (if letterAt s (a + 1) then tagR s (a + 1) true
  else if hasR s a ⟨#[60, 47]⟩ && letterAt s (a + 2) then tagR s (a + 2) false
  else if hasR s a ⟨#[60, 33, 45, 45]⟩ then commentR s (a + 4)
  else if hasR s a ⟨#[60, 33, 100, 111, 99, 116, 121, 112, 101]⟩ then doctypeR s (a + 9)
  else if hasR s a ⟨#[60, 47, 62]⟩ then (tok0, a + 3, false)
  else if hasR s a ⟨#[60, 33]⟩ || (hasR s a ⟨#[60, 47]⟩ && decide (a + 2 < s.size)) then bogusR s (a + 2)
  else if hasR s a ⟨#[60, 63]⟩ then bogusR s (a + 1)
  else (textTok ⟨#[60]⟩ false, a + 1, true)) := by unfold restR; exact if_neg (fun n => n h)
theorem hasR_le {s t : ByteArray} {a : Nat} (h : hasR s a t = true) : a + t.size ≤ s.size := by
  unfold hasR at h
  rw [Bool.and_eq_true, decide_eq_true_eq] at h
  exact h.1
theorem rletter_w (s : ByteArray) (hs : s.size ≤ 1000000) (i : Nat) (n : Int) (hn : (i : Int) = n) (hi : i ≤ 2000000) (w : World) :
    Calls Tryz.prog 48 #[.string s, .int .i64 n] w fun e w' => e = .returned (.bool (letterAt s i)) ∧ w = w' := hn ▸ Rn.letter_at s hs i hi w
theorem rtag_w (s : ByteArray) (hs : s.size ≤ 900000) (i : Nat) (n : Int) (hn : (i : Int) = n) (hi : i ≤ s.size) (start : Bool) (m : Int) (hm : kindOf start = m) (w : World) :
    Calls Tryz.prog 49 #[.string s, .int .i64 n, .int .i64 m] w (TokEnd (tagR s i start) w) := hn ▸ hm ▸ rtag_calls s hs i hi start w
theorem rcomment_w (s : ByteArray) (hs : s.size ≤ 1000000) (i : Nat) (n : Int) (hn : (i : Int) = n) (hi : i ≤ s.size) (w : World) :
    Calls Tryz.prog 51 #[.string s, .int .i64 n] w (TokEnd (commentR s i) w) := hn ▸ rcomment_calls s hs i hi w
theorem rdoctype_w (s : ByteArray) (hs : s.size ≤ 1000000) (i : Nat) (n : Int) (hn : (i : Int) = n) (hi : i ≤ s.size) (w : World) :
    Calls Tryz.prog 52 #[.string s, .int .i64 n] w (TokEnd (doctypeR s i) w) := hn ▸ rdoctype_calls s hs i hi w
theorem rbogus_w (s : ByteArray) (hs : s.size ≤ 1000000) (i : Nat) (n : Int) (hn : (i : Int) = n) (hi : i ≤ s.size) (w : World) :
    Calls Tryz.prog 53 #[.string s, .int .i64 n] w (TokEnd (bogusR s i) w) := hn ▸ rbogus_calls s hs i hi w
set_option maxHeartbeats 8000000 in
theorem rnx_end (s raw : ByteArray) (hs : s.size ≤ 800000) (hr : raw.size ≤ 800000) (a : Nat) (ha : a ≤ 1000000) (c1 : s.size ≤ a) (w : World) :
    Calls Tryz.prog 28 #[.string s, .int .i64 (a : Int), .string raw] w (TokEnd (nextR s a raw) w) := by
  have HS := Lib.hid hs
  have HR := Lib.hid hr
  have h0 : (0 : Int) ≤ (a : Int) := by omega
  have hneg : ¬ (a : Int) < 0 := by omega
  have hneg2 : decide ((a : Int) < 0) = false := decide_eq_false hneg
  have HI := Lib.hid (NR.new w)
  clear hs hr
  have hz : (s.size : Int) ≤ (a : Int) := by omega
  have HV := Lib.hid (nextR_end (raw := raw) c1)
  clear c1 HI
  go_enter Tryz.func28, Tryz.ntmps28
  go_wp2_with fail
  rw [HV.out]
  exact tok_post (⟨6, ⟨#[]⟩, ⟨#[]⟩, [], false⟩, s.size, true) w 6 7 8 w.heap.size none 0 rfl rfl rfl rfl (alloc_new w _) (isAttrs_nil _ _) ((Below.refl _ w).alloc (Nat.le_refl _) _) (fun _ h => nomatch h)
set_option maxHeartbeats 8000000 in
theorem rnx_raw (s raw : ByteArray) (hs : s.size ≤ 800000) (hr : raw.size ≤ 800000) (a : Nat) (ha : a ≤ 1000000) (c1 : a < s.size) (hraw : raw ≠ ⟨#[]⟩) (c2 : a < rawER s a (lowS raw)) (w : World) :
    Calls Tryz.prog 28 #[.string s, .int .i64 (a : Int), .string raw] w (TokEnd (nextR s a raw) w) := by
  have HS := Lib.hid hs
  have HR := Lib.hid hr
  have h0 : (0 : Int) ≤ (a : Int) := by omega
  have hneg : ¬ (a : Int) < 0 := by omega
  have hneg2 : decide ((a : Int) < 0) = false := decide_eq_false hneg
  have HI := Lib.hid (NR.new w)
  have hz : ¬ (s.size : Int) ≤ (a : Int) := by omega
  have hzd : decide (s.size ≤ a) = false := decide_eq_false (by omega)
  have HV := Lib.hid (fun e x he h2 h => nextR_raw (raw := raw) (x := x) (by omega : ¬ s.size ≤ a) (e := e) he ⟨hraw, h2⟩ h)
  have HC2 := Lib.hid c2
  clear c2
  have hne := empty_toList hraw
  have HLW := Lib.hid (rlower raw (by omega))
  have HEC := Lib.hid (fun k hk => ends_calls s (lowS raw) (by omega) (by rw [lowS_size]; omega) k hk)
  have HCL := Lib.hid (show a ≤ s.size by omega)
  have HRW := Lib.hid (Tk.rraw_calls (lowS raw))
  generalize lowS raw = lr at *
  clear hraw
  go_enter Tryz.func28, Tryz.ntmps28
  go_wp2_with fail
  refine (HLW.out _).mono ?_
  rintro e' wq ⟨rfl, hb⟩
  replace HI := Lib.hid (HI.out.keep hb)
  clear hb
  go_wp2_with fail
  obtain ⟨wa, hwa⟩ : ∃ wa, wq = wa := ⟨_, rfl⟩
  rw [hwa] at HI ⊢
  clear hwa
  go_loopw [10] (fun t10 wr => ∃ k : Nat, t10 = .int .i64 (k : Int) ∧ Hid (k ≤ s.size) ∧ Hid (a ≤ k) ∧ Hid (rawER s a lr = upI (fun i => endsR s i lr) (s.size - k) k) ∧ Hid (NR w.heap.size w wr)) (fun t10 _ => s.size - (intOf t10).toNat)
  case atStart => exact ⟨a, rfl, HCL, Lib.hid (Nat.le_refl _), Lib.hid rfl, HI⟩
  case round =>
    clear HI
    obtain ⟨k, rfl, HK, HAK, HE, HI⟩ := hrel
    by_cases hlt : k < s.size
    · have hzk : (k : Int) < (s.size : Int) := by omega
      have hwk : IntKind.i64.wrap ((k : Int) + 1) = (k : Int) + 1 := IntWalk.i64_in _ (by have := HS.out; omega)
      have HX := Lib.hid (HEC.out k (by omega))
      have HLT := Lib.hid hlt
      cases hpc : endsR s k lr with
      | false =>
        have HE2 := Lib.hid (show rawER s a lr = upI (fun i => endsR s i lr) (s.size - (k + 1)) (k + 1) from HE.out.trans (by rw [show s.size - k = (s.size - (k + 1)) + 1 by omega]; exact upI_next hpc))
        rw [hpc] at HX
        clear hpc hlt
        go_wp2_with fail
        refine (HX.out _).mono ?_
        rintro e' wq ⟨rfl, hb⟩
        replace HI := Lib.hid (HI.out.keep hb)
        clear hb
        go_wp2_with fail
        go_roundw
        case rel => exact ⟨k + 1, by go_num, Lib.hid HLT.out, Lib.hid (by have := HAK.out; omega), HE2, HI⟩
        case measure => simp [intOf]; have := HLT.out; omega
      | true =>
        have HE2 := Lib.hid (show rawER s a lr = k from HE.out.trans (by rw [show s.size - k = (s.size - (k + 1)) + 1 by omega]; exact upI_here hpc))
        rw [hpc] at HX
        clear hpc hlt HE
        go_wp2_with fail
        refine (HX.out _).mono ?_
        rintro e' wq ⟨rfl, hb⟩
        replace HI := Lib.hid (HI.out.keep hb)
        clear hb
        have hc2 := HC2.out
        rw [HE2.out] at hc2
        have hz2 : (a : Int) < (k : Int) := by omega
        have hk1 : (a : Int) ≤ (k : Int) := by omega
        have hk2 : (k : Int) ≤ (s.size : Int) := by have := HK.out; omega
        have HD := Lib.hid (Ch.rdecode_calls (s.extract a k) (Nat.le_trans (ext_size s a k) (by have := HS.out; omega)) false)
        have HVV := Lib.hid (fun x h => HV.out k x HE2.out hc2 h)
        clear hc2 HV
        go_wp2_with fail
        refine (HRW.out _).mono ?_
        rintro e' wx ⟨rfl, rfl⟩
        by_cases hr1 : rawP lr = 1
        · have hq : (rawP lr == 1) = true := by rw [hr1]; rfl
          have HV3 := Lib.hid (HVV.out _ (if_pos hr1))
          generalize Ch.decB (s.extract a k) false = dv at *
          clear hr1
          go_wp2_with fail
          refine (HD.out _).mono ?_
          rintro e' wq ⟨rfl, hb⟩
          replace HI := Lib.hid (HI.out.keep hb)
          clear hb
          obtain ⟨b0, b1, b2, b3, b4⟩ := tbox5 HI.out.res
          obtain ⟨f0, f1, f2, f3, f4⟩ := tfrz5 HI.out.res
          go_wp2_with fail
          rw [HV3.out]
          exact tok_post (textTok dv true, k, true) w 6 7 8 w.heap.size none 0 rfl rfl rfl rfl (set5_blk HI.out.res _ _ _ _ _) (isAttrs_nil _ _) (HI.out.end_ _ _ _ _ _) (fun _ h => nomatch h)
        · have hq : (rawP lr == 1) = false := by rw [beq_eq_false_iff_ne]; exact hr1
          have HV3 := Lib.hid (HVV.out _ (if_neg hr1))
          clear hr1
          obtain ⟨b0, b1, b2, b3, b4⟩ := tbox5 HI.out.res
          obtain ⟨f0, f1, f2, f3, f4⟩ := tfrz5 HI.out.res
          go_wp2_with fail
          rw [HV3.out]
          exact tok_post (textTok (s.extract a k) true, k, true) w 6 7 8 w.heap.size none 0 rfl rfl rfl rfl (set5_blk HI.out.res _ _ _ _ _) (isAttrs_nil _ _) (HI.out.end_ _ _ _ _ _) (fun _ h => nomatch h)
    · have hzk : decide (k < s.size) = false := decide_eq_false hlt
      have HE2 := Lib.hid (show rawER s a lr = k from HE.out.trans (by rw [show s.size - k = 0 by omega]; rfl))
      clear hlt HE
      have hc2 := HC2.out
      rw [HE2.out] at hc2
      have hz2 : (a : Int) < (k : Int) := by omega
      have hk1 : (a : Int) ≤ (k : Int) := by omega
      have hk2 : (k : Int) ≤ (s.size : Int) := by have := HK.out; omega
      have HD := Lib.hid (Ch.rdecode_calls (s.extract a k) (Nat.le_trans (ext_size s a k) (by have := HS.out; omega)) false)
      have HVV := Lib.hid (fun x h => HV.out k x HE2.out hc2 h)
      clear hc2 HV
      go_wp2_with fail
      refine (HRW.out _).mono ?_
      rintro e' wx ⟨rfl, rfl⟩
      by_cases hr1 : rawP lr = 1
      · have hq : (rawP lr == 1) = true := by rw [hr1]; rfl
        have HV3 := Lib.hid (HVV.out _ (if_pos hr1))
        generalize Ch.decB (s.extract a k) false = dv at *
        clear hr1
        go_wp2_with fail
        refine (HD.out _).mono ?_
        rintro e' wq ⟨rfl, hb⟩
        replace HI := Lib.hid (HI.out.keep hb)
        clear hb
        obtain ⟨b0, b1, b2, b3, b4⟩ := tbox5 HI.out.res
        obtain ⟨f0, f1, f2, f3, f4⟩ := tfrz5 HI.out.res
        go_wp2_with fail
        rw [HV3.out]
        exact tok_post (textTok dv true, k, true) w 6 7 8 w.heap.size none 0 rfl rfl rfl rfl (set5_blk HI.out.res _ _ _ _ _) (isAttrs_nil _ _) (HI.out.end_ _ _ _ _ _) (fun _ h => nomatch h)
      · have hq : (rawP lr == 1) = false := by rw [beq_eq_false_iff_ne]; exact hr1
        have HV3 := Lib.hid (HVV.out _ (if_neg hr1))
        clear hr1
        obtain ⟨b0, b1, b2, b3, b4⟩ := tbox5 HI.out.res
        obtain ⟨f0, f1, f2, f3, f4⟩ := tfrz5 HI.out.res
        go_wp2_with fail
        rw [HV3.out]
        exact tok_post (textTok (s.extract a k) true, k, true) w 6 7 8 w.heap.size none 0 rfl rfl rfl rfl (set5_blk HI.out.res _ _ _ _ _) (isAttrs_nil _ _) (HI.out.end_ _ _ _ _ _) (fun _ h => nomatch h)
end Go.Proofs.YtbdgoffbkenofaaGreat.Rn
namespace Go.Proofs.YtbdgoffbkenofaaGreat.Rn
open Go Go.RowKit Go.Proofs.YtbdgoffbkenofaaGreat.Tk Go.Proofs.YtbdgoffbkenofaaGreat.Tr
set_option linter.unusedVariables false
set_option maxRecDepth 100000

set_option maxHeartbeats 8000000 in
theorem rnx_text1 (s raw : ByteArray) (hs : s.size ≤ 800000) (hr : raw.size ≤ 800000) (a : Nat) (ha : a ≤ 1000000) (c1 : a < s.size) (c2 : ¬ (raw ≠ ⟨#[]⟩ ∧ a < rawER s a (lowS raw))) (hraw : raw = ⟨#[]⟩) (h60 : bAt s a ≠ 60) (w : World) :
    Calls Tryz.prog 28 #[.string s, .int .i64 (a : Int), .string raw] w (TokEnd (nextR s a raw) w) := by
  have HS := Lib.hid hs
  have HR := Lib.hid hr
  have h0 : (0 : Int) ≤ (a : Int) := by omega
  have hneg : ¬ (a : Int) < 0 := by omega
  have hneg2 : decide ((a : Int) < 0) = false := decide_eq_false hneg
  have HI := Lib.hid (NR.new w)
  have hz : ¬ (s.size : Int) ≤ (a : Int) := by omega
  have hzd : decide (s.size ≤ a) = false := decide_eq_false (by omega)
  have hlt : a < s.size := by omega
  have q1 : (((s[a]'hlt).toNat : Int) != 60) = true := by rw [← bAt_in hlt]; simp; omega
  have HN := Lib.hid ((nextR_rest (by omega) c2).trans (restR_text h60))
  have HT := Lib.hid (rtext_calls s (by omega) a hlt)
  clear c2 h60
  subst hraw
  clear HR hr hs c1 ha
  have HV := Lib.hid (show nextR s a _ = textR s a from HN.out.trans rfl)
  generalize textR s a = o at *
  clear HN
  go_enter Tryz.func28, Tryz.ntmps28
  go_wp2_with fail
  refine (HT.out _).mono ?_
  rintro e' wq ⟨A, ac, rfl, hat, hb, hfr⟩
  have HFR := Lib.hid (HI.out.far hfr)
  replace HI := Lib.hid (HI.out.keep hb)
  have HAT := Lib.hid hat
  clear hat hb hfr
  obtain ⟨b0, b1, b2, b3, b4⟩ := tbox5 HI.out.res
  obtain ⟨f0, f1, f2, f3, f4⟩ := tfrz5 HI.out.res
  go_wp2_with fail
  rw [HV.out]
  exact tok_post (o) w 6 7 8 w.heap.size A ac rfl rfl rfl rfl (set5_blk HI.out.res _ _ _ _ _) (isAttrs_move HAT.out (set5_below (B := 0) (Nat.zero_le _) _ _ _ _ _).size fun p hp => set5_other (by have := HFR.out p hp; omega) _ _ _ _ _) (HI.out.end_ _ _ _ _ _) (fun p hp => by have := HFR.out p hp; omega)
set_option maxHeartbeats 8000000 in
theorem rnx_text2 (s raw : ByteArray) (hs : s.size ≤ 800000) (hr : raw.size ≤ 800000) (a : Nat) (ha : a ≤ 1000000) (c1 : a < s.size) (c2 : ¬ (raw ≠ ⟨#[]⟩ ∧ a < rawER s a (lowS raw))) (hraw : raw ≠ ⟨#[]⟩) (h60 : bAt s a ≠ 60) (w : World) :
    Calls Tryz.prog 28 #[.string s, .int .i64 (a : Int), .string raw] w (TokEnd (nextR s a raw) w) := by
  have HS := Lib.hid hs
  have HR := Lib.hid hr
  have h0 : (0 : Int) ≤ (a : Int) := by omega
  have hneg : ¬ (a : Int) < 0 := by omega
  have hneg2 : decide ((a : Int) < 0) = false := decide_eq_false hneg
  have HI := Lib.hid (NR.new w)
  have hz : ¬ (s.size : Int) ≤ (a : Int) := by omega
  have hzd : decide (s.size ≤ a) = false := decide_eq_false (by omega)
  have HC2 : Hid (¬ a < rawER s a (lowS raw)) := Lib.hid (fun x => c2 ⟨hraw, x⟩)
  have hlt : a < s.size := by omega
  have q1 : (((s[a]'hlt).toNat : Int) != 60) = true := by rw [← bAt_in hlt]; simp; omega
  have HN := Lib.hid ((nextR_rest (by omega) c2).trans (restR_text h60))
  have HT := Lib.hid (rtext_calls s (by omega) a hlt)
  clear c2 h60
  have hne := empty_toList hraw
  have HLW := Lib.hid (rlower raw (by omega))
  have HEC := Lib.hid (fun k hk => ends_calls s (lowS raw) (by omega) (by rw [lowS_size]; omega) k hk)
  have HCL := Lib.hid (show a ≤ s.size by omega)
  have HRW := Lib.hid (Tk.rraw_calls (lowS raw))
  generalize lowS raw = lr at *
  clear hraw
  go_enter Tryz.func28, Tryz.ntmps28
  go_wp2_with fail
  refine (HLW.out _).mono ?_
  rintro e' wq ⟨rfl, hb⟩
  replace HI := Lib.hid (HI.out.keep hb)
  clear hb
  go_wp2_with fail
  obtain ⟨wa, hwa⟩ : ∃ wa, wq = wa := ⟨_, rfl⟩
  rw [hwa] at HI ⊢
  clear hwa
  go_loopw [10] (fun t10 wr => ∃ k : Nat, t10 = .int .i64 (k : Int) ∧ Hid (k ≤ s.size) ∧ Hid (a ≤ k) ∧ Hid (rawER s a lr = upI (fun i => endsR s i lr) (s.size - k) k) ∧ Hid (NR w.heap.size w wr)) (fun t10 _ => s.size - (intOf t10).toNat)
  case atStart => exact ⟨a, rfl, HCL, Lib.hid (Nat.le_refl _), Lib.hid rfl, HI⟩
  case round =>
    clear HI
    obtain ⟨k, rfl, HK, HAK, HE, HI⟩ := hrel
    by_cases hlt : k < s.size
    · have hzk : (k : Int) < (s.size : Int) := by omega
      have hwk : IntKind.i64.wrap ((k : Int) + 1) = (k : Int) + 1 := IntWalk.i64_in _ (by have := HS.out; omega)
      have HX := Lib.hid (HEC.out k (by omega))
      have HLT := Lib.hid hlt
      cases hpc : endsR s k lr with
      | false =>
        have HE2 := Lib.hid (show rawER s a lr = upI (fun i => endsR s i lr) (s.size - (k + 1)) (k + 1) from HE.out.trans (by rw [show s.size - k = (s.size - (k + 1)) + 1 by omega]; exact upI_next hpc))
        rw [hpc] at HX
        clear hpc hlt
        go_wp2_with fail
        refine (HX.out _).mono ?_
        rintro e' wq ⟨rfl, hb⟩
        replace HI := Lib.hid (HI.out.keep hb)
        clear hb
        go_wp2_with fail
        go_roundw
        case rel => exact ⟨k + 1, by go_num, Lib.hid HLT.out, Lib.hid (by have := HAK.out; omega), HE2, HI⟩
        case measure => simp [intOf]; have := HLT.out; omega
      | true =>
        have HE2 := Lib.hid (show rawER s a lr = k from HE.out.trans (by rw [show s.size - k = (s.size - (k + 1)) + 1 by omega]; exact upI_here hpc))
        rw [hpc] at HX
        clear hpc hlt HE
        go_wp2_with fail
        refine (HX.out _).mono ?_
        rintro e' wq ⟨rfl, hb⟩
        replace HI := Lib.hid (HI.out.keep hb)
        clear hb
        have hz2 : ¬ (a : Int) < (k : Int) := by have := HC2.out; rw [HE2.out] at this; omega
        obtain rfl : a = k := by have := HAK.out; omega
        clear HC2 HE2
        have HV := Lib.hid (show nextR s a _ = textR s a from HN.out.trans rfl)
        generalize textR s a = o at *
        clear HN
        go_wp2_with fail
        refine (HT.out _).mono ?_
        rintro e' wq ⟨A, ac, rfl, hat, hb, hfr⟩
        have HFR := Lib.hid (HI.out.far hfr)
        replace HI := Lib.hid (HI.out.keep hb)
        have HAT := Lib.hid hat
        clear hat hb hfr
        obtain ⟨b0, b1, b2, b3, b4⟩ := tbox5 HI.out.res
        obtain ⟨f0, f1, f2, f3, f4⟩ := tfrz5 HI.out.res
        go_wp2_with fail
        rw [HV.out]
        exact tok_post (o) w 6 7 8 w.heap.size A ac rfl rfl rfl rfl (set5_blk HI.out.res _ _ _ _ _) (isAttrs_move HAT.out (set5_below (B := 0) (Nat.zero_le _) _ _ _ _ _).size fun p hp => set5_other (by have := HFR.out p hp; omega) _ _ _ _ _) (HI.out.end_ _ _ _ _ _) (fun p hp => by have := HFR.out p hp; omega)
    · have hzk : decide (k < s.size) = false := decide_eq_false hlt
      have HE2 := Lib.hid (show rawER s a lr = k from HE.out.trans (by rw [show s.size - k = 0 by omega]; rfl))
      have hx := HC2.out
      rw [HE2.out] at hx
      have := HAK.out
      exact absurd hz (by omega)
end Go.Proofs.YtbdgoffbkenofaaGreat.Rn
namespace Go.Proofs.YtbdgoffbkenofaaGreat.Rn
open Go Go.RowKit Go.Proofs.YtbdgoffbkenofaaGreat.Tk Go.Proofs.YtbdgoffbkenofaaGreat.Tr
set_option linter.unusedVariables false
set_option maxRecDepth 100000

set_option maxHeartbeats 8000000 in
theorem rnx_lt1 (s raw : ByteArray) (hs : s.size ≤ 800000) (hr : raw.size ≤ 800000) (a : Nat) (ha : a ≤ 1000000) (c1 : a < s.size) (c2 : ¬ (raw ≠ ⟨#[]⟩ ∧ a < rawER s a (lowS raw))) (hraw : raw = ⟨#[]⟩) (h60 : bAt s a = 60) (w : World) :
    Calls Tryz.prog 28 #[.string s, .int .i64 (a : Int), .string raw] w (TokEnd (nextR s a raw) w) := by
  have HS := Lib.hid hs
  have HR := Lib.hid hr
  have h0 : (0 : Int) ≤ (a : Int) := by omega
  have hneg : ¬ (a : Int) < 0 := by omega
  have hneg2 : decide ((a : Int) < 0) = false := decide_eq_false hneg
  have HI := Lib.hid (NR.new w)
  have hz : ¬ (s.size : Int) ≤ (a : Int) := by omega
  have hzd : decide (s.size ≤ a) = false := decide_eq_false (by omega)
  have hlt : a < s.size := by omega
  have q1 : (((s[a]'hlt).toNat : Int) != 60) = false := by rw [← bAt_in hlt, h60]; rfl
  have HN := Lib.hid ((nextR_rest (by omega) c2).trans (restR_lt h60))
  have hs1 : s.size ≤ 1000000 := by omega
  have HL1 := Lib.hid (rletter_w s hs1 (a + 1) ((a : Int) + 1) (by omega) (by omega))
  have HL2 := Lib.hid (rletter_w s hs1 (a + 2) ((a : Int) + 2) (by omega) (by omega))
  have HC := Lib.hid (has_calls s ⟨#[60, 47]⟩ hs1 (by decide) a (by omega))
  have HD := Lib.hid (has_calls s ⟨#[60, 33, 45, 45]⟩ hs1 (by decide) a (by omega))
  have HE := Lib.hid (has_calls s ⟨#[60, 33, 100, 111, 99, 116, 121, 112, 101]⟩ hs1 (by decide) a (by omega))
  have HF := Lib.hid (has_calls s ⟨#[60, 47, 62]⟩ hs1 (by decide) a (by omega))
  have HG := Lib.hid (has_calls s ⟨#[60, 63]⟩ hs1 (by decide) a (by omega))
  have HH := Lib.hid (has_calls s ⟨#[60, 33]⟩ hs1 (by decide) a (by omega))
  have T1 := Lib.hid (fun h : letterAt s (a + 1) = true => rtag_w s (by omega) (a + 1) ((a : Int) + 1) (by omega) (Nat.le_of_lt (letter_lt h)) true 1 rfl)
  have T2 := Lib.hid (fun h : letterAt s (a + 2) = true => rtag_w s (by omega) (a + 2) ((a : Int) + 2) (by omega) (Nat.le_of_lt (letter_lt h)) false 2 rfl)
  have T3 := Lib.hid (fun h : hasR s a ⟨#[60, 33, 45, 45]⟩ = true => rcomment_w s hs1 (a + 4) ((a : Int) + 4) (by omega) (hasR_le h))
  have T4 := Lib.hid (fun h : hasR s a ⟨#[60, 33, 100, 111, 99, 116, 121, 112, 101]⟩ = true => rdoctype_w s hs1 (a + 9) ((a : Int) + 9) (by omega) (hasR_le h))
  have T6 := Lib.hid (fun h : hasR s a ⟨#[60, 63]⟩ = true => rbogus_w s hs1 (a + 1) ((a : Int) + 1) (by omega) (by have : a + 2 ≤ s.size := hasR_le h; omega))
  have T7 := Lib.hid (fun h : hasR s a ⟨#[60, 33]⟩ = true => rbogus_w s hs1 (a + 2) ((a : Int) + 2) (by omega) (hasR_le h))
  have T8 := Lib.hid (fun h : hasR s a ⟨#[60, 47]⟩ = true => rbogus_w s hs1 (a + 2) ((a : Int) + 2) (by omega) (hasR_le h))
  have hlast : (decide (a + 2 < s.size)) = decide ((a : Int) + 2 < (s.size : Int)) := decide_eq_decide.2 (by omega)
  rw [hlast] at HN
  generalize letterAt s (a + 1) = l1 at *
  generalize letterAt s (a + 2) = l2 at *
  generalize hasR s a ⟨#[60, 47]⟩ = c at *
  generalize hasR s a ⟨#[60, 33, 45, 45]⟩ = d at *
  generalize hasR s a ⟨#[60, 33, 100, 111, 99, 116, 121, 112, 101]⟩ = dt at *
  generalize hasR s a ⟨#[60, 47, 62]⟩ = f at *
  generalize hasR s a ⟨#[60, 63]⟩ = g at *
  generalize hasR s a ⟨#[60, 33]⟩ = h at *
  have hw1 : IntKind.i64.wrap ((a : Int) + 1) = (a : Int) + 1 := IntWalk.i64_in _ (by omega)
  have hw2 : IntKind.i64.wrap ((a : Int) + 2) = (a : Int) + 2 := IntWalk.i64_in _ (by omega)
  have hw3 : IntKind.i64.wrap ((a : Int) + 3) = (a : Int) + 3 := IntWalk.i64_in _ (by omega)
  have hw4 : IntKind.i64.wrap ((a : Int) + 4) = (a : Int) + 4 := IntWalk.i64_in _ (by omega)
  have hw9 : IntKind.i64.wrap ((a : Int) + 9) = (a : Int) + 9 := IntWalk.i64_in _ (by omega)
  clear h60 c2 hlast
  subst hraw
  clear HR hr hs c1 ha
  go_enter Tryz.func28, Tryz.ntmps28
  go_wp2_with fail
  refine (HL1.out _).mono ?_
  rintro e' wq' ⟨rfl, rfl⟩
  cases l1 with
  | true =>
    replace T1 := Lib.hid (T1.out (by first | rfl | trivial))
    have HV := Lib.hid (show nextR s a _ = tagR s (a + 1) true from HN.out.trans rfl)
    generalize tagR s (a + 1) true = o at *
    clear HN
    go_wp2_with fail
    refine (T1.out _).mono ?_
    rintro e' wq ⟨A, ac, rfl, hat, hb, hfr⟩
    have HFR := Lib.hid (HI.out.far hfr)
    replace HI := Lib.hid (HI.out.keep hb)
    have HAT := Lib.hid hat
    clear hat hb hfr
    obtain ⟨b0, b1, b2, b3, b4⟩ := tbox5 HI.out.res
    obtain ⟨f0, f1, f2, f3, f4⟩ := tfrz5 HI.out.res
    go_wp2_with fail
    rw [HV.out]
    exact tok_post (o) w 6 7 8 w.heap.size A ac rfl rfl rfl rfl (set5_blk HI.out.res _ _ _ _ _) (isAttrs_move HAT.out (set5_below (B := 0) (Nat.zero_le _) _ _ _ _ _).size fun p hp => set5_other (by have := HFR.out p hp; omega) _ _ _ _ _) (HI.out.end_ _ _ _ _ _) (fun p hp => by have := HFR.out p hp; omega)
  | false =>
    go_wp2_with fail
    refine (HC.out _).mono ?_
    rintro e' wq ⟨rfl, hb⟩
    replace HI := Lib.hid (HI.out.keep hb)
    clear hb
    cases c with
    | true =>
      go_wp2_with fail
      refine (HL2.out _).mono ?_
      rintro e' wq' ⟨rfl, rfl⟩
      cases l2 with
      | true =>
        replace T2 := Lib.hid (T2.out (by first | rfl | trivial))
        have HV := Lib.hid (show nextR s a _ = tagR s (a + 2) false from HN.out.trans rfl)
        generalize tagR s (a + 2) false = o at *
        clear HN
        go_wp2_with fail
        refine (T2.out _).mono ?_
        rintro e' wq ⟨A, ac, rfl, hat, hb, hfr⟩
        have HFR := Lib.hid (HI.out.far hfr)
        replace HI := Lib.hid (HI.out.keep hb)
        have HAT := Lib.hid hat
        clear hat hb hfr
        obtain ⟨b0, b1, b2, b3, b4⟩ := tbox5 HI.out.res
        obtain ⟨f0, f1, f2, f3, f4⟩ := tfrz5 HI.out.res
        go_wp2_with fail
        rw [HV.out]
        exact tok_post (o) w 6 7 8 w.heap.size A ac rfl rfl rfl rfl (set5_blk HI.out.res _ _ _ _ _) (isAttrs_move HAT.out (set5_below (B := 0) (Nat.zero_le _) _ _ _ _ _).size fun p hp => set5_other (by have := HFR.out p hp; omega) _ _ _ _ _) (HI.out.end_ _ _ _ _ _) (fun p hp => by have := HFR.out p hp; omega)
      | false =>
        go_wp2_with fail
        refine (HD.out _).mono ?_
        rintro e' wq ⟨rfl, hb⟩
        replace HI := Lib.hid (HI.out.keep hb)
        clear hb
        cases d with
        | true =>
          replace T3 := Lib.hid (T3.out (by first | rfl | trivial))
          have HV := Lib.hid (show nextR s a _ = commentR s (a + 4) from HN.out.trans rfl)
          generalize commentR s (a + 4) = o at *
          clear HN
          go_wp2_with fail
          refine (T3.out _).mono ?_
          rintro e' wq ⟨A, ac, rfl, hat, hb, hfr⟩
          have HFR := Lib.hid (HI.out.far hfr)
          replace HI := Lib.hid (HI.out.keep hb)
          have HAT := Lib.hid hat
          clear hat hb hfr
          obtain ⟨b0, b1, b2, b3, b4⟩ := tbox5 HI.out.res
          obtain ⟨f0, f1, f2, f3, f4⟩ := tfrz5 HI.out.res
          go_wp2_with fail
          rw [HV.out]
          exact tok_post (o) w 6 7 8 w.heap.size A ac rfl rfl rfl rfl (set5_blk HI.out.res _ _ _ _ _) (isAttrs_move HAT.out (set5_below (B := 0) (Nat.zero_le _) _ _ _ _ _).size fun p hp => set5_other (by have := HFR.out p hp; omega) _ _ _ _ _) (HI.out.end_ _ _ _ _ _) (fun p hp => by have := HFR.out p hp; omega)
        | false =>
          go_wp2_with fail
          refine (HE.out _).mono ?_
          rintro e' wq ⟨rfl, hb⟩
          replace HI := Lib.hid (HI.out.keep hb)
          clear hb
          cases dt with
          | true =>
            replace T4 := Lib.hid (T4.out (by first | rfl | trivial))
            have HV := Lib.hid (show nextR s a _ = doctypeR s (a + 9) from HN.out.trans rfl)
            generalize doctypeR s (a + 9) = o at *
            clear HN
            go_wp2_with fail
            refine (T4.out _).mono ?_
            rintro e' wq ⟨A, ac, rfl, hat, hb, hfr⟩
            have HFR := Lib.hid (HI.out.far hfr)
            replace HI := Lib.hid (HI.out.keep hb)
            have HAT := Lib.hid hat
            clear hat hb hfr
            obtain ⟨b0, b1, b2, b3, b4⟩ := tbox5 HI.out.res
            obtain ⟨f0, f1, f2, f3, f4⟩ := tfrz5 HI.out.res
            go_wp2_with fail
            rw [HV.out]
            exact tok_post (o) w 6 7 8 w.heap.size A ac rfl rfl rfl rfl (set5_blk HI.out.res _ _ _ _ _) (isAttrs_move HAT.out (set5_below (B := 0) (Nat.zero_le _) _ _ _ _ _).size fun p hp => set5_other (by have := HFR.out p hp; omega) _ _ _ _ _) (HI.out.end_ _ _ _ _ _) (fun p hp => by have := HFR.out p hp; omega)
          | false =>
            go_wp2_with fail
            refine (HF.out _).mono ?_
            rintro e' wq ⟨rfl, hb⟩
            replace HI := Lib.hid (HI.out.keep hb)
            clear hb
            cases f with
            | true =>
              have HV := Lib.hid (show nextR s a _ = (tok0, a + 3, false) from HN.out.trans rfl)
              have hcast : ((a + 3 : Nat) : Int) = (a : Int) + 3 := by omega
              clear HN
              obtain ⟨b0, b1, b2, b3, b4⟩ := tbox5 HI.out.res
              obtain ⟨f0, f1, f2, f3, f4⟩ := tfrz5 HI.out.res
              go_wp2_with fail
              rw [HV.out]
              exact tok_post (tok0, a + 3, false) w 6 7 8 w.heap.size none 0 rfl rfl rfl rfl (set5_blk HI.out.res _ _ _ _ _) (isAttrs_nil _ _) (HI.out.end_ _ _ _ _ _) (fun _ h => nomatch h)
            | false =>
              go_wp2_with fail
              refine (HH.out _).mono ?_
              rintro e' wq ⟨rfl, hb⟩
              replace HI := Lib.hid (HI.out.keep hb)
              clear hb
              cases h with
              | true =>
                replace T7 := Lib.hid (T7.out (by first | rfl | trivial))
                have HV := Lib.hid (show nextR s a _ = bogusR s (a + 2) from HN.out.trans rfl)
                generalize bogusR s (a + 2) = o at *
                clear HN
                go_wp2_with fail
                refine (T7.out _).mono ?_
                rintro e' wq ⟨A, ac, rfl, hat, hb, hfr⟩
                have HFR := Lib.hid (HI.out.far hfr)
                replace HI := Lib.hid (HI.out.keep hb)
                have HAT := Lib.hid hat
                clear hat hb hfr
                obtain ⟨b0, b1, b2, b3, b4⟩ := tbox5 HI.out.res
                obtain ⟨f0, f1, f2, f3, f4⟩ := tfrz5 HI.out.res
                go_wp2_with fail
                rw [HV.out]
                exact tok_post (o) w 6 7 8 w.heap.size A ac rfl rfl rfl rfl (set5_blk HI.out.res _ _ _ _ _) (isAttrs_move HAT.out (set5_below (B := 0) (Nat.zero_le _) _ _ _ _ _).size fun p hp => set5_other (by have := HFR.out p hp; omega) _ _ _ _ _) (HI.out.end_ _ _ _ _ _) (fun p hp => by have := HFR.out p hp; omega)
              | false =>
                go_wp2_with fail
                refine (HC.out _).mono ?_
                rintro e' wq ⟨rfl, hb⟩
                replace HI := Lib.hid (HI.out.keep hb)
                clear hb
                by_cases hl : (a : Int) + 2 < (s.size : Int)
                · have hl2 := decide_eq_true hl
                  rw [hl2] at HN
                  clear hl2
                  replace T8 := Lib.hid (T8.out (by first | rfl | trivial))
                  have HV := Lib.hid (show nextR s a _ = bogusR s (a + 2) from HN.out.trans rfl)
                  generalize bogusR s (a + 2) = o at *
                  clear HN
                  go_wp2_with fail
                  refine (T8.out _).mono ?_
                  rintro e' wq ⟨A, ac, rfl, hat, hb, hfr⟩
                  have HFR := Lib.hid (HI.out.far hfr)
                  replace HI := Lib.hid (HI.out.keep hb)
                  have HAT := Lib.hid hat
                  clear hat hb hfr
                  obtain ⟨b0, b1, b2, b3, b4⟩ := tbox5 HI.out.res
                  obtain ⟨f0, f1, f2, f3, f4⟩ := tfrz5 HI.out.res
                  go_wp2_with fail
                  rw [HV.out]
                  exact tok_post (o) w 6 7 8 w.heap.size A ac rfl rfl rfl rfl (set5_blk HI.out.res _ _ _ _ _) (isAttrs_move HAT.out (set5_below (B := 0) (Nat.zero_le _) _ _ _ _ _).size fun p hp => set5_other (by have := HFR.out p hp; omega) _ _ _ _ _) (HI.out.end_ _ _ _ _ _) (fun p hp => by have := HFR.out p hp; omega)
                · have hl2 := decide_eq_false hl
                  rw [hl2] at HN
                  clear hl2
                  go_wp2_with fail
                  refine (HG.out _).mono ?_
                  rintro e' wq ⟨rfl, hb⟩
                  replace HI := Lib.hid (HI.out.keep hb)
                  clear hb
                  cases g with
                  | true =>
                    replace T6 := Lib.hid (T6.out (by first | rfl | trivial))
                    have HV := Lib.hid (show nextR s a _ = bogusR s (a + 1) from HN.out.trans rfl)
                    generalize bogusR s (a + 1) = o at *
                    clear HN
                    go_wp2_with fail
                    refine (T6.out _).mono ?_
                    rintro e' wq ⟨A, ac, rfl, hat, hb, hfr⟩
                    have HFR := Lib.hid (HI.out.far hfr)
                    replace HI := Lib.hid (HI.out.keep hb)
                    have HAT := Lib.hid hat
                    clear hat hb hfr
                    obtain ⟨b0, b1, b2, b3, b4⟩ := tbox5 HI.out.res
                    obtain ⟨f0, f1, f2, f3, f4⟩ := tfrz5 HI.out.res
                    go_wp2_with fail
                    rw [HV.out]
                    exact tok_post (o) w 6 7 8 w.heap.size A ac rfl rfl rfl rfl (set5_blk HI.out.res _ _ _ _ _) (isAttrs_move HAT.out (set5_below (B := 0) (Nat.zero_le _) _ _ _ _ _).size fun p hp => set5_other (by have := HFR.out p hp; omega) _ _ _ _ _) (HI.out.end_ _ _ _ _ _) (fun p hp => by have := HFR.out p hp; omega)
                  | false =>
                    have HV := Lib.hid (show nextR s a _ = (textTok ⟨#[60]⟩ false, a + 1, true) from HN.out.trans rfl)
                    have hcast : ((a + 1 : Nat) : Int) = (a : Int) + 1 := by omega
                    clear HN
                    obtain ⟨b0, b1, b2, b3, b4⟩ := tbox5 HI.out.res
                    obtain ⟨f0, f1, f2, f3, f4⟩ := tfrz5 HI.out.res
                    go_wp2_with fail
                    rw [HV.out]
                    exact tok_post (textTok ⟨#[60]⟩ false, a + 1, true) w 6 7 8 w.heap.size none 0 rfl rfl rfl rfl (set5_blk HI.out.res _ _ _ _ _) (isAttrs_nil _ _) (HI.out.end_ _ _ _ _ _) (fun _ h => nomatch h)
    | false =>
      go_wp2_with fail
      refine (HD.out _).mono ?_
      rintro e' wq ⟨rfl, hb⟩
      replace HI := Lib.hid (HI.out.keep hb)
      clear hb
      cases d with
      | true =>
        replace T3 := Lib.hid (T3.out (by first | rfl | trivial))
        have HV := Lib.hid (show nextR s a _ = commentR s (a + 4) from HN.out.trans rfl)
        generalize commentR s (a + 4) = o at *
        clear HN
        go_wp2_with fail
        refine (T3.out _).mono ?_
        rintro e' wq ⟨A, ac, rfl, hat, hb, hfr⟩
        have HFR := Lib.hid (HI.out.far hfr)
        replace HI := Lib.hid (HI.out.keep hb)
        have HAT := Lib.hid hat
        clear hat hb hfr
        obtain ⟨b0, b1, b2, b3, b4⟩ := tbox5 HI.out.res
        obtain ⟨f0, f1, f2, f3, f4⟩ := tfrz5 HI.out.res
        go_wp2_with fail
        rw [HV.out]
        exact tok_post (o) w 6 7 8 w.heap.size A ac rfl rfl rfl rfl (set5_blk HI.out.res _ _ _ _ _) (isAttrs_move HAT.out (set5_below (B := 0) (Nat.zero_le _) _ _ _ _ _).size fun p hp => set5_other (by have := HFR.out p hp; omega) _ _ _ _ _) (HI.out.end_ _ _ _ _ _) (fun p hp => by have := HFR.out p hp; omega)
      | false =>
        go_wp2_with fail
        refine (HE.out _).mono ?_
        rintro e' wq ⟨rfl, hb⟩
        replace HI := Lib.hid (HI.out.keep hb)
        clear hb
        cases dt with
        | true =>
          replace T4 := Lib.hid (T4.out (by first | rfl | trivial))
          have HV := Lib.hid (show nextR s a _ = doctypeR s (a + 9) from HN.out.trans rfl)
          generalize doctypeR s (a + 9) = o at *
          clear HN
          go_wp2_with fail
          refine (T4.out _).mono ?_
          rintro e' wq ⟨A, ac, rfl, hat, hb, hfr⟩
          have HFR := Lib.hid (HI.out.far hfr)
          replace HI := Lib.hid (HI.out.keep hb)
          have HAT := Lib.hid hat
          clear hat hb hfr
          obtain ⟨b0, b1, b2, b3, b4⟩ := tbox5 HI.out.res
          obtain ⟨f0, f1, f2, f3, f4⟩ := tfrz5 HI.out.res
          go_wp2_with fail
          rw [HV.out]
          exact tok_post (o) w 6 7 8 w.heap.size A ac rfl rfl rfl rfl (set5_blk HI.out.res _ _ _ _ _) (isAttrs_move HAT.out (set5_below (B := 0) (Nat.zero_le _) _ _ _ _ _).size fun p hp => set5_other (by have := HFR.out p hp; omega) _ _ _ _ _) (HI.out.end_ _ _ _ _ _) (fun p hp => by have := HFR.out p hp; omega)
        | false =>
          go_wp2_with fail
          refine (HF.out _).mono ?_
          rintro e' wq ⟨rfl, hb⟩
          replace HI := Lib.hid (HI.out.keep hb)
          clear hb
          cases f with
          | true =>
            have HV := Lib.hid (show nextR s a _ = (tok0, a + 3, false) from HN.out.trans rfl)
            have hcast : ((a + 3 : Nat) : Int) = (a : Int) + 3 := by omega
            clear HN
            obtain ⟨b0, b1, b2, b3, b4⟩ := tbox5 HI.out.res
            obtain ⟨f0, f1, f2, f3, f4⟩ := tfrz5 HI.out.res
            go_wp2_with fail
            rw [HV.out]
            exact tok_post (tok0, a + 3, false) w 6 7 8 w.heap.size none 0 rfl rfl rfl rfl (set5_blk HI.out.res _ _ _ _ _) (isAttrs_nil _ _) (HI.out.end_ _ _ _ _ _) (fun _ h => nomatch h)
          | false =>
            go_wp2_with fail
            refine (HH.out _).mono ?_
            rintro e' wq ⟨rfl, hb⟩
            replace HI := Lib.hid (HI.out.keep hb)
            clear hb
            cases h with
            | true =>
              replace T7 := Lib.hid (T7.out (by first | rfl | trivial))
              have HV := Lib.hid (show nextR s a _ = bogusR s (a + 2) from HN.out.trans rfl)
              generalize bogusR s (a + 2) = o at *
              clear HN
              go_wp2_with fail
              refine (T7.out _).mono ?_
              rintro e' wq ⟨A, ac, rfl, hat, hb, hfr⟩
              have HFR := Lib.hid (HI.out.far hfr)
              replace HI := Lib.hid (HI.out.keep hb)
              have HAT := Lib.hid hat
              clear hat hb hfr
              obtain ⟨b0, b1, b2, b3, b4⟩ := tbox5 HI.out.res
              obtain ⟨f0, f1, f2, f3, f4⟩ := tfrz5 HI.out.res
              go_wp2_with fail
              rw [HV.out]
              exact tok_post (o) w 6 7 8 w.heap.size A ac rfl rfl rfl rfl (set5_blk HI.out.res _ _ _ _ _) (isAttrs_move HAT.out (set5_below (B := 0) (Nat.zero_le _) _ _ _ _ _).size fun p hp => set5_other (by have := HFR.out p hp; omega) _ _ _ _ _) (HI.out.end_ _ _ _ _ _) (fun p hp => by have := HFR.out p hp; omega)
            | false =>
              go_wp2_with fail
              refine (HC.out _).mono ?_
              rintro e' wq ⟨rfl, hb⟩
              replace HI := Lib.hid (HI.out.keep hb)
              clear hb
              go_wp2_with fail
              refine (HG.out _).mono ?_
              rintro e' wq ⟨rfl, hb⟩
              replace HI := Lib.hid (HI.out.keep hb)
              clear hb
              cases g with
              | true =>
                replace T6 := Lib.hid (T6.out (by first | rfl | trivial))
                have HV := Lib.hid (show nextR s a _ = bogusR s (a + 1) from HN.out.trans rfl)
                generalize bogusR s (a + 1) = o at *
                clear HN
                go_wp2_with fail
                refine (T6.out _).mono ?_
                rintro e' wq ⟨A, ac, rfl, hat, hb, hfr⟩
                have HFR := Lib.hid (HI.out.far hfr)
                replace HI := Lib.hid (HI.out.keep hb)
                have HAT := Lib.hid hat
                clear hat hb hfr
                obtain ⟨b0, b1, b2, b3, b4⟩ := tbox5 HI.out.res
                obtain ⟨f0, f1, f2, f3, f4⟩ := tfrz5 HI.out.res
                go_wp2_with fail
                rw [HV.out]
                exact tok_post (o) w 6 7 8 w.heap.size A ac rfl rfl rfl rfl (set5_blk HI.out.res _ _ _ _ _) (isAttrs_move HAT.out (set5_below (B := 0) (Nat.zero_le _) _ _ _ _ _).size fun p hp => set5_other (by have := HFR.out p hp; omega) _ _ _ _ _) (HI.out.end_ _ _ _ _ _) (fun p hp => by have := HFR.out p hp; omega)
              | false =>
                have HV := Lib.hid (show nextR s a _ = (textTok ⟨#[60]⟩ false, a + 1, true) from HN.out.trans rfl)
                have hcast : ((a + 1 : Nat) : Int) = (a : Int) + 1 := by omega
                clear HN
                obtain ⟨b0, b1, b2, b3, b4⟩ := tbox5 HI.out.res
                obtain ⟨f0, f1, f2, f3, f4⟩ := tfrz5 HI.out.res
                go_wp2_with fail
                rw [HV.out]
                exact tok_post (textTok ⟨#[60]⟩ false, a + 1, true) w 6 7 8 w.heap.size none 0 rfl rfl rfl rfl (set5_blk HI.out.res _ _ _ _ _) (isAttrs_nil _ _) (HI.out.end_ _ _ _ _ _) (fun _ h => nomatch h)
end Go.Proofs.YtbdgoffbkenofaaGreat.Rn
