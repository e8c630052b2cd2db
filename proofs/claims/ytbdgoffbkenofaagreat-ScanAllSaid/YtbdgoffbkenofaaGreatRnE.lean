/- The document's token: comment (by gen_rne.py). -/
import Derived.Test.YtbdgoffbkenofaaGreatRnC
import Derived.Test.YtbdgoffbkenofaaGreatTkK
import Derived.Test.YtbdgoffbkenofaaGreatTkG
namespace Go.Proofs.YtbdgoffbkenofaaGreat.Rn
open Go Go.RowKit Go.Proofs.YtbdgoffbkenofaaGreat.Tk Go.Proofs.YtbdgoffbkenofaaGreat.Tr
set_option linter.unusedVariables false
set_option maxRecDepth 100000

/-- What ends a comment that has no end. -/
def sufA : Nat → ByteArray
  | 0 => ⟨#[45, 45, 33]⟩
  | 1 => ⟨#[45, 45]⟩
  | _ => ⟨#[45]⟩
def sufV (r : ByteArray) : ByteArray := if hasSuf r ⟨#[45, 45, 33]⟩ then r.extract 0 (r.size - 3) else if hasSuf r ⟨#[45, 45]⟩ then r.extract 0 (r.size - 2) else if hasSuf r ⟨#[45]⟩ then r.extract 0 (r.size - 1) else r
theorem sufV_hit {r : ByteArray} {i : Nat} (hi : i < 3) (hn : ∀ j, j < i → hasSuf r (sufA j) = false) (h : hasSuf r (sufA i) = true) : sufV r = r.extract 0 (r.size - (sufA i).size) := by
  unfold sufV
  match i, hi with
  | 0, _ => exact if_pos h
  | 1, _ => rw [if_neg (by rw [show hasSuf r ⟨#[45, 45, 33]⟩ = false from hn 0 (by decide)]; decide)]; exact if_pos h
  | 2, _ => rw [if_neg (by rw [show hasSuf r ⟨#[45, 45, 33]⟩ = false from hn 0 (by decide)]; decide), if_neg (by rw [show hasSuf r ⟨#[45, 45]⟩ = false from hn 1 (by decide)]; decide)]; exact if_pos h
theorem sufV_no {r : ByteArray} (hn : ∀ j, j < 3 → hasSuf r (sufA j) = false) : sufV r = r := by
  unfold sufV
  rw [if_neg (by rw [show hasSuf r ⟨#[45, 45, 33]⟩ = false from hn 0 (by decide)]; decide), if_neg (by rw [show hasSuf r ⟨#[45, 45]⟩ = false from hn 1 (by decide)]; decide), if_neg (by rw [show hasSuf r ⟨#[45]⟩ = false from hn 2 (by decide)]; decide)]
theorem sufA_pos (i : Nat) : 1 ≤ (sufA i).size ∧ (sufA i).size ≤ 3 := by
  match i with
  | 0 => exact ⟨by decide, by decide⟩
  | 1 => exact ⟨by decide, by decide⟩
  | n + 2 => exact ⟨by show 1 ≤ 1; decide, by show 1 ≤ 3; decide⟩
def commentR (s : ByteArray) (a : Nat) : Out :=
  if hasR s a ⟨#[62]⟩ then (commTok ⟨#[]⟩, a + 1, true)
  else if hasR s a ⟨#[45, 62]⟩ then (commTok ⟨#[]⟩, a + 2, true)
  else if findR s a ⟨#[45, 45, 62]⟩ < findR s a ⟨#[45, 45, 33, 62]⟩ then (commTok (s.extract a (findR s a ⟨#[45, 45, 62]⟩)), findR s a ⟨#[45, 45, 62]⟩ + 3, true)
  else if findR s a ⟨#[45, 45, 33, 62]⟩ < findR s a ⟨#[45, 45, 62]⟩ then (commTok (s.extract a (findR s a ⟨#[45, 45, 33, 62]⟩)), findR s a ⟨#[45, 45, 33, 62]⟩ + 4, true)
  else (commTok (sufV (s.extract a s.size)), s.size, true)
/-- The two pieces in memory: the answer, and the comment as far as it is known. -/
structure CmR (w : World) (x : ByteArray) (wr : World) : Prop where
  bel : Below w.heap.size w wr
  res : wr.heap[w.heap.size]? = some (.cells #[.int .i64 0, .string ⟨#[]⟩, .string ⟨#[]⟩, .slice none 0 0, .bool false] 27 (0, 0))
  loc : wr.heap[w.heap.size + 1]? = some (.cells #[.int .i64 4, .string ⟨#[]⟩, .string x, .slice none 0 0, .bool false] 27 (0, 0))
theorem CmR.keep {w wr w' : World} {x : ByteArray} (h : CmR w x wr) (hb : Below wr.heap.size wr w') : CmR w x w' :=
  ⟨h.bel.trans (hb.mono h.bel.size), (hb.block _ (lt_of_block h.res)).trans h.res, (hb.block _ (lt_of_block h.loc)).trans h.loc⟩
theorem CmR.set {w wr : World} {x : ByteArray} (h : CmR w x wr) (y : ByteArray) : CmR w y (wr.setCell ⟨w.heap.size + 1, 2, none⟩ (.string y)) := by
  obtain ⟨l2, b2⟩ := over5 (x := .string y) h.bel h.res
  refine ⟨b2, l2, ?_⟩
  simp only [World.setCell, Array.getElem?_modify, ↓reduceIte, h.loc, Option.map_some]
  rfl
set_option maxHeartbeats 8000000 in
theorem rcomment_calls (s : ByteArray) (hs : s.size ≤ 1000000) (a : Nat) (ha : a ≤ s.size) (w : World) :
    Calls Tryz.prog 51 #[.string s, .int .i64 (a : Int)] w (TokEnd (commentR s a) w) := by
  have hap : (a : Int) ≤ (s.size : Int) := by omega
  have hw1 : IntKind.i64.wrap ((a : Int) + 1) = (a : Int) + 1 := IntWalk.i64_in _ (by omega)
  have hw2 : IntKind.i64.wrap ((a : Int) + 2) = (a : Int) + 2 := IntWalk.i64_in _ (by omega)
  have H2 := two_toks w
  have X1 := Lib.hid (has_calls s ⟨#[62]⟩ hs (by decide) a ha)
  have X2 := Lib.hid (has_calls s ⟨#[45, 62]⟩ hs (by decide) a ha)
  have X3 := Lib.hid (find_calls s ⟨#[45, 45, 62]⟩ hs (by decide) a ha)
  have X4 := Lib.hid (find_calls s ⟨#[45, 45, 33, 62]⟩ hs (by decide) a ha)
  have hy1 := findR_ge s ⟨#[45, 45, 62]⟩ a
  have hy2 := findR_ge s ⟨#[45, 45, 33, 62]⟩ a
  have hy3 := findR_le (t := ⟨#[45, 45, 62]⟩) ha
  have hy4 := findR_le (t := ⟨#[45, 45, 33, 62]⟩) ha
  have hrs := ext_size s a s.size
  obtain ⟨o, ho⟩ : ∃ o, commentR s a = o := ⟨_, rfl⟩
  rw [ho]
  unfold commentR at ho
  generalize hasR s a ⟨#[62]⟩ = t1 at *
  generalize hasR s a ⟨#[45, 62]⟩ = t2 at *
  generalize findR s a ⟨#[45, 45, 62]⟩ = p at *
  generalize findR s a ⟨#[45, 45, 33, 62]⟩ = q at *
  have hp1 : (a : Int) ≤ (p : Int) := by omega
  have hp2 : (p : Int) ≤ (s.size : Int) := by omega
  have hq1 : (a : Int) ≤ (q : Int) := by omega
  have hq2 : (q : Int) ≤ (s.size : Int) := by omega
  have hw3 : IntKind.i64.wrap ((p : Int) + 3) = (p : Int) + 3 := IntWalk.i64_in _ (by omega)
  have hw4 : IntKind.i64.wrap ((q : Int) + 4) = (q : Int) + 4 := IntWalk.i64_in _ (by omega)
  have HO := Lib.hid ho
  have HHR := Lib.hid (show (s.extract a s.size).size ≤ 1000000 by omega)
  clear ho hs ha hrs hy1 hy2 hy3 hy4
  go_enter Tryz.func51, Tryz.ntmps51
  go_wp2_with fail
  generalize (w.alloc (.cells #[.int .i64 0, .string ⟨#[]⟩, .string ⟨#[]⟩, .slice none 0 0, .bool false] 27)).alloc (.cells #[.int .i64 4, .string ⟨#[]⟩, .string ⟨#[]⟩, .slice none 0 0, .bool false] 27) = w1 at H2 ⊢
  have H1 := Lib.hid (show CmR w ⟨#[]⟩ w1 from ⟨H2.1, H2.2.1, H2.2.2⟩)
  clear H2
  refine (X1.out _).mono ?_
  rintro e w9 ⟨rfl, hb9⟩
  have HA := Lib.hid (H1.out.keep hb9)
  clear hb9
  cases t1 with
  | true =>
    have ho := HO.out
    rw [if_pos rfl] at ho
    subst ho
    obtain ⟨b0, b1, b2, b3, b4⟩ := tbox5 HA.out.res
    obtain ⟨f0, f1, f2, f3, f4⟩ := tfrz5 HA.out.res
    obtain ⟨d0, d1, d2, d3, d4⟩ := tbox5 HA.out.loc
    obtain ⟨g0, g1, g2, g3, g4⟩ := tfrz5 HA.out.loc
    go_wp2_with fail
    exact tok_post (commTok ⟨#[]⟩, a + 1, true) w 4 5 6 w.heap.size none 0 rfl rfl rfl rfl (set5_blk HA.out.res _ _ _ _ _) (isAttrs_nil _ _) (HA.out.bel.trans (set5_below (Nat.le_refl _) _ _ _ _ _)) (fun _ h => nomatch h)
  | false =>
  go_wp2_with fail
  refine (X2.out _).mono ?_
  rintro e w9 ⟨rfl, hb9⟩
  have HB := Lib.hid (HA.out.keep hb9)
  clear hb9
  cases t2 with
  | true =>
    have ho := HO.out
    rw [if_neg Bool.false_ne_true, if_pos rfl] at ho
    subst ho
    obtain ⟨b0, b1, b2, b3, b4⟩ := tbox5 HB.out.res
    obtain ⟨f0, f1, f2, f3, f4⟩ := tfrz5 HB.out.res
    obtain ⟨d0, d1, d2, d3, d4⟩ := tbox5 HB.out.loc
    obtain ⟨g0, g1, g2, g3, g4⟩ := tfrz5 HB.out.loc
    go_wp2_with fail
    exact tok_post (commTok ⟨#[]⟩, a + 2, true) w 4 5 6 w.heap.size none 0 rfl rfl rfl rfl (set5_blk HB.out.res _ _ _ _ _) (isAttrs_nil _ _) (HB.out.bel.trans (set5_below (Nat.le_refl _) _ _ _ _ _)) (fun _ h => nomatch h)
  | false =>
  go_wp2_with fail
  refine (X3.out _).mono ?_
  rintro e w9 ⟨rfl, hb9⟩
  have HC := Lib.hid (HB.out.keep hb9)
  clear hb9
  go_wp2_with fail
  refine (X4.out _).mono ?_
  rintro e w9 ⟨rfl, hb9⟩
  have HD := Lib.hid (HC.out.keep hb9)
  clear hb9
  have ho := HO.out
  rw [if_neg Bool.false_ne_true, if_neg Bool.false_ne_true] at ho
  replace HO := Lib.hid ho
  clear ho H1 HA HB HC X1 X2 X3 X4
  obtain ⟨b0, b1, b2, b3, b4⟩ := tbox5 HD.out.res
  obtain ⟨f0, f1, f2, f3, f4⟩ := tfrz5 HD.out.res
  obtain ⟨d0, d1, d2, d3, d4⟩ := tbox5 HD.out.loc
  obtain ⟨g0, g1, g2, g3, g4⟩ := tfrz5 HD.out.loc
  by_cases c1 : p < q
  · have hc : (p : Int) < (q : Int) := by omega
    have ho := HO.out
    rw [if_pos c1] at ho
    subst ho
    have HE := Lib.hid (HD.out.set (s.extract a p))
    clear c1
    go_wp2_with fail
    exact tok_post (commTok (s.extract a p), p + 3, true) w 4 5 6 w.heap.size none 0 rfl rfl rfl rfl (set5_blk HE.out.res _ _ _ _ _) (isAttrs_nil _ _) (HE.out.bel.trans (set5_below (Nat.le_refl _) _ _ _ _ _)) (fun _ h => nomatch h)
  by_cases c2 : q < p
  · have hc : ¬ (p : Int) < (q : Int) := by omega
    have hc2 : (q : Int) < (p : Int) := by omega
    have ho := HO.out
    rw [if_neg c1, if_pos c2] at ho
    subst ho
    have HE := Lib.hid (HD.out.set (s.extract a q))
    clear c1 c2
    go_wp2_with fail
    exact tok_post (commTok (s.extract a q), q + 4, true) w 4 5 6 w.heap.size none 0 rfl rfl rfl rfl (set5_blk HE.out.res _ _ _ _ _) (isAttrs_nil _ _) (HE.out.bel.trans (set5_below (Nat.le_refl _) _ _ _ _ _)) (fun _ h => nomatch h)
  have hc : ¬ (p : Int) < (q : Int) := by omega
  have hc2 : ¬ (q : Int) < (p : Int) := by omega
  have ho := HO.out
  rw [if_neg c1, if_neg c2] at ho
  subst ho
  obtain ⟨r, hr⟩ : ∃ r, s.extract a s.size = r := ⟨_, rfl⟩
  rw [hr] at HHR ⊢
  have HE := Lib.hid ((HD.out.set r).keep ((Below.refl _ (w9.setCell ⟨w.heap.size + 1, 2, none⟩ (.string r))).alloc (Nat.le_refl _) (.cells #[.string ⟨#[45, 45, 33]⟩, .string ⟨#[45, 45]⟩, .string ⟨#[45]⟩] 9)))
  have HLB := alloc_new (w9.setCell ⟨w.heap.size + 1, 2, none⟩ (.string r)) (.cells #[.string ⟨#[45, 45, 33]⟩, .string ⟨#[45, 45]⟩, .string ⟨#[45]⟩] 9)
  have hsz : (w9.setCell ⟨w.heap.size + 1, 2, none⟩ (.string r)).heap.size = w9.heap.size := by simp [World.setCell]
  rw [hsz] at HLB
  have HLB2 := Lib.hid HLB
  clear c1 c2 hsz HLB
  go_wp2_with fail
  generalize (w9.setCell ⟨w.heap.size + 1, 2, none⟩ (.string r)).alloc (.cells #[.string ⟨#[45, 45, 33]⟩, .string ⟨#[45, 45]⟩, .string ⟨#[45]⟩] 9) = w11 at *
  obtain ⟨lb, hlb⟩ : ∃ lb, w9.heap.size = lb := ⟨_, rfl⟩
  rw [hlb] at HLB2 ⊢
  clear hlb b0 b1 b2 b3 b4 d0 d1 d2 d3 d4 f0 f1 f2 f3 f4 g0 g1 g2 g3 g4 HD hp1 hp2 hq1 hq2 hw1 hw2 hw3 hw4 hc hc2
  go_loopw [11, 12] (fun t11 t12 wr => ∃ i : Nat, t11 = .int .i64 (i : Int) ∧ Hid (i ≤ 3) ∧ Hid (∀ j, j < i → hasSuf r (sufA j) = false) ∧ Hid (CmR w r wr) ∧ Hid (wr.heap[lb]? = some (.cells #[.string ⟨#[45, 45, 33]⟩, .string ⟨#[45, 45]⟩, .string ⟨#[45]⟩] 9 (0, 0)))) (fun t11 _ _ => 3 - (intOf t11).toNat)
  case atStart => exact ⟨0, rfl, Lib.hid (by decide), Lib.hid (fun j hj => by omega), HE, HLB2⟩
  case round =>
    obtain ⟨i, rfl, HI, HNO, HC, HL⟩ := hrel
    rcases Nat.lt_or_ge i 3 with hlt | hge
    · have hz : (i : Int) < 3 := by omega
      have HLT := Lib.hid hlt
      have hwi : IntKind.i64.wrap ((i : Int) + 1) = (i : Int) + 1 := IntWalk.i64_in _ (by omega)
      have hwi0 : IntKind.i64.wrap (i : Int) = (i : Int) := IntWalk.i64_in _ (by omega)
      have cl : wr.cell? ⟨lb, i, none⟩ = some (.string (sufA i)) := by
        rw [block_cell HL.out]
        match i, hlt with
        | 0, _ => rfl
        | 1, _ => rfl
        | 2, _ => rfl
      have hps := (sufA_pos i).1
      have hps2 := (sufA_pos i).2
      have HHIT := Lib.hid (fun h => sufV_hit (r := r) hlt HNO.out h)
      have HNO2 := Lib.hid (show hasSuf r (sufA i) = false → ∀ j, j < i + 1 → hasSuf r (sufA j) = false from fun h j hj => by
        rcases Nat.lt_succ_iff_lt_or_eq.1 hj with c | rfl
        · exact HNO.out j c
        · exact h)
      have HSF := Lib.hid (hasSuf_raw r (sufA i))
      generalize sufA i = p at *
      have hwk : IntKind.i64.wrap ((r.size : Int) - (p.size : Int)) = (r.size : Int) - (p.size : Int) := IntWalk.i64_in _ (by have := HHR.out; omega)
      clear hlt
      obtain ⟨b0, b1, b2, b3, b4⟩ := tbox5 HC.out.res
      obtain ⟨f0, f1, f2, f3, f4⟩ := tfrz5 HC.out.res
      obtain ⟨d0, d1, d2, d3, d4⟩ := tbox5 HC.out.loc
      obtain ⟨g0, g1, g2, g3, g4⟩ := tfrz5 HC.out.loc
      have r0 := cell_regrown d2
      have r1 := cell_regrown cl
      clear b0 b1 b2 b3 b4 d0 d1 d3 d4 f0 f1 f2 f3 f4 g0 g1 g2 g3 g4
      go_wp2_with fail
      refine wp_region_quiet_below mixedT (by kernel_rfl) ?_
      repeat (go_big_quiet_step (fail))
      refine wpQuiet_nil ?_
      rintro w5 ⟨gg, hgg⟩
      have hb5 : Below wr.heap.size wr w5 := hgg ▸ below_regrown wr gg.d gg.os
      have HC5 := Lib.hid (HC.out.keep hb5)
      have HL5 := Lib.hid ((hb5.block _ (lt_of_block HL.out)).trans HL.out)
      have cl5 : w5.cell? ⟨lb, i, none⟩ = some (.string p) := (hb5.cell (p := ⟨lb, i, none⟩) (lt_of_block HL.out)).trans cl
      clear hgg gg hb5 r0 r1 d2 cl
      obtain ⟨b0, b1, b2, b3, b4⟩ := tbox5 HC5.out.res
      obtain ⟨f0, f1, f2, f3, f4⟩ := tfrz5 HC5.out.res
      obtain ⟨d0, d1, d2, d3, d4⟩ := tbox5 HC5.out.loc
      obtain ⟨g0, g1, g2, g3, g4⟩ := tfrz5 HC5.out.loc
      have r0 := cell_regrown d2
      have r1 := cell_regrown cl5
      by_cases hle : p.size ≤ r.size
      · obtain ⟨k, hk⟩ : ∃ k : Nat, r.size = k + p.size := ⟨r.size - p.size, by omega⟩
        have hkI : (r.size : Int) - (p.size : Int) = (k : Int) := by omega
        have hkN : r.size - p.size = k := by omega
        rw [hkN, decide_eq_true hle, Bool.true_and] at HSF
        rw [hkN] at HHIT
        rw [hkI]
        have hk1 : (0 : Int) ≤ (k : Int) := by omega
        have hk2 : (k : Int) ≤ (r.size : Int) := by omega
        have gk : decide ((k : Int) ≥ 0) = true := decide_eq_true (by omega)
        have HK := Lib.hid hk
        clear hle hkI hkN hk hwk hps hps2
        cases hq : ((r.extract k r.size).toList == p.toList) with
        | true =>
          have HV := Lib.hid (HHIT.out (HSF.out.trans hq))
          clear HHIT HNO2 HSF
          clear b0 b1 b2 b3 b4 d0 d1 d3 d4 f0 f1 f2 f3 f4 g0 g1 g2 g3 g4 d2
          go_wp2_with fail
          refine wp_region_quiet_below mixedT (by kernel_rfl) ?_
          repeat (go_big_quiet_step (fail))
          refine wpQuiet_nil ?_
          rintro w7 ⟨gg, hgg⟩
          have hb7 : Below w5.heap.size w5 w7 := hgg ▸ below_regrown w5 gg.d gg.os
          have HC7 := Lib.hid (HC5.out.keep hb7)
          have HL7 := Lib.hid ((hb7.block _ (lt_of_block HL5.out)).trans HL5.out)
          clear hgg gg hb7 r0 r1 cl5
          obtain ⟨b0, b1, b2, b3, b4⟩ := tbox5 HC7.out.res
          obtain ⟨f0, f1, f2, f3, f4⟩ := tfrz5 HC7.out.res
          obtain ⟨d0, d1, d2, d3, d4⟩ := tbox5 HC7.out.loc
          obtain ⟨g0, g1, g2, g3, g4⟩ := tfrz5 HC7.out.loc
          go_wp2_with fail
          have HC8 := Lib.hid (HC7.out.set (r.extract 0 k))
          rw [hr, HV.out]
          exact tok_post (commTok (r.extract 0 k), s.size, true) w 4 5 6 w.heap.size none 0 rfl rfl rfl rfl (set5_blk HC8.out.res _ _ _ _ _) (isAttrs_nil _ _) (HC8.out.bel.trans (set5_below (Nat.le_refl _) _ _ _ _ _)) (fun _ h => nomatch h)
        | false =>
          have HV := Lib.hid (HNO2.out (HSF.out.trans hq))
          clear HHIT HNO2 HSF
          clear b0 b1 b2 b3 b4 d0 d1 d3 d4 f0 f1 f2 f3 f4 g0 g1 g2 g3 g4 d2
          go_wp2_with fail
          refine wp_region_quiet_below mixedT (by kernel_rfl) ?_
          repeat (go_big_quiet_step (fail))
          refine wpQuiet_nil ?_
          rintro w7 ⟨gg, hgg⟩
          have hb7 : Below w5.heap.size w5 w7 := hgg ▸ below_regrown w5 gg.d gg.os
          have HC7 := Lib.hid (HC5.out.keep hb7)
          have HL7 := Lib.hid ((hb7.block _ (lt_of_block HL5.out)).trans HL5.out)
          clear hgg gg hb7 r0 r1 cl5
          go_wp2_with fail
          go_roundw
          case rel => exact ⟨i + 1, by go_num, Lib.hid HLT.out, HV, HC7, HL7⟩
          case measure => simp [intOf]; have := HLT.out; omega
      · obtain ⟨kI, hkI⟩ : ∃ kI : Int, (r.size : Int) - (p.size : Int) = kI := ⟨_, rfl⟩
        have hneg : kI < 0 := by omega
        have gk : decide (kI ≥ 0) = false := decide_eq_false (by omega)
        rw [hkI]
        have HV := Lib.hid (HNO2.out (HSF.out.trans (by rw [decide_eq_false hle]; rfl)))
        clear hle hkI hwk hps hps2 HHIT HNO2 HSF hneg
        clear b0 b1 b2 b3 b4 d0 d1 d3 d4 f0 f1 f2 f3 f4 g0 g1 g2 g3 g4 d2
        go_wp2_with fail
        refine wp_region_quiet_below mixedT (by kernel_rfl) ?_
        repeat (go_big_quiet_step (fail))
        refine wpQuiet_nil ?_
        rintro w7 ⟨gg, hgg⟩
        have hb7 : Below w5.heap.size w5 w7 := hgg ▸ below_regrown w5 gg.d gg.os
        have HC7 := Lib.hid (HC5.out.keep hb7)
        have HL7 := Lib.hid ((hb7.block _ (lt_of_block HL5.out)).trans HL5.out)
        clear hgg gg hb7 r0 r1 cl5
        go_wp2_with fail
        go_roundw
        case rel => exact ⟨i + 1, by go_num, Lib.hid HLT.out, HV, HC7, HL7⟩
        case measure => simp [intOf]; have := HLT.out; omega
    · have hz : ¬ (i : Int) < 3 := by omega
      have ei : i = 3 := by have := HI.out; omega
      subst ei
      have HV := Lib.hid (sufV_no HNO.out)
      clear hge
      obtain ⟨b0, b1, b2, b3, b4⟩ := tbox5 HC.out.res
      obtain ⟨f0, f1, f2, f3, f4⟩ := tfrz5 HC.out.res
      obtain ⟨d0, d1, d2, d3, d4⟩ := tbox5 HC.out.loc
      obtain ⟨g0, g1, g2, g3, g4⟩ := tfrz5 HC.out.loc
      go_wp2_with fail
      rw [HV.out]
      exact tok_post (commTok r, s.size, true) w 4 5 6 w.heap.size none 0 rfl rfl rfl rfl (set5_blk HC.out.res _ _ _ _ _) (isAttrs_nil _ _) (HC.out.bel.trans (set5_below (Nat.le_refl _) _ _ _ _ _)) (fun _ h => nomatch h)
end Go.Proofs.YtbdgoffbkenofaaGreat.Rn
namespace Go.Proofs.YtbdgoffbkenofaaGreat.Rn
open Go Go.RowKit Go.Proofs.YtbdgoffbkenofaaGreat.Tk Go.Proofs.YtbdgoffbkenofaaGreat.Tr
set_option linter.unusedVariables false
set_option maxRecDepth 100000

theorem hasName_mem (al : List (ByteArray × ByteArray)) (n : ByteArray) : hasName al n = true ↔ ∃ (j : Nat) (z : ByteArray × ByteArray), al[j]? = some z ∧ z.1 = n := by
  unfold hasName
  rw [List.any_eq_true]
  constructor
  · rintro ⟨z, hz, h⟩
    obtain ⟨j, hj⟩ := List.mem_iff_getElem?.1 hz
    exact ⟨j, z, hj, of_decide_eq_true h⟩
  · rintro ⟨j, z, hz, h⟩
    exact ⟨z, List.mem_of_getElem? hz, decide_eq_true h⟩
set_option maxHeartbeats 4000000 in
theorem in_calls (al : List (ByteArray × ByteArray)) (A : Option Addr) (ac : Nat) (n : ByteArray) (w : World) (h : IsAttrs w w.heap.size al A ac) (hl : al.length ≤ 1000000) :
    Calls Tryz.prog 79 #[.slice A al.length ac, .string n] w fun e w' => e = .returned (.bool (hasName al n)) ∧ Below w.heap.size w w' := by
  have HA := Lib.hid h
  have HL := Lib.hid hl
  clear h hl
  go_enter Tryz.func79, Tryz.ntmps79
  go_wp2_with fail
  go_loopw [5] (fun t5 wr => ∃ i : Nat, t5 = .int .i64 (i : Int) ∧ Hid (i ≤ al.length) ∧ Hid (∀ j z, j < i → al[j]? = some z → z.1 ≠ n) ∧ Hid (Below w.heap.size w wr)) (fun t5 _ => al.length - (intOf t5).toNat)
  case atStart => exact ⟨0, rfl, Lib.hid (Nat.zero_le _), Lib.hid (fun j z hj => absurd hj (Nat.not_lt_zero _)), Lib.hid (Below.refl _ _)⟩
  case round =>
    obtain ⟨i, rfl, HI, HN, HB⟩ := hrel
    by_cases hlt : i < al.length
    · have hz : (i : Int) < (al.length : Int) := by omega
      have HLT := Lib.hid hlt
      have hx : al[i]? = some (al[i]'hlt) := List.getElem?_eq_getElem _
      have hwi : IntKind.i64.wrap (i : Int) = (i : Int) := IntWalk.i64_in _ (by have := HL.out; omega)
      have hwn : IntKind.i64.wrap ((i : Int) + 1) = (i : Int) + 1 := IntWalk.i64_in _ (by have := HL.out; omega)
      obtain ⟨g, o, rfl, hg, x0, _⟩ := isAttrs_at (isAttrs_below HA.out HB.out) hx
      generalize al[i]'hlt = x at *
      have r0 := cell_regrown x0
      by_cases c : x.1 = n
      · have q1 : (x.1.toList == n.toList) = true := (Sr.str_eq x.1 n).trans (decide_eq_true c)
        have HV := Lib.hid (show hasName al n = true from (hasName_mem al n).2 ⟨i, x, hx, c⟩)
        clear c hx hlt hg r0
        go_wp2_with fail
        go_ret
        exact ⟨by rw [HV.out]; rfl, HB.out⟩
      · have q1 : (x.1.toList == n.toList) = false := (Sr.str_eq x.1 n).trans (decide_eq_false c)
        have HN5 : Hid (∀ j z, j < i + 1 → al[j]? = some z → z.1 ≠ n) := Lib.hid (fun j z hj hzz => by
          rcases Nat.lt_succ_iff_lt_or_eq.1 hj with h | rfl
          · exact HN.out j z h hzz
          · rw [hx] at hzz; injection hzz with hzz; subst hzz; exact c)
        clear c hx hlt hg r0
        go_wp2_with fail
        go_roundw
        case rel => exact ⟨i + 1, by go_num, Lib.hid HLT.out, HN5, HB⟩
        case measure => simp [intOf]; have := HLT.out; omega
    · have hz : ¬ (i : Int) < (al.length : Int) := by omega
      have HV := Lib.hid (show hasName al n = false from Bool.eq_false_iff.2 fun h => by
        obtain ⟨j, z, hj, hn⟩ := (hasName_mem al n).1 h
        exact HN.out j z (by have := (List.getElem?_eq_some_iff.1 hj).1; omega) hj hn)
      clear hlt
      go_wp2_with fail
      go_ret
      exact ⟨by rw [HV.out]; rfl, HB.out⟩
/-- Not ahead of it. -/
def geB (a b : ByteArray) : Bool := !Op.bytesLess a.toList b.toList
theorem geB_refl (a : ByteArray) : geB a a = true := by unfold geB; rw [Go.Proofs.bytesLess_eq]; simp
def wStep (n v : ByteArray) (r : List (ByteArray × ByteArray) × Bool) (x : ByteArray × ByteArray) : List (ByteArray × ByteArray) × Bool :=
  let r1 := if geB x.1 n && !r.2 then (r.1 ++ [(n, v)], true) else r
  if x.1 = n then r1 else (r1.1 ++ [x], r1.2)
/-- Attributes with one, in order. -/
def withP (l : List (ByteArray × ByteArray)) (n v : ByteArray) : List (ByteArray × ByteArray) :=
  let r := l.foldl (wStep n v) ([], false)
  if r.2 then r.1 else r.1 ++ [(n, v)]
/-- The new row. -/
structure WI (w : World) (m : List (ByteArray × ByteArray)) (v : Value) (wr : World) : Prop where
  row : wr.ownsRow w.heap.size 30 2 v m.length (cellsA m)
  bel : Below w.heap.size w wr
theorem WI.keep {w wr w' : World} {m : List (ByteArray × ByteArray)} {v : Value} (h : WI w m v wr) (hb : Below wr.heap.size wr w') : WI w m v w' := by
  refine ⟨⟨h.row.1, ?_⟩, h.bel.trans (hb.mono h.bel.size)⟩
  rcases h.row.2 with h2 | ⟨g, cap, cur, h1, h5, h6, h7⟩
  · exact .inl h2
  · exact .inr ⟨g, cap, cur, h1, h5, (hb.block g (lt_of_block h6)).trans h6, h7⟩
theorem WI.push {w w5 w8 : World} {m : List (ByteArray × ByteArray)} {v v' : Value} {x : ByteArray × ByteArray} (h : WI w m v w5) (hr : w8.ownsRow w.heap.size 30 2 v' (m.length + 1) (cellsA m ++ [.string x.1, .string x.2]))
    (g8 : (w5.alloc (.cells #[.string x.1, .string x.2] 30)).grownBy w8 v.ownBlock) : WI w (m ++ [x]) v' w8 := by
  refine ⟨?_, (h.bel.alloc h.bel.size _).grown g8 (by simp; have := h.bel.size; omega) fun k hk => (h.row.lt k hk).1⟩
  have el : (m ++ [x]).length = m.length + 1 := by simp
  have ec : cellsA (m ++ [x]) = cellsA m ++ [.string x.1, .string x.2] := by simp [cellsA]
  rw [el, ec]
  exact hr
/-- What append wants. -/
theorem WI.row' {w w5 : World} {m : List (ByteArray × ByteArray)} {v : Value} (h : WI w m v w5) (o : Obj) : (w5.alloc o).ownsRow w.heap.size 30 2 v m.length (cellsA m) := by
  refine ⟨h.row.1, ?_⟩
  rcases h.row.2 with h2 | ⟨g, cap, cur, h1, h5, h6, h7⟩
  · exact .inl h2
  · exact .inr ⟨g, cap, cur, h1, h5, alloc_old h6 _, h7⟩
theorem pair_cells (w5 : World) (a b : ByteArray) (T : TypeId) (j : Nat) (u : Value) (hj : ([.string a, .string b] : List Value)[j]? = some u) : (w5.alloc (.cells #[.string a, .string b] T)).cell? ((⟨w5.heap.size, 0, none⟩ : Addr).add j) = some u := by
  have ha : (⟨w5.heap.size, 0, none⟩ : Addr).add j = ⟨w5.heap.size, j, none⟩ := by unfold Addr.add; split <;> simp_all
  rw [ha, block_cell (alloc_new w5 _)]
  simpa using hj
theorem pair_one (a b : ByteArray) : ∀ u ∈ ([.string a, .string b] : List Value), u.oneCell' = true := fun u hu => by
  simp at hu
  rcases hu with rfl | rfl <;> rfl
theorem wStep_take {al : List (ByteArray × ByteArray)} {i : Nat} {x : ByteArray × ByteArray} (hx : al[i]? = some x) (n v : ByteArray) : (al.take (i + 1)).foldl (wStep n v) ([], false) = wStep n v ((al.take i).foldl (wStep n v) ([], false)) x := by
  rw [List.take_add_one, hx, Option.toList_some, List.foldl_append]; rfl
/-- What is known of the list so far. -/
structure WQ (al : List (ByteArray × ByteArray)) (n v : ByteArray) (i : Nat) (m : List (ByteArray × ByteArray)) (d : Bool) : Prop where
  val : (al.take i).foldl (wStep n v) ([], false) = (m, d)
  len : m.length ≤ i + 1
  lent : d = false → m.length ≤ i
theorem WQ.end_ {al : List (ByteArray × ByteArray)} {n v : ByteArray} {m : List (ByteArray × ByteArray)} {d : Bool} (h : WQ al n v al.length m d) : withP al n v = if d then m else m ++ [(n, v)] := by
  unfold withP
  have := h.val
  rw [List.take_of_length_le (Nat.le_refl _)] at this
  rw [this]
section
variable {al : List (ByteArray × ByteArray)} {n v : ByteArray} {i : Nat} {m : List (ByteArray × ByteArray)} {x : ByteArray × ByteArray}
theorem WQ.step1 (h : WQ al n v i m false) (hx : al[i]? = some x) (hg : geB x.1 n = true) (he : x.1 = n) : WQ al n v (i + 1) (m ++ [(n, v)]) true := by
  refine ⟨?_, by have := h.lent rfl; simp; omega, fun h => by cases h⟩
  rw [wStep_take hx, h.val]; simp [wStep, he, geB_refl]
theorem WQ.step2 (h : WQ al n v i m false) (hx : al[i]? = some x) (hg : geB x.1 n = true) (he : ¬ x.1 = n) : WQ al n v (i + 1) ((m ++ [(n, v)]) ++ [x]) true := by
  refine ⟨?_, by have := h.lent rfl; simp; omega, fun h => by cases h⟩
  rw [wStep_take hx, h.val]; simp [wStep, hg, he]
theorem WQ.step3 (h : WQ al n v i m true) (hx : al[i]? = some x) (he : x.1 = n) : WQ al n v (i + 1) m true := by
  refine ⟨?_, by have := h.len; omega, fun h => by cases h⟩
  rw [wStep_take hx, h.val]; simp [wStep, he]
theorem WQ.step4 (h : WQ al n v i m true) (hx : al[i]? = some x) (he : ¬ x.1 = n) : WQ al n v (i + 1) (m ++ [x]) true := by
  refine ⟨?_, by have := h.len; simp; omega, fun h => by cases h⟩
  rw [wStep_take hx, h.val]; simp [wStep, he]
theorem WQ.step5 (h : WQ al n v i m false) (hx : al[i]? = some x) (hg : geB x.1 n = false) (he : ¬ x.1 = n) : WQ al n v (i + 1) (m ++ [x]) false := by
  refine ⟨?_, by have := h.lent rfl; simp; omega, fun _ => by have := h.lent rfl; simp; omega⟩
  rw [wStep_take hx, h.val]; simp [wStep, hg, he]
end
theorem withP_siz (al : List (ByteArray × ByteArray)) (n v : ByteArray) (hal : ∀ a ∈ al, a.1.size ≤ maxLen ∧ a.2.size ≤ maxLen) (hn : n.size ≤ maxLen) (hv : v.size ≤ maxLen) : ∀ a ∈ withP al n v, a.1.size ≤ maxLen ∧ a.2.size ≤ maxLen := by
  have st : ∀ (l : List (ByteArray × ByteArray)) (r : List (ByteArray × ByteArray) × Bool), (∀ a ∈ l, a.1.size ≤ maxLen ∧ a.2.size ≤ maxLen) → (∀ a ∈ r.1, a.1.size ≤ maxLen ∧ a.2.size ≤ maxLen) → ∀ a ∈ (l.foldl (wStep n v) r).1, a.1.size ≤ maxLen ∧ a.2.size ≤ maxLen := by
    intro l
    induction l with
    | nil => intro r _ h; exact h
    | cons x xs ih =>
      intro r hl hr
      refine ih _ (fun a ha => hl a (List.mem_cons_of_mem _ ha)) ?_
      have h1 : ∀ a ∈ (if geB x.1 n && !r.2 then (r.1 ++ [(n, v)], true) else r).1, a.1.size ≤ maxLen ∧ a.2.size ≤ maxLen := by
        split
        · intro a ha
          rcases List.mem_append.1 ha with ha | ha
          · exact hr a ha
          · rw [List.mem_singleton.1 ha]; exact ⟨hn, hv⟩
        · exact hr
      unfold wStep
      dsimp only
      split
      · exact h1
      · intro a ha
        rcases List.mem_append.1 ha with ha | ha
        · exact h1 a ha
        · rw [List.mem_singleton.1 ha]; exact hl x List.mem_cons_self
  have h0 := st al ([], false) hal (by simp)
  unfold withP
  dsimp only
  split
  · exact h0
  · intro a ha
    rcases List.mem_append.1 ha with ha | ha
    · exact h0 a ha
    · rw [List.mem_singleton.1 ha]; exact ⟨hn, hv⟩
/-- Attributes in new memory. -/
def NewAttrs (al : List (ByteArray × ByteArray)) (w : World) (e : Ending) (w' : World) : Prop := ∃ A ac, e = .returned (.slice A al.length ac) ∧ IsAttrs w' w'.heap.size al A ac ∧ Below w.heap.size w w' ∧ ∀ p, A = some p → w.heap.size ≤ p.block ∧ p.block < w'.heap.size
theorem newAttrs_of {w w' : World} {m : List (ByteArray × ByteArray)} {v : Value} (h : WI w m v w') (hs : ∀ a ∈ m, a.1.size ≤ maxLen ∧ a.2.size ≤ maxLen) : NewAttrs m w (.returned v) w' := by
  have hr := h.row
  rcases hr.2 with ⟨e, he⟩ | ⟨g, cap, cur, e, hg, h6, h7⟩
  · have hm : m = [] := List.length_eq_zero_iff.1 he
    subst hm
    exact ⟨none, 0, by rw [e]; rfl, isAttrs_nil _ _, h.bel, fun p hp => by cases hp⟩
  · subst e
    exact ⟨_, _, rfl, isAttrs_row hr hs, h.bel, fun p hp => by injection hp with hp; subst hp; exact ⟨hg, (hr.lt g rfl).2⟩⟩
set_option maxHeartbeats 16000000 in
theorem with_calls (al : List (ByteArray × ByteArray)) (A : Option Addr) (ac : Nat) (n v : ByteArray) (w : World) (h : IsAttrs w w.heap.size al A ac) (hl : al.length ≤ 1000000) (hn : n.size ≤ maxLen) (hv : v.size ≤ maxLen) :
    Calls Tryz.prog 35 #[.slice A al.length ac, .string n, .string v] w (NewAttrs (withP al n v) w) := by
  obtain ⟨i0, hi0, hz0, hz1, hz2⟩ := info_parts attr_info
  have HA := Lib.hid h
  have HL := Lib.hid hl
  have HSZ := Lib.hid (withP_siz al n v h.2.2.1 hn hv)
  clear h hl hn hv
  go_enter Tryz.func35, Tryz.ntmps35
  go_wp2_with fail
  go_loopw [7, 8, 9] (fun t7 t8 t9 wr => ∃ (i : Nat) (m : List (ByteArray × ByteArray)) (d : Bool), Hid (WI w m t7 wr) ∧ t8 = .bool d ∧ t9 = .int .i64 (i : Int) ∧ Hid (i ≤ al.length) ∧ Hid (WQ al n v i m d)) (fun _ _ t9 _ => al.length - (intOf t9).toNat)
  case atStart => exact ⟨0, [], false, Lib.hid ⟨⟨rfl, .inl ⟨rfl, rfl⟩⟩, Below.refl _ _⟩, rfl, rfl, Lib.hid (Nat.zero_le _), Lib.hid ⟨rfl, Nat.zero_le _, fun _ => Nat.zero_le _⟩⟩
  case round =>
    obtain ⟨i, m, d, HI, rfl, rfl, HIL, HQ⟩ := hrel
    have hml : m.length ≤ 1000001 := by have := HQ.out.len; have := HIL.out; have := HL.out; omega
    by_cases hlt : i < al.length
    · have hz : (i : Int) < (al.length : Int) := by omega
      have HLT := Lib.hid hlt
      have hx : al[i]? = some (al[i]'hlt) := List.getElem?_eq_getElem _
      have hwi : IntKind.i64.wrap (i : Int) = (i : Int) := IntWalk.i64_in _ (by have := HL.out; omega)
      have hwn : IntKind.i64.wrap ((i : Int) + 1) = (i : Int) + 1 := IntWalk.i64_in _ (by have := HL.out; omega)
      generalize al[i]'hlt = x at *
      have HX := Lib.hid hx
      have HAW := Lib.hid (isAttrs_below HA.out HI.out.bel)
      obtain ⟨g, o, rfl, hg, x0, x1⟩ := isAttrs_at HAW.out hx
      clear hx hlt
      cases hge : geB x.1 n with
      | true =>
        have gq : Op.bytesLess x.1.toList n.toList = false := by unfold geB at hge; simpa using hge
        have HGE := Lib.hid hge
        clear hge
        cases d with
        | false =>
          have HN2 := Lib.hid (pair_cells wr n v 30)
          have HONE := Lib.hid (pair_one n v)
          have HROW := Lib.hid (HI.out.row' (.cells #[.string n, .string v] 30))
          have hbs := HI.out.bel.size
          go_wp2_with (at_builtin; go_loud (refine wpList_append_own_at _ rfl (.tmp 27) (.tmp 31) 25 rfl w.heap.size 30 i0 _ 2 32 Tryz.underlying25 hi0 hz0 hz1 hz2 rfl (by decide) _ _ _ rfl HROW.out ⟨wr.heap.size, 0, none⟩ 1 1 [.string n, .string v] rfl rfl HN2.out HONE.out (by unfold maxLen; omega) (by omega) (by simp; omega) ?_))
          intro v' w8 g1 g2 _ g3
          have HI8 := Lib.hid (WI.push (x := (n, v)) HI.out g1 g2)
          clear g1 g2 g3 HN2 HONE HROW hbs
          have hml2 : (m ++ [(n, v)]).length ≤ 1000002 := by simp; omega
          have HQa := Lib.hid (fun c => HQ.out.step1 HX.out HGE.out c)
          have HQb := Lib.hid (fun c => HQ.out.step2 HX.out HGE.out c)
          generalize m ++ [(n, v)] = m1 at *
          clear x0 x1
          have HAX := Lib.hid (isAttrs_below HA.out HI8.out.bel)
          obtain ⟨g', o', eg', hg', y0, y1⟩ := isAttrs_at HAX.out HX.out
          injection eg' with eg'
          injection eg' with eg1 eg2
          subst eg1; subst eg2
          clear HAX hg'
          by_cases c : x.1 = n
          · have q1 : (x.1.toList == n.toList) = true := by rw [Sr.str_eq]; simp [c]
            have q2 : (x.1.toList != n.toList) = false := by rw [bne, q1]; rfl
            have HQ2 := Lib.hid (HQa.out c)
            clear c
            go_wp2_with fail
            go_roundw
            case rel => exact ⟨i + 1, m1, true, HI8, rfl, by go_num, Lib.hid HLT.out, HQ2⟩
            case measure => simp [intOf]; have := HLT.out; omega
          · have q1 : (x.1.toList == n.toList) = false := by rw [Sr.str_eq]; simp [c]
            have q2 : (x.1.toList != n.toList) = true := by rw [bne, q1]; rfl
            have HQ2 := Lib.hid (HQb.out c)
            clear c
            have HN2 := Lib.hid (pair_cells w8 x.1 x.2 30)
            have HONE := Lib.hid (pair_one x.1 x.2)
            have HROW := Lib.hid (HI8.out.row' (.cells #[.string x.1, .string x.2] 30))
            have hbs := HI8.out.bel.size
            go_wp2_with (at_builtin; go_loud (refine wpList_append_own_at _ rfl (.tmp 40) (.tmp 45) 25 rfl w.heap.size 30 i0 _ 2 32 Tryz.underlying25 hi0 hz0 hz1 hz2 rfl (by decide) _ _ _ rfl HROW.out ⟨w8.heap.size, 0, none⟩ 1 1 [.string x.1, .string x.2] rfl rfl HN2.out HONE.out (by unfold maxLen; omega) (by omega) (by simp; omega) ?_))
            intro v' w9 g1 g2 _ g3
            have HI9 := Lib.hid (WI.push (x := x) HI8.out g1 g2)
            clear g1 g2 g3 HN2 HONE HROW hbs
            go_wp2_with fail
            go_roundw
            case rel => exact ⟨i + 1, m1 ++ [x], true, HI9, rfl, by go_num, Lib.hid HLT.out, HQ2⟩
            case measure => simp [intOf]; have := HLT.out; omega
        | true =>
          by_cases c : x.1 = n
          · have q1 : (x.1.toList == n.toList) = true := by rw [Sr.str_eq]; simp [c]
            have q2 : (x.1.toList != n.toList) = false := by rw [bne, q1]; rfl
            have HQ2 := Lib.hid (HQ.out.step3 HX.out c)
            clear c
            go_wp2_with fail
            go_roundw
            case rel => exact ⟨i + 1, m, true, HI, rfl, by go_num, Lib.hid HLT.out, HQ2⟩
            case measure => simp [intOf]; have := HLT.out; omega
          · have q1 : (x.1.toList == n.toList) = false := by rw [Sr.str_eq]; simp [c]
            have q2 : (x.1.toList != n.toList) = true := by rw [bne, q1]; rfl
            have HQ2 := Lib.hid (HQ.out.step4 HX.out c)
            clear c
            have HN2 := Lib.hid (pair_cells wr x.1 x.2 30)
            have HONE := Lib.hid (pair_one x.1 x.2)
            have HROW := Lib.hid (HI.out.row' (.cells #[.string x.1, .string x.2] 30))
            have hbs := HI.out.bel.size
            go_wp2_with (at_builtin; go_loud (refine wpList_append_own_at _ rfl (.tmp 40) (.tmp 45) 25 rfl w.heap.size 30 i0 _ 2 32 Tryz.underlying25 hi0 hz0 hz1 hz2 rfl (by decide) _ _ _ rfl HROW.out ⟨wr.heap.size, 0, none⟩ 1 1 [.string x.1, .string x.2] rfl rfl HN2.out HONE.out (by unfold maxLen; omega) (by omega) (by simp; omega) ?_))
            intro v' w9 g1 g2 _ g3
            have HI9 := Lib.hid (WI.push (x := x) HI.out g1 g2)
            clear g1 g2 g3 HN2 HONE HROW hbs
            go_wp2_with fail
            go_roundw
            case rel => exact ⟨i + 1, m ++ [x], true, HI9, rfl, by go_num, Lib.hid HLT.out, HQ2⟩
            case measure => simp [intOf]; have := HLT.out; omega
      | false =>
        have gq : Op.bytesLess x.1.toList n.toList = true := by unfold geB at hge; simpa using hge
        have HGE := Lib.hid hge
        clear hge
        cases d with
        | false =>
          have c : ¬ x.1 = n := fun e => by have := HGE.out; rw [e] at this; exact absurd this (by rw [geB_refl]; decide)
          have q1 : (x.1.toList == n.toList) = false := by rw [Sr.str_eq]; simp [c]
          have q2 : (x.1.toList != n.toList) = true := by rw [bne, q1]; rfl
          have HQ2 := Lib.hid (HQ.out.step5 HX.out HGE.out c)
          clear c
          have HN2 := Lib.hid (pair_cells wr x.1 x.2 30)
          have HONE := Lib.hid (pair_one x.1 x.2)
          have HROW := Lib.hid (HI.out.row' (.cells #[.string x.1, .string x.2] 30))
          have hbs := HI.out.bel.size
          go_wp2_with (at_builtin; go_loud (refine wpList_append_own_at _ rfl (.tmp 40) (.tmp 45) 25 rfl w.heap.size 30 i0 _ 2 32 Tryz.underlying25 hi0 hz0 hz1 hz2 rfl (by decide) _ _ _ rfl HROW.out ⟨wr.heap.size, 0, none⟩ 1 1 [.string x.1, .string x.2] rfl rfl HN2.out HONE.out (by unfold maxLen; omega) (by omega) (by simp; omega) ?_))
          intro v' w9 g1 g2 _ g3
          have HI9 := Lib.hid (WI.push (x := x) HI.out g1 g2)
          clear g1 g2 g3 HN2 HONE HROW hbs
          go_wp2_with fail
          go_roundw
          case rel => exact ⟨i + 1, m ++ [x], false, HI9, rfl, by go_num, Lib.hid HLT.out, HQ2⟩
          case measure => simp [intOf]; have := HLT.out; omega
        | true =>
          have c : ¬ x.1 = n := fun e => by have := HGE.out; rw [e] at this; exact absurd this (by rw [geB_refl]; decide)
          have q1 : (x.1.toList == n.toList) = false := by rw [Sr.str_eq]; simp [c]
          have q2 : (x.1.toList != n.toList) = true := by rw [bne, q1]; rfl
          have HQ2 := Lib.hid (HQ.out.step4 HX.out c)
          clear c
          have HN2 := Lib.hid (pair_cells wr x.1 x.2 30)
          have HONE := Lib.hid (pair_one x.1 x.2)
          have HROW := Lib.hid (HI.out.row' (.cells #[.string x.1, .string x.2] 30))
          have hbs := HI.out.bel.size
          go_wp2_with (at_builtin; go_loud (refine wpList_append_own_at _ rfl (.tmp 40) (.tmp 45) 25 rfl w.heap.size 30 i0 _ 2 32 Tryz.underlying25 hi0 hz0 hz1 hz2 rfl (by decide) _ _ _ rfl HROW.out ⟨wr.heap.size, 0, none⟩ 1 1 [.string x.1, .string x.2] rfl rfl HN2.out HONE.out (by unfold maxLen; omega) (by omega) (by simp; omega) ?_))
          intro v' w9 g1 g2 _ g3
          have HI9 := Lib.hid (WI.push (x := x) HI.out g1 g2)
          clear g1 g2 g3 HN2 HONE HROW hbs
          go_wp2_with fail
          go_roundw
          case rel => exact ⟨i + 1, m ++ [x], true, HI9, rfl, by go_num, Lib.hid HLT.out, HQ2⟩
          case measure => simp [intOf]; have := HLT.out; omega
    · have hz : ¬ (i : Int) < (al.length : Int) := by omega
      obtain rfl : i = al.length := by have := HIL.out; omega
      have HV := Lib.hid HQ.out.end_
      clear hlt
      cases d with
      | true =>
        rw [if_pos rfl] at HV
        have HSM := HSZ
        rw [HV.out] at HSM
        go_wp2_with fail
        go_ret
        rw [HV.out]
        exact newAttrs_of HI.out HSM.out
      | false =>
        rw [if_neg (by decide)] at HV
        have HSM := HSZ
        rw [HV.out] at HSM
        have HN2 := Lib.hid (pair_cells wr n v 30)
        have HONE := Lib.hid (pair_one n v)
        have HROW := Lib.hid (HI.out.row' (.cells #[.string n, .string v] 30))
        have hbs := HI.out.bel.size
        go_wp2_with (at_builtin; go_loud (refine wpList_append_own_at _ rfl (.tmp 49) (.tmp 53) 25 rfl w.heap.size 30 i0 _ 2 32 Tryz.underlying25 hi0 hz0 hz1 hz2 rfl (by decide) _ _ _ rfl HROW.out ⟨wr.heap.size, 0, none⟩ 1 1 [.string n, .string v] rfl rfl HN2.out HONE.out (by unfold maxLen; omega) (by omega) (by simp; omega) ?_))
        intro v' w8 g1 g2 _ g3
        have HI8 := Lib.hid (WI.push (x := (n, v)) HI.out g1 g2)
        clear g1 g2 g3 HN2 HONE HROW hbs
        go_wp2_with fail
        go_ret
        rw [HV.out]
        exact newAttrs_of HI8.out HSM.out
end Go.Proofs.YtbdgoffbkenofaaGreat.Rn
