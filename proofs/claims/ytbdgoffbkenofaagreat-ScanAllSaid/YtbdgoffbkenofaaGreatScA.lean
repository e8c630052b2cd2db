/- scan: plain: all pieces of a source. -/
import Derived.Test.YtbdgoffbkenofaaGreatTkPb
import Derived.RangeFuncNested
import Derived.RangeFuncBound
import Derived.RangeFuncCalls
import Derived.RangeFuncLeaves
import Derived.RangeFuncFrom
import Derived.Shelf.Abstract
import Derived.Shelf.RegionOpen
import Derived.WalkKit
import Derived.OwnWalkIn
import Derived.TacticsInMore
import Derived.LoopNIn
import Derived.LoopIn
import Derived.ControlIn
import Derived.Test.YtbdgoffbkenofaaGreatTkX
import Derived.Test.YtbdgoffbkenofaaGreatTkG
import Derived.Maps.AppendAt
import Derived.Maps.OwnIn
import Derived.Lib.ValidLaws
import Derived.Lib.MapLaws
import Derived.Lib.RuneBytes
import Derived.Laws.Runes
import Derived.Test.YtbdgoffbkenofaaGreatLays2
import Derived.BigCall
import Derived.Lib.Hide
import Derived.BigQuiet
import Derived.Outline
import Derived.Deep.QuietTactic
namespace Go.Proofs.YtbdgoffbkenofaaGreat.Sc
open Go Go.RowKit Go.Proofs.YtbdgoffbkenofaaGreat.Tk
set_option linter.unusedVariables false

def tokE : Tok := ⟨6, ⟨#[]⟩, ⟨#[]⟩, [], false⟩
/-- The raw element behind a piece. -/
def rawNx (raw : ByteArray) (t : Tok) : ByteArray :=
  if t.kind = 1 ∧ rawP t.name ≠ 0 then t.name else if t.kind = 1 ∨ (t.kind = 2 ∧ t.name = raw) then ⟨#[]⟩ else raw
def pcsF (s : ByteArray) : Nat → Nat → ByteArray → List Tok
  | 0, _, _ => [tokE]
  | n + 1, a, raw => if s.size ≤ a then [tokE]
    else if (nextP s a raw).2.2 = true then (nextP s a raw).1 :: pcsF s n (nextP s a raw).2.1 (rawNx raw (nextP s a raw).1) else pcsF s n (nextP s a raw).2.1 raw
theorem pcsF_enough (s : ByteArray) : ∀ (n m a : Nat) (raw : ByteArray), s.size - a ≤ n → s.size - a ≤ m → pcsF s n a raw = pcsF s m a raw
  | 0, 0, a, raw, _, _ => rfl
  | 0, m + 1, a, raw, h, _ => by unfold pcsF; rw [if_pos (by omega)]
  | n + 1, 0, a, raw, _, h => by unfold pcsF; rw [if_pos (by omega)]
  | n + 1, m + 1, a, raw, h1, h2 => by
    unfold pcsF
    by_cases h : s.size ≤ a
    · rw [if_pos h, if_pos h]
    · rw [if_neg h, if_neg h]
      have g := next_goes s raw a (by omega)
      have g1 := g.gt
      rw [pcsF_enough s n m _ _ (by omega) (by omega), pcsF_enough s n m _ raw (by omega) (by omega)]
/-- The pieces from a place on, in an element. -/
def pcsP (s : ByteArray) (a : Nat) (raw : ByteArray) : List Tok := pcsF s (s.size - a) a raw
theorem pcsP_end {s : ByteArray} {a : Nat} (raw : ByteArray) (h : s.size ≤ a) : pcsP s a raw = [tokE] := by
  unfold pcsP; rw [show s.size - a = 0 by omega]; rfl
theorem pcsP_yes {s raw : ByteArray} {a k : Nat} {o : Tok} (h : a < s.size) (hn : nextP s a raw = (o, k, true)) : pcsP s a raw = o :: pcsP s k (rawNx raw o) := by
  have g := next_goes s raw a h
  rw [hn] at g
  have g1 : a < k := g.gt
  unfold pcsP
  conv => lhs; rw [show s.size - a = (s.size - a - 1) + 1 by omega]; unfold pcsF
  rw [if_neg (by omega), hn, if_pos rfl]
  rw [pcsF_enough s (s.size - a - 1) (s.size - k) k _ (by omega) (by omega)]
theorem pcsP_no {s raw : ByteArray} {a k : Nat} {o : Tok} (h : a < s.size) (hn : nextP s a raw = (o, k, false)) : pcsP s a raw = pcsP s k raw := by
  have g := next_goes s raw a h
  rw [hn] at g
  have g1 : a < k := g.gt
  unfold pcsP
  conv => lhs; rw [show s.size - a = (s.size - a - 1) + 1 by omega]; unfold pcsF
  rw [if_neg (by omega), hn, if_neg Bool.false_ne_true]
  rw [pcsF_enough s (s.size - a - 1) (s.size - k) k _ (by omega) (by omega)]
theorem next_name (s raw : ByteArray) (a : Nat) : (nextP s a raw).1.name.size ≤ s.size := by
  have ex : ∀ x y, (s.extract x y).size ≤ s.size := fun x y => by rw [ByteArray.size_extract]; omega
  have tg : ∀ b st, (tagP s b st).1.name.size ≤ s.size := fun b st => by
    unfold tagP
    dsimp only
    split
    · exact Nat.zero_le _
    · show (namedP _).size ≤ _
      rw [namedP_size]; exact ex _ _
  have cm : ∀ b, (commentP s b).1.name.size ≤ s.size := fun b => by
    unfold commentP
    dsimp only
    split
    · exact Nat.zero_le _
    · split
      · exact Nat.zero_le _
      · split
        · exact Nat.zero_le _
        · exact Nat.zero_le _
  have dt : ∀ b, (doctypeP s b).1.name.size ≤ s.size := fun b => by
    show (lowS _).size ≤ _
    rw [lowS_size]; exact ex _ _
  have bg : ∀ b, (bogusP s b).1.name.size ≤ s.size := fun b => Nat.zero_le _
  unfold nextP
  dsimp only
  split
  · exact Nat.zero_le _
  · split
    · exact Nat.zero_le _
    · split
      · exact Nat.zero_le _
      · split
        · exact tg _ _
        · split
          · exact tg _ _
          · split
            · exact cm _
            · split
              · exact dt _
              · split
                · exact Nat.zero_le _
                · split
                  · exact bg _
                  · split
                    · exact bg _
                    · exact Nat.zero_le _
theorem rawNx_size {s raw : ByteArray} {t : Tok} (h : t.name.size ≤ s.size) (hr : raw.size ≤ s.size) : (rawNx raw t).size ≤ s.size := by
  unfold rawNx
  split
  · exact h
  · split
    · exact Nat.zero_le _
    · exact hr
end Go.Proofs.YtbdgoffbkenofaaGreat.Sc
namespace Go.Proofs.YtbdgoffbkenofaaGreat.Sc
open Go Go.RowKit Go.Shelf Go.Proofs.YtbdgoffbkenofaaGreat.Tk Go.Proofs.YtbdgoffbkenofaaGreat.Tr
attribute [local go_sem] Oper.semAt_some
set_option linter.unusedVariables false
set_option maxRecDepth 100000

/-- A piece with its attributes' place. -/
abbrev Itm := Tok × Option Addr × Nat
def tokW (x : Itm) : Value := .agg #[.int .i64 x.1.kind, .string x.1.name, .string x.1.text, .slice x.2.1 x.1.attrs.length x.2.2, .bool x.1.raw]
/-- A loop's body that takes pieces: it goes on, but behind the last one. -/
structure Yt (l N sb Bw : Nat) (J Jx : List Itm → World → Prop) : Prop where
  yld : ∀ m pre (x : Itm) w, J pre w → pre.length < N → IsAttrs w w.heap.size x.1.attrs x.2.1 x.2.2 → (∃ W0, J pre W0 ∧ Below W0.heap.size W0 w ∧ Bw ≤ W0.heap.size ∧ ∀ p, x.2.1 = some p → W0.heap.size ≤ p.block) → YieldAt Fence.wide m Tryz.prog l #[tokW x] w fun e w' =>
    (x.1.kind ≠ 6 ∧ e = .returned (.bool true) ∧ J (pre ++ [x]) w' ∧ w.heap.size ≤ w'.heap.size ∧ w'.heap[sb]? = w.heap[sb]?) ∨ (x.1.kind = 6 ∧ e = .returned (.bool false) ∧ Jx (pre ++ [x]) w')
  abide : AbidesFrom Bw J
section
variable {l N sb Bw : Nat} {J Jx : List Itm → World → Prop} {pre : List Itm} {w w' : World}
theorem Yt.below (Y : Yt l N sb Bw J Jx) (h : J pre w) (hb : Below w.heap.size w w') : J pre w' :=
  Y.abide pre w w' none h ⟨hb.os, hb.tape, hb.output, hb.size, fun k hk _ => hb.block k hk⟩ (fun r e => by cases e)
end
/-- What is known at the loop's head. -/
structure ItR (s : ByteArray) (sb Bw : Nat) (J : List Itm → World → Prop) (p : Nat) (r : ByteArray) (pre : List Itm) (wr : World) : Prop where
  ps : p ≤ s.size
  rs : r.size ≤ s.size
  len : pre.length ≤ p
  eq : pre.map Prod.fst ++ pcsP s p r = pcsP s 0 ⟨#[]⟩
  j : J pre wr
  box : wr.heap[sb]? = some (.cells #[.string s] 9 (0, 0))
  sz : Bw ≤ wr.heap.size
theorem ItR.step {s : ByteArray} {sb Bw : Nat} {J : List Itm → World → Prop} {p : Nat} {r : ByteArray} {pre : List Itm} {wr : World} (h : ItR s sb Bw J p r pre wr) {k : Nat} {o : Tok} (hp : p < s.size) (hn : nextP s p r = (o, k, true)) {A : Option Addr} {ac : Nat} {r' : ByteArray} (hr : rawNx r o = r') {w' : World}
    (hj : J (pre ++ [(o, A, ac)]) w') (hz : wr.heap.size ≤ w'.heap.size) (hb : w'.heap[sb]? = wr.heap[sb]?) : ItR s sb Bw J k r' (pre ++ [(o, A, ac)]) w' := by
  have g := next_goes s r p hp
  rw [hn] at g
  have g1 : p < k := g.gt
  have g2 : k ≤ s.size := g.le
  have nm := next_name s r p
  rw [hn] at nm
  subst hr
  refine ⟨g2, rawNx_size nm h.rs, by have := h.len; simp; omega, ?_, hj, hb.trans h.box, Nat.le_trans h.sz hz⟩
  rw [List.map_append, List.append_assoc, ← h.eq, pcsP_yes hp hn]; rfl
theorem ItR.skip {s : ByteArray} {sb Bw : Nat} {J : List Itm → World → Prop} {p : Nat} {r : ByteArray} {pre : List Itm} {wr : World} (h : ItR s sb Bw J p r pre wr) {k : Nat} {o : Tok} (hp : p < s.size) (hn : nextP s p r = (o, k, false)) {w' : World}
    (hj : J pre w') (hz : wr.heap.size ≤ w'.heap.size) (hb : w'.heap[sb]? = wr.heap[sb]?) : ItR s sb Bw J k r pre w' := by
  have g := next_goes s r p hp
  rw [hn] at g
  have g1 : p < k := g.gt
  have g2 : k ≤ s.size := g.le
  exact ⟨g2, h.rs, by have := h.len; omega, by rw [← h.eq, pcsP_no hp hn], hj, hb.trans h.box, Nat.le_trans h.sz hz⟩
theorem nx_as (s raw : ByteArray) (hs : s.size ≤ 900000) (hr : raw.size ≤ 900000) (a : Nat) (ha : a ≤ 1000000) (o : Tok) (k : Nat) (ok : Bool) (h : nextP s a raw = (o, k, ok)) (W : World) :
    Calls Tryz.prog 37 #[.string s, .int .i64 (a : Int), .string raw] W fun e w' => ∃ A ac, e = .returned (.tuple #[.agg #[.int .i64 o.kind, .string o.name, .string o.text, .slice A o.attrs.length ac, .bool o.raw], .int .i64 (k : Int), .bool ok]) ∧ IsAttrs w' w'.heap.size o.attrs A ac ∧ Below W.heap.size W w' ∧ ∀ p, A = some p → W.heap.size ≤ p.block := by
  have := next_calls s raw hs hr a ha W
  rw [h] at this
  exact this
set_option maxHeartbeats 8000000 in
theorem pieces_run (s : ByteArray) (hs : s.size ≤ 100000) (l sb Bw : Nat) (J Jx : List Itm → World → Prop) (Y : Yt l (s.size + 1) sb Bw J Jx) (W : World) (hbox : W.heap[sb]? = some (.cells #[.string s] 9 (0, 0))) (hB : Bw ≤ W.heap.size) (h0 : J [] W) :
    Calls Tryz.prog 36 #[.func (.yield l) #[] #[], .pointer (some ⟨sb, 0, none⟩)] W fun e W' => (∃ v, e = .returned v) ∧ ∃ xs : List Itm, xs.map Prod.fst = pcsP s 0 ⟨#[]⟩ ∧ Jx xs W' := by
  have HR0 : Hid (ItR s sb Bw J 0 ⟨#[]⟩ [] W) := Lib.hid ⟨Nat.zero_le _, Nat.zero_le _, Nat.le_refl _, rfl, h0, hbox, hB⟩
  have HS := Lib.hid hs
  clear hbox hB h0 hs
  go_enter Tryz.func36, Tryz.ntmps36
  go_wp2_with fail
  go_loopw [3, 4] (fun t3 t4 wr => ∃ (p : Nat) (r : ByteArray) (pre : List Itm), t3 = .int .i64 (p : Int) ∧ t4 = .string r ∧ Hid (ItR s sb Bw J p r pre wr)) (fun t3 _ _ => s.size - (intOf t3).toNat)
  case atStart => exact ⟨0, ⟨#[]⟩, [], rfl, rfl, HR0⟩
  case round =>
    clear HR0
    obtain ⟨p, r, pre, rfl, rfl, HR⟩ := hrel
    rcases hn : nextP s p r with ⟨o, k, ok⟩
    have HN := Lib.hid (nx_as s r (by have := HS.out; omega) (by have := HS.out; have := HR.out.rs; omega) p (by have := HS.out; have := HR.out.ps; omega) o k ok hn)
    have c0 : wr.cell? ⟨sb, 0, none⟩ = some (.string s) := by rw [block_cell HR.out.box]; rfl
    have HLN : Hid (pre.length < s.size + 1) := Lib.hid (by have := HR.out.len; have := HR.out.ps; omega)
    by_cases hp : s.size ≤ p
    · have e := next_end s r p hp
      rw [hn] at e
      injection e with e1 e2
      injection e2 with e2 e3
      have eo : o = tokE := e1
      clear e1
      subst e2; subst e3
      have HEND := Lib.hid (pcsP_end (s := s) r hp)
      have HO := Lib.hid eo
      have q1 : (o.kind == 1) = false := by rw [eo]; rfl
      have q2 : (o.kind == 2) = false := by rw [eo]; rfl
      have HK6 := Lib.hid (show o.kind = 6 by rw [eo]; rfl)
      clear hn hp eo
      go_wp2_with fail
      refine (HN.out _).mono ?_
      rintro e w1 ⟨A, ac, rfl, hat, hb, hfr⟩
      have hb2 := hb.trans ((Below.refl _ w1).alloc hb.size (.cells #[.int .i64 o.kind, .string o.name, .string o.text, .slice A o.attrs.length ac, .bool o.raw] 27))
      have hk := alloc_new w1 (.cells #[.int .i64 o.kind, .string o.name, .string o.text, .slice A o.attrs.length ac, .bool o.raw] 27)
      have hat2 := isAttrs_below hat ((Below.refl _ w1).alloc (Nat.le_refl _) (.cells #[.int .i64 o.kind, .string o.name, .string o.text, .slice A o.attrs.length ac, .bool o.raw] 27))
      have HJ2 := Lib.hid (Y.below HR.out.j hb2)
      have HBX := Lib.hid (hb2.block _ (lt_of_block HR.out.box))
      have HSZ := Lib.hid hb2.size
      have HAT := Lib.hid hat2
      have HFR := Lib.hid (show ∃ W0, J pre W0 ∧ Below W0.heap.size W0 _ ∧ Bw ≤ W0.heap.size ∧ ∀ p, A = some p → W0.heap.size ≤ p.block from ⟨wr, HR.out.j, hb2, HR.out.sz, hfr⟩)
      obtain ⟨x0, x1, x2, x3, x4⟩ := tbox5 hk
      clear hat hb hb2 hfr hat2 hk
      go_upto_region 9 with (fail)
      refine (wpIn_wide (n := 3)).1 ?_
      obtain ⟨fn, tmps, assign, body, hy, hyR⟩ := Y.yld 2 pre (o, A, ac) _ HJ2.out HLN.out HAT.out HFR.out
      unfold tokW at hy
      dsimp only at hy hyR
      gi_wp2
      refine hyR.mono ?_
      rintro e w2 (⟨hk6, rfl, hj2, hz2, hb2⟩ | ⟨hk6, rfl, hj2⟩)
      · exact absurd HK6.out hk6
      · have HX : Hid ((pre ++ [(o, A, ac)]).map Prod.fst = pcsP s 0 ⟨#[]⟩) := Lib.hid (by rw [← HR.out.eq, HEND.out, List.map_append]; rw [HO.out]; rfl)
        have HJX := Lib.hid hj2
        clear hj2
        gi_wp2
        go_wp2_with fail
        refine bodyPost_ret (results_none rfl _ _ _) rfl ?_
        exact ⟨⟨_, rfl⟩, _, HX.out, HJX.out⟩
    have hp' : p < s.size := by omega
    have HP := Lib.hid hp'
    have HNX := Lib.hid hn
    have g := next_goes s r p hp'
    rw [hn] at g
    have HGT := Lib.hid (show p < k ∧ k ≤ s.size from ⟨g.gt, g.le⟩)
    cases ok with
    | false =>
      clear hn hp hp' g
      go_wp2_with fail
      refine (HN.out _).mono ?_
      rintro e w1 ⟨A, ac, rfl, hat, hb, hfr⟩
      have hb2 := hb.trans ((Below.refl _ w1).alloc hb.size (.cells #[.int .i64 o.kind, .string o.name, .string o.text, .slice A o.attrs.length ac, .bool o.raw] 27))
      have hk := alloc_new w1 (.cells #[.int .i64 o.kind, .string o.name, .string o.text, .slice A o.attrs.length ac, .bool o.raw] 27)
      have hat2 := isAttrs_below hat ((Below.refl _ w1).alloc (Nat.le_refl _) (.cells #[.int .i64 o.kind, .string o.name, .string o.text, .slice A o.attrs.length ac, .bool o.raw] 27))
      have HJ2 := Lib.hid (Y.below HR.out.j hb2)
      have HBX := Lib.hid (hb2.block _ (lt_of_block HR.out.box))
      have HSZ := Lib.hid hb2.size
      have HAT := Lib.hid hat2
      have HFR := Lib.hid (show ∃ W0, J pre W0 ∧ Below W0.heap.size W0 _ ∧ Bw ≤ W0.heap.size ∧ ∀ p, A = some p → W0.heap.size ≤ p.block from ⟨wr, HR.out.j, hb2, HR.out.sz, hfr⟩)
      obtain ⟨x0, x1, x2, x3, x4⟩ := tbox5 hk
      clear hat hb hb2 hfr hat2 hk
      have HR2 := Lib.hid (HR.out.skip HP.out HNX.out HJ2.out HSZ.out HBX.out)
      go_wp2_with fail
      go_roundw
      case rel => exact ⟨k, r, pre, rfl, rfl, HR2⟩
      case measure => simp [intOf]; have := HGT.out; omega
    | true =>
      have HK6 := Lib.hid (show o.kind ≠ 6 from by have : o.kind ≤ 5 := (g.yes rfl).2; omega)
      have HRC := Lib.hid (raw_calls o.name)
      clear hn hp hp' g
      by_cases k1 : o.kind = 1
      · have q1 : (o.kind == 1) = true := by rw [k1]; rfl
        by_cases k2 : rawP o.name = 0
        · have HV := Lib.hid (show rawNx r o = ⟨#[]⟩ by unfold rawNx; rw [if_neg (fun x => x.2 k2), if_pos (.inl k1)])
          have q2 : (rawP o.name != 0) = false := by rw [k2]; rfl
          clear k1 k2
          go_wp2_with fail
          refine (HN.out _).mono ?_
          rintro e w1 ⟨A, ac, rfl, hat, hb, hfr⟩
          have hb2 := hb.trans ((Below.refl _ w1).alloc hb.size (.cells #[.int .i64 o.kind, .string o.name, .string o.text, .slice A o.attrs.length ac, .bool o.raw] 27))
          have hk := alloc_new w1 (.cells #[.int .i64 o.kind, .string o.name, .string o.text, .slice A o.attrs.length ac, .bool o.raw] 27)
          have hat2 := isAttrs_below hat ((Below.refl _ w1).alloc (Nat.le_refl _) (.cells #[.int .i64 o.kind, .string o.name, .string o.text, .slice A o.attrs.length ac, .bool o.raw] 27))
          have HJ2 := Lib.hid (Y.below HR.out.j hb2)
          have HBX := Lib.hid (hb2.block _ (lt_of_block HR.out.box))
          have HSZ := Lib.hid hb2.size
          have HAT := Lib.hid hat2
          have HFR := Lib.hid (show ∃ W0, J pre W0 ∧ Below W0.heap.size W0 _ ∧ Bw ≤ W0.heap.size ∧ ∀ p, A = some p → W0.heap.size ≤ p.block from ⟨wr, HR.out.j, hb2, HR.out.sz, hfr⟩)
          obtain ⟨x0, x1, x2, x3, x4⟩ := tbox5 hk
          clear hat hb hb2 hfr hat2 hk
          go_wp2_with fail
          refine (HRC.out _).mono ?_
          rintro e' wz ⟨rfl, rfl⟩
          go_upto_region 9 with (fail)
          refine (wpIn_wide (n := 3)).1 ?_
          obtain ⟨fn, tmps, assign, body, hy, hyR⟩ := Y.yld 2 pre (o, A, ac) _ HJ2.out HLN.out HAT.out HFR.out
          unfold tokW at hy
          dsimp only at hy hyR
          gi_wp2
          refine hyR.mono ?_
          rintro e w2 (⟨hk6, rfl, hj2, hz2, hb2⟩ | ⟨hk6, rfl, hj2⟩)
          · have HR2 := Lib.hid (HR.out.step HP.out HNX.out (HV.out) hj2 (Nat.le_trans HSZ.out hz2) (hb2.trans HBX.out))
            clear hj2 hz2 hb2
            gi_wp2
            go_wp2_with fail
            go_roundw
            case rel => exact ⟨k, _, pre ++ [(o, A, ac)], rfl, rfl, HR2⟩
            case measure => simp [intOf]; have := HGT.out; omega
          · exact absurd hk6 HK6.out
        · have HV := Lib.hid (show rawNx r o = o.name by unfold rawNx; rw [if_pos ⟨k1, k2⟩])
          have q2 : (rawP o.name != 0) = true := by rw [bne_iff_ne]; exact k2
          clear k1 k2
          go_wp2_with fail
          refine (HN.out _).mono ?_
          rintro e w1 ⟨A, ac, rfl, hat, hb, hfr⟩
          have hb2 := hb.trans ((Below.refl _ w1).alloc hb.size (.cells #[.int .i64 o.kind, .string o.name, .string o.text, .slice A o.attrs.length ac, .bool o.raw] 27))
          have hk := alloc_new w1 (.cells #[.int .i64 o.kind, .string o.name, .string o.text, .slice A o.attrs.length ac, .bool o.raw] 27)
          have hat2 := isAttrs_below hat ((Below.refl _ w1).alloc (Nat.le_refl _) (.cells #[.int .i64 o.kind, .string o.name, .string o.text, .slice A o.attrs.length ac, .bool o.raw] 27))
          have HJ2 := Lib.hid (Y.below HR.out.j hb2)
          have HBX := Lib.hid (hb2.block _ (lt_of_block HR.out.box))
          have HSZ := Lib.hid hb2.size
          have HAT := Lib.hid hat2
          have HFR := Lib.hid (show ∃ W0, J pre W0 ∧ Below W0.heap.size W0 _ ∧ Bw ≤ W0.heap.size ∧ ∀ p, A = some p → W0.heap.size ≤ p.block from ⟨wr, HR.out.j, hb2, HR.out.sz, hfr⟩)
          obtain ⟨x0, x1, x2, x3, x4⟩ := tbox5 hk
          clear hat hb hb2 hfr hat2 hk
          go_wp2_with fail
          refine (HRC.out _).mono ?_
          rintro e' wz ⟨rfl, rfl⟩
          go_upto_region 9 with (fail)
          refine (wpIn_wide (n := 3)).1 ?_
          obtain ⟨fn, tmps, assign, body, hy, hyR⟩ := Y.yld 2 pre (o, A, ac) _ HJ2.out HLN.out HAT.out HFR.out
          unfold tokW at hy
          dsimp only at hy hyR
          gi_wp2
          refine hyR.mono ?_
          rintro e w2 (⟨hk6, rfl, hj2, hz2, hb2⟩ | ⟨hk6, rfl, hj2⟩)
          · have HR2 := Lib.hid (HR.out.step HP.out HNX.out (HV.out) hj2 (Nat.le_trans HSZ.out hz2) (hb2.trans HBX.out))
            clear hj2 hz2 hb2
            gi_wp2
            go_wp2_with fail
            go_roundw
            case rel => exact ⟨k, _, pre ++ [(o, A, ac)], rfl, rfl, HR2⟩
            case measure => simp [intOf]; have := HGT.out; omega
          · exact absurd hk6 HK6.out
      · have q1 : (o.kind == 1) = false := by rw [beq_eq_false_iff_ne]; exact k1
        by_cases k2 : o.kind = 2
        · have q2 : (o.kind == 2) = true := by rw [k2]; rfl
          by_cases k3 : o.name = r
          · have HV := Lib.hid (show rawNx r o = ⟨#[]⟩ by unfold rawNx; rw [if_neg (fun x => k1 x.1), if_pos (.inr ⟨k2, k3⟩)])
            have q3 := (Sr.str_eq o.name r).trans (decide_eq_true k3)
            clear k1 k2 k3
            go_wp2_with fail
            refine (HN.out _).mono ?_
            rintro e w1 ⟨A, ac, rfl, hat, hb, hfr⟩
            have hb2 := hb.trans ((Below.refl _ w1).alloc hb.size (.cells #[.int .i64 o.kind, .string o.name, .string o.text, .slice A o.attrs.length ac, .bool o.raw] 27))
            have hk := alloc_new w1 (.cells #[.int .i64 o.kind, .string o.name, .string o.text, .slice A o.attrs.length ac, .bool o.raw] 27)
            have hat2 := isAttrs_below hat ((Below.refl _ w1).alloc (Nat.le_refl _) (.cells #[.int .i64 o.kind, .string o.name, .string o.text, .slice A o.attrs.length ac, .bool o.raw] 27))
            have HJ2 := Lib.hid (Y.below HR.out.j hb2)
            have HBX := Lib.hid (hb2.block _ (lt_of_block HR.out.box))
            have HSZ := Lib.hid hb2.size
            have HAT := Lib.hid hat2
            have HFR := Lib.hid (show ∃ W0, J pre W0 ∧ Below W0.heap.size W0 _ ∧ Bw ≤ W0.heap.size ∧ ∀ p, A = some p → W0.heap.size ≤ p.block from ⟨wr, HR.out.j, hb2, HR.out.sz, hfr⟩)
            obtain ⟨x0, x1, x2, x3, x4⟩ := tbox5 hk
            clear hat hb hb2 hfr hat2 hk
            go_upto_region 9 with (fail)
            refine (wpIn_wide (n := 3)).1 ?_
            obtain ⟨fn, tmps, assign, body, hy, hyR⟩ := Y.yld 2 pre (o, A, ac) _ HJ2.out HLN.out HAT.out HFR.out
            unfold tokW at hy
            dsimp only at hy hyR
            gi_wp2
            refine hyR.mono ?_
            rintro e w2 (⟨hk6, rfl, hj2, hz2, hb2⟩ | ⟨hk6, rfl, hj2⟩)
            · have HR2 := Lib.hid (HR.out.step HP.out HNX.out (HV.out) hj2 (Nat.le_trans HSZ.out hz2) (hb2.trans HBX.out))
              clear hj2 hz2 hb2
              gi_wp2
              go_wp2_with fail
              go_roundw
              case rel => exact ⟨k, _, pre ++ [(o, A, ac)], rfl, rfl, HR2⟩
              case measure => simp [intOf]; have := HGT.out; omega
            · exact absurd hk6 HK6.out
          · have HV := Lib.hid (show rawNx r o = r by unfold rawNx; rw [if_neg (fun x => k1 x.1), if_neg (fun x => x.elim k1 (fun y => k3 y.2))])
            have q3 := (Sr.str_eq o.name r).trans (decide_eq_false k3)
            clear k1 k2 k3
            go_wp2_with fail
            refine (HN.out _).mono ?_
            rintro e w1 ⟨A, ac, rfl, hat, hb, hfr⟩
            have hb2 := hb.trans ((Below.refl _ w1).alloc hb.size (.cells #[.int .i64 o.kind, .string o.name, .string o.text, .slice A o.attrs.length ac, .bool o.raw] 27))
            have hk := alloc_new w1 (.cells #[.int .i64 o.kind, .string o.name, .string o.text, .slice A o.attrs.length ac, .bool o.raw] 27)
            have hat2 := isAttrs_below hat ((Below.refl _ w1).alloc (Nat.le_refl _) (.cells #[.int .i64 o.kind, .string o.name, .string o.text, .slice A o.attrs.length ac, .bool o.raw] 27))
            have HJ2 := Lib.hid (Y.below HR.out.j hb2)
            have HBX := Lib.hid (hb2.block _ (lt_of_block HR.out.box))
            have HSZ := Lib.hid hb2.size
            have HAT := Lib.hid hat2
            have HFR := Lib.hid (show ∃ W0, J pre W0 ∧ Below W0.heap.size W0 _ ∧ Bw ≤ W0.heap.size ∧ ∀ p, A = some p → W0.heap.size ≤ p.block from ⟨wr, HR.out.j, hb2, HR.out.sz, hfr⟩)
            obtain ⟨x0, x1, x2, x3, x4⟩ := tbox5 hk
            clear hat hb hb2 hfr hat2 hk
            go_upto_region 9 with (fail)
            refine (wpIn_wide (n := 3)).1 ?_
            obtain ⟨fn, tmps, assign, body, hy, hyR⟩ := Y.yld 2 pre (o, A, ac) _ HJ2.out HLN.out HAT.out HFR.out
            unfold tokW at hy
            dsimp only at hy hyR
            gi_wp2
            refine hyR.mono ?_
            rintro e w2 (⟨hk6, rfl, hj2, hz2, hb2⟩ | ⟨hk6, rfl, hj2⟩)
            · have HR2 := Lib.hid (HR.out.step HP.out HNX.out (HV.out) hj2 (Nat.le_trans HSZ.out hz2) (hb2.trans HBX.out))
              clear hj2 hz2 hb2
              gi_wp2
              go_wp2_with fail
              go_roundw
              case rel => exact ⟨k, _, pre ++ [(o, A, ac)], rfl, rfl, HR2⟩
              case measure => simp [intOf]; have := HGT.out; omega
            · exact absurd hk6 HK6.out
        · have q2 : (o.kind == 2) = false := by rw [beq_eq_false_iff_ne]; exact k2
          have HV := Lib.hid (show rawNx r o = r by unfold rawNx; rw [if_neg (fun x => k1 x.1), if_neg (fun x => x.elim k1 (fun y => k2 y.1))])
          clear k1 k2
          go_wp2_with fail
          refine (HN.out _).mono ?_
          rintro e w1 ⟨A, ac, rfl, hat, hb, hfr⟩
          have hb2 := hb.trans ((Below.refl _ w1).alloc hb.size (.cells #[.int .i64 o.kind, .string o.name, .string o.text, .slice A o.attrs.length ac, .bool o.raw] 27))
          have hk := alloc_new w1 (.cells #[.int .i64 o.kind, .string o.name, .string o.text, .slice A o.attrs.length ac, .bool o.raw] 27)
          have hat2 := isAttrs_below hat ((Below.refl _ w1).alloc (Nat.le_refl _) (.cells #[.int .i64 o.kind, .string o.name, .string o.text, .slice A o.attrs.length ac, .bool o.raw] 27))
          have HJ2 := Lib.hid (Y.below HR.out.j hb2)
          have HBX := Lib.hid (hb2.block _ (lt_of_block HR.out.box))
          have HSZ := Lib.hid hb2.size
          have HAT := Lib.hid hat2
          have HFR := Lib.hid (show ∃ W0, J pre W0 ∧ Below W0.heap.size W0 _ ∧ Bw ≤ W0.heap.size ∧ ∀ p, A = some p → W0.heap.size ≤ p.block from ⟨wr, HR.out.j, hb2, HR.out.sz, hfr⟩)
          obtain ⟨x0, x1, x2, x3, x4⟩ := tbox5 hk
          clear hat hb hb2 hfr hat2 hk
          go_upto_region 9 with (fail)
          refine (wpIn_wide (n := 3)).1 ?_
          obtain ⟨fn, tmps, assign, body, hy, hyR⟩ := Y.yld 2 pre (o, A, ac) _ HJ2.out HLN.out HAT.out HFR.out
          unfold tokW at hy
          dsimp only at hy hyR
          gi_wp2
          refine hyR.mono ?_
          rintro e w2 (⟨hk6, rfl, hj2, hz2, hb2⟩ | ⟨hk6, rfl, hj2⟩)
          · have HR2 := Lib.hid (HR.out.step HP.out HNX.out (HV.out) hj2 (Nat.le_trans HSZ.out hz2) (hb2.trans HBX.out))
            clear hj2 hz2 hb2
            gi_wp2
            go_wp2_with fail
            go_roundw
            case rel => exact ⟨k, _, pre ++ [(o, A, ac)], rfl, rfl, HR2⟩
            case measure => simp [intOf]; have := HGT.out; omega
          · exact absurd hk6 HK6.out
end Go.Proofs.YtbdgoffbkenofaaGreat.Sc
namespace Go.Proofs.YtbdgoffbkenofaaGreat.Sc
open Go Go.RowKit Go.Shelf Go.Proofs.YtbdgoffbkenofaaGreat.Tk Go.Proofs.YtbdgoffbkenofaaGreat.Tr
attribute [local go_sem] Oper.semAt_some
set_option linter.unusedVariables false
set_option maxRecDepth 100000

theorem yield_any {m : Nat} (m' : Nat) {P : Program} {l : Nat} {args : Array Value} {W : World} {R : Ending → World → Prop} (h : YieldAt Fence.wide m P l args W R) : YieldAt Fence.wide m' P l args W R := by
  obtain ⟨fn, tmps, assign, body, hy, hR⟩ := h
  exact ⟨fn, tmps, assign, body, hy, hR.1, fun c cs _ => hR.2 c cs (fun d h => by cases h)⟩
/-- How a round may end: it goes on; or it was the last piece, and the loop is left. -/
def endP (id : Nat) (I Ix : List Itm → World → Prop) (sb : Nat) (pre : List Itm) (x : Itm) (W W₂ : World) : Exit → Act → World → Prop
  | .normal, _, W' => KeepsOthers W₂ W' ∧ I (pre ++ [x]) W' ∧ x.1.kind ≠ 6 ∧ W.heap.size ≤ W'.heap.size ∧ W'.heap[sb]? = W.heap[sb]?
  | .exit j, _, W' => j = id ∧ KeepsOthers W₂ W' ∧ Ix (pre ++ [x]) W' ∧ x.1.kind = 6
  | .ret, _, _ => False
  | .goto _, _, _ => False
  | .panic _, _, _ => False
  | .outgrown, _, _ => False
def roundP (id n l : Nat) (body : Code) (I Ix : List Itm → World → Prop) (sb : Nat) (pre : List Itm) (x : Itm) (W : World) : Exit → Act → World → Prop :=
  Exit.then (fun a₁ W₁ => KeepsOthers W W₁ ∧ ∀ r', body.wpIn (Fence.wide.inRound l) (n - 1 - 1) Tryz.prog (endP id I Ix sb pre x W (W₁.putObj l (.loop r'))) a₁ (W₁.putObj l (.loop r'))) (fun _ _ _ => False)
theorem range_pieces {g : Operand} {ps : Array Tmp} {assign body : Code} {Q : Exit → Act → World → Prop} {a : Act} {w : World} {n : Nat} (h1 : 1 ≤ n) (id : Nat) {sb : Nat} {s : ByteArray} (hs : s.size ≤ 100000)
    (hg : a.eval g = .func (.func 36) #[] #[.pointer (some ⟨sb, 0, none⟩)]) (hps : ps.size = 1) (hbox : w.heap[sb]? = some (.cells #[.string s] 9 (0, 0)))
    (I Ix : List Itm → World → Prop) (hI : OwnFrom w.heap.size I) (hIx : OwnFrom w.heap.size Ix) (h0 : I [] w)
    (hround : ∀ (l : Nat) (pre : List Itm) (x : Itm) (W : World), w.heap.size < l → (∃ r, W.heap[l]? = some (.loop r)) → I pre W → pre.length < s.size + 1 → IsAttrs W W.heap.size x.1.attrs x.2.1 x.2.2 → (∃ W0, I pre W0 ∧ Below W0.heap.size W0 W ∧ w.heap.size + 2 ≤ W0.heap.size ∧ ∀ p, x.2.1 = some p → W0.heap.size ≤ p.block) →
      assign.wpIn (Fence.wide.inRound l) (n - 1 - 1) Tryz.prog (roundP id n l body I Ix sb pre x W) { tmps := (ps.zip #[tokW x]).foldl (fun t (p, v) => t.setIfInBounds p v) a.tmps, defers := [] } W)
    (hstop : ∀ (D : Nat) (xs : List Itm) (W : World), w.heap.size ≤ D → xs.map Prod.fst = pcsP s 0 ⟨#[]⟩ → Ix xs W → W.heap[D]? = some (.deferred (some [])) → (Code.exit id).wpIn Fence.wide n Tryz.prog Q { a with defers := { target := .collected D, args := #[] } :: a.defers } W) :
    (Code.rangeFunc g ps assign body).wpIn Fence.wide n Tryz.prog Q a w := by
  refine wpIn_rangeFunc fun fn hfn => ?_
  obtain ⟨R, hR⟩ : ∃ R : LoopState → Option Code → Loop, R = fun st pe => { state := st, pending := pe, fn, tmps := a.tmps, params := ps, assign, body, defers := w.heap.size } := ⟨_, rfl⟩
  have e0 := run_enterLoop_outer (P := Tryz.prog) (w := w) fn a.tmps ps assign body
  have hsb := lt_of_block hbox
  have hL : ((w.alloc (.deferred (some []))).alloc (.loop (R .ready none))).heap[w.heap.size + 1]? = some (.loop (R .ready none)) := by
    have := alloc_new (w.alloc (.deferred (some []))) (.loop (R .ready none)); rwa [World.size_alloc] at this
  have hK : ((w.alloc (.deferred (some []))).alloc (.loop (R .ready none))).heap[w.heap.size]? = some (.deferred (some [])) := alloc_old (alloc_new w _) _
  have hZ : ((w.alloc (.deferred (some []))).alloc (.loop (R .ready none))).heap.size = w.heap.size + 2 := by simp
  have hI1 : I [] ((w.alloc (.deferred (some []))).alloc (.loop (R .ready none))) := hI.alloc _ (hI.alloc _ h0)
  have hB1 := alloc_old (alloc_old hbox (.deferred (some []))) (.loop (R .ready none))
  obtain ⟨W1, hW1⟩ : ∃ W1, (w.alloc (.deferred (some []))).alloc (.loop (R .ready none)) = W1 := ⟨_, rfl⟩
  rw [hW1] at hL hK hZ hI1 hB1
  refine ⟨w.heap.size + 1, [{ target := .collected w.heap.size, args := #[] }], W1, { target := .fn (.func 36) #[.pointer (some ⟨sb, 0, none⟩)], args := #[.func (.yield (w.heap.size + 1)) #[] #[]] }, W1, 36, #[.func (.yield (w.heap.size + 1)) #[] #[], .pointer (some ⟨sb, 0, none⟩)], W1, ?_, ?_, fun _ _ => trivial, ?_, fun h => h1, ?_⟩
  · rw [← hW1, hR]; exact e0
  · simp only [resolve, hg]
    simp [go_sem]
  · simp [invoke, go_sem]
  clear e0 hW1
  refine callsIn_wide.2 ((pieces_run s hs (w.heap.size + 1) sb W1.heap.size
    (fun pre W => I pre W ∧ W.heap[w.heap.size + 1]? = some (.loop (R .ready none)) ∧ W.heap[w.heap.size]? = some (.deferred (some [])))
    (fun pre W => Ix pre W ∧ W.heap[w.heap.size + 1]? = some (.loop (R .done (some (.exit id)))) ∧ W.heap[w.heap.size]? = some (.deferred (some [])))
    ⟨?yield, ?abide⟩ W1 hB1 (Nat.le_refl _) ⟨hI1, hL, hK⟩).mono ?_)
  case abide =>
    intro t A B row ht hgr hr
    have hw : ∀ r, row = some r → ∃ o : Obj, A.heap[r]? = some o ∧ o.isWalk = true := fun r e => (hr r e).2
    refine ⟨hI t A B row ht.1 hgr fun r e => ?_, (grownBy_keeps hgr hw ht.2.1 rfl).trans ht.2.1, (grownBy_keeps hgr hw ht.2.2 rfl).trans ht.2.2⟩
    obtain ⟨h2, o, ho, hwk⟩ := hr r e
    exact ⟨by omega, o, ho, Obj.not_cells_of_walk hwk⟩
  case yield =>
    rintro m pre x W ⟨hi, hl, hk⟩ hlen hat hfr
    have hy := run_yield (P := Tryz.prog) (args := #[tokW x]) hl (by rw [hR]; exact hps.symm)
    rw [hR] at hy
    refine yield_any m ⟨fn, _, assign, body, hy, roundIn_of_wpIn (n := n - 1 - 1) hfn (wpIn_mono (hround (w.heap.size + 1) pre x W (by omega) ⟨_, hl⟩ hi hlen hat (by obtain ⟨W0, ⟨k1, _, _⟩, k2, k3, k4⟩ := hfr; exact ⟨W0, k1, k2, by omega, k4⟩)) ?_)⟩
    intro e a1 W2 hp
    unfold roundP at hp
    cases e with
    | normal =>
      obtain ⟨hk1, hb⟩ := hp
      have hl1 := hk1.same _ _ hl rfl
      have hd1 := hk1.same _ _ hk rfl
      refine ⟨_, run_beginRound hl1 (by rw [hR]), wpIn_mono (hb _) ?_⟩
      have hl2 : (W2.putObj (w.heap.size + 1) (.loop { R .ready none with state := .busy })).heap[w.heap.size + 1]? = some (.loop { R .ready none with state := .busy }) := World.putObj_heap_same (lt_of_block hl1)
      have hd2 : (W2.putObj (w.heap.size + 1) (.loop { R .ready none with state := .busy })).heap[w.heap.size]? = some (.deferred (some [])) := (World.putObj_heap_other (by omega)).trans hd1
      intro e3 a3 W3 hp3
      cases e3 with
      | normal =>
        obtain ⟨hk3, hi3, h6, hz3, hb3⟩ := hp3
        have hl3 := hk3.same _ _ hl2 rfl
        have hd3 := hk3.same _ _ hd2 rfl
        refine ⟨_, _, run_endRound none hl3, .inl ⟨h6, rfl, ⟨hI.putObj _ hi3 (by omega) hl3 rfl, ?_, (World.putObj_heap_other (by omega)).trans hd3⟩, ?_, (World.putObj_heap_other (by omega)).trans hb3⟩⟩
        · rw [World.putObj_heap_same (lt_of_block hl3), hR]; rfl
        · simpa [World.putObj] using hz3
      | exit j =>
        obtain ⟨rfl, hk3, hi3, h6⟩ := hp3
        have hl3 := hk3.same _ _ hl2 rfl
        have hd3 := hk3.same _ _ hd2 rfl
        refine ⟨_, _, run_endRound (some (.exit j)) hl3, .inr ⟨h6, rfl, hIx.putObj _ hi3 (by omega) hl3 rfl, ?_, (World.putObj_heap_other (by omega)).trans hd3⟩⟩
        rw [World.putObj_heap_same (lt_of_block hl3), hR]; rfl
      | ret => exact hp3.elim
      | goto t => exact hp3.elim
      | panic c => exact hp3.elim
      | outgrown => exact hp3.elim
    | ret => exact hp.elim
    | exit j => exact hp.elim
    | goto t => exact hp.elim
    | panic c => exact hp.elim
    | outgrown => exact hp.elim
  · rintro e W2 ⟨⟨v, rfl⟩, xs, hxs, hix, hl, hk⟩
    have hel := run_endLoop (P := Tryz.prog) hl (by rw [hR]; simp)
    rw [hR] at hel
    refine ⟨some (.exit id), _, hel, hstop _ xs _ (Nat.le_refl _) hxs (hIx.putObj _ hix (by omega) hl rfl) ((World.putObj_heap_other (by omega)).trans hk)⟩
end Go.Proofs.YtbdgoffbkenofaaGreat.Sc
namespace Go.Proofs.YtbdgoffbkenofaaGreat.Sc
open Go Go.RowKit Go.Shelf Go.Proofs.YtbdgoffbkenofaaGreat.Tk Go.Proofs.YtbdgoffbkenofaaGreat.Tr
set_option linter.unusedVariables false
set_option maxRecDepth 100000

def fiveT (x : Itm) : List Value := [.int .i64 x.1.kind, .string x.1.name, .string x.1.text, .slice x.2.1 x.1.attrs.length x.2.2, .bool x.1.raw]
def cellsT (l : List Itm) : List Value := l.flatMap fiveT
/-- The list in its box, a row of its own; each piece's attributes beside it. -/
structure AllI (w0 : World) (lb : Nat) (pre : List Itm) (W : World) : Prop where
  box : ∃ v, W.heap[lb]? = some (.cells #[v] 23 (0, 0)) ∧ W.ownsRow (lb + 1) 27 5 v pre.length (cellsT pre) ∧ ∀ x ∈ pre, x.1.attrs ≠ [] → ∀ p, x.2.1 = some p → lb < p.block ∧ v.ownBlock ≠ some p.block
  att : ∀ x ∈ pre, IsAttrs W W.heap.size x.1.attrs x.2.1 x.2.2
  bel : Below w0.heap.size w0 W
  low : w0.heap.size ≤ lb
theorem isAttrs_cells {w w' : World} {n n' : Nat} {al : List (ByteArray × ByteArray)} {A : Option Addr} {ac : Nat} (h : IsAttrs w n al A ac) (hn : n ≤ n') (hk : al ≠ [] → ∀ p, A = some p → ∀ cs t f, w.heap[p.block]? = some (.cells cs t f) → w'.heap[p.block]? = some (.cells cs t f)) : IsAttrs w' n' al A ac := by
  obtain ⟨h1, h2, h3, h4⟩ := h
  refine ⟨h1, h2, h3, fun hne => ?_⟩
  obtain ⟨g, off, rfl, hg, hc⟩ := h4 hne
  have hcell : ∀ q v, w.cell? ⟨g, q, none⟩ = some v → w'.cell? ⟨g, q, none⟩ = some v := fun q v hv => by
    have hv' := hv
    unfold World.cell? at hv'
    cases hb : w.heap[g]? with
    | none => rw [hb] at hv'; cases hv'
    | some o =>
      cases o with
      | cells cs t f => exact (World.cell?_of_block (a := ⟨g, q, none⟩) ((hk hne _ rfl _ _ _ hb).trans hb.symm)).trans hv
      | _ => rw [hb] at hv'; simp at hv'
  exact ⟨g, off, rfl, Nat.lt_of_lt_of_le hg hn, fun i x hx => ⟨hcell _ _ (hc i x hx).1, hcell _ _ (hc i x hx).2⟩⟩
theorem heap_setCell_same1 {W : World} {b : Nat} {v0 v : Value} {T : TypeId} (h : W.heap[b]? = some (.cells #[v0] T (0, 0))) : (W.setCell ⟨b, 0, none⟩ v).heap[b]? = some (.cells #[v] T (0, 0)) := by
  simp only [World.setCell, Array.getElem?_modify, ↓reduceIte, h, Option.map_some]
  rfl
theorem AllI.abide (w0 : World) (lb D : Nat) (hD : w0.heap.size ≤ D) : OwnFrom D (AllI w0 lb) := by
  rintro pre W W' row h hg hr
  have hc : ∀ (k : Nat) (cs : Array Value) (t : TypeId) (f : Nat × Nat), W.heap[k]? = some (.cells cs t f) → W'.heap[k]? = some (.cells cs t f) := fun k cs t f hk => (grownBy_keeps_cells hg (fun r e => (hr r e).2) hk rfl).trans hk
  obtain ⟨v, hb, hrow, hne⟩ := h.box
  refine ⟨⟨v, hc _ _ _ _ hb, ⟨hrow.1, ?_⟩, hne⟩, fun x hx => isAttrs_cells (h.att x hx) hg.size fun _ p _ cs t f hk => hc _ _ _ _ hk, h.bel.grown hg h.bel.size fun k e => Nat.le_trans hD (hr k e).1, h.low⟩
  rcases hrow.2 with h2 | ⟨g, cap, cur, h1, h5, h6, h7⟩
  · exact .inl h2
  · exact .inr ⟨g, cap, cur, h1, h5, hc _ _ _ _ h6, h7⟩
theorem AllI.keep {w0 : World} {lb : Nat} {pre : List Itm} {W W' : World} (h : AllI w0 lb pre W) (hb : Below W.heap.size W W') : AllI w0 lb pre W' :=
  AllI.abide w0 lb w0.heap.size (Nat.le_refl _) pre W W' none h ⟨hb.os, hb.tape, hb.output, hb.size, fun k hk _ => hb.block k hk⟩ (fun r e => by cases e)
theorem AllI.push {w0 : World} {lb : Nat} {pre : List Itm} {x : Itm} {v v' : Value} {W W8 : World} (h : AllI w0 lb pre W) (hb : W.heap[lb]? = some (.cells #[v] 23 (0, 0)))
    (hx : IsAttrs W W.heap.size x.1.attrs x.2.1 x.2.2) (hxp : x.1.attrs ≠ [] → ∀ p, x.2.1 = some p → lb < p.block ∧ v.ownBlock ≠ some p.block)
    (hr : W8.ownsRow (lb + 1) 27 5 v' (pre.length + 1) (cellsT pre ++ fiveT x)) (g8 : (W.alloc (.cells (fiveT x).toArray 27)).grownBy W8 v.ownBlock)
    (hor : v'.ownBlock = v.ownBlock ∨ v'.ownBlock = some (W.alloc (.cells (fiveT x).toArray 27)).heap.size) : AllI w0 lb (pre ++ [x]) (W8.setCell ⟨lb, 0, none⟩ v') := by
  obtain ⟨v0, hb0, hrow, hne⟩ := h.box
  have ev : v0 = v := by rw [hb] at hb0; injection hb0 with e; injection e with e; injection e with e; simpa using e.symm
  subst ev
  have hlb := lt_of_block hb
  have e7 : (W.alloc (.cells (fiveT x).toArray 27)).heap.size = W.heap.size + 1 := by simp
  have s8 := g8.size
  have hnl : some lb ≠ v0.ownBlock := fun e => by have := (hrow.lt lb e.symm).1; omega
  have old : ∀ k, k < W.heap.size → some k ≠ v0.ownBlock → k ≠ lb → (W8.setCell ⟨lb, 0, none⟩ v').heap[k]? = W.heap[k]? := fun k hk h1 h2 =>
    (Below.heap_setCell _ _ _ k h2).trans ((g8.block k (by omega) h1).trans (Below.heap_alloc W _ k hk))
  have hb8 : W8.heap[lb]? = some (.cells #[v0] 23 (0, 0)) := (g8.block lb (by omega) hnl).trans ((Below.heap_alloc W _ lb hlb).trans hb)
  have hsz8 : (W8.setCell ⟨lb, 0, none⟩ v').heap.size = W8.heap.size := by simp [World.setCell]
  have pres : ∀ y : Itm, IsAttrs W W.heap.size y.1.attrs y.2.1 y.2.2 → (y.1.attrs ≠ [] → ∀ p, y.2.1 = some p → lb < p.block ∧ v0.ownBlock ≠ some p.block) → IsAttrs (W8.setCell ⟨lb, 0, none⟩ v') (W8.setCell ⟨lb, 0, none⟩ v').heap.size y.1.attrs y.2.1 y.2.2 := fun y hy hp =>
    isAttrs_cells hy (by omega) fun hne p e cs t f hk => (old _ (lt_of_block hk) (fun e2 => (hp hne p e).2 e2.symm) (by have := (hp hne p e).1; omega)).trans hk
  have newp : ∀ y : Itm, IsAttrs W W.heap.size y.1.attrs y.2.1 y.2.2 → (y.1.attrs ≠ [] → ∀ p, y.2.1 = some p → lb < p.block ∧ v0.ownBlock ≠ some p.block) → (y.1.attrs ≠ [] → ∀ p, y.2.1 = some p → lb < p.block ∧ v'.ownBlock ≠ some p.block) := fun y hy hp hne' p e => by
    refine ⟨(hp hne' p e).1, ?_⟩
    obtain ⟨_, _, _, h4⟩ := hy
    obtain ⟨g, off, eA, hg, _⟩ := h4 hne'
    rw [e] at eA; injection eA with eA; subst eA
    rcases hor with ho | ho
    · rw [ho]; exact (hp hne' _ e).2
    · rw [ho]; intro e3; injection e3 with e3; rw [e7] at e3; have : g < W.heap.size := hg; have e4 : W.heap.size + 1 = g := e3; omega
  refine ⟨⟨v', heap_setCell_same1 hb8, ⟨?_, ?_⟩, fun y hy => ?_⟩, fun y hy => ?_, ((h.bel.alloc h.bel.size _).grown g8 (Nat.le_trans h.bel.size (by omega)) (fun k hk => by have := (hrow.lt k hk).1; have := h.low; omega)).setCell (p := ⟨lb, 0, none⟩) h.low _, h.low⟩
  · have := hr.1
    simpa [cellsT] using this
  · rcases hr.2 with h2 | ⟨g, cap, cur, h1, h5, h6, h7⟩
    · exact .inl (by first | (simp at h2; done) | simpa using h2)
    · refine .inr ⟨g, cap, cur, by simpa using h1, h5, (Below.heap_setCell _ _ _ g (by show g ≠ lb; omega)).trans h6, ?_⟩
      simpa [cellsT] using h7
  · rcases List.mem_append.1 hy with hy | hy
    · exact newp y (h.att y hy) (hne y hy)
    · rw [List.mem_singleton.1 hy]; exact newp x hx hxp
  · rcases List.mem_append.1 hy with hy | hy
    · exact pres y (h.att y hy) (hne y hy)
    · rw [List.mem_singleton.1 hy]; exact pres x hx hxp
end Go.Proofs.YtbdgoffbkenofaaGreat.Sc
namespace Go.Proofs.YtbdgoffbkenofaaGreat.Rc
open Go Go.Lib

/-- No rune in its shortest form begins here. -/
def Bad (l : List UInt8) : Prop := (decodeL l).1 = 65533 ∧ (decodeL l).2 = 1
instance (l : List UInt8) : Decidable (Bad l) := by unfold Bad; infer_instance
def fffd : List UInt8 := [239, 191, 189]

/-- The program's Clean: p: the byte ahead is 13. -/
def cleanP : Nat → Bool → List UInt8 → List UInt8
  | 0, _, _ => []
  | n + 1, p, l => if l = [] then [] else
    (if (decodeL l).1 = 0 then fffd else if (decodeL l).1 = 13 then [10] else if (decodeL l).1 = 10 ∧ p = true then [] else encodeRune ((decodeL l).1 : Int)) ++
      cleanP n (decide ((decodeL l).1 = 13)) (l.drop (decodeL l).2)
/-- The document's Clean. -/
def cleanR : Nat → List UInt8 → List UInt8
  | 0, _ => []
  | n + 1, l => if l = [] then [] else
    if Bad l ∨ l.getD 0 0 = 0 then fffd ++ cleanR n (l.drop 1)
    else if l.getD 0 0 = 13 then 10 :: cleanR n (l.drop (if l.getD 1 0 = 10 then 2 else 1))
    else l.take (decodeL l).2 ++ cleanR n (l.drop (decodeL l).2)

theorem head_lt (l : List UInt8) (v : Nat) (hv : v < 128) : (decodeL l).1 = v ↔ l.getD 0 0 = UInt8.ofNat v := by
  rw [decodeL_N]
  have k0 := (l.getD 0 0).toNat_lt
  have e : l.getD 0 0 = UInt8.ofNat v ↔ (l.getD 0 0).toNat = v := by
    rw [← UInt8.toNat_inj]; simp; omega
  rw [e]
  rcases decodeN_shape l.length (l.getD 0 0).toNat (l.getD 1 0).toNat (l.getD 2 0).toNat (l.getD 3 0).toNat with ⟨c, e⟩ | ⟨c1, c2, c3, cv, e⟩ | ⟨c1, c2, c3, c4, cv, cs, e⟩ | ⟨c1, c2, c3, c4, c5, cv, cw, e⟩ | e
  · rw [e]
  · rw [e]; dsimp only; omega
  · rw [e]; dsimp only; omega
  · rw [e]; dsimp only; omega
  · by_cases h : (l.getD 0 0).toNat < 128
    · have : decodeN l.length (l.getD 0 0).toNat (l.getD 1 0).toNat (l.getD 2 0).toNat (l.getD 3 0).toNat = ((l.getD 0 0).toNat, 1) := by unfold decodeN; rw [if_pos h]
      rw [this]
    · rw [e]; dsimp only; omega
theorem width_lt (l : List UInt8) (h : (decodeL l).1 < 128) : (decodeL l).2 = 1 := by
  rw [decodeL_N] at h ⊢
  rcases decodeN_shape l.length (l.getD 0 0).toNat (l.getD 1 0).toNat (l.getD 2 0).toNat (l.getD 3 0).toNat with ⟨c, e⟩ | ⟨c1, c2, c3, cv, e⟩ | ⟨c1, c2, c3, c4, cv, cs, e⟩ | ⟨c1, c2, c3, c4, c5, cv, cw, e⟩ | e
  · rw [e]
  all_goals (rw [e] at h; dsimp only at h; omega)
theorem not_bad_lt (l : List UInt8) (h : (decodeL l).1 < 128) : ¬ Bad l := fun hb => by have := hb.1; omega
theorem bad_enc (l : List UInt8) (h : Bad l) : encodeRune ((decodeL l).1 : Int) = fffd := by rw [h.1]; rfl

theorem cleanP_nil (n : Nat) (p : Bool) : cleanP n p [] = [] := by cases n <;> rfl
theorem cleanR_nil (n : Nat) : cleanR n [] = [] := by cases n <;> rfl
/-- The two are one. -/
theorem clean_eq : ∀ (n : Nat) (l : List UInt8), l.length ≤ n → ∀ m, l.length ≤ m →
    cleanP n false l = cleanR m l ∧ cleanP n true l = cleanR m (if l.getD 0 0 = 10 then l.drop 1 else l)
  | 0, l, hn, m, _ => by
    have : l = [] := List.eq_nil_of_length_eq_zero (by omega)
    subst this
    simp [cleanP_nil, cleanR_nil]
  | n + 1, l, hn, m, hm => by
    by_cases hne : l = []
    · subst hne; simp [cleanP_nil, cleanR_nil]
    · have hw := decodeL_width l
      have hl : 0 < l.length := List.length_pos_iff.2 hne
      obtain ⟨m, rfl⟩ : ∃ k, m = k + 1 := ⟨m - 1, by omega⟩
      have hd : (l.drop (decodeL l).2).length ≤ n := by rw [List.length_drop]; omega
      have hd' : (l.drop (decodeL l).2).length ≤ m := by rw [List.length_drop]; omega
      have IH := clean_eq n _ hd m hd'
      have h0 := head_lt l 0 (by omega)
      have h13 := head_lt l 13 (by omega)
      have h10 := head_lt l 10 (by omega)
      have key : cleanP (n + 1) false l = cleanR (m + 1) l := by
        simp only [cleanP, cleanR, if_neg hne]
        by_cases e0 : (decodeL l).1 = 0
        · have hh : l.getD 0 0 = 0 := h0.1 e0
          have h13' : ¬ (decodeL l).1 = 13 := by omega
          rw [if_pos e0, if_pos (.inr hh), decide_eq_false h13', IH.1, width_lt l (by omega)]
        · have hh : ¬ l.getD 0 0 = 0 := fun h => e0 (h0.2 h)
          rw [if_neg e0]
          by_cases e13 : (decodeL l).1 = 13
          · have hh3 : l.getD 0 0 = 13 := h13.1 e13
            rw [if_pos e13, if_neg (by rintro (h | h); exact not_bad_lt l (by omega) h; exact hh h), if_pos hh3, decide_eq_true e13, IH.2, width_lt l (by omega)]
            have e : (l.drop 1).getD 0 0 = l.getD 1 0 := by rw [getD_dropU]
            rw [e]
            by_cases e10 : l.getD 1 0 = 10
            · rw [if_pos e10, if_pos e10, List.drop_drop]; rfl
            · rw [if_neg e10, if_neg e10]; rfl
          · have hh3 : ¬ l.getD 0 0 = 13 := fun h => e13 (h13.2 h)
            rw [if_neg e13, if_neg (by simp), decide_eq_false e13, IH.1]
            by_cases hb : Bad l
            · rw [if_pos (.inl hb), bad_enc l hb, hb.2]
            · rw [if_neg (by rintro (h | h); exact hb h; exact hh h), if_neg hh3, encode_decode l hne hb]
      refine ⟨key, ?_⟩
      by_cases e10 : (decodeL l).1 = 10
      · have hh : l.getD 0 0 = 10 := h10.1 e10
        have hw1 := width_lt l (by omega)
        have hk : (l.drop 1).length ≤ m := by rw [hw1] at hd'; exact hd'
        have hk' : (l.drop 1).length ≤ n := by rw [hw1] at hd; exact hd
        rw [if_pos hh]
        show (if l = [] then [] else _) = _
        rw [if_neg hne, if_neg (by omega), if_neg (by omega), if_pos ⟨e10, rfl⟩, e10, hw1, List.nil_append, show decide ((10 : Nat) = 13) = false from rfl]
        exact (clean_eq n _ hk' (m + 1) (by omega)).1
      · have hh : ¬ l.getD 0 0 = 10 := fun h => e10 (h10.2 h)
        rw [if_neg hh, ← key]
        simp only [cleanP, if_neg hne]
        simp [e10]

/-- What a step leaves is the same with any text behind it. -/
theorem decode_more (l t : List UInt8) (hne : l ≠ []) (hb : ¬ Bad l) : decodeL (l ++ t) = decodeL l := by
  rw [Bad] at hb
  rw [decodeL_N] at hb ⊢
  rw [decodeL_N l]
  have g : ∀ i, i < l.length → (l ++ t).getD i 0 = l.getD i 0 := fun i hi => by simp [List.getD, List.getElem?_append_left hi]
  have hlen : (l ++ t).length = l.length + t.length := List.length_append
  rcases decodeN_shape l.length (l.getD 0 0).toNat (l.getD 1 0).toNat (l.getD 2 0).toNat (l.getD 3 0).toNat with ⟨c, e⟩ | ⟨c1, c2, c3, cv, e⟩ | ⟨c1, c2, c3, c4, cv, cs, e⟩ | ⟨c1, c2, c3, c4, c5, cv, cw, e⟩ | e
  · rw [e, g 0 (List.length_pos_iff.2 hne)]; unfold decodeN; rw [if_pos c]
  · rw [e, g 0 (by omega), g 1 (by omega), hlen]; unfold decodeN
    rw [if_neg (by omega), if_pos ⟨c1, by omega, c3⟩, if_pos (by omega)]
  · rw [e, g 0 (by omega), g 1 (by omega), g 2 (by omega), hlen]; unfold decodeN
    rw [if_neg (by omega), if_neg (by omega), if_pos ⟨c1, ⟨by omega, c3⟩, by omega, c4⟩, if_pos (by omega)]
  · rw [e, g 0 (by omega), g 1 (by omega), g 2 (by omega), g 3 (by omega), hlen]; unfold decodeN
    rw [if_neg (by omega), if_neg (by omega), if_neg (by omega), if_pos ⟨c1, ⟨by omega, c3⟩, ⟨by omega, c4⟩, by omega, c5⟩, if_pos (by omega)]
  · rw [e] at hb; exact absurd ⟨rfl, rfl⟩ hb
theorem decode_take (l t : List UInt8) (hne : l ≠ []) (hb : ¬ Bad l) : decodeL (l.take (decodeL l).2 ++ t) = decodeL l := by
  have hl : 0 < l.length := List.length_pos_iff.2 hne
  have hw := decodeL_le l hne
  rw [Bad] at hb
  rw [decodeL_N] at hb hw ⊢
  rw [decodeL_N l]
  generalize ht : l.take (decodeN l.length (l.getD 0 0).toNat (l.getD 1 0).toNat (l.getD 2 0).toNat (l.getD 3 0).toNat).2 = q
  have hq : q.length = (decodeN l.length (l.getD 0 0).toNat (l.getD 1 0).toNat (l.getD 2 0).toNat (l.getD 3 0).toNat).2 := by rw [← ht, List.length_take]; omega
  have g : ∀ i, i < q.length → (q ++ t).getD i 0 = l.getD i 0 := fun i hi => by
    rw [List.getD, List.getD, List.getElem?_append_left hi]
    subst ht
    rw [List.getElem?_take_of_lt (by omega)]
  have hlen : (q ++ t).length = q.length + t.length := List.length_append
  clear ht
  rcases decodeN_shape l.length (l.getD 0 0).toNat (l.getD 1 0).toNat (l.getD 2 0).toNat (l.getD 3 0).toNat with ⟨c, e⟩ | ⟨c1, c2, c3, cv, e⟩ | ⟨c1, c2, c3, c4, cv, cs, e⟩ | ⟨c1, c2, c3, c4, c5, cv, cw, e⟩ | e
  · rw [e] at hq ⊢; dsimp only at hq; rw [g 0 (by omega)]; unfold decodeN; rw [if_pos c]
  · rw [e] at hq ⊢; dsimp only at hq; rw [g 0 (by omega), g 1 (by omega), hlen]; unfold decodeN
    rw [if_neg (by omega), if_pos ⟨c1, by omega, c3⟩, if_pos (by omega)]
  · rw [e] at hq ⊢; dsimp only at hq; rw [g 0 (by omega), g 1 (by omega), g 2 (by omega), hlen]; unfold decodeN
    rw [if_neg (by omega), if_neg (by omega), if_pos ⟨c1, ⟨by omega, c3⟩, by omega, c4⟩, if_pos (by omega)]
  · rw [e] at hq ⊢; dsimp only at hq; rw [g 0 (by omega), g 1 (by omega), g 2 (by omega), g 3 (by omega), hlen]; unfold decodeN
    rw [if_neg (by omega), if_neg (by omega), if_neg (by omega), if_pos ⟨c1, ⟨by omega, c3⟩, ⟨by omega, c4⟩, by omega, c5⟩, if_pos (by omega)]
  · rw [e] at hb; exact absurd ⟨rfl, rfl⟩ hb

/-! ### Pieces -/
/-- A rune's bytes. -/
def Piece (q : List UInt8) : Prop := q ≠ [] ∧ ∀ t, (decodeL (q ++ t)).2 = q.length ∧ ¬ Bad (q ++ t)
inductive Runes : List UInt8 → Prop
  | nil : Runes []
  | cons {q t : List UInt8} : Piece q → Runes t → Runes (q ++ t)
theorem Runes.append {a b : List UInt8} (h : Runes a) (k : Runes b) : Runes (a ++ b) := by
  induction h with
  | nil => exact k
  | cons p _ ih => rw [List.append_assoc]; exact .cons p ih
theorem Runes.one {q : List UInt8} (h : Piece q) : Runes q := by have := Runes.cons h .nil; rwa [List.append_nil] at this
theorem valid_runes {l : List UInt8} (h : Runes l) : validD l = true := by
  induction h with
  | nil => rfl
  | @cons q t p _ ih =>
    have hne : q ++ t ≠ [] := by simp [p.1]
    have hb := (p.2 t).2
    rw [Bad] at hb
    rw [validD_step _ hne, if_neg hb, (p.2 t).1, List.drop_left]
    exact ih
theorem piece_take (l : List UInt8) (hne : l ≠ []) (hb : ¬ Bad l) : Piece (l.take (decodeL l).2) := by
  have hw := decodeL_width l
  have hl : 0 < l.length := List.length_pos_iff.2 hne
  have hle := decodeL_le l hne
  refine ⟨fun h => ?_, fun t => ?_⟩
  · have := congrArg List.length h
    rw [List.length_take, List.length_nil] at this
    omega
  · unfold Bad
    rw [decode_take l t hne hb, List.length_take]
    exact ⟨(Nat.min_eq_left hle).symm, hb⟩
theorem piece_enc (v : Int) : Piece (encodeRune v) := by
  suffices H : ∀ q : List UInt8, encodeRune v = q → Piece q by exact H _ rfl
  have one : ∀ x : UInt8, x.toNat < 128 → Piece [x] := fun x hx => ⟨by simp, fun t => by
    have := decodeL_ascii x t hx
    unfold Bad
    rw [List.singleton_append, this]
    simp; omega⟩
  intro q hq
  unfold encodeRune at hq
  by_cases h1 : 0 ≤ v ∧ v ≤ 127
  · rw [encodeRuneZ_one h1.1 h1.2] at hq
    subst hq
    exact one _ (by simp; omega)
  by_cases h2 : 128 ≤ v ∧ v ≤ 2047
  · rw [encodeRuneZ_two h2.1 h2.2] at hq
    subst hq
    refine ⟨by simp, fun t => ?_⟩
    unfold Bad
    rw [decodeL_N]
    simp only [List.map_cons, List.map_nil, List.getD, List.cons_append, List.nil_append, List.length_cons, List.getElem?_cons_zero, List.getElem?_cons_succ, Option.getD_some]
    have e0 : ((192 + v / 64).toNat.toUInt8).toNat = (192 + v / 64).toNat := by simp; omega
    have e1 : ((128 + v % 64).toNat.toUInt8).toNat = (128 + v % 64).toNat := by simp; omega
    rw [e0, e1]
    unfold decodeN
    rw [if_neg (by omega), if_pos ⟨by omega, by omega, by omega⟩, if_pos (by omega)]
    simp
  by_cases h3 : (2048 ≤ v ∧ v < 55296) ∨ (57343 < v ∧ v ≤ 65535)
  · rw [encodeRuneZ_three h3] at hq
    subst hq
    refine ⟨by simp, fun t => ?_⟩
    unfold Bad
    rw [decodeL_N]
    simp only [List.map_cons, List.map_nil, List.getD, List.cons_append, List.nil_append, List.length_cons, List.getElem?_cons_zero, List.getElem?_cons_succ, Option.getD_some]
    have e0 : ((224 + v / 4096).toNat.toUInt8).toNat = (224 + v / 4096).toNat := by simp; omega
    have e1 : ((128 + v / 64 % 64).toNat.toUInt8).toNat = (128 + v / 64 % 64).toNat := by simp; omega
    have e2 : ((128 + v % 64).toNat.toUInt8).toNat = (128 + v % 64).toNat := by simp; omega
    rw [e0, e1, e2]
    unfold decodeN
    rw [if_neg (by omega), if_neg (by omega), if_pos ⟨by omega, ⟨by omega, by omega⟩, by omega, by omega⟩, if_pos (by omega)]
    simp
  by_cases h4 : 65536 ≤ v ∧ v ≤ 1114111
  · rw [encodeRuneZ_four h4.1 h4.2] at hq
    subst hq
    refine ⟨by simp, fun t => ?_⟩
    unfold Bad
    rw [decodeL_N]
    simp only [List.map_cons, List.map_nil, List.getD, List.cons_append, List.nil_append, List.length_cons, List.getElem?_cons_zero, List.getElem?_cons_succ, Option.getD_some]
    have e0 : ((240 + v / 262144).toNat.toUInt8).toNat = (240 + v / 262144).toNat := by simp; omega
    have e1 : ((128 + v / 4096 % 64).toNat.toUInt8).toNat = (128 + v / 4096 % 64).toNat := by simp; omega
    have e2 : ((128 + v / 64 % 64).toNat.toUInt8).toNat = (128 + v / 64 % 64).toNat := by simp; omega
    have e3 : ((128 + v % 64).toNat.toUInt8).toNat = (128 + v % 64).toNat := by simp; omega
    rw [e0, e1, e2, e3]
    unfold decodeN
    rw [if_neg (by omega), if_neg (by omega), if_neg (by omega), if_pos ⟨by omega, ⟨by omega, by omega⟩, ⟨by omega, by omega⟩, by omega, by omega⟩, if_pos (by omega)]
    simp
  rw [encodeRuneZ_bad (by omega)] at hq
  subst hq
  exact ⟨by simp, fun t => by unfold Bad; rw [decodeL_N]; simp [decodeN]⟩

/-! ### What Clean gives -/
def clean (l : List UInt8) : List UInt8 := cleanR l.length l
theorem cleanR_fuel (n m : Nat) (l : List UInt8) (hn : l.length ≤ n) (hm : l.length ≤ m) : cleanR n l = cleanR m l :=
  (clean_eq n l hn n hn).1.symm.trans (clean_eq n l hn m hm).1
theorem cleanR_eq (n : Nat) (l : List UInt8) (hn : l.length ≤ n) : cleanR n l = clean l := cleanR_fuel _ _ l hn (Nat.le_refl _)
theorem cleanP_eq (n : Nat) (l : List UInt8) (hn : l.length ≤ n) : cleanP n false l = clean l := (clean_eq n l hn l.length (Nat.le_refl _)).1
theorem clean_nil : clean [] = [] := rfl
theorem clean_bad (l : List UInt8) (hne : l ≠ []) (h : Bad l ∨ l.getD 0 0 = 0) : clean l = fffd ++ clean (l.drop 1) := by
  have hl : 0 < l.length := List.length_pos_iff.2 hne
  obtain ⟨n, hn⟩ : ∃ n, l.length = n + 1 := ⟨l.length - 1, by omega⟩
  rw [clean, hn, cleanR, if_neg hne, if_pos h, cleanR_eq n _ (by rw [List.length_drop]; omega)]
theorem clean_13 (l : List UInt8) (h : l.getD 0 0 = 13) : clean l = 10 :: clean (l.drop (if l.getD 1 0 = 10 then 2 else 1)) := by
  have hne : l ≠ [] := by rintro rfl; simp at h
  have hl : 0 < l.length := List.length_pos_iff.2 hne
  obtain ⟨n, hn⟩ : ∃ n, l.length = n + 1 := ⟨l.length - 1, by omega⟩
  have hb : ¬ (Bad l ∨ l.getD 0 0 = 0) := by
    rintro (hb | hb)
    · exact not_bad_lt l (by rw [(head_lt l 13 (by omega)).2 h]; omega) hb
    · rw [h] at hb; exact absurd hb (by decide)
  rw [clean, hn, cleanR, if_neg hne, if_neg hb, if_pos h, cleanR_eq n _ (by rw [List.length_drop]; split <;> omega)]
theorem clean_rune (l : List UInt8) (hne : l ≠ []) (h : ¬ Bad l) (h0 : l.getD 0 0 ≠ 0) (h13 : l.getD 0 0 ≠ 13) : clean l = l.take (decodeL l).2 ++ clean (l.drop (decodeL l).2) := by
  have hl : 0 < l.length := List.length_pos_iff.2 hne
  have hw := decodeL_width l
  obtain ⟨n, hn⟩ : ∃ n, l.length = n + 1 := ⟨l.length - 1, by omega⟩
  rw [clean, hn, cleanR, if_neg hne, if_neg (by rintro (hb | hb); exact h hb; exact h0 hb), if_neg h13, cleanR_eq n _ (by rw [List.length_drop]; omega)]
/-- By a text's runes. -/
theorem clean_induct {p : List UInt8 → Prop} (h0 : p []) (h1 : ∀ l, l ≠ [] → (Bad l ∨ l.getD 0 0 = 0) → p (l.drop 1) → p l) (h2 : ∀ l, l.getD 0 0 = 13 → p (l.drop (if l.getD 1 0 = 10 then 2 else 1)) → p l)
    (h3 : ∀ l, l ≠ [] → ¬ Bad l → l.getD 0 0 ≠ 0 → l.getD 0 0 ≠ 13 → p (l.drop (decodeL l).2) → p l) : ∀ l, p l := by
  intro l
  induction hn : l.length using Nat.strongRecOn generalizing l with
  | ind n ih =>
    by_cases hne : l = []
    · subst hne; exact h0
    have hl : 0 < l.length := List.length_pos_iff.2 hne
    by_cases hb : Bad l ∨ l.getD 0 0 = 0
    · exact h1 l hne hb (ih _ (by rw [List.length_drop]; omega) _ rfl)
    by_cases h13 : l.getD 0 0 = 13
    · exact h2 l h13 (ih _ (by rw [List.length_drop]; split <;> omega) _ rfl)
    have hw := decodeL_width l
    exact h3 l hne (fun h => hb (.inl h)) (fun h => hb (.inr h)) h13 (ih _ (by rw [List.length_drop]; omega) _ rfl)

/-- A piece that is neither 0 nor 13. -/
def Pure (q : List UInt8) : Prop := Piece q ∧ ∀ x ∈ q, x ≠ 0 ∧ x ≠ 13
inductive Pures : List UInt8 → Prop
  | nil : Pures []
  | cons {q t : List UInt8} : Pure q → Pures t → Pures (q ++ t)
theorem Pures.runes {l : List UInt8} (h : Pures l) : Runes l := by
  induction h with
  | nil => exact .nil
  | cons p _ ih => exact .cons p.1 ih
theorem Pures.mem {l : List UInt8} (h : Pures l) : ∀ x ∈ l, x ≠ 0 ∧ x ≠ 13 := by
  induction h with
  | nil => simp
  | cons p _ ih => intro x hx; rcases List.mem_append.1 hx with h | h; exact p.2 x h; exact ih x h
theorem Pures.clean {l : List UInt8} (h : Pures l) : clean l = l := by
  induction h with
  | nil => rfl
  | @cons q t p _ ih =>
    have hne : q ++ t ≠ [] := by simp [p.1.1]
    obtain ⟨x, xs, rfl⟩ : ∃ x xs, q = x :: xs := by
      cases q with
      | nil => exact absurd rfl p.1.1
      | cons x xs => exact ⟨x, xs, rfl⟩
    have hx := p.2 x (by simp)
    rw [clean_rune _ hne (p.1.2 t).2 (by simpa using hx.1) (by simpa using hx.2), (p.1.2 t).1, List.take_left, List.drop_left, ih]
theorem piece_fffd : Piece fffd := piece_enc 65533
theorem piece_one (x : UInt8) (h : x.toNat < 128) : Piece [x] := by
  have := piece_enc (x.toNat : Int)
  unfold encodeRune at this
  rw [encodeRuneZ_one (by omega) (by omega)] at this
  simpa using this
theorem take_bytes (l : List UInt8) (hne : l ≠ []) (hb : ¬ Bad l) (h0 : l.getD 0 0 ≠ 0) (h13 : l.getD 0 0 ≠ 13) : ∀ x ∈ l.take (decodeL l).2, x ≠ 0 ∧ x ≠ 13 := by
  have hl : 0 < l.length := List.length_pos_iff.2 hne
  rw [Bad] at hb
  rw [decodeL_N] at hb ⊢
  have ge : ∀ y : UInt8, 128 ≤ y.toNat → y ≠ 0 ∧ y ≠ 13 := fun y hy => ⟨by rintro rfl; simp at hy, by rintro rfl; simp at hy⟩
  rcases decodeN_shape l.length (l.getD 0 0).toNat (l.getD 1 0).toNat (l.getD 2 0).toNat (l.getD 3 0).toNat with ⟨c, e⟩ | ⟨c1, c2, c3, cv, e⟩ | ⟨c1, c2, c3, c4, cv, cs, e⟩ | ⟨c1, c2, c3, c4, c5, cv, cw, e⟩ | e
  · rw [e]; dsimp only; rw [takeA l hl]; intro x hx; simp only [List.mem_singleton] at hx; subst hx; exact ⟨h0, h13⟩
  · rw [e]; dsimp only; rw [takeB l c2]; intro x hx
    simp only [List.mem_cons, List.not_mem_nil, or_false] at hx
    rcases hx with rfl | rfl <;> exact ge _ (by omega)
  · rw [e]; dsimp only; rw [takeC l c2]; intro x hx
    simp only [List.mem_cons, List.not_mem_nil, or_false] at hx
    rcases hx with rfl | rfl | rfl <;> exact ge _ (by omega)
  · rw [e]; dsimp only; rw [takeD l c2]; intro x hx
    simp only [List.mem_cons, List.not_mem_nil, or_false] at hx
    rcases hx with rfl | rfl | rfl | rfl <;> exact ge _ (by omega)
  · rw [e] at hb; exact absurd ⟨rfl, rfl⟩ hb
theorem clean_pures : ∀ l, Pures (clean l) := by
  refine clean_induct .nil ?_ ?_ ?_
  · intro l hne h ih
    rw [clean_bad l hne h]
    exact .cons ⟨piece_fffd, by decide⟩ ih
  · intro l h ih
    rw [clean_13 l h]
    exact .cons (q := [10]) ⟨piece_one 10 (by decide), by decide⟩ ih
  · intro l hne hb h0 h13 ih
    rw [clean_rune l hne hb h0 h13]
    exact .cons ⟨piece_take l hne hb, take_bytes l hne hb h0 h13⟩ ih
theorem clean_valid (l : List UInt8) : validD (clean l) = true := valid_runes (clean_pures l).runes
theorem clean_clean (l : List UInt8) : clean (clean l) = clean l := (clean_pures l).clean
theorem clean_mem (l : List UInt8) : ∀ x ∈ clean l, x ≠ 0 ∧ x ≠ 13 := (clean_pures l).mem
theorem clean_length : ∀ l, (clean l).length ≤ 3 * l.length := by
  refine clean_induct (by simp [clean_nil]) ?_ ?_ ?_
  · intro l hne h ih
    have hl : 0 < l.length := List.length_pos_iff.2 hne
    rw [clean_bad l hne h, List.length_append, show fffd.length = 3 from rfl]
    rw [List.length_drop] at ih; omega
  · intro l h ih
    have hl : 0 < l.length := by
      rcases l with _ | ⟨x, xs⟩
      · simp at h
      · simp
    rw [clean_13 l h, List.length_cons]
    generalize clean (l.drop (if l.getD 1 0 = 10 then 2 else 1)) = c at ih ⊢
    rw [List.length_drop] at ih
    split at ih <;> omega
  · intro l hne hb h0 h13 ih
    have hl := decodeL_le l hne
    rw [clean_rune l hne hb h0 h13, List.length_append, List.length_take]
    rw [List.length_drop] at ih; omega

/-- Two texts, the first one right, not ending with 13. -/
theorem clean_append (b : List UInt8) : ∀ a, validD a = true → a.getLast? ≠ some 13 → clean (a ++ b) = clean a ++ clean b := by
  have last_drop : ∀ (a : List UInt8) (k : Nat), a.getLast? ≠ some 13 → (a.drop k).getLast? ≠ some 13 := by
    intro a k h
    rw [List.getLast?_drop]
    split
    · simp
    · exact h
  have valid_drop : ∀ a, a ≠ [] → validD a = true → ¬ Bad a ∧ validD (a.drop (decodeL a).2) = true := by
    intro a hne h
    rw [validD_step a hne] at h
    by_cases hb : (decodeL a).1 = 65533 ∧ (decodeL a).2 = 1
    · rw [if_pos hb] at h; cases h
    · rw [if_neg hb] at h; exact ⟨hb, h⟩
  refine clean_induct (by simp [clean_nil]) ?_ ?_ ?_
  · intro a hne h ih hv hla
    obtain ⟨hb, hd⟩ := valid_drop a hne hv
    have h0 : a.getD 0 0 = 0 := h.resolve_left hb
    have hd0 := (head_lt a 0 (by omega)).2 h0
    rw [width_lt a (by omega)] at hd
    have hg : (a ++ b).getD 0 0 = 0 := by rw [← h0]; cases a with | nil => exact absurd rfl hne | cons x xs => rfl
    rw [clean_bad a hne h, clean_bad (a ++ b) (by simp [hne]) (.inr hg), List.append_assoc, ← ih hd (last_drop a 1 hla)]
    congr 2
    cases a with | nil => exact absurd rfl hne | cons x xs => rfl
  · intro a h ih hv hla
    match a with
    | [] => simp at h
    | [x] => simp at h; subst h; simp at hla
    | x :: y :: xs =>
      simp at h; subst h
      have hv1 : validD (y :: xs) = true := by rw [validD_cons 13 _ (by decide)] at hv; exact hv
      rw [clean_13 (13 :: y :: xs ++ b) rfl, clean_13 (13 :: y :: xs) rfl]
      change validD (List.drop (if y = 10 then 2 else 1) (13 :: y :: xs)) = true → (List.drop (if y = 10 then 2 else 1) (13 :: y :: xs)).getLast? ≠ some 13 → clean (List.drop (if y = 10 then 2 else 1) (13 :: y :: xs) ++ b) = clean (List.drop (if y = 10 then 2 else 1) (13 :: y :: xs)) ++ clean b at ih
      show 10 :: clean (List.drop (if y = 10 then 2 else 1) (13 :: y :: (xs ++ b))) = 10 :: (clean (List.drop (if y = 10 then 2 else 1) (13 :: y :: xs)) ++ clean b)
      by_cases hy : y = 10
      · subst hy
        rw [← ih (by rw [if_pos rfl]; rw [validD_cons 10 _ (by decide)] at hv1; exact hv1) (last_drop _ _ hla)]
        rfl
      · rw [← ih (by rw [if_neg hy]; exact hv1) (last_drop _ _ hla), if_neg hy]
        rfl
  · intro a hne hb h0 h13 ih hv hla
    obtain ⟨_, hd⟩ := valid_drop a hne hv
    have hm := decode_more a b hne hb
    have hle := decodeL_le a hne
    have hg : (a ++ b).getD 0 0 = a.getD 0 0 := by cases a with | nil => exact absurd rfl hne | cons x xs => rfl
    have hbm : ¬ Bad (a ++ b) := by unfold Bad; rw [hm]; exact hb
    rw [clean_rune a hne hb h0 h13, clean_rune (a ++ b) (by simp [hne]) hbm (by rw [hg]; exact h0) (by rw [hg]; exact h13), hm, List.take_append_of_le_length hle, List.drop_append_of_le_length hle, List.append_assoc, ih hd (last_drop a _ hla)]

/-! ### Small letters -/
def lowB (c : UInt8) : UInt8 := if 65 ≤ c ∧ c ≤ 90 then c + 32 else c
def lower (l : List UInt8) : List UInt8 := l.map lowB
theorem lowB_nat (c : UInt8) : (lowB c).toNat = if 65 ≤ c.toNat ∧ c.toNat ≤ 90 then c.toNat + 32 else c.toNat := by
  unfold lowB
  simp only [UInt8.le_iff_toNat_le]
  have := c.toNat_lt
  split
  · rename_i h; simp at h; rw [if_pos h]; simp; omega
  · rename_i h; simp at h; rw [if_neg (by omega)]
theorem lowB_lowB (c : UInt8) : lowB (lowB c) = lowB c := by
  rw [← UInt8.toNat_inj, lowB_nat, lowB_nat]
  repeat' split
  all_goals omega
theorem lower_lower (l : List UInt8) : lower (lower l) = lower l := by simp [lower, lowB_lowB]
theorem lower_length (l : List UInt8) : (lower l).length = l.length := by simp [lower]
theorem lower_append (a b : List UInt8) : lower (a ++ b) = lower a ++ lower b := by simp [lower]
theorem lower_drop (k : Nat) (l : List UInt8) : lower (l.drop k) = (lower l).drop k := by simp [lower, List.map_drop]
theorem lower_getD (l : List UInt8) (i : Nat) : ((lower l).getD i 0).toNat = if 65 ≤ (l.getD i 0).toNat ∧ (l.getD i 0).toNat ≤ 90 then (l.getD i 0).toNat + 32 else (l.getD i 0).toNat := by
  have : (lower l).getD i 0 = lowB (l.getD i 0) := by
    simp only [lower, List.getD, List.getElem?_map]
    cases l[i]? <;> rfl
  rw [this, lowB_nat]
theorem low_hi (x y : Nat) (h : y = if 65 ≤ x ∧ x ≤ 90 then x + 32 else x) : (x < 128 ∧ y < 128) ∨ (128 ≤ x ∧ y = x) := by
  split at h <;> omega
theorem decodeN_low (n a b c d a' b' c' d' : Nat) (h0 : (a < 128 ∧ a' < 128) ∨ (128 ≤ a ∧ a' = a)) (h1 : (b < 128 ∧ b' < 128) ∨ (128 ≤ b ∧ b' = b)) (h2 : (c < 128 ∧ c' < 128) ∨ (128 ≤ c ∧ c' = c)) (h3 : (d < 128 ∧ d' < 128) ∨ (128 ≤ d ∧ d' = d)) :
    (decodeN n a' b' c' d').2 = (decodeN n a b c d).2 ∧ (((decodeN n a' b' c' d').1 = 65533 ∧ (decodeN n a' b' c' d').2 = 1) ↔ ((decodeN n a b c d).1 = 65533 ∧ (decodeN n a b c d).2 = 1)) := by
  rcases h0 with ⟨x0, y0⟩ | ⟨x0, rfl⟩
  · unfold decodeN; rw [if_pos x0, if_pos y0]; simp; omega
  have na : ¬ a' < 128 := by omega
  rcases h1 with ⟨x1, y1⟩ | ⟨x1, rfl⟩
  · have e : ∀ p q r : Nat, p < 128 → decodeN n a' p q r = (65533, 1) := by
      intro p q r hp
      unfold decodeN
      rw [if_neg na, if_neg (by omega), if_neg (by omega), if_neg (by omega)]
    rw [e _ _ _ x1, e _ _ _ y1]; simp
  rcases h2 with ⟨x2, y2⟩ | ⟨x2, rfl⟩
  · have e : ∀ q r : Nat, q < 128 → decodeN n a' b' q r = if a' / 32 = 6 ∧ (1 < n ∧ b' / 64 = 2) then (if a' % 32 * 64 + b' % 64 ≥ 128 then (a' % 32 * 64 + b' % 64, 2) else (65533, 1)) else (65533, 1) := by
      intro q r hq
      unfold decodeN
      rw [if_neg na]
      split
      · rfl
      · rw [if_neg (by omega), if_neg (by omega)]
    rw [e _ _ x2, e _ _ y2]; simp
  rcases h3 with ⟨x3, y3⟩ | ⟨x3, rfl⟩
  · have e : ∀ r : Nat, r < 128 → decodeN n a' b' c' r = decodeN n a' b' c' 0 := by
      intro r hr
      unfold decodeN
      rw [if_neg na, if_neg na]
      split
      · rfl
      · split
        · rfl
        · rw [if_neg (by omega), if_neg (by omega)]
    rw [e _ x3, e _ y3]; simp
  simp
theorem decode_lower (l : List UInt8) : (decodeL (lower l)).2 = (decodeL l).2 ∧ (Bad (lower l) ↔ Bad l) := by
  unfold Bad
  rw [decodeL_N, decodeL_N l, lower_length]
  exact decodeN_low _ _ _ _ _ _ _ _ _ (low_hi _ _ (lower_getD l 0)) (low_hi _ _ (lower_getD l 1)) (low_hi _ _ (lower_getD l 2)) (low_hi _ _ (lower_getD l 3))
theorem valid_lower (l : List UInt8) : validD (lower l) = validD l := by
  induction hn : l.length using Nat.strongRecOn generalizing l with
  | ind n ih =>
    by_cases hne : l = []
    · subst hne; rfl
    have hl : 0 < l.length := List.length_pos_iff.2 hne
    have hne' : lower l ≠ [] := fun h => by have := lower_length l; rw [h] at this; simp at this; omega
    have hw := decodeL_width l
    obtain ⟨d1, d2⟩ := decode_lower l
    rw [validD_step l hne, validD_step _ hne']
    rw [Bad, Bad] at d2
    by_cases hb : (decodeL l).1 = 65533 ∧ (decodeL l).2 = 1
    · rw [if_pos hb, if_pos (d2.2 hb)]
    · rw [if_neg hb, if_neg (fun h => hb (d2.1 h)), d1, ← lower_drop]
      exact ih _ (by rw [List.length_drop]; omega) _ rfl

/-! ### A rune's bytes, as the model encodes it -/
theorem encode_eq (v : Int) : (Utf8.encode v).data.toList = encodeRune v := by
  unfold Utf8.encode encodeRune
  by_cases hv : Utf8.valid v = true
  · rw [if_pos hv]
    rw [validRune_eq] at hv
    unfold validRune at hv
    have hv := of_decide_eq_true hv
    dsimp only
    split
    · rw [encodeRuneZ_one (by omega) (by omega)]; simp
    · split
      · rw [encodeRuneZ_two (by omega) (by omega)]
        show [UInt8.ofNat _, UInt8.ofNat _] = [UInt8.ofNat _, UInt8.ofNat _]
        congr 2
        · omega
        · congr 2; omega
      · split
        · rw [encodeRuneZ_three (by omega)]
          show [UInt8.ofNat _, UInt8.ofNat _, UInt8.ofNat _] = [UInt8.ofNat _, UInt8.ofNat _, UInt8.ofNat _]
          rw [show (224 + v / 4096).toNat = 0xE0 + v.toNat / 4096 by omega, show (128 + v / 64 % 64).toNat = 0x80 + v.toNat / 64 % 64 by omega, show (128 + v % 64).toNat = 0x80 + v.toNat % 64 by omega]
        · rw [encodeRuneZ_four (by omega) (by omega)]
          show [UInt8.ofNat _, UInt8.ofNat _, UInt8.ofNat _, UInt8.ofNat _] = [UInt8.ofNat _, UInt8.ofNat _, UInt8.ofNat _, UInt8.ofNat _]
          rw [show (240 + v / 262144).toNat = 0xF0 + v.toNat / 262144 by omega, show (128 + v / 4096 % 64).toNat = 0x80 + v.toNat / 4096 % 64 by omega, show (128 + v / 64 % 64).toNat = 0x80 + v.toNat / 64 % 64 by omega, show (128 + v % 64).toNat = 0x80 + v.toNat % 64 by omega]
  · rw [if_neg hv]
    rw [validRune_eq] at hv
    unfold validRune at hv
    simp only [decide_eq_true_eq] at hv
    rw [encodeRuneZ_bad (by omega)]
    rfl
def badRune (v : Int) : Prop := v < 0 ∨ 1114111 < v ∨ (55296 ≤ v ∧ v ≤ 57343)
instance (v : Int) : Decidable (badRune v) := by unfold badRune; infer_instance
/-- What is none, and only that and fffd, has the sign's bytes. -/
theorem enc_fffd (v : Int) : encodeRune v = fffd ↔ badRune v ∨ v = 65533 := by
  constructor
  · intro h
    have hd := (piece_enc v).2 []
    by_cases hb : badRune v
    · exact .inl hb
    · refine .inr ?_
      unfold badRune at hb
      unfold encodeRune at h
      have hl := congrArg List.length h
      rw [List.length_map] at hl
      by_cases h1 : v ≤ 127
      · rw [encodeRuneZ_one (by omega) h1] at hl; simp [fffd] at hl
      by_cases h2 : v ≤ 2047
      · rw [encodeRuneZ_two (by omega) h2] at hl; simp [fffd] at hl
      by_cases h3 : v ≤ 65535
      · rw [encodeRuneZ_three (by omega)] at h
        simp only [List.map_cons, List.map_nil, fffd] at h
        injection h with a0 h; injection h with a1 h; injection h with a2 h
        have a0 := congrArg UInt8.toNat a0; have a1 := congrArg UInt8.toNat a1; have a2 := congrArg UInt8.toNat a2
        simp at a0 a1 a2
        omega
      · rw [encodeRuneZ_four (by omega) (by omega)] at hl; simp [fffd] at hl
  · rintro (h | rfl)
    · unfold encodeRune; unfold badRune at h; rw [encodeRuneZ_bad (by omega)]; rfl
    · rfl
theorem enc_length (v : Int) : 1 ≤ (encodeRune v).length ∧ (encodeRune v).length ≤ 4 := by
  have := encodeRuneZ_length v
  unfold encodeRune
  rw [List.length_map]; exact this

/-- The last byte of what a step takes is 13 just where the rune is. -/
theorem last_13 (l : List UInt8) (hne : l ≠ []) : l.getD ((decodeL l).2 - 1) 0 = 13 ↔ (decodeL l).1 = 13 := by
  have hl : 0 < l.length := List.length_pos_iff.2 hne
  have ge : ∀ y : UInt8, 128 ≤ y.toNat → ¬ y = 13 := fun y hy => by rintro rfl; simp at hy
  have h13 := head_lt l 13 (by omega)
  by_cases hb : Bad l
  · rw [hb.2, hb.1]
    constructor
    · intro h
      have := h13.2 h
      rw [hb.1] at this; omega
    · intro h; omega
  rw [Bad] at hb
  rw [decodeL_N] at hb h13 ⊢
  rcases decodeN_shape l.length (l.getD 0 0).toNat (l.getD 1 0).toNat (l.getD 2 0).toNat (l.getD 3 0).toNat with ⟨c, e⟩ | ⟨c1, c2, c3, cv, e⟩ | ⟨c1, c2, c3, c4, cv, cs, e⟩ | ⟨c1, c2, c3, c4, c5, cv, cw, e⟩ | e
  · rw [e] at h13 ⊢; exact h13.symm
  · rw [e]; exact ⟨fun h => absurd h (ge (l.getD 1 0) (by omega)), fun h => by dsimp only at h; omega⟩
  · rw [e]; exact ⟨fun h => absurd h (ge (l.getD 2 0) (by omega)), fun h => by dsimp only at h; omega⟩
  · rw [e]; exact ⟨fun h => absurd h (ge (l.getD 3 0) (by omega)), fun h => by dsimp only at h; omega⟩
  · rw [e] at hb; exact absurd ⟨rfl, rfl⟩ hb
/-- Is the byte ahead of a place 13? -/
def prev (s : ByteArray) (pos : Nat) : Bool := decide (0 < pos ∧ s.data.toList.getD (pos - 1) 0 = 13)
theorem prev_step (s : ByteArray) (pos : Nat) (hp : pos < s.size) : prev s (pos + (Utf8.decode s pos).2) = decide ((Utf8.decode s pos).1 = 13) := by
  have hne : s.data.toList.drop pos ≠ [] := fun h => by have := congrArg List.length h; rw [List.length_drop, ← Lib.size_eq] at this; simp at this; omega
  have h := last_13 (s.data.toList.drop pos) hne
  have hw := decodeL_width (s.data.toList.drop pos)
  rw [getD_dropU, decodeL_drop] at h
  rw [decodeL_drop] at hw
  unfold prev
  rw [show pos + (Utf8.decode s pos).2 - 1 = pos + ((Utf8.decode s pos).2 - 1) by omega]
  congr 1
  rw [← h]
  simp; omega
/-- Clean from a place on, as the program goes. -/
def cleanAt (s : ByteArray) (pos : Nat) : List UInt8 := cleanP (s.size - pos) (prev s pos) (s.data.toList.drop pos)
theorem cleanAt_zero (s : ByteArray) : cleanAt s 0 = clean s.data.toList := by
  unfold cleanAt
  rw [List.drop_zero, show prev s 0 = false from rfl, cleanP_eq _ _ (by rw [← Lib.size_eq]; omega)]
theorem cleanP_fuel (p : Bool) (n m : Nat) (l : List UInt8) (hn : l.length ≤ n) (hm : l.length ≤ m) : cleanP n p l = cleanP m p l := by
  cases p
  · exact ((clean_eq n l hn n hn).1).trans (clean_eq m l hm n hn).1.symm
  · exact ((clean_eq n l hn n hn).2).trans (clean_eq m l hm n hn).2.symm
theorem cleanAt_step (s : ByteArray) (pos : Nat) (hp : pos < s.size) :
    cleanAt s pos = (if (Utf8.decode s pos).1 = 0 then fffd else if (Utf8.decode s pos).1 = 13 then [10] else if (Utf8.decode s pos).1 = 10 ∧ prev s pos = true then [] else encodeRune ((Utf8.decode s pos).1 : Int)) ++ cleanAt s (pos + (Utf8.decode s pos).2) := by
  have hne : s.data.toList.drop pos ≠ [] := fun h => by have := congrArg List.length h; rw [List.length_drop, ← Lib.size_eq] at this; simp at this; omega
  have hw := decodeL_width (s.data.toList.drop pos)
  rw [decodeL_drop] at hw
  obtain ⟨n, hn⟩ : ∃ n, s.size - pos = n + 1 := ⟨s.size - pos - 1, by omega⟩
  have hl : s.data.toList.length = s.size := (Lib.size_eq s).symm
  conv => lhs; unfold cleanAt
  rw [hn, cleanP, if_neg hne, decodeL_drop, ← prev_step s pos hp, List.drop_drop]
  unfold cleanAt
  rw [cleanP_fuel _ n (s.size - (pos + (Utf8.decode s pos).2)) _ (by rw [List.length_drop]; omega) (by rw [List.length_drop]; omega)]
theorem cleanAt_end (s : ByteArray) (pos : Nat) (hp : ¬ pos < s.size) : cleanAt s pos = [] := by
  unfold cleanAt
  rw [List.drop_eq_nil_of_le (by rw [← Lib.size_eq]; omega), cleanP_nil]
end Go.Proofs.YtbdgoffbkenofaaGreat.Rc
namespace Go.Proofs.YtbdgoffbkenofaaGreat.Bd
open Go Go.RowKit Go.Proofs
theorem b_byte (B b : Nat) (bs : List Value) (c : Int) (w : World) (h : Lib.IsBuilderF 66 5 B b bs w) (hlen : bs.length + 1 ≤ 140737488355328) (hBw : B ≤ w.heap.size) :
    Calls Tryz.prog 40 #[.pointer (some ⟨b, 0, none⟩), .int .u8 c] w fun e w' => e = .returned .nilIface ∧ (Lib.BuilderAtF 66 5 B b (.pointer (some ⟨b, 0, none⟩)) (bs ++ [.int .u8 c]) w' ∧ Below B w w' ∧ Lib.OthersKept 5 (some b) w w') :=
  Any.Builder_WriteByte_k L2.lays167 L2.builderExtra B b bs c w h hlen hBw
theorem b_rune (B b : Nat) (bs : List Value) (r : Int) (h0 : -2147483648 ≤ r) (h1 : r ≤ 2147483647) (w : World) (h : Lib.IsBuilderF 66 5 B b bs w) (hlen : bs.length + 4 ≤ 140737488355328) (hBw : B ≤ w.heap.size) :
    Calls Tryz.prog 39 #[.pointer (some ⟨b, 0, none⟩), .int .i32 r] w fun e w' => e = .returned (.tuple #[.int .i64 (Lib.runeCells r).length, .nilIface]) ∧ (Lib.BuilderAtF 66 5 B b (.pointer (some ⟨b, 0, none⟩)) (bs ++ Lib.runeCells r) w' ∧ Below B w w' ∧ Lib.OthersKept 5 (some b) w w') :=
  Any.Builder_WriteRune_k L2.lays168 L2.builderExtra B b bs r h0 h1 w h hlen hBw
theorem b_string (B b : Nat) (l : List UInt8) (w : World) (h : Lib.IsBuilderF 66 5 B b (Lib.byteCells l) w) (hBw : B ≤ w.heap.size) :
    Calls Tryz.prog 41 #[.pointer (some ⟨b, 0, none⟩)] w fun e w' => e = .returned (.string ⟨l.toArray⟩) ∧ (Lib.IsBuilderF 66 5 B b (Lib.byteCells l) w' ∧ Below B w w' ∧ Lib.OthersKept 5 (some b) w w') :=
  Any.Builder_String_any_k L2.lays169 L2.builderExtra B b l w h hBw
end Go.Proofs.YtbdgoffbkenofaaGreat.Bd
namespace Go.Proofs.YtbdgoffbkenofaaGreat.Rc
open Go Go.RowKit Go.Lib Go.Proofs.YtbdgoffbkenofaaGreat.Bd
set_option linter.unusedVariables false

theorem step_zero (s : ByteArray) (pos : Nat) (hp : pos < s.size) (h : (Utf8.decode s pos).1 = 0) : cleanAt s pos = fffd ++ cleanAt s (pos + (Utf8.decode s pos).2) := by rw [cleanAt_step s pos hp, if_pos h]
theorem step_13 (s : ByteArray) (pos : Nat) (hp : pos < s.size) (h : (Utf8.decode s pos).1 = 13) : cleanAt s pos = [10] ++ cleanAt s (pos + (Utf8.decode s pos).2) := by rw [cleanAt_step s pos hp, if_neg (by omega), if_pos h]
theorem step_10 (s : ByteArray) (pos : Nat) (hp : pos < s.size) (h : (Utf8.decode s pos).1 = 10) (hq : prev s pos = true) : cleanAt s pos = cleanAt s (pos + (Utf8.decode s pos).2) := by rw [cleanAt_step s pos hp, if_neg (by omega), if_neg (by omega), if_pos ⟨h, hq⟩, List.nil_append]
theorem step_rune (s : ByteArray) (pos : Nat) (hp : pos < s.size) (h0 : (Utf8.decode s pos).1 ≠ 0) (h13 : (Utf8.decode s pos).1 ≠ 13) (h10 : (Utf8.decode s pos).1 ≠ 10 ∨ prev s pos = false) : cleanAt s pos = encodeRune ((Utf8.decode s pos).1 : Int) ++ cleanAt s (pos + (Utf8.decode s pos).2) := by
  rw [cleanAt_step s pos hp, if_neg h0, if_neg h13, if_neg (by rintro ⟨a, b⟩; rcases h10 with h | h; exact h a; rw [h] at b; cases b)]

theorem prev_succ (s : ByteArray) (k : Nat) (hk : k < s.size) : prev s (k + 1) = ((s[k].toNat : Int) == 13) := by
  unfold prev
  rw [Nat.add_sub_cancel, Lib.getD_get!', show s.get! k = s[k] from get_at s k hk]
  have : (s[k] = 13) ↔ (s[k].toNat : Int) = 13 := by
    rw [← UInt8.toNat_inj]; simp; omega
  by_cases h : s[k] = 13
  · have h2 := this.1 h
    rw [h2, h]; simp
  · have h2 : ¬ (s[k].toNat : Int) = 13 := fun e => h (this.2 e)
    rw [beq_eq_false_iff_ne.2 h2]; simp [h]

set_option maxHeartbeats 4000000 in
set_option maxRecDepth 1000000 in
theorem clean_calls (s : ByteArray) (w : World) (hs : s.size ≤ 35184372088832) :
    Calls Tryz.prog 24 #[.string s] w fun e w' => e = .returned (.string ⟨(clean s.data.toList).toArray⟩) ∧ Below w.heap.size w w' := by
  have H0 : Hid _ := Lib.hid (cleanAt_zero s)
  go_enter Tryz.func24, Tryz.ntmps24
  go_wp2
  go_loopw [] (fun wr => ∃ (pos : Nat) (acc : List UInt8), Lib.IsBuilderF 66 5 w.heap.size w.heap.size (Lib.byteCells acc) wr ∧ wr.heap[w.heap.size + 1]? = some (.stringIter s pos) ∧ Below w.heap.size w wr ∧ Hid (acc ++ cleanAt s pos = cleanAt s 0) ∧ acc.length ≤ 4 * pos) (fun wr => s.size - wr.iterPos (w.heap.size + 1))
  case atStart =>
    refine ⟨0, [], (Lib.IsBuilderF.of (Lib.fresh_isBuilder 66 5 w)).alloc _, ?_, ((Below.refl _ w).alloc (Nat.le_refl _) _).alloc (by simp) _, Lib.hid rfl, by simp⟩
    have := World.iter_heap (w.alloc (.cells #[.pointer none, .slice none 0 0] 66)) s 0
    simpa using this
  case round =>
    obtain ⟨pos, acc, hI, hit, hbw, HA, hal⟩ := hrel
    have hsz : w.heap.size + 1 < wr.heap.size := (Array.getElem?_eq_some_iff.1 hit).1
    by_cases hp : pos < s.size
    · have hnx : ∀ ty, (Instr.next (.pointer (some ⟨w.heap.size + 1, 0, none⟩)) true ty).run Tryz.prog wr = _ := fun ty => Lib.run_next_any_at wr (w.heap.size + 1) s pos ty hit hp
      have hwd := Lib.width_pos s pos
      have hd1 := decode_le s pos
      have hI2 := hI.iterAt hit (pos + (Utf8.decode s pos).2)
      have hit2 := Lib.iterAt_heap wr (w.heap.size + 1) s pos (pos + (Utf8.decode s pos).2) hit
      have hbw2 := Lib.below_iterAt hbw (k := w.heap.size + 1) (by omega) s (pos + (Utf8.decode s pos).2)
      have hsz2 : w.heap.size ≤ (wr.iterAt (w.heap.size + 1) s (pos + (Utf8.decode s pos).2)).heap.size := by rw [Lib.iterAt_size]; omega
      have HI2 := Lib.hid hit2
      have HI0 := Lib.hid hit
      have HS0 : Hid _ := Lib.hid (step_zero s pos hp)
      have HS1 : Hid _ := Lib.hid (step_13 s pos hp)
      have HS2 : Hid _ := Lib.hid (step_10 s pos hp)
      have HS3 : Hid _ := Lib.hid (step_rune s pos hp)
      clear hit hit2
      by_cases e0 : (Utf8.decode s pos).1 = 0
      · have HE := Lib.hid e0
        clear e0
        have t0 : (((Utf8.decode s pos).1 : Int) == 0) = true := by rw [HE.out]; rfl
        go_wp2_with fail
        refine (b_rune w.heap.size w.heap.size _ 65533 (by omega) (by omega) _ hI2 (by rw [Lib.byteCells_length]; omega) hsz2).mono ?_
        rintro e W1 ⟨rfl, h1, b1, k1⟩
        go_wp2
        go_roundw
        case rel =>
          refine ⟨pos + (Utf8.decode s pos).2, acc ++ fffd, ?_, k1.iter HI2.out (by omega), hbw2.trans b1, Lib.hid ?_, ?_⟩
          · rw [Lib.byteCells_append]; exact Or.inr h1
          · rw [List.append_assoc, ← HS0.out HE.out]; exact HA.out
          · rw [List.length_append, show fffd.length = 3 from rfl]; omega
        case measure =>
          simp only [World.iterPos, k1.iter HI2.out (by omega), HI0.out]
          omega
      have n0 : (((Utf8.decode s pos).1 : Int) == 0) = false := by simp; omega
      by_cases e13 : (Utf8.decode s pos).1 = 13
      · have HE := Lib.hid e13
        have HE0 := Lib.hid e0
        clear e13 e0
        have t0 : (((Utf8.decode s pos).1 : Int) == 13) = true := by rw [HE.out]; rfl
        go_wp2_with fail
        refine (b_byte w.heap.size w.heap.size _ 10 _ hI2 (by rw [Lib.byteCells_length]; omega) hsz2).mono ?_
        rintro e W1 ⟨rfl, h1, b1, k1⟩
        go_wp2
        go_roundw
        case rel =>
          refine ⟨pos + (Utf8.decode s pos).2, acc ++ [10], ?_, k1.iter HI2.out (by omega), hbw2.trans b1, Lib.hid ?_, ?_⟩
          · rw [Lib.byteCells_append]; exact Or.inr h1
          · rw [List.append_assoc, ← HS1.out HE.out]; exact HA.out
          · rw [List.length_append]; simp only [List.length_cons, List.length_nil]; omega
        case measure =>
          simp only [World.iterPos, k1.iter HI2.out (by omega), HI0.out]
          omega
      have n13 : (((Utf8.decode s pos).1 : Int) == 13) = false := by simp; omega
      have HE0 := Lib.hid e0
      have HE13 := Lib.hid e13
      clear e0 e13
      by_cases e10 : (Utf8.decode s pos).1 = 10
      · have t0 : (((Utf8.decode s pos).1 : Int) == 10) = true := by rw [e10]; rfl
        have HE := Lib.hid e10
        clear e10
        cases pos with
        | zero =>
          have HQ : Hid _ := Lib.hid (show prev s 0 = false from rfl)
          rw [Nat.zero_add] at hI2
          have hl4 := Lib.runeCells_le ((Utf8.decode s 0).1 : Int)
          rw [Lib.runeCells_length] at hl4
          go_wp2_with fail
          refine (b_rune w.heap.size w.heap.size _ _ (by omega) (by omega) _ hI2 (by rw [Lib.byteCells_length]; omega) (by simpa using hsz2)).mono ?_
          rintro e W1 ⟨rfl, h1, b1, k1⟩
          have HI3 := HI2.out
          rw [Nat.zero_add] at HI3
          have HK := Lib.hid (k1.iter HI3 (by omega))
          clear HI3
          go_wp2
          go_roundw
          case rel =>
            refine ⟨(Utf8.decode s 0).2, acc ++ Lib.encodeRune (Utf8.decode s 0).1, ?_, HK.out, ?_, Lib.hid ?_, by simp; omega⟩
            · rw [Lib.byteCells_append, Lib.byteCells_encodeRune]; exact Or.inr h1
            · rw [Nat.zero_add] at hbw2; exact hbw2.trans b1
            · have := HS3.out HE0.out HE13.out (.inr HQ.out)
              rw [Nat.zero_add] at this
              rw [List.append_assoc, ← this]; exact HA.out
          case measure =>
            simp only [World.iterPos, HK.out, HI0.out]
            omega
        | succ k =>
          have hk : k < s.size := by omega
          have HP : Hid _ := Lib.hid (prev_succ s k hk)
          have hl4 := Lib.runeCells_le ((Utf8.decode s (k + 1)).1 : Int)
          rw [Lib.runeCells_length] at hl4
          go_wp2_with fail
          · have hq : ((s[k].toNat : Int) == 13) = true := by assumption
            go_roundw
            case rel =>
              refine ⟨k + 1 + (Utf8.decode s (k + 1)).2, acc, hI2, HI2.out, hbw2, Lib.hid ?_, by omega⟩
              rw [← HS2.out HE.out (by rw [HP.out]; exact hq)]; exact HA.out
            case measure =>
              simp only [World.iterPos, HI2.out, HI0.out]
              omega
          · have hq : ((s[k].toNat : Int) == 13) = false := by assumption
            refine (b_rune w.heap.size w.heap.size _ _ (by omega) (by omega) _ hI2 (by rw [Lib.byteCells_length]; omega) hsz2).mono ?_
            rintro e W1 ⟨rfl, h1, b1, k1⟩
            go_wp2
            go_roundw
            case rel =>
              refine ⟨k + 1 + (Utf8.decode s (k + 1)).2, acc ++ Lib.encodeRune (Utf8.decode s (k + 1)).1, ?_, k1.iter HI2.out (by omega), hbw2.trans b1, Lib.hid ?_, by simp; omega⟩
              · rw [Lib.byteCells_append, Lib.byteCells_encodeRune]; exact Or.inr h1
              · rw [List.append_assoc, ← HS3.out HE0.out HE13.out (.inr (by rw [HP.out]; exact hq))]; exact HA.out
            case measure =>
              simp only [World.iterPos, k1.iter HI2.out (by omega), HI0.out]
              omega
      have n10 : (((Utf8.decode s pos).1 : Int) == 10) = false := by simp; omega
      have HE10 := Lib.hid e10
      clear e10
      have hl4 := Lib.runeCells_le ((Utf8.decode s pos).1 : Int)
      rw [Lib.runeCells_length] at hl4
      go_wp2_with fail
      refine (b_rune w.heap.size w.heap.size _ _ (by omega) (by omega) _ hI2 (by rw [Lib.byteCells_length]; omega) hsz2).mono ?_
      rintro e W1 ⟨rfl, h1, b1, k1⟩
      go_wp2
      go_roundw
      case rel =>
        refine ⟨pos + (Utf8.decode s pos).2, acc ++ Lib.encodeRune (Utf8.decode s pos).1, ?_, k1.iter HI2.out (by omega), hbw2.trans b1, Lib.hid ?_, by simp; omega⟩
        · rw [Lib.byteCells_append, Lib.byteCells_encodeRune]; exact Or.inr h1
        · rw [List.append_assoc, ← HS3.out HE0.out HE13.out (.inl HE10.out)]; exact HA.out
      case measure =>
        simp only [World.iterPos, k1.iter HI2.out (by omega), HI0.out]
        omega
    · have hnx : ∀ ty, (Instr.next (.pointer (some ⟨w.heap.size + 1, 0, none⟩)) true ty).run Tryz.prog wr = _ := fun ty => Lib.run_next_end_at wr (w.heap.size + 1) s pos ty hit hp
      have HE : Hid _ := Lib.hid (cleanAt_end s pos hp)
      go_wp2_with fail
      refine (b_string w.heap.size w.heap.size acc _ hI (by omega)).mono ?_
      rintro e W1 ⟨rfl, _, b1, _⟩
      go_wp2
      go_ret
      have e := HA.out
      rw [HE.out, List.append_nil, H0.out] at e
      subst e
      exact ⟨rfl, hbw.trans b1⟩
end Go.Proofs.YtbdgoffbkenofaaGreat.Rc
namespace Go.Proofs.YtbdgoffbkenofaaGreat.Sc
open Go Go.RowKit Go.Shelf Go.Proofs.YtbdgoffbkenofaaGreat.Tk Go.Proofs.YtbdgoffbkenofaaGreat.Tr
attribute [local go_sem] Oper.semAt_some
set_option linter.unusedVariables false
set_option maxRecDepth 100000

theorem pieces_calls (s : ByteArray) (w : World) :
    Calls Tryz.prog 23 #[.string s] w fun e w' => e = .returned (.func (.func 36) #[] #[.pointer (some ⟨w.heap.size, 0, none⟩)]) ∧ w' = w.alloc (.cells #[.string s] 9) := by
  go_enter Tryz.func23, Tryz.ntmps23
  go_wp2_with fail
  go_ret
  exact ⟨rfl, rfl⟩
def cleanB (s : ByteArray) : ByteArray := ⟨(Rc.clean s.data.toList).toArray⟩
/-- All pieces, handed back. -/
def AllEnd (l : List Tok) (w : World) (e : Ending) (w' : World) : Prop :=
  ∃ (v : Value) (xs : List Itm), e = .returned v ∧ xs.map Prod.fst = l ∧ w'.ownsRow (w.heap.size + 1) 27 5 v xs.length (cellsT xs) ∧ (∀ x ∈ xs, IsAttrs w' w'.heap.size x.1.attrs x.2.1 x.2.2) ∧ Below w.heap.size w w'
theorem tok_info : (Tryz.prog.info? 27).map (fun i => (i.zero, i.size, i.bytes)) = some (some (.agg #[.int .i64 0, .string ByteArray.empty, .string ByteArray.empty, .slice none 0 0, .bool false]), 5, 72) := by kernel_rfl
def AllJ (w : World) (lb sb : Nat) (c : ByteArray) (pre : List Itm) (W : World) : Prop := AllI w lb pre W ∧ W.heap[sb]? = some (.cells #[.string c] 9 (0, 0))
theorem AllJ.abide (w : World) (lb sb : Nat) (c : ByteArray) (D : Nat) (hD : w.heap.size ≤ D) : OwnFrom D (AllJ w lb sb c) :=
  (AllI.abide w lb D hD).and (fun s W W' row h hg hr => (grownBy_keeps_cells hg (fun r e => (hr r e).2) h rfl).trans h)
theorem tok_str : (27 : TypeId) ≠ 9 := by decide
set_option maxHeartbeats 4000000 in
theorem all_calls (s : ByteArray) (hs : s.size ≤ 20000) (hc : (cleanB s).size ≤ 100000) (w : World) :
    Calls Tryz.prog 10 #[.string s] w (AllEnd (pcsP (cleanB s) 0 ⟨#[]⟩) w) := by
  have HC : Hid (∀ W, Calls Tryz.prog 24 #[.string s] W fun e w' => e = .returned (.string (cleanB s)) ∧ Below W.heap.size W w') := Lib.hid (fun W => Rc.clean_calls s W (Nat.le_trans hs (by decide)))
  generalize cleanB s = c at *
  have g0 := (Below.refl _ w).alloc (Nat.le_refl _) (.cells #[.slice none 0 0] 23)
  have g1 := alloc_new w (.cells #[.slice none 0 0] 23)
  have hA0 : Hid (AllI w w.heap.size [] (w.alloc (.cells #[.slice none 0 0] 23))) := Lib.hid ⟨⟨_, g1, ⟨rfl, .inl ⟨rfl, rfl⟩⟩, fun x h => by simp at h⟩, fun x h => by simp at h, g0, Nat.le_refl _⟩
  clear g0 g1
  refine (callsIn_wide (n := 9)).1 ?_
  refine callsIn_of_wp_marks Tryz.func10 rfl trivial ?_ rfl
  simp only [Tryz.ntmps10, List.size_toArray, List.length_cons, List.length_nil, Nat.reduceAdd, Nat.reduceSub, Array.replicate_succ, Array.replicate_zero, List.push_toArray, List.append_toArray, List.nil_append, List.cons_append]
  gi_wp2
  refine wpIn_wide.2 ?_
  refine wp_scope_straight ?_
  refine (wpIn_wide (n := 9)).1 ?_
  gi_wp2
  refine wpIn_label ?_
  gi_wp2
  generalize w.alloc (.cells #[.slice none 0 0] 23) = W0 at *
  obtain ⟨lb, hlb⟩ : ∃ lb, w.heap.size = lb := ⟨_, rfl⟩
  rw [hlb] at hA0 ⊢
  refine ⟨trivial, ?_⟩
  gi_at_call 24
  refine (callsIn_wide.2 (HC.out _)).mono ?_
  rintro e w1 ⟨rfl, hb1⟩
  have hA1 := Lib.hid (hA0.out.keep hb1)
  clear hb1 hA0
  gi_wp2
  refine ⟨trivial, ?_⟩
  gi_at_call 23
  refine (callsIn_wide.2 (pieces_calls _ _)).mono ?_
  rintro e w2 ⟨rfl, rfl⟩
  have hA2 := Lib.hid (hA1.out.keep ((Below.refl _ w1).alloc (Nat.le_refl _) (.cells #[.string c] 9)))
  have hbx := alloc_new w1 (.cells #[.string c] 9)
  gi_wp2
  have hD : w.heap.size ≤ (w1.alloc (.cells #[.string c] 9)).heap.size := hA2.out.bel.size
  refine range_pieces (by decide) 0 hc (sb := w1.heap.size) rfl rfl hbx (AllJ w lb w1.heap.size c) (AllJ w lb w1.heap.size c) (AllJ.abide _ _ _ _ _ hD) (AllJ.abide _ _ _ _ _ hD) ⟨hA2.out, hbx⟩ ?round ?stop
  case round =>
    have hsb := lt_of_block hbx
    have hlbs : lb < w1.heap.size := by obtain ⟨v, hb, _⟩ := hA1.out.box; exact lt_of_block hb
    clear hA1 hA2 hbx HC
    rintro l pre ⟨o, A, ac⟩ W hl ⟨r, hlr⟩ ⟨hi, hbxW⟩ hlen hat hex
    replace hex : ∃ W0, AllI w lb pre W0 ∧ Below W0.heap.size W0 W ∧ (w1.alloc (.cells #[.string c] 9)).heap.size + 2 ≤ W0.heap.size ∧ ∀ p, A = some p → W0.heap.size ≤ p.block := by obtain ⟨W0', k1, k2, k3, k4⟩ := hex; exact ⟨W0', k1.1, k2, k3, k4⟩
    have HBW := Lib.hid hbxW
    have HI := Lib.hid hi
    have HAT := Lib.hid hat
    have HEX := Lib.hid hex
    have HLR := Lib.hid hlr
    have HLN := Lib.hid hlen
    clear hi hat hex hlr hlen hbxW
    unfold roundP
    have hz : ((#[8] : Array Tmp).zip #[tokW (o, A, ac)]).foldl (fun t (x : Tmp × Value) => t.setIfInBounds x.1 x.2) #[.string s, undef, .slice none 0 0, .pointer (some ⟨lb, 0, none⟩), undef, .string s, .string c, .func (.func 36) #[] #[.pointer (some ⟨w1.heap.size, 0, none⟩)], undef, undef, undef, undef, undef, undef, undef, undef, undef] = #[.string s, undef, .slice none 0 0, .pointer (some ⟨lb, 0, none⟩), undef, .string s, .string c, .func (.func 36) #[] #[.pointer (some ⟨w1.heap.size, 0, none⟩)], .agg #[.int .i64 o.kind, .string o.name, .string o.text, .slice A o.attrs.length ac, .bool o.raw], undef, undef, undef, undef, undef, undef, undef, undef] := by simp [tokW]
    rw [hz]
    clear hz
    gi_wp2
    have hlW := lt_of_block HLR.out
    refine ⟨⟨by simp, fun k q hk _ => (Below.heap_alloc W _ k (lt_of_block hk)).trans hk⟩, fun r' => ?_⟩
    obtain ⟨v, hb, hrow, hne⟩ := HI.out.box
    have hbt := (Below.refl _ W).alloc (Nat.le_refl _) (.cells #[.int .i64 o.kind, .string o.name, .string o.text, .slice A o.attrs.length ac, .bool o.raw] 27)
    have hlr2 : (W.alloc (.cells #[.int .i64 o.kind, .string o.name, .string o.text, .slice A o.attrs.length ac, .bool o.raw] 27)).heap[l]? = some (.loop r) := (Below.heap_alloc W _ l hlW).trans HLR.out
    have OW := AllI.abide w lb (w1.alloc (.cells #[.string c] 9)).heap.size hD
    have HI2 := Lib.hid (OW.putObj (.loop r') (OW.alloc (.cells #[.int .i64 o.kind, .string o.name, .string o.text, .slice A o.attrs.length ac, .bool o.raw] 27) HI.out) (Nat.le_of_lt hl) hlr2 rfl)
    have hpo : ∀ k cs t f, W.heap[k]? = some (Obj.cells cs t f) → ((W.alloc (.cells #[.int .i64 o.kind, .string o.name, .string o.text, .slice A o.attrs.length ac, .bool o.raw] 27)).putObj l (.loop r')).heap[k]? = some (Obj.cells cs t f) := fun k cs t f hk =>
      (World.putObj_heap_other (fun e => by rw [e, HLR.out] at hk; cases hk)).trans ((Below.heap_alloc W _ k (lt_of_block hk)).trans hk)
    have hb2 := hpo _ _ _ _ hb
    have ht2 : ((W.alloc (.cells #[.int .i64 o.kind, .string o.name, .string o.text, .slice A o.attrs.length ac, .bool o.raw] 27)).putObj l (.loop r')).heap[W.heap.size]? = some (.cells #[.int .i64 o.kind, .string o.name, .string o.text, .slice A o.attrs.length ac, .bool o.raw] 27 (0, 0)) := (World.putObj_heap_other (by omega)).trans (alloc_new W _)
    have hat2 : IsAttrs ((W.alloc (.cells #[.int .i64 o.kind, .string o.name, .string o.text, .slice A o.attrs.length ac, .bool o.raw] 27)).putObj l (.loop r')) ((W.alloc (.cells #[.int .i64 o.kind, .string o.name, .string o.text, .slice A o.attrs.length ac, .bool o.raw] 27)).putObj l (.loop r')).heap.size o.attrs A ac := isAttrs_cells HAT.out (by simp) fun _ p _ cs t f hk => hpo _ _ _ _ hk
    have hbs : ((W.alloc (.cells #[.int .i64 o.kind, .string o.name, .string o.text, .slice A o.attrs.length ac, .bool o.raw] 27)).putObj l (.loop r')).heap[w1.heap.size]? = W.heap[w1.heap.size]? := (World.putObj_heap_other (by have := hl; simp at this; omega)).trans (Below.heap_alloc W _ _ (by have := hl; simp at this; omega))
    have hsz2 : W.heap.size < ((W.alloc (.cells #[.int .i64 o.kind, .string o.name, .string o.text, .slice A o.attrs.length ac, .bool o.raw] 27)).putObj l (.loop r')).heap.size := by simp
    have hxp : o.attrs ≠ [] → ∀ p, A = some p → lb < p.block ∧ v.ownBlock ≠ some p.block := fun _ p hp => by
      obtain ⟨W0', k1, k2, k3, k4⟩ := HEX.out
      obtain ⟨v0, q1, q2, _⟩ := k1.box
      have hl0 := lt_of_block q1
      have e1 := (k2.block lb hl0).trans q1
      rw [hb] at e1
      have ev : v = v0 := by injection e1 with e1; injection e1 with e1; injection e1 with e1; simpa using e1
      subst ev
      have := k4 p hp
      exact ⟨by omega, fun e => by have := (q2.lt p.block e).2; omega⟩
    have hrow2 : ((W.alloc (.cells #[.int .i64 o.kind, .string o.name, .string o.text, .slice A o.attrs.length ac, .bool o.raw] 27)).putObj l (.loop r')).ownsRow (lb + 1) 27 5 v pre.length (cellsT pre) := by
      refine ⟨hrow.1, ?_⟩
      rcases hrow.2 with h2 | ⟨g, cap, cur, h1, h5, h6, h7⟩
      · exact .inl h2
      · exact .inr ⟨g, cap, cur, h1, h5, hpo _ _ _ _ h6, h7⟩
    obtain ⟨tb, htb⟩ : ∃ tb, W.heap.size = tb := ⟨_, rfl⟩
    have HBS := Lib.hid hbs
    generalize (W.alloc (.cells #[.int .i64 o.kind, .string o.name, .string o.text, .slice A o.attrs.length ac, .bool o.raw] 27)).putObj l (.loop r') = W2 at *
    rw [htb] at ht2 hsz2 ⊢
    have c0 : W2.cell? ⟨lb, 0, none⟩ = some v := by rw [block_cell hb2]; rfl
    obtain ⟨x0, x1, x2, x3, x4⟩ := tbox5 ht2
    have HROW2 : Hid ((W2.alloc (.cells #[.int .i64 o.kind, .string o.name, .string o.text, .slice A o.attrs.length ac, .bool o.raw] 27)).ownsRow (lb + 1) 27 5 v pre.length (cellsT pre)) := Lib.hid (by
      refine ⟨hrow2.1, ?_⟩
      rcases hrow2.2 with h2 | ⟨g, cap, cur, h1, h5, h6, h7⟩
      · exact .inl h2
      · exact .inr ⟨g, cap, cur, h1, h5, alloc_old h6 _, h7⟩)
    have HN2 : Hid (∀ j u, (fiveT (o, A, ac))[j]? = some u → (W2.alloc (.cells #[.int .i64 o.kind, .string o.name, .string o.text, .slice A o.attrs.length ac, .bool o.raw] 27)).cell? ((⟨W2.heap.size, 0, none⟩ : Addr).add j) = some u) := Lib.hid fun j u hj => by
      have ha : (⟨W2.heap.size, 0, none⟩ : Addr).add j = ⟨W2.heap.size, j, none⟩ := by unfold Addr.add; split <;> simp_all
      rw [ha, block_cell (alloc_new W2 _)]
      simpa [fiveT] using hj
    have HONE : Hid (∀ u ∈ fiveT (o, A, ac), u.oneCell' = true) := Lib.hid fun u hu => by
      simp [fiveT] at hu
      rcases hu with rfl | rfl | rfl | rfl | rfl <;> rfl
    have hln : pre.length ≤ 100000 := by have := HLN.out; omega
    have hlb2 : lb + 1 ≤ W2.heap.size := lt_of_block hb2
    have HB2 := Lib.hid hb2
    have HAT2 := Lib.hid hat2
    have HXP := Lib.hid hxp
    have hvt : some tb ≠ v.ownBlock := fun e => by have := (hrow.lt tb e.symm).2; omega
    have hvs : some w1.heap.size ≠ v.ownBlock := fun e => by
      rcases hrow.2 with ⟨h2, _⟩ | ⟨g, cap, cur, h1, _, h6, _⟩
      · rw [h2] at e; cases e
      · rw [h1] at e; injection e with e; subst e
        rw [HBW.out] at h6; injection h6 with h6; injection h6 with _ h6 _; exact tok_str h6.symm
    have hlt : lb < tb := by have := lt_of_block hb; omega
    have old : ∀ W8 : World, (W2.alloc (.cells #[.int .i64 o.kind, .string o.name, .string o.text, .slice A o.attrs.length ac, .bool o.raw] 27)).grownBy W8 v.ownBlock → ∀ v' k, k < W2.heap.size → some k ≠ v.ownBlock → k ≠ lb → (W8.setCell ⟨lb, 0, none⟩ v').heap[k]? = W2.heap[k]? := fun W8 g8 v' k hk h1 h2 =>
      (Below.heap_setCell _ _ _ k h2).trans ((g8.block k (by rw [World.size_alloc]; omega) h1).trans (Below.heap_alloc W2 _ k hk))
    have HOLD := Lib.hid old
    have HKO : Hid (∀ W8 : World, (W2.alloc (.cells #[.int .i64 o.kind, .string o.name, .string o.text, .slice A o.attrs.length ac, .bool o.raw] 27)).grownBy W8 v.ownBlock → ∀ v', KeepsOthers W2 (W8.setCell ⟨lb, 0, none⟩ v')) := Lib.hid (fun W8 g8 v' => ⟨by have := g8.size; rw [World.size_alloc] at this; simp [World.setCell]; omega, fun k q hk hq => by
      refine (old W8 g8 v' k (lt_of_block hk) (fun e => ?_) (fun e => ?_)).trans hk
      · rcases hrow2.2 with ⟨h2, _⟩ | ⟨g, cap, cur, h1, _, h6, _⟩
        · rw [h2] at e; cases e
        · rw [h1] at e; injection e with e; subst e
          rw [hk] at h6; injection h6 with h6; subst h6; cases hq
      · rw [e, hb2] at hk; injection hk with hk; subst hk; cases hq⟩)
    have HT2 := Lib.hid ht2
    have HN3 := Lib.hid (⟨hvt, hvs, hlt⟩ : some tb ≠ v.ownBlock ∧ some w1.heap.size ≠ v.ownBlock ∧ lb < tb)
    have HSB := Lib.hid (show w1.heap.size < W2.heap.size by omega)
    have HS2 := Lib.hid hsz2
    have HLS := Lib.hid hlbs
    obtain ⟨i0, hi0, hz0', hz1', hz2'⟩ := info_parts tok_info
    clear hb hrow hne hbt hlr2 OW hpo hb2 ht2 hat2 hbs hxp hrow2 old hvt hvs
    gi_wp2_with (gi_at_builtin; go_loud (refine wpListIn_append_own_at _ rfl (.tmp 9) (.tmp 11) 23 rfl (lb + 1) 27 i0 _ 5 72 Tryz.underlying23 hi0 hz0' hz1' hz2' rfl (by decide) _ _ _ rfl HROW2.out ⟨W2.heap.size, 0, none⟩ 1 1 (fiveT (o, A, ac)) rfl rfl HN2.out HONE.out (by unfold maxLen; omega) (by omega) (by simp; omega) ?_))
    intro v' w8 gr1 gr2 _ gr3
    have hI8 := Lib.hid (AllI.push (x := (o, A, ac)) HI2.out HB2.out HAT2.out HXP.out gr1 gr2 (by rw [World.size_alloc]; exact gr3))
    have hb8 : w8.heap[lb]? = some (.cells #[v] 23 (0, 0)) := (gr2.block lb (by rw [World.size_alloc]; have := HN3.out.2.2; omega) (fun e => by have := (HROW2.out.lt lb e.symm).1; omega)).trans ((Below.heap_alloc W2 _ lb (by omega)).trans HB2.out)
    have c8 : w8.cell? ⟨lb, 0, none⟩ = some v := by rw [block_cell hb8]; rfl
    have f8 : w8.frozen? ⟨lb, 0, none⟩ = false := Lib.frozen_of_heap hb8 0
    have ht9 := (HOLD.out w8 gr2 v' tb HS2.out HN3.out.1 (by have := HN3.out.2.2; omega)).trans HT2.out
    have x0' : (w8.setCell ⟨lb, 0, none⟩ v').cell? ⟨tb, 0, none⟩ = some (.int .i64 o.kind) := (tbox5 ht9).1
    have HK8 := Lib.hid (HKO.out w8 gr2 v')
    have HS8 := Lib.hid ((HOLD.out w8 gr2 v' w1.heap.size HSB.out HN3.out.2.1 (by have := HLS.out; omega)).trans HBS.out)
    obtain ⟨ao, n', cp, rfl⟩ : ∃ ao n' cp, v' = .slice ao n' cp := by
      rcases gr1.2 with ⟨hv, _⟩ | ⟨g, cap, cur, hv, _⟩
      · exact ⟨_, _, _, hv⟩
      · exact ⟨_, _, _, hv⟩
    clear gr1 gr2 gr3 hb8 ht9
    by_cases hk6 : o.kind = 6
    · have q6 : (o.kind == 6) = true := by rw [hk6]; rfl
      have H6 := Lib.hid hk6
      clear hk6
      gi_wp2
      exact ⟨rfl, HK8.out, ⟨hI8.out, HS8.out.trans HBW.out⟩, H6.out⟩
    · have q6 : (o.kind == 6) = false := by rw [beq_eq_false_iff_ne]; exact hk6
      have H6 := Lib.hid hk6
      clear hk6
      gi_wp2
      exact ⟨HK8.out, ⟨hI8.out, HS8.out.trans HBW.out⟩, H6.out, by have := HK8.out.size; have := HS2.out; omega, HS8.out⟩
  case stop =>
    clear hA1 hA2 hbx HC
    rintro D xs W hDD hxs ⟨hA, _⟩ hK
    obtain ⟨v, hb, hrow, hne⟩ := hA.box
    have c0 : W.cell? ⟨lb, 0, none⟩ = some v := by rw [block_cell hb]; rfl
    have HAL := Lib.hid hA
    have HROW := Lib.hid hrow
    have HKD := Lib.hid hK
    have HXS := Lib.hid hxs
    clear hb hrow hne hA hK hxs
    gi_wp2
    rw [Exit.noGoto_ret]
    have hA' := AllI.abide w lb w.heap.size (Nat.le_refl _) xs W _ (some D) HAL.out (grownBy_putObj' W D (.deferred none)) (fun r e => by cases e; exact ⟨by omega, _, HKD.out, rfl⟩)
    have hrw := ownsRow_putObj HROW.out (.deferred none) HKD.out rfl
    refine ⟨by simp, .inl ⟨_, _, rfl, run_takeDeferred HKD.out, ?_⟩⟩
    exact ⟨_, results_tmp rfl _ _ _, v, xs, rfl, HXS.out, hlb ▸ hrw, hA'.att, hA'.bel⟩
end Go.Proofs.YtbdgoffbkenofaaGreat.Sc
namespace Go.Proofs.YtbdgoffbkenofaaGreat.Sc
open Go Go.RowKit Go.Shelf Go.Proofs.YtbdgoffbkenofaaGreat.Tk Go.Proofs.YtbdgoffbkenofaaGreat.Tr
set_option linter.unusedVariables false
set_option maxRecDepth 100000

theorem cleanB_size (s : ByteArray) : (cleanB s).size ≤ 3 * s.size := by
  have := Rc.clean_length s.data.toList
  show (Rc.clean s.data.toList).toArray.size ≤ _
  rw [List.size_toArray]; exact this
theorem cleanB_nil : cleanB ⟨#[]⟩ = ⟨#[]⟩ := rfl
theorem pcsF_ne (s : ByteArray) : ∀ n a raw, pcsF s n a raw ≠ []
  | 0, a, raw => by unfold pcsF; simp
  | n + 1, a, raw => by
    unfold pcsF
    split
    · simp
    · split
      · simp
      · exact pcsF_ne s n _ _
theorem pcsP_ne (s : ByteArray) (a : Nat) (raw : ByteArray) : pcsP s a raw ≠ [] := pcsF_ne s _ a raw
theorem cellsT_at : ∀ (l : List Itm) (i : Nat) (x : Itm), l[i]? = some x → ∀ k u, (fiveT x)[k]? = some u → (cellsT l)[i * 5 + k]? = some u
  | [], i, x, h => by simp at h
  | y :: r, 0, x, h => fun k u hu => by
    simp at h; subst h
    have hk : k < 5 := by
      rcases Nat.lt_or_ge k 5 with h | h
      · exact h
      · rw [List.getElem?_eq_none (by simpa [fiveT] using h)] at hu; cases hu
    show (fiveT y ++ cellsT r)[0 * 5 + k]? = some u
    rw [List.getElem?_append_left (by simp [fiveT]; omega), Nat.zero_mul, Nat.zero_add]; exact hu
  | y :: r, i + 1, x, h => fun k u hu => by
    have ih := cellsT_at r i x (by simpa using h) k u hu
    show (fiveT y ++ cellsT r)[(i + 1) * 5 + k]? = some u
    rw [List.getElem?_append_right (by simp [fiveT]; omega)]
    have e : (i + 1) * 5 + k - (fiveT y).length = i * 5 + k := by simp [fiveT]; omega
    rw [e]; exact ih
theorem cellsT_len : ∀ l : List Itm, (cellsT l).length = l.length * 5
  | [] => rfl
  | x :: r => by
    have := cellsT_len r
    show (fiveT x ++ cellsT r).length = _
    rw [List.length_append, this]; simp [fiveT]; omega
/-- The pieces in memory. -/
structure Toks (w : World) (g : Nat) (xs : List Itm) : Prop where
  at_ : ∀ i x, xs[i]? = some x → w.cell? ⟨g, i * 5, none⟩ = some (.int .i64 x.1.kind) ∧ w.cell? ⟨g, i * 5 + 1, none⟩ = some (.string x.1.name) ∧ w.cell? ⟨g, i * 5 + 2, none⟩ = some (.string x.1.text) ∧ w.cell? ⟨g, i * 5 + 3, none⟩ = some (.slice x.2.1 x.1.attrs.length x.2.2) ∧ w.cell? ⟨g, i * 5 + 4, none⟩ = some (.bool x.1.raw)
  att : ∀ x ∈ xs, IsAttrs w w.heap.size x.1.attrs x.2.1 x.2.2
  lt : g < w.heap.size
theorem Toks.keep {w w' : World} {g : Nat} {xs : List Itm} (h : Toks w g xs) (hb : Below w.heap.size w w') : Toks w' g xs := by
  refine ⟨fun i x hx => ?_, fun x hx => isAttrs_below (h.att x hx) hb, Nat.lt_of_lt_of_le h.lt hb.size⟩
  obtain ⟨h0, h1, h2, h3, h4⟩ := h.at_ i x hx
  exact ⟨(hb.cell (p := ⟨g, _, none⟩) h.lt).trans h0, (hb.cell (p := ⟨g, _, none⟩) h.lt).trans h1, (hb.cell (p := ⟨g, _, none⟩) h.lt).trans h2, (hb.cell (p := ⟨g, _, none⟩) h.lt).trans h3, (hb.cell (p := ⟨g, _, none⟩) h.lt).trans h4⟩
theorem all_as (s : ByteArray) (hs : s.size ≤ 20000) (w : World) :
    Calls Tryz.prog 10 #[.string s] w fun e w' => ∃ g ac xs, e = .returned (.slice (some ⟨g, 0, none⟩) xs.length ac) ∧ xs.map Prod.fst = pcsP (cleanB s) 0 ⟨#[]⟩ ∧ Toks w' g xs ∧ Below w.heap.size w w' := by
  refine (all_calls s hs (by have := cleanB_size s; omega) w).mono ?_
  rintro e w' ⟨v, xs, rfl, hx, hr, ha, hb⟩
  rcases hr.2 with ⟨_, h0⟩ | ⟨g, cap, cur, hv, hg, hblk, hc1, hc2, hc3, ht⟩
  · have : xs = [] := List.eq_nil_of_length_eq_zero h0
    subst this
    exact absurd hx.symm (pcsP_ne _ _ _)
  · refine ⟨g, cap, xs, by rw [hv], hx, ⟨fun i x hi => ?_, ha, lt_of_block hblk⟩, hb⟩
    have hl : i < xs.length := by
      rcases Nat.lt_or_ge i xs.length with h | h
      · exact h
      · rw [List.getElem?_eq_none h] at hi; cases hi
    have key : ∀ k u, k < 5 → (fiveT x)[k]? = some u → w'.cell? ⟨g, i * 5 + k, none⟩ = some u := fun k u hk hu => by
      have h := cellsT_at xs i x hi k u hu
      rw [← ht, List.getElem?_take_of_lt (by omega)] at h
      rw [block_cell hblk, ← Array.getElem?_toList]; exact h
    exact ⟨key 0 _ (by decide) rfl, key 1 _ (by decide) rfl, key 2 _ (by decide) rfl, key 3 _ (by decide) rfl, key 4 _ (by decide) rfl⟩
set_option maxHeartbeats 4000000 in
theorem awake_calls (w : World) : Calls Tryz.prog 9 #[] w fun e w' => e = .returned (.bool true) ∧ Below w.heap.size w w' := by
  have HN := Lib.hid (all_as ⟨#[]⟩ (by decide))
  rw [cleanB_nil, pcsP_end ⟨#[]⟩ (by decide : (⟨#[]⟩ : ByteArray).size ≤ 0)] at HN
  go_enter Tryz.func9, Tryz.ntmps9
  go_wp2_with fail
  refine (HN.out _).mono ?_
  rintro e w2 ⟨g, ac, xs, rfl, hx, ht, hb⟩
  obtain ⟨x, rfl⟩ : ∃ x, xs = [x] := by
    have hl : xs.length = 1 := by rw [← List.length_map (f := Prod.fst), hx]; rfl
    exact List.length_eq_one_iff.1 hl
  have hk : x.1 = tokE := by simpa using hx
  obtain ⟨c0, c1, c2, c3, c4⟩ := ht.at_ 0 x rfl
  rw [hk] at c0
  rw [Nat.zero_mul] at c0
  have HB := Lib.hid hb
  have c0' : w2.cell? ⟨g, 0, none⟩ = some (.int .i64 6) := c0
  clear hx ht hb hk c0 c1 c2 c3 c4
  go_wp2_with fail
  go_ret
  exact ⟨rfl, HB.out⟩
end Go.Proofs.YtbdgoffbkenofaaGreat.Sc
