/- topiarylaw00.SameAttrs, SameToken. -/
import Derived.Test.YtbdgoffbkenofaaGreatTkV
import Derived.Laws.StructEq
import Derived.BigQuiet
namespace Go.Proofs.YtbdgoffbkenofaaGreat.Tk
open Go Go.RowKit Go.Proofs.YtbdgoffbkenofaaGreat.Tr
set_option linter.unusedVariables false
set_option maxRecDepth 100000

theorem below_drewN {B : Nat} {a w : World} (h : Below B a w) (n : Nat) : Below B a (w.drewN n) := ⟨h.os, h.tape, h.output, h.size, h.block⟩
theorem isAttrs_below {w w' : World} {al : List (ByteArray × ByteArray)} {A : Option Addr} {ac : Nat} (h : IsAttrs w w.heap.size al A ac) (hb : Below w.heap.size w w') : IsAttrs w' w'.heap.size al A ac :=
  h.keep (fun p hp => hb.cell hp) hb.size
/-- One attribute's cells. -/
theorem isAttrs_at {w : World} {al : List (ByteArray × ByteArray)} {A : Option Addr} {ac : Nat} (h : IsAttrs w w.heap.size al A ac) {j : Nat} {x : ByteArray × ByteArray} (hx : al[j]? = some x) :
    ∃ g off, A = some ⟨g, off, none⟩ ∧ g < w.heap.size ∧ w.cell? ⟨g, off + j * 2, none⟩ = some (.string x.1) ∧ w.cell? ⟨g, off + j * 2 + 1, none⟩ = some (.string x.2) := by
  obtain ⟨h1, h2, h3, h4⟩ := h
  obtain ⟨g, off, e, hg, hc⟩ := h4 (fun e => by rw [e] at hx; cases hx)
  exact ⟨g, off, e, hg, hc j x hx⟩
set_option maxHeartbeats 4000000 in
theorem same_attrs (al bl : List (ByteArray × ByteArray)) (A B : Option Addr) (ac bc : Nat) (w : World) (hN : al.length ≤ 1000000) (hA : IsAttrs w w.heap.size al A ac) (hB : IsAttrs w w.heap.size bl B bc) :
    Calls Tryz.prog 19 #[.slice A al.length ac, .slice B bl.length bc] w fun e w' => e = .returned (.bool (decide (al = bl))) ∧ Below w.heap.size w w' := by
  by_cases hl : al.length = bl.length
  case neg =>
    have hz : ((al.length : Int) != (bl.length : Int)) = true := by simp; omega
    have HR := Lib.hid (decide_eq_false (show ¬ al = bl from fun e => hl (by rw [e])))
    clear hl
    go_enter Tryz.func19, Tryz.ntmps19
    go_wp2_with fail
    go_ret
    exact ⟨by rw [HR.out]; rfl, Below.refl _ _⟩
  case pos =>
    have HL := Lib.hid hl
    have HA := Lib.hid hA
    have HB := Lib.hid hB
    have hz : ((al.length : Int) != (bl.length : Int)) = false := by rw [hl]; simp
    clear hA hB hl
    go_enter Tryz.func19, Tryz.ntmps19
    go_wp2_with fail
    go_loopw [5] (fun i wr => ∃ j : Nat, Hid (j ≤ al.length) ∧ i = .int .i64 (j : Int) ∧ Hid (∀ k, k < j → al[k]? = bl[k]?) ∧ Hid (Below w.heap.size w wr)) (fun i _ => al.length - (intOf i).toNat)
    case atStart => exact ⟨0, Lib.hid (Nat.zero_le _), rfl, Lib.hid (fun k hk => absurd hk (Nat.not_lt_zero _)), Lib.hid (Below.refl _ _)⟩
    case round =>
      obtain ⟨j, HJ, rfl, HE, HW⟩ := hrel
      rcases Nat.lt_or_ge j al.length with hlt | hge
      · have hx : al[j]? = some al[j] := List.getElem?_eq_getElem hlt
        have hy : bl[j]? = some (bl[j]'(by have := HL.out; omega)) := List.getElem?_eq_getElem _
        obtain ⟨ga, oa, rfl, hga, a0, a1⟩ := isAttrs_at (isAttrs_below HA.out HW.out) hx
        obtain ⟨gb, ob, rfl, hgb, b0, b1⟩ := isAttrs_at (isAttrs_below HB.out HW.out) hy
        generalize al[j] = x at *
        generalize bl[j]'(by have := HL.out; omega) = y at *
        have hjl : (j : Int) < (al.length : Int) := by omega
        have hjl2 : (j : Int) < (bl.length : Int) := by have := HL.out; omega
        have HX := Lib.hid hx
        have HY := Lib.hid hy
        have HLT := Lib.hid hlt
        by_cases e1 : x.1 = y.1
        · have q1 := (Sr.str_eq x.1 y.1).trans (decide_eq_true e1)
          by_cases e2 : x.2 = y.2
          · have q2 := (Sr.str_eq x.2 y.2).trans (decide_eq_true e2)
            have HE2 : Hid (∀ k, k < j + 1 → al[k]? = bl[k]?) := Lib.hid (fun k hk => by
              rcases Nat.lt_or_ge k j with h | h
              · exact HE.out k h
              · obtain rfl : k = j := by omega
                rw [HX.out, HY.out, Prod.ext e1 e2])
            clear e1 e2 hx hy
            go_wp2_with fail
            go_quiet (fail)
            go_wp2_with fail
            go_roundw
            case rel => exact ⟨j + 1, Lib.hid HLT.out, by go_num, HE2, Lib.hid (below_drewN HW.out _)⟩
            case measure => simp [intOf]; have := HLT.out; omega
          · have q2 := (Sr.str_eq x.2 y.2).trans (decide_eq_false e2)
            have HR := Lib.hid (decide_eq_false (show ¬ al = bl from fun e => e2 (by have h := HX.out; rw [e, HY.out] at h; injection h with h; rw [h])))
            clear e1 e2 hx hy
            go_wp2_with fail
            go_quiet (fail)
            go_wp2_with fail
            go_ret
            exact ⟨by rw [HR.out]; rfl, below_drewN HW.out _⟩
        · have q1 := (Sr.str_eq x.1 y.1).trans (decide_eq_false e1)
          have HR := Lib.hid (decide_eq_false (show ¬ al = bl from fun e => e1 (by have h := HX.out; rw [e, HY.out] at h; injection h with h; rw [h])))
          clear e1 hx hy
          go_wp2_with fail
          go_quiet (fail)
          go_wp2_with fail
          go_ret
          exact ⟨by rw [HR.out]; rfl, below_drewN HW.out _⟩
      · have hjl : ¬ (j : Int) < (al.length : Int) := by omega
        have HR := Lib.hid (decide_eq_true (show al = bl from List.ext_getElem? fun k => by
          rcases Nat.lt_or_ge k j with h | h
          · exact HE.out k h
          · rw [List.getElem?_eq_none (by omega), List.getElem?_eq_none (by have := HL.out; omega)]))
        go_wp2_with fail
        go_ret
        exact ⟨by rw [HR.out]; rfl, HW.out⟩
/-- A piece's value. -/
def tokV (o : Tok) (A : Option Addr) (ac : Nat) : Value := .agg #[.int .i64 o.kind, .string o.name, .string o.text, .slice A o.attrs.length ac, .bool o.raw]
theorem tok_ext {a b : Tok} : a = b ↔ a.kind = b.kind ∧ a.name = b.name ∧ a.text = b.text ∧ a.raw = b.raw ∧ a.attrs = b.attrs := by
  cases a; cases b; simp
  intro _ _ _
  exact And.comm
set_option maxHeartbeats 8000000 in
theorem same_token (a b : Tok) (A B : Option Addr) (ac bc : Nat) (w : World) (hN : a.attrs.length ≤ 1000000) (hA : IsAttrs w w.heap.size a.attrs A ac) (hB : IsAttrs w w.heap.size b.attrs B bc) :
    Calls Tryz.prog 13 #[tokV a A ac, tokV b B bc] w fun e w' => e = .returned (.bool (decide (a = b))) ∧ Below w.heap.size w w' := by
  have HSA : Hid (∀ W, Below w.heap.size w W → Calls Tryz.prog 19 #[.slice A a.attrs.length ac, .slice B b.attrs.length bc] W fun e w' => e = .returned (.bool (decide (a.attrs = b.attrs))) ∧ Below W.heap.size W w') :=
    Lib.hid fun W hW => same_attrs _ _ A B ac bc W hN (isAttrs_below hA hW) (isAttrs_below hB hW)
  have HT := Lib.hid (@tok_ext a b)
  have g0 := ((Below.refl _ w).alloc (Nat.le_refl _) (.cells #[.int .i64 a.kind, .string a.name, .string a.text, .slice A a.attrs.length ac, .bool a.raw] 27)).alloc (by simp) (.cells #[.int .i64 b.kind, .string b.name, .string b.text, .slice B b.attrs.length bc, .bool b.raw] 27)
  have g1 := alloc_old (alloc_new w (.cells #[.int .i64 a.kind, .string a.name, .string a.text, .slice A a.attrs.length ac, .bool a.raw] 27)) (.cells #[.int .i64 b.kind, .string b.name, .string b.text, .slice B b.attrs.length bc, .bool b.raw] 27)
  have g2 := alloc_new (w.alloc (.cells #[.int .i64 a.kind, .string a.name, .string a.text, .slice A a.attrs.length ac, .bool a.raw] 27)) (.cells #[.int .i64 b.kind, .string b.name, .string b.text, .slice B b.attrs.length bc, .bool b.raw] 27)
  rw [World.size_alloc] at g2
  unfold tokV
  clear hN hA hB
  have q0 : (a.kind == b.kind) = decide (a.kind = b.kind) := by rw [Bool.eq_iff_iff]; simp
  have q1 : (a.name.toList == b.name.toList) = decide (a.name = b.name) := by rw [Sr.str_eq, Bool.eq_iff_iff]; simp only [decide_eq_true_eq]
  have q2 : (a.text.toList == b.text.toList) = decide (a.text = b.text) := by rw [Sr.str_eq, Bool.eq_iff_iff]; simp only [decide_eq_true_eq]
  have q3 : (a.raw == b.raw) = decide (a.raw = b.raw) := by cases a.raw <;> cases b.raw <;> rfl
  have HR : Hid (decide (a = b) = (decide (a.kind = b.kind) && decide (a.name = b.name) && decide (a.text = b.text) && decide (a.raw = b.raw) && decide (a.attrs = b.attrs))) := Lib.hid (by
    rw [Bool.eq_iff_iff]
    simp only [Bool.and_eq_true, decide_eq_true_eq, HT.out]
    constructor
    · rintro ⟨h1, h2, h3, h4, h5⟩; exact ⟨⟨⟨⟨h1, h2⟩, h3⟩, h4⟩, h5⟩
    · rintro ⟨⟨⟨⟨h1, h2⟩, h3⟩, h4⟩, h5⟩; exact ⟨h1, h2, h3, h4, h5⟩)
  rw [HR.out]
  clear HR HT
  generalize decide (a.kind = b.kind) = e0 at *
  generalize decide (a.name = b.name) = e1 at *
  generalize decide (a.text = b.text) = e2 at *
  generalize decide (a.raw = b.raw) = e3 at *
  generalize decide (a.attrs = b.attrs) = e4 at *
  obtain ⟨c0, c1, c2, c3, c4⟩ := tbox5 g1
  obtain ⟨d0, d1, d2, d3, d4⟩ := tbox5 g2
  have G0 := Lib.hid g0
  clear g0 g1 g2
  go_enter Tryz.func13, Tryz.ntmps13
  cases e0 <;> cases e1 <;> cases e2 <;> cases e3 <;> (
    go_wp2_with (go_at_call 19; refine (HSA.out _ G0.out).mono ?_; rintro e w' ⟨rfl, hb⟩; have HB := Lib.hid (G0.out.trans (hb.mono G0.out.size)); clear hb)
    go_ret
    first | exact ⟨rfl, HB.out⟩ | exact ⟨rfl, G0.out⟩)
end Go.Proofs.YtbdgoffbkenofaaGreat.Tk
