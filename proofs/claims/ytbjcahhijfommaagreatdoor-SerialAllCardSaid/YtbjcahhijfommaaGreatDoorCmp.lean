/- Two trees held against one another, by the document's Compare: 0 if they are the same. -/
import Derived.Test.YtbjcahhijfommaaGreatDoorSmall
import Derived.RegionTactic
import Derived.BigRegion
import Derived.WalkLawsBesides
import Derived.Handy
namespace Go.Proofs.YtbjcahhijfommaaGreatDoor.Tr
open Go Go.RowKit
set_option linter.unusedVariables false

def SignEnd (x y : Bool) (w : World) (e : Ending) (w' : World) : Prop := ∃ c : Int, e = .returned (.int .i64 c) ∧ w = w' ∧ (c = 0 ↔ x = false ∧ y = false)
theorem sign_calls (x y : Bool) (w : World) : Calls Tryz.prog 23 #[.bool x, .bool y] w (SignEnd x y w) := by
  cases x <;> cases y
  all_goals
    go_enter Tryz.func23, Tryz.ntmps23
    go_wp2
    go_ret
    exact ⟨_, rfl, rfl, by decide⟩

/-- The same, but for their kids. -/
def EqNode (a b : Nd) : Prop := a.kind = b.kind ∧ a.name = b.name ∧ a.text = b.text ∧ a.attrs = b.attrs
def NodeEnd (a b : Nd) (w : World) (e : Ending) (w' : World) : Prop := ∃ c : Int, e = .returned (.int .i64 c) ∧ Below w.heap.size w w' ∧ (c = 0 ↔ EqNode a b)

/-- Two trees boxed, one behind the other. -/
structure Boxes (w : World) (v0 v1 v2 v3 v4 u0 u1 u2 u3 u4 : Value) (w2 : World) : Prop where
  bel : Below w.heap.size w w2
  size : w.heap.size + 1 < w2.heap.size
  a0 : w2.cell? ⟨w.heap.size, 0, none⟩ = some v0
  a1 : w2.cell? ⟨w.heap.size, 1, none⟩ = some v1
  a2 : w2.cell? ⟨w.heap.size, 2, none⟩ = some v2
  a3 : w2.cell? ⟨w.heap.size, 3, none⟩ = some v3
  a4 : w2.cell? ⟨w.heap.size, 4, none⟩ = some v4
  b0 : w2.cell? ⟨w.heap.size + 1, 0, none⟩ = some u0
  b1 : w2.cell? ⟨w.heap.size + 1, 1, none⟩ = some u1
  b2 : w2.cell? ⟨w.heap.size + 1, 2, none⟩ = some u2
  b3 : w2.cell? ⟨w.heap.size + 1, 3, none⟩ = some u3
  b4 : w2.cell? ⟨w.heap.size + 1, 4, none⟩ = some u4
theorem two_boxes (w : World) (v0 v1 v2 v3 v4 u0 u1 u2 u3 u4 : Value) : Boxes w v0 v1 v2 v3 v4 u0 u1 u2 u3 u4 ((w.alloc (.cells #[v0, v1, v2, v3, v4] 25)).alloc (.cells #[u0, u1, u2, u3, u4] 25)) := by
  have h1 := alloc_old (alloc_new w (.cells #[v0, v1, v2, v3, v4] 25)) (.cells #[u0, u1, u2, u3, u4] 25)
  have h2 := alloc_new (w.alloc (.cells #[v0, v1, v2, v3, v4] 25)) (.cells #[u0, u1, u2, u3, u4] 25)
  rw [show (w.alloc (.cells #[v0, v1, v2, v3, v4] 25)).heap.size = w.heap.size + 1 by simp] at h2
  exact ⟨((Below.refl _ w).alloc (Nat.le_refl _) _).alloc (by simp) _, by simp, by rw [block_cell h1]; rfl, by rw [block_cell h1]; rfl, by rw [block_cell h1]; rfl, by rw [block_cell h1]; rfl, by rw [block_cell h1]; rfl,
    by rw [block_cell h2]; rfl, by rw [block_cell h2]; rfl, by rw [block_cell h2]; rfl, by rw [block_cell h2]; rfl, by rw [block_cell h2]; rfl⟩

theorem less_irrefl (l : List UInt8) : Op.bytesLess l l = false := by
  induction l with
  | nil => rfl
  | cons x xs ih => simp [Op.bytesLess, ih]
theorem no_sign_k {k1 k2 : Int} {n1 s1 n2 s2 : ByteArray} {l1 l2 : List (ByteArray × ByteArray)} {ks1 ks2 : List Nd} (h : EqNode (.mk k1 n1 s1 l1 ks1) (.mk k2 n2 s2 l2 ks2)) : decide (k1 < k2) = false ∧ decide (k2 < k1) = false := by
  have : k1 = k2 := h.1
  subst this; simp
theorem no_sign_n {k1 k2 : Int} {n1 s1 n2 s2 : ByteArray} {l1 l2 : List (ByteArray × ByteArray)} {ks1 ks2 : List Nd} (h : EqNode (.mk k1 n1 s1 l1 ks1) (.mk k2 n2 s2 l2 ks2)) : Op.bytesLess n1.toList n2.toList = false ∧ (!Op.bytesLess n1.toList n2.toList && !(n1.toList == n2.toList)) = false := by
  have : n1 = n2 := h.2.1
  subst this; simp [less_irrefl]
theorem no_sign_t {k1 k2 : Int} {n1 s1 n2 s2 : ByteArray} {l1 l2 : List (ByteArray × ByteArray)} {ks1 ks2 : List Nd} (h : EqNode (.mk k1 n1 s1 l1 ks1) (.mk k2 n2 s2 l2 ks2)) : Op.bytesLess s1.toList s2.toList = false ∧ (!Op.bytesLess s1.toList s2.toList && !(s1.toList == s2.toList)) = false := by
  have : s1 = s2 := h.2.2.1
  subst this; simp [less_irrefl]

theorem str_same {a b : ByteArray} (h : a.toList = b.toList) : a = b := by
  have : a.data.toList = b.data.toList := by rwa [ByteArray.toList_eq, ByteArray.toList_eq] at h
  cases a; cases b; simp at this; simp [this]
/-- The first j attributes are the same, if c is 0; else not all are. -/
def AttrsRel (l1 l2 : List (ByteArray × ByteArray)) (j : Nat) (c : Int) : Prop := (c = 0 → ∀ i, i < j → l1[i]? = l2[i]?) ∧ (c ≠ 0 → l1 ≠ l2)
theorem attrsRel_zero (l1 l2 : List (ByteArray × ByteArray)) : AttrsRel l1 l2 0 0 := ⟨fun _ i h => absurd h (by omega), fun h => absurd rfl h⟩
theorem attrs_end {k1 k2 : Int} {n1 s1 n2 s2 : ByteArray} {l1 l2 : List (ByteArray × ByteArray)} {ks1 ks2 : List Nd} {j : Nat} (he : k1 = k2 ∧ n1 = n2 ∧ s1 = s2) (h : AttrsRel l1 l2 j 0) (hn : ¬ (j < l1.length ∧ j < l2.length)) (h1 : j ≤ l1.length) (h2 : j ≤ l2.length) :
    (decide (l1.length < l2.length) = false ∧ decide (l2.length < l1.length) = false) ↔ EqNode (.mk k1 n1 s1 l1 ks1) (.mk k2 n2 s2 l2 ks2) := by
  simp only [decide_eq_false_iff_not]
  constructor
  · rintro ⟨a, b⟩
    refine ⟨he.1, he.2.1, he.2.2, ?_⟩
    show l1 = l2
    apply List.ext_getElem?
    intro i
    by_cases hi : i < j
    · exact h.1 rfl i hi
    · rw [List.getElem?_eq_none (by omega), List.getElem?_eq_none (by omega)]
  · rintro ⟨_, _, _, h4⟩
    have : l1 = l2 := h4
    subst this
    omega

theorem attrsRel_succ {l1 l2 : List (ByteArray × ByteArray)} {j : Nat} {c : Int} {x y : ByteArray × ByteArray} (h : AttrsRel l1 l2 j 0) (hx : l1[j]? = some x) (hy : l2[j]? = some y) (hc : c = 0 ↔ x = y) : AttrsRel l1 l2 (j + 1) c := by
  refine ⟨fun h0 i hi => ?_, fun h0 he => ?_⟩
  · rcases Nat.lt_or_ge i j with hl | hl
    · exact h.1 rfl i hl
    · obtain rfl : i = j := by omega
      rw [hx, hy, hc.1 h0]
  · subst he
    rw [hx] at hy; injection hy with hy
    exact h0 (hc.2 hy)
theorem pair_eq_values {n a b : ByteArray} : (Op.bytesLess a.toList b.toList = false ∧ (!Op.bytesLess a.toList b.toList && !a.toList == b.toList) = false) ↔ ((n, a) : ByteArray × ByteArray) = (n, b) := by
  constructor
  · rintro ⟨h1, h2⟩
    simp [h1] at h2
    rw [str_same h2]
  · intro h
    injection h with _ h
    subst h
    simp [less_irrefl]

set_option maxRecDepth 100000 in
set_option maxHeartbeats 4000000 in
theorem node_calls (a b : Nd) (v0 v1 v2 v3 v4 u0 u1 u2 u3 u4 : Value) (w : World) (ha : IsTree w w.heap.size a v0 v1 v2 v3 v4) (hb : IsTree w w.heap.size b u0 u1 u2 u3 u4) :
    Calls Tryz.prog 22 #[.agg #[v0, v1, v2, v3, v4], .agg #[u0, u1, u2, u3, u4]] w (NodeEnd a b w) := by
  match a, b with
  | .mk k1 n1 s1 l1 ks1, .mk k2 n2 s2 l2 ks2 =>
  unfold IsTree at ha hb
  obtain ⟨rfl, rfl, rfl, wk1, bn1, bt1, A1, ac1, K1, kc1, rfl, rfl, hat1, p1, p2, -⟩ := ha
  obtain ⟨rfl, rfl, rfl, wk2, bn2, bt2, A2, ac2, K2, kc2, rfl, rfl, hat2, r1, r2, -⟩ := hb
  have HA1 := Lib.hid hat1
  have HA2 := Lib.hid hat2
  have x1 := hat1.1
  have x2 := hat1.2.1
  have x3 := hat2.1
  have x4 := hat2.2.1
  clear hat1 hat2
  unfold maxLen at *
  go_enter Tryz.func22, Tryz.ntmps22
  go_wp2_with fail
  refine (sign_calls _ _ _).mono ?_
  rintro e w' ⟨c, rfl, rfl, hc⟩
  have HC := Lib.hid hc
  clear hc
  have HW := two_boxes w (.int .i64 k1) (.string n1) (.string s1) (.slice A1 l1.length ac1) (.slice K1 ks1.length kc1) (.int .i64 k2) (.string n2) (.string s2) (.slice A2 l2.length ac2) (.slice K2 ks2.length kc2)
  generalize (w.alloc (.cells #[.int .i64 k1, .string n1, .string s1, .slice A1 l1.length ac1, .slice K1 ks1.length kc1] 25)).alloc (.cells #[.int .i64 k2, .string n2, .string s2, .slice A2 l2.length ac2, .slice K2 ks2.length kc2] 25) = w2 at HW ⊢
  obtain ⟨hb, hs, d0, d1, d2, d3, d4, f0, f1, f2, f3, f4⟩ := HW
  have HB := Lib.hid hb
  clear hb
  by_cases e0 : c = 0
  case neg =>
    have hne : (c == 0) = false := by simp only [beq_eq_false_iff_ne, ne_eq]; exact e0
    go_wp2_with fail
    go_rounds 1
    go_ret
    exact ⟨c, rfl, HB.out, fun h => absurd h e0, fun h => absurd (HC.out.2 (no_sign_k h)) e0⟩
  subst e0
  go_wp2_with fail
  refine (sign_calls _ _ _).mono ?_
  rintro e w' ⟨c, rfl, rfl, hc⟩
  have HC1 := Lib.hid hc
  clear hc
  by_cases e1 : c = 0
  case neg =>
    have hne : (c == 0) = false := by simp only [beq_eq_false_iff_ne, ne_eq]; exact e1
    go_wp2_with fail
    go_rounds 1
    go_ret
    exact ⟨c, rfl, HB.out, fun h => absurd h e1, fun h => absurd (HC1.out.2 (no_sign_n h)) e1⟩
  subst e1
  go_wp2_with fail
  refine (sign_calls _ _ _).mono ?_
  rintro e w' ⟨c, rfl, rfl, hc⟩
  have HC2 := Lib.hid hc
  clear hc
  by_cases e2 : c = 0
  case neg =>
    have hne : (c == 0) = false := by simp only [beq_eq_false_iff_ne, ne_eq]; exact e2
    go_wp2_with fail
    go_rounds 1
    go_ret
    exact ⟨c, rfl, HB.out, fun h => absurd h e2, fun h => absurd (HC2.out.2 (no_sign_t h)) e2⟩
  subst e2
  go_wp2_with fail
  have ek : k1 = k2 := by have := HC.out.1 trivial; simp at this; omega
  have en : n1 = n2 := by have := HC1.out.1 trivial; simp at this; exact str_same (this.2 this.1)
  have et : s1 = s2 := by have := HC2.out.1 trivial; simp at this; exact str_same (this.2 this.1)
  have HE : Hid (k1 = k2 ∧ n1 = n2 ∧ s1 = s2) := Lib.hid ⟨ek, en, et⟩
  clear ek en et HC HC1 HC2 d0 d1 d2 d4 f0 f1 f2 f4
  go_loopw [5, 6] (fun cv i wr => ∃ (j : Nat) (c : Int), j ≤ l1.length ∧ j ≤ l2.length ∧ cv = .int .i64 c ∧ i = .int .i64 j ∧ AttrsRel l1 l2 j c ∧ Below w2.heap.size w2 wr) (fun _ i _ => l1.length - (intOf i).toNat)
  case atStart => exact ⟨0, 0, Nat.zero_le _, Nat.zero_le _, rfl, rfl, attrsRel_zero l1 l2, Below.refl _ _⟩
  case round =>
    obtain ⟨j, c, hj1, hj2, rfl, rfl, hrel, hbel⟩ := hrel
    have c3 := (hbel.cell (p := ⟨w.heap.size, 3, none⟩) (by show w.heap.size < _; omega)).trans d3
    have c4 := (hbel.cell (p := ⟨w.heap.size + 1, 3, none⟩) (by show w.heap.size + 1 < _; omega)).trans f3
    have HB3 := Lib.hid (HB.out.trans (hbel.mono (by omega)))
    have HREL := Lib.hid hrel
    clear hrel
    by_cases hc : c = 0
    case neg =>
      have hne : (c == 0) = false := by simp only [beq_eq_false_iff_ne, ne_eq]; exact hc
      go_wp2_with fail
      go_ret
      exact ⟨c, rfl, HB3.out, fun h => absurd h hc, fun h => absurd h.2.2.2 (HREL.out.2 hc)⟩
    subst hc
    by_cases hlt : j < l1.length ∧ j < l2.length
    case neg =>
      have hd : decide (j < l1.length) = false ∨ (decide (j < l1.length) = true ∧ decide (j < l2.length) = false) := by
        by_cases h1 : j < l1.length
        · right; simp; omega
        · left; simpa using h1
      rcases hd with hd | ⟨hd1, hd2⟩
      all_goals
        go_wp2_with fail
        refine (sign_calls _ _ _).mono ?_
        rintro e w' ⟨c, rfl, rfl, hc⟩
        have HC := Lib.hid hc
        clear hc
        go_wp2_with fail
        go_ret
        refine ⟨c, rfl, HB3.out, ?_⟩
        rw [HC.out]
        exact attrs_end HE.out HREL.out hlt hj1 hj2
    obtain ⟨lt1, lt2⟩ := hlt
    obtain ⟨x, hx⟩ : ∃ x, l1[j]? = some x := ⟨_, List.getElem?_eq_getElem lt1⟩
    obtain ⟨y, hy⟩ : ∃ y, l2[j]? = some y := ⟨_, List.getElem?_eq_getElem lt2⟩
    have kp : ∀ p : Addr, p.block < w.heap.size → wr.cell? p = w.cell? p := fun p hp => HB3.out.cell hp
    obtain ⟨_, _, _, g1⟩ := HA1.out.keep kp (Nat.le_refl _)
    obtain ⟨_, _, _, g2⟩ := HA2.out.keep kp (Nat.le_refl _)
    obtain ⟨b1, off1, rfl, hb1, hc1⟩ := g1 (by rintro rfl; simp at lt1)
    obtain ⟨b2, off2, rfl, hb2, hc2⟩ := g2 (by rintro rfl; simp at lt2)
    have q1 := (hc1 j x hx).1
    have q2 := (hc1 j x hx).2
    have q3 := (hc2 j y hy).1
    have q4 := (hc2 j y hy).2
    have HX := Lib.hid hx
    have HY := Lib.hid hy
    have i1 : ((j : Int)) < (l1.length : Int) := by omega
    have i2 : ((j : Int)) < (l2.length : Int) := by omega
    have zs := hbel.size
    have z0 : w.heap.size < wr.heap.size := by omega
    have z1 : w.heap.size + 1 < wr.heap.size := by omega
    have z2 : b1 < wr.heap.size := by omega
    have z3 : b2 < wr.heap.size := by omega
    clear kp hc1 hc2 g1 g2 hx hy
    go_wp2_with fail
    go_region
    all_goals
      obtain ⟨xn, xv⟩ := x
      obtain ⟨yn, yv⟩ := y
      dsimp only at q1 q2 q3 q4 ⊢
      by_cases hn : xn = yn
      case pos =>
        subst hn
        have hl := less_irrefl xn.toList
        go_wp2_with fail
        refine (sign_calls _ _ _).mono ?_
        rintro e w' ⟨c, rfl, rfl, hc⟩
        have HC := Lib.hid hc
        clear hc
        go_wp2_with fail
        go_roundw
        case rel => exact ⟨j + 1, c, by omega, by omega, rfl, by go_num, attrsRel_succ HREL.out HX.out HY.out (by rw [HC.out]; exact pair_eq_values), hbel.trans (((((Below.refl _ wr).alloc (Nat.le_refl _) _).alloc (by simp) _).drew).mono zs)⟩
        case measure => simp [intOf]; omega
      have he : (xn.toList == yn.toList) = false := by rw [beq_eq_false_iff_ne]; exact fun h => hn (str_same h)
      cases hp : Op.bytesLess xn.toList yn.toList
      all_goals
        go_wp2_with fail
        refine (sign_calls _ _ _).mono ?_
        rintro e w' ⟨c, rfl, rfl, hc⟩
        have HC := Lib.hid hc
        clear hc
        go_wp2_with fail
        go_roundw
        case rel => exact ⟨j + 1, c, by omega, by omega, rfl, by go_num, attrsRel_succ HREL.out HX.out HY.out (by rw [HC.out]; simp [hn]), hbel.trans (((((Below.refl _ wr).alloc (Nat.le_refl _) _).alloc (by simp) _).drew).mono zs)⟩
        case measure => simp [intOf]; omega
end Go.Proofs.YtbjcahhijfommaaGreatDoor.Tr
