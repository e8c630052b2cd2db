/- The merge of two sorted runs, plain. -/
import Derived.Test.YtbdgoffbkenofaaGreatScSb
namespace Go.Proofs.YtbdgoffbkenofaaGreat.So
open Go Go.RowKit Go.Shelf Go.Sort Go.Lib Go.Proofs.YtbdgoffbkenofaaGreat.Tk Go.Proofs.YtbdgoffbkenofaaGreat.Tr
set_option linter.unusedVariables false

def ltR (x y : Rk) : Bool := ltOf cfR x y
theorem ltR_at (x y : Rk) : ltR x y = decide (x.1.1.data.toList < y.1.1.data.toList) := ltAt x.1 y.1
theorem swoR : SWO ltR where
  irrefl x := swoAt.irrefl x.1
  trans x y z := swoAt.trans x.1 y.1 z.1
  ntrans x y z := swoAt.ntrans x.1 y.1 z.1
/-- Ahead: by name, of one name by rank. -/
def Prec (x y : Rk) : Prop := ltR x y = true ∨ (ltR y x = false ∧ x.2 < y.2)
theorem Prec.trans {x y z : Rk} (h1 : Prec x y) (h2 : Prec y z) : Prec x z := by
  rcases h1 with h1 | ⟨h1, r1⟩
  · rcases h2 with h2 | ⟨h2, r2⟩
    · exact .inl (swoR.trans _ _ _ h1 h2)
    · left
      cases h : ltR x z with
      | true => rfl
      | false => rw [swoR.ntrans _ _ _ h h2] at h1; cases h1
  · rcases h2 with h2 | ⟨h2, r2⟩
    · left
      cases h : ltR x z with
      | true => rfl
      | false => rw [swoR.ntrans _ _ _ h1 h] at h2; cases h2
    · exact .inr ⟨swoR.ntrans _ _ _ h2 h1, by omega⟩
def PrecE (x y : Rk) : Prop := x = y ∨ Prec x y
theorem PrecE.trans1 {x y z : Rk} (h1 : PrecE x y) (h2 : Prec y z) : Prec x z := by
  rcases h1 with rfl | h1
  · exact h2
  · exact h1.trans h2
theorem Prec.trans2 {x y z : Rk} (h1 : Prec x y) (h2 : PrecE y z) : Prec x z := by
  rcases h2 with rfl | h2
  · exact h1
  · exact h1.trans h2
def Srt (lo hi : Nat) (d : Array Rk) : Prop := ∀ i j, lo ≤ i → i < j → j < hi → Prec d[i]! d[j]!
theorem Srt.le {lo hi : Nat} {d : Array Rk} (h : Srt lo hi d) {i j : Nat} (h1 : lo ≤ i) (h2 : i ≤ j) (h3 : j < hi) : PrecE d[i]! d[j]! := by
  rcases Nat.eq_or_lt_of_le h2 with rfl | h2
  · exact .inl rfl
  · exact .inr (h i j h1 h2 h3)
structure MergeOK (a m b : Nat) (d : Array Rk) : Prop where
  l : Srt a m d
  r : Srt m b d
  rk : ∀ i j, a ≤ i → i < m → m ≤ j → j < b → d[i]!.2 < d[j]!.2
theorem MergeOK.yes {a m b : Nat} {d : Array Rk} (h : MergeOK a m b d) {i j : Nat} (h1 : a ≤ i) (h2 : i < m) (h3 : m ≤ j) (h4 : j < b) (hl : ltR d[j]! d[i]! = true) : Prec d[j]! d[i]! := .inl hl
theorem MergeOK.no {a m b : Nat} {d : Array Rk} (h : MergeOK a m b d) {i j : Nat} (h1 : a ≤ i) (h2 : i < m) (h3 : m ≤ j) (h4 : j < b) (hl : ltR d[j]! d[i]! = false) : Prec d[i]! d[j]! := .inr ⟨hl, h.rk i j h1 h2 h3 h4⟩
/-- Two runs cut at s and t, and the middle exchanged. -/
structure CutR (a m b s t : Nat) (d e : Array Rk) : Prop where
  cross : ∀ i j, a ≤ i → i < s + (t - m) → s + (t - m) ≤ j → j < b → Prec e[i]! e[j]!
  left : MergeOK a s (s + (t - m)) e
  right : MergeOK (s + (t - m)) t b e
theorem cutR {a m b s t : Nat} {d e : Array Rk} (h : MergeOK a m b d) (has : a ≤ s) (hsm : s ≤ m) (hmt : m ≤ t) (htb : t ≤ b) (he : IsRot d e s m t) (h1 : s < m → m < t → Prec d[t - 1]! d[s]!) (h2 : a < s → t < b → Prec d[s - 1]! d[t]!) : CutR a m b s t d e := by
  have e1 : ∀ i, i < s → e[i]! = d[i]! := fun i hi => by rw [he.at_ i, if_neg (by omega)]
  have e2 : ∀ i, s ≤ i → i < s + (t - m) → e[i]! = d[m + (i - s)]! := fun i hi hj => by rw [he.at_ i, if_pos (by omega), if_pos (by omega)]
  have e3 : ∀ i, s + (t - m) ≤ i → i < t → e[i]! = d[i - (t - m)]! := fun i hi hj => by rw [he.at_ i, if_pos (by omega), if_neg (by omega)]
  have e4 : ∀ i, t ≤ i → e[i]! = d[i]! := fun i hi => by rw [he.at_ i, if_neg (by omega)]
  refine ⟨fun i j hi1 hi2 hj1 hj2 => ?_, ⟨fun i j hi hij hj => ?_, fun i j hi hij hj => ?_, fun i j hi1 hi2 hj1 hj2 => ?_⟩, ⟨fun i j hi hij hj => ?_, fun i j hi hij hj => ?_, fun i j hi1 hi2 hj1 hj2 => ?_⟩⟩
  · rcases Nat.lt_or_ge i s with c1 | c1
    · rw [e1 i c1]
      rcases Nat.lt_or_ge j t with c2 | c2
      · rw [e3 j hj1 c2]; exact h.l i _ hi1 (by omega) (by omega)
      · rw [e4 j c2]
        exact ((h.l.le hi1 (show i ≤ s - 1 by omega) (by omega)).trans1 (h2 (by omega) (by omega))).trans2 (h.r.le (by omega) c2 hj2)
    · rw [e2 i c1 hi2]
      rcases Nat.lt_or_ge j t with c2 | c2
      · rw [e3 j hj1 c2]
        exact ((h.r.le (by omega) (show m + (i - s) ≤ t - 1 by omega) (by omega)).trans1 (h1 (by omega) (by omega))).trans2 (h.l.le has (show s ≤ j - (t - m) by omega) (by omega))
      · rw [e4 j c2]; exact h.r _ j (by omega) (by omega) hj2
  · rw [e1 i (by omega), e1 j (by omega)]; exact h.l i j hi hij (by omega)
  · rw [e2 i hi (by omega), e2 j (by omega) hj]; exact h.r _ _ (by omega) (by omega) (by omega)
  · rw [e1 i hi2, e2 j hj1 hj2]; exact h.rk _ _ hi1 (by omega) (by omega) (by omega)
  · rw [e3 i hi (by omega), e3 j (by omega) hj]; exact h.l _ _ (by omega) (by omega) (by omega)
  · rw [e4 i hi, e4 j (by omega)]; exact h.r _ _ (by omega) hij hj
  · rw [e3 i hi1 hi2, e4 j hj1]; exact h.rk _ _ (by omega) (by omega) (by omega) hj2
/-- Two halves sorted each by itself, where all of the one are ahead of all of the other. -/
theorem join_srt {a mid b : Nat} {e e1 e2 : Array Rk} (hb : b ≤ e.size) (hm : a ≤ mid) (hmb : mid ≤ b) (hc : ∀ i j, a ≤ i → i < mid → mid ≤ j → j < b → Prec e[i]! e[j]!) (p1 : PermIn a mid e e1) (p2 : PermIn mid b e1 e2) (s1 : Srt a mid e1) (s2 : Srt mid b e2) : Srt a b e2 := by
  intro i j hi hij hj
  have out2 : ∀ k, k < mid → e2[k]! = e1[k]! := fun k hk => p2.2.1 k (.inl hk)
  rcases Nat.lt_or_ge j mid with c1 | c1
  · rw [out2 i (by omega), out2 j c1]; exact s1 i j hi hij c1
  · rcases Nat.lt_or_ge i mid with c2 | c2
    · rw [out2 i c2]
      have a1 := permIn_all e e1 a mid (fun x => ∀ j, mid ≤ j → j < b → Prec x e[j]!) (by omega) p1 (fun k hk1 hk2 j hj1 hj2 => hc k j hk1 hk2 hj1 hj2) i hi c2
      exact permIn_all e1 e2 mid b (fun y => Prec e1[i]! y) (by rw [p1.1]; exact hb) p2 (fun k hk1 hk2 => by
        have := a1 k hk1 hk2
        rwa [← p1.2.1 k (.inr hk1)] at this) j c1 hj
    · exact s2 i j c2 hij hj
/-- What symMerge does. -/
structure Merged (a b : Nat) (d e : Array Rk) : Prop where
  perm : PermIn a b d e
  srt : Srt a b e
theorem left_srt {a s mid : Nat} {e : Array Rk} (h : MergeOK a s mid e) (hn : ¬ (a < s ∧ s < mid)) (h1 : a ≤ s) (h2 : s ≤ mid) : Srt a mid e := by
  by_cases c : a = s
  · rw [c]; exact h.r
  · have : s = mid := by omega
    rw [← this]; exact h.l
/-- An element moved up through a run, one place at a time. -/
theorem up_start (d : Array Rk) (a : Nat) : IsRot d d a (a + 1) (a + 1) := ⟨rfl, fun k => by
  repeat' split
  all_goals first | rfl | (exfalso; omega) | (congr 1; omega)⟩
theorem up_step {d e : Array Rk} {a k : Nat} (h : IsRot d e a (a + 1) (k + 1)) (hak : a ≤ k) (hk : k + 1 < d.size) : IsRot d (swp e k (k + 1)) a (a + 1) (k + 2) := by
  refine ⟨by rw [size_swp]; exact h.size, fun i => ?_⟩
  rw [swp_get e (by rw [h.size]; omega) (by rw [h.size]; omega), h.at_ k, h.at_ (k + 1), h.at_ i]
  repeat' split
  all_goals first | rfl | (exfalso; omega) | (congr 1; omega)
theorem down_start (d : Array Rk) (m : Nat) : IsRot d d m m (m + 1) := ⟨rfl, fun k => by
  repeat' split
  all_goals first | rfl | (exfalso; omega) | (congr 1; omega)⟩
theorem down_step {d e : Array Rk} {m k : Nat} (h : IsRot d e (k + 1) m (m + 1)) (hkm : k + 1 ≤ m) (hk : m < d.size) : IsRot d (swp e (k + 1) k) k m (m + 1) := by
  refine ⟨by rw [size_swp]; exact h.size, fun i => ?_⟩
  rw [swp_get e (by rw [h.size]; omega) (by rw [h.size]; omega), h.at_ k, h.at_ (k + 1), h.at_ i]
  repeat' split
  all_goals first | rfl | (exfalso; omega) | (congr 1; omega)
/-- One element merged into the run behind it. -/
theorem one_left {a b t : Nat} {d e : Array Rk} (h : MergeOK a (a + 1) b d) (hb : b ≤ d.size) (h1 : a + 1 ≤ t) (h2 : t ≤ b) (he : IsRot d e a (a + 1) t) (hp : PermIn a b d e) (c1 : a + 1 < t → ltR d[t - 1]! d[a]! = true) (c2 : t < b → ltR d[t]! d[a]! = false) : Merged a b d e := by
  have hc := cutR h (Nat.le_refl a) (by omega) h1 h2 he (fun _ ht => .inl (c1 ht)) (fun x => absurd x (Nat.lt_irrefl _))
  have ez : a + (t - (a + 1)) + 1 = t := by omega
  have em : e[a + (t - (a + 1))]! = d[a]! := by rw [he.at_, if_pos (by omega), if_neg (by omega)]; congr 1; omega
  have sr : Srt (a + (t - (a + 1))) b e := by
    intro i j hi hij hj
    rcases Nat.eq_or_lt_of_le hi with c | c
    · subst c
      rw [em]
      have et : ∀ k, t ≤ k → e[k]! = d[k]! := fun k hk => by rw [he.at_, if_neg (by omega)]
      rw [et j (by omega)]
      exact (h.no (Nat.le_refl a) (by omega) h1 (by omega) (c2 (by omega))).trans2 (h.r.le h1 (by omega) hj)
    · exact hc.right.r i j (by omega) hij hj
  exact ⟨hp, join_srt (by rw [he.size]; exact hb) (by omega) (by omega) hc.cross (permIn_refl _ _ _) (permIn_refl _ _ _) hc.left.r sr⟩
/-- One element merged into the run ahead of it. -/
theorem one_right {a m s : Nat} {d e : Array Rk} (h : MergeOK a m (m + 1) d) (hb : m + 1 ≤ d.size) (h1 : a ≤ s) (h2 : s ≤ m) (he : IsRot d e s m (m + 1)) (hp : PermIn a (m + 1) d e) (c1 : s < m → ltR d[m]! d[s]! = true) (c2 : a < s → ltR d[m]! d[s - 1]! = false) : Merged a (m + 1) d e := by
  have hc := cutR h h1 h2 (by omega) (Nat.le_refl (m + 1)) he (fun hs _ => .inl (c1 hs)) (fun _ x => absurd x (Nat.lt_irrefl _))
  have ez : s + (m + 1 - m) = s + 1 := by omega
  have cr := hc.cross
  have cl := hc.left
  have cg := hc.right
  rw [ez] at cr cl cg
  have em : e[s]! = d[m]! := by rw [he.at_, if_pos (by omega), if_pos (by omega)]; congr 1; omega
  have sl : Srt a (s + 1) e := by
    intro i j hi hij hj
    rcases Nat.lt_or_ge j s with c | c
    · exact cl.l i j hi hij c
    · have : j = s := by omega
      subst this
      have ei : e[i]! = d[i]! := by rw [he.at_, if_neg (by omega)]
      rw [em, ei]
      exact (h.l.le hi (show i ≤ j - 1 by omega) (by omega)).trans1 (h.no (by omega) (by omega) (Nat.le_refl m) (by omega) (c2 (by omega)))
  exact ⟨hp, join_srt (by rw [he.size]; exact hb) (by omega) (by omega) cr (permIn_refl _ _ _) (permIn_refl _ _ _) sl cg.l⟩
end Go.Proofs.YtbdgoffbkenofaaGreat.So
