/- Insertion into a sorted run, plain; slices.stableCmpFunc at most 50 attributes. -/
import Derived.Test.YtbdgoffbkenofaaGreatScSn
import Derived.Test.YtbdgoffbkenofaaGreatTkG
namespace Go.Proofs.YtbdgoffbkenofaaGreat.So
open Go Go.RowKit Go.Shelf Go.Sort Go.Lib Go.Proofs.YtbdgoffbkenofaaGreat.Tk Go.Proofs.YtbdgoffbkenofaaGreat.Tr
set_option linter.unusedVariables false
set_option linter.unusedSimpArgs false
set_option maxRecDepth 100000

/-- Ranks that grow from place to place. -/
def Rkd (lo hi : Nat) (d : Array Rk) : Prop := ∀ i j, lo ≤ i → i < j → j < hi → d[i]!.2 < d[j]!.2
/-- While an element goes down through a sorted run: all but it are sorted, and it is ahead of what stands behind it. -/
structure InsI (a i j : Nat) (d e : Array Rk) : Prop where
  perm : PermIn a (i + 1) d e
  srt : ∀ p q, a ≤ p → p < q → q ≤ i → p ≠ j → q ≠ j → Prec e[p]! e[q]!
  behind : ∀ q, j < q → q ≤ i → Prec e[j]! e[q]!
  rk : ∀ p, a ≤ p → p < j → e[p]!.2 < e[j]!.2
theorem insInner_ok {a i : Nat} {d : Array Rk} (hi : i < d.size) : ∀ (j : Nat) (e : Array Rk), a ≤ j → j ≤ i → InsI a i j d e → (PermIn a (i + 1) d (insInner (ltOf cfR) a j e) ∧ Srt a (i + 1) (insInner (ltOf cfR) a j e))
  | 0, e, h1, h2, h => by
    refine ⟨h.perm, fun p q hp hpq hq => ?_⟩
    show Prec e[p]! e[q]!
    by_cases c : p = 0
    · subst c; exact h.behind q hpq (by omega)
    · exact h.srt p q hp hpq (by omega) c (by omega)
  | j + 1, e, h1, h2, h => by
    have hz : e.size = d.size := h.perm.1
    have stop : (a = j + 1 ∨ Prec e[j]! e[j + 1]!) → Srt a (i + 1) e := fun hc p q hp hpq hq => by
      by_cases c1 : p = j + 1
      · subst c1; exact h.behind q hpq (by omega)
      · by_cases c2 : q = j + 1
        · subst c2
          rcases hc with hc | hc
          · omega
          · by_cases c3 : p = j
            · subst c3; exact hc
            · exact (h.srt p j hp (by omega) (by omega) (by omega) (by omega)).trans hc
        · exact h.srt p q hp hpq (by omega) c1 c2
    unfold insInner
    by_cases c : j + 1 > a
    · cases hl : ltOf cfR e[j + 1]! e[j]! with
      | false =>
        rw [if_neg (by simp)]
        exact ⟨h.perm, stop (.inr (.inr ⟨hl, h.rk j (by omega) (by omega)⟩))⟩
      | true =>
        rw [if_pos (by simp; exact c)]
        have g := swp_get e (i := j + 1) (j := j) (by omega) (by omega)
        refine insInner_ok hi j (swp e (j + 1) j) (by omega) (by omega) ⟨permIn_trans _ _ _ _ _ h.perm (swp_permIn _ _ _ _ _ h1 (by omega) (by omega) (by omega) (by omega)), fun p q hp hpq hq c1 c2 => ?_, fun q hq1 hq2 => ?_, fun p hp1 hp2 => ?_⟩
        · rw [g p, g q, if_neg c1, if_neg c2]
          by_cases c3 : p = j + 1
          · rw [if_pos c3, if_neg (by omega)]
            exact h.srt j q (by omega) (by omega) hq (by omega) (by omega)
          · rw [if_neg c3]
            by_cases c4 : q = j + 1
            · rw [if_pos c4]
              exact h.srt p j hp (by omega) (by omega) (by omega) (by omega)
            · rw [if_neg c4]
              exact h.srt p q hp hpq hq c3 c4
        · rw [g j, if_pos rfl, g q, if_neg (by omega)]
          by_cases c4 : q = j + 1
          · rw [if_pos c4]; exact .inl hl
          · rw [if_neg c4]; exact h.behind q (by omega) hq2
        · rw [g j, if_pos rfl, g p, if_neg (by omega), if_neg (by omega)]
          exact h.rk p hp1 (by omega)
    · rw [if_neg (by simp; omega)]
      exact ⟨h.perm, stop (.inl (by omega))⟩
theorem insOuter_ok {a b : Nat} {d : Array Rk} (hb : b ≤ d.size) (hr : Rkd a b d) : ∀ (n i : Nat) (e : Array Rk), b - i ≤ n → a < i → PermIn a i d e → Srt a i e → i ≤ b → (PermIn a b d (insOuter (ltOf cfR) a b i e) ∧ Srt a b (insOuter (ltOf cfR) a b i e))
  | 0, i, e, hn, hi, hp, hs, hib => by
    have : i = b := by omega
    subst this
    rw [insOuter_stop _ _ _ _ _ (Nat.lt_irrefl _)]
    exact ⟨hp, hs⟩
  | n + 1, i, e, hn, hi, hp, hs, hib => by
    by_cases c : i < b
    · rw [insOuter_go _ _ _ _ _ c]
      have hz : e.size = d.size := hp.1
      have out : ∀ k, i ≤ k → e[k]! = d[k]! := fun k hk => hp.2.1 k (.inr hk)
      have rks : ∀ p, a ≤ p → p < i → e[p]!.2 < e[i]!.2 := by
        rw [out i (Nat.le_refl _)]
        exact permIn_all d e a i (fun x => x.2 < d[i]!.2) (by omega) hp (fun k hk1 hk2 => hr k i hk1 hk2 c)
      obtain ⟨g1, g2⟩ := insInner_ok (a := a) (i := i) (d := e) (by omega) i e (by omega) (Nat.le_refl _) ⟨permIn_refl _ _ _, fun p q hp hpq hq c1 c2 => hs p q hp hpq (by omega), fun q h1 h2 => by omega, rks⟩
      exact insOuter_ok hb hr n (i + 1) _ (by omega) (by omega) (permIn_trans _ _ _ _ _ (permIn_mono d e a i a (i + 1) (Nat.le_refl _) (by omega) (by omega) hp) g1) g2 c
    · have : i = b := by omega
      subst this
      rw [insOuter_stop _ _ _ _ _ (Nat.lt_irrefl _)]
      exact ⟨hp, hs⟩
/-- A run whose ranks grow, sorted by insertion: by names, of one name by ranks. -/
theorem ins_ok {a b : Nat} {d : Array Rk} (hab : a ≤ b) (hb : b ≤ d.size) (hr : Rkd a b d) : Merged a b d (insertionSort (ltOf cfR) d a b) := by
  unfold insertionSort
  by_cases c : a + 1 ≤ b
  · obtain ⟨h1, h2⟩ := insOuter_ok hb hr (b - (a + 1)) (a + 1) d (Nat.le_refl _) (by omega) (permIn_refl _ _ _) (fun p q hp hpq hq => by omega) c
    exact ⟨h1, h2⟩
  · rw [insOuter_stop _ _ _ _ _ (by omega)]
    exact ⟨permIn_refl _ _ _, fun p q hp hpq hq => by omega⟩
end Go.Proofs.YtbdgoffbkenofaaGreat.So
namespace Go.Proofs.YtbdgoffbkenofaaGreat.So
open Go Go.RowKit Go.Shelf Go.Sort Go.Lib Go.Proofs.YtbdgoffbkenofaaGreat.Tk Go.Proofs.YtbdgoffbkenofaaGreat.Tr
set_option linter.unusedVariables false
set_option linter.unusedSimpArgs false
set_option maxRecDepth 100000

theorem ins_at {g cap : Nat} {w : World} {d0 : Array Rk} (h : HoldsK encR 2 w g 0 d0) (hg : g < w.heap.size) (a b : Nat) (A B : Int) (hA : (a : Int) = A) (hB : (b : Int) = B) (n : Nat) (d : Array Rk) (os : Array Obj) (hs : d.size = d0.size) (hab : a ≤ b) (hb : b ≤ d.size) (hsz : d.size ≤ 1000000) (hr : Rkd a b d) :
    Calls Tryz.prog 81 #[.slice (some ⟨g, 0, none⟩) d0.size cap, .int .i64 A, .int .i64 B, .func (.func 31) #[] #[]] (SW w g n d os) fun e w' => e = .returned (.tuple #[]) ∧ ∃ n' os' e', w' = SW w g n' e' os' ∧ Merged a b d e' := by
  subst hA hB
  obtain ⟨q1, q2⟩ := SW_holds h hg n d os hs
  rw [← hs]
  have eg : ∀ args w, (callFunc 31 args).run Tryz.prog w = .ok (.enter 31 args) w := enters_of Tryz.func31 (by kernel_rfl) rfl
  have hcon := AnyQ.insertionSortCmpFunc { Tryz.sortL with } 2 Tryz.isAgg30 Tryz.sizeOf30 encR encR_len encR_one cfR 31 #[] g 0 cap a b d (SW w g n d os) eg (fun _ _ _ _ x y => closure_srt x.1 y.1 _) q1 q2 hab hb (by omega)
  refine Calls.mono hcon ?_
  rintro e w' ⟨he, n', os', rfl⟩
  have hm := ins_ok hab hb hr
  exact ⟨he, _, _, _, SW_SW w g n n' d _ os os' hg hm.perm.1, hm⟩
/-- Ranks that are places, and stay so within a run that is sorted. -/
theorem Rkd.out {lo hi a b : Nat} {d e : Array Rk} (h : Rkd a b d) (p : PermIn lo hi d e) (hd : hi ≤ a ∨ b ≤ lo) : Rkd a b e := fun i j h1 h2 h3 => by
  rw [p.2.1 i (by omega), p.2.1 j (by omega)]; exact h i j h1 h2 h3
theorem Srt.out {lo hi a b : Nat} {d e : Array Rk} (h : Srt a b d) (p : PermIn lo hi d e) (hd : hi ≤ a ∨ b ≤ lo) : Srt a b e := fun i j h1 h2 h3 => by
  rw [p.2.1 i (by omega), p.2.1 j (by omega)]; exact h i j h1 h2 h3
/-- All ranks of [a, m) are less than all of [m, b), whatever the order within each. -/
def Apart (a m b : Nat) (d : Array Rk) : Prop := ∀ i j, a ≤ i → i < m → m ≤ j → j < b → d[i]!.2 < d[j]!.2
theorem Apart.inn {a m b lo hi : Nat} {d e : Array Rk} (h : Apart a m b d) (p : PermIn lo hi d e) (hc : (a ≤ lo ∧ hi ≤ m) ∨ (m ≤ lo ∧ hi ≤ b)) (hz : hi ≤ d.size) : Apart a m b e := by
  intro i j q1 q2 q3 q4
  rcases hc with ⟨c1, c2⟩ | ⟨c1, c2⟩
  · rw [p.2.1 j (.inr (by omega))]
    by_cases c : lo ≤ i ∧ i < hi
    · exact permIn_all d e lo hi (fun x => x.2 < d[j]!.2) hz p (fun k hk1 hk2 => h k j (by omega) (by omega) q3 q4) i c.1 c.2
    · rw [p.2.1 i (by omega)]; exact h i j q1 q2 q3 q4
  · rw [p.2.1 i (.inl (by omega))]
    by_cases c : lo ≤ j ∧ j < hi
    · exact permIn_all d e lo hi (fun x => d[i]!.2 < x.2) hz p (fun k hk1 hk2 => h i k q1 q2 (by omega) (by omega)) j c.1 c.2
    · rw [p.2.1 j (by omega)]; exact h i j q1 q2 q3 q4
theorem Apart.of {a m b : Nat} {d : Array Rk} (h : Rkd a b d) : Apart a m b d := fun i j h1 h2 h3 h4 => h i j h1 (by omega) h4
/-- k runs of 20 are sorted. -/
structure St1 (d e : Array Rk) (n k : Nat) : Prop where
  le : 20 * k ≤ n
  perm : PermIn 0 n d e
  s0 : 1 ≤ k → Srt 0 20 e
  s1 : 2 ≤ k → Srt 20 40 e
  a20 : Apart 0 20 n e
  a40 : Apart 0 40 n e
  rk : Rkd (20 * k) n e
/-- All runs of 20 are sorted. -/
structure St2 (d e : Array Rk) (n : Nat) : Prop where
  perm : PermIn 0 n d e
  s0 : Srt 0 (min 20 n) e
  s1 : Srt 20 (min 40 n) e
  s2 : Srt 40 n e
  a20 : Apart 0 20 n e
  a40 : Apart 0 40 n e
/-- All runs of 40 are sorted. -/
structure St3 (d e : Array Rk) (n : Nat) : Prop where
  perm : PermIn 0 n d e
  s0 : Srt 0 (min 40 n) e
  s2 : Srt 40 n e
  a40 : Apart 0 40 n e
section
variable {d e e2 : Array Rk} {n k : Nat}
theorem st1_start (h : Rkd 0 n d) : St1 d d n 0 := ⟨Nat.zero_le _, permIn_refl _ _ _, fun h => by omega, fun h => by omega, .of h, .of h, h⟩
theorem st1_step (hn : n = d.size) (h : St1 d e n k) (h1 : 20 * k + 20 ≤ n) (h2 : k ≤ 1) (hm : Merged (20 * k) (20 * k + 20) e e2) : St1 d e2 n (k + 1) := by
  have hz : e.size = d.size := h.perm.1
  refine ⟨by omega, permIn_trans _ _ _ _ _ h.perm (permIn_mono _ _ _ _ _ _ (Nat.zero_le _) h1 (by omega) hm.perm), fun _ => ?_, fun c => ?_, h.a20.inn hm.perm (by omega) (by omega), h.a40.inn hm.perm (by omega) (by omega), ?_⟩
  · by_cases c : k = 0
    · subst c; exact hm.srt
    · exact (h.s0 (by omega)).out hm.perm (by omega)
  · have : k = 1 := by omega
    subst this; exact hm.srt
  · exact Rkd.out (fun i j h1 h2 h3 => h.rk i j (by omega) h2 h3) hm.perm (.inl (by omega))
theorem st1_end (hn : n = d.size) (h : St1 d e n k) (h1 : n < 20 * k + 20) (h2 : k ≤ 2) (hm : Merged (20 * k) n e e2) : St2 d e2 n := by
  have hz : e.size = d.size := h.perm.1
  have hk := h.le
  refine ⟨permIn_trans _ _ _ _ _ h.perm (permIn_mono _ _ _ _ _ _ (Nat.zero_le _) (Nat.le_refl _) (by omega) hm.perm), ?_, ?_, ?_, h.a20.inn hm.perm (by omega) (by omega), h.a40.inn hm.perm (by omega) (by omega)⟩
  · by_cases c : k = 0
    · subst c; rw [Nat.min_eq_right (by omega)]; exact hm.srt
    · rw [Nat.min_eq_left (by omega)]; exact (h.s0 (by omega)).out hm.perm (by omega)
  · by_cases c : k = 1
    · subst c; rw [Nat.min_eq_right (by omega)]; exact hm.srt
    · by_cases c0 : k = 0
      · intro i j q1 q2 q3; omega
      · rw [Nat.min_eq_left (by omega)]; exact (h.s1 (by omega)).out hm.perm (by omega)
  · by_cases c : k = 2
    · subst c; exact hm.srt
    · intro i j q1 q2 q3; omega
theorem st2_m40 (h : St2 d e n) (h1 : 40 ≤ n) : MergeOK 0 20 40 e := by
  have s0 := h.s0
  have s1 := h.s1
  rw [Nat.min_eq_left (by omega)] at s0 s1
  exact ⟨s0, s1, fun i j q1 q2 q3 q4 => h.a20 i j q1 q2 q3 (by omega)⟩
theorem st2_mn (h : St2 d e n) (h1 : 20 < n) (h2 : n ≤ 40) : MergeOK 0 20 n e := by
  have s0 := h.s0
  have s1 := h.s1
  rw [Nat.min_eq_left (by omega)] at s0
  rw [Nat.min_eq_right (by omega)] at s1
  exact ⟨s0, s1, fun i j q1 q2 q3 q4 => h.a20 i j q1 q2 q3 q4⟩
theorem st2_next (hn : n = d.size) (h : St2 d e n) (h0 : 20 < n) (hm : Merged 0 (min 40 n) e e2) : St3 d e2 n := by
  have hz : e.size = d.size := h.perm.1
  exact ⟨permIn_trans _ _ _ _ _ h.perm (permIn_mono _ _ _ _ _ _ (Nat.zero_le _) (by omega) (by omega) hm.perm), hm.srt, h.s2.out hm.perm (by omega), h.a40.inn hm.perm (by omega) (by omega)⟩
theorem st3_m (h : St3 d e n) (h1 : 40 < n) : MergeOK 0 40 n e := by
  have s0 := h.s0
  rw [Nat.min_eq_left (by omega)] at s0
  exact ⟨s0, h.s2, fun i j q1 q2 q3 q4 => h.a40 i j q1 q2 q3 q4⟩
theorem st3_next (h : St3 d e n) (hm : Merged 0 n e e2) : Merged 0 n d e2 := ⟨permIn_trans _ _ _ _ _ h.perm hm.perm, hm.srt⟩
theorem st2_done (h : St2 d e n) (h1 : n ≤ 20) : Merged 0 n d e := ⟨h.perm, by have s0 := h.s0; rwa [Nat.min_eq_right (by omega)] at s0⟩
theorem st3_done (h : St3 d e n) (h1 : n ≤ 40) : Merged 0 n d e := ⟨h.perm, by have s0 := h.s0; rwa [Nat.min_eq_right (by omega)] at s0⟩
end
theorem sym_at2 {g cap : Nat} {w : World} {d0 : Array Rk} (h : HoldsK encR 2 w g 0 d0) (hg : g < w.heap.size) (a m b : Nat) (A M B : Int) (hA : (a : Int) = A) (hM' : (m : Int) = M) (hB : (b : Int) = B) (n : Nat) (d : Array Rk) (os : Array Obj) (hs : d.size = d0.size) (h1 : a < m) (h2 : m < b) (hb : b ≤ d.size) (hsz : d.size ≤ 1000000) (hM : MergeOK a m b d) :
    Calls Tryz.prog 82 #[.slice (some ⟨g, 0, none⟩) d0.size cap, .int .i64 A, .int .i64 M, .int .i64 B, .func (.func 31) #[] #[]] (SW w g n d os) fun e w' => e = .returned (.tuple #[]) ∧ ∃ n' os' e', w' = SW w g n' e' os' ∧ Merged a b d e' := by
  subst hA hM' hB
  exact sym_at (symMerge_calls g cap (b - a)) h hg a m b n d os hs (Nat.le_refl _) h1 h2 hb hsz hM
set_option maxHeartbeats 16000000 in
theorem stable_calls (g cap : Nat) (d : Array Rk) (w : World) (hH : HoldsK encR 2 w g 0 d) (hg : g < w.heap.size) (hn50 : d.size ≤ 50) (hr : Rkd 0 d.size d) :
    Calls Tryz.prog 54 #[.slice (some ⟨g, 0, none⟩) d.size cap, .int .i64 d.size, .func (.func 31) #[] #[]] w fun e w' => e = .returned (.tuple #[]) ∧ ∃ n os e', w' = SW w g n e' os ∧ Merged 0 d.size d e' := by
  have HST : Hid (w = SW w g 0 d #[]) := by show w = _; unfold SW sortWorldK; rw [grow_empty]; exact (putRowK_self encR 2 w g 0 d hH).symm
  have HH := Lib.hid hH
  clear hH
  obtain ⟨N, hN⟩ : ∃ N, N = d.size := ⟨_, rfl⟩
  have HI := Lib.hid (fun (a b : Nat) (A B : Int) (hA : (a : Int) = A) (hB : (b : Int) = B) n e os (hs : e.size = d.size) => ins_at (cap := cap) HH.out hg a b A B hA hB n e os hs)
  have HSM := Lib.hid (fun (a m b : Nat) (A M B : Int) (hA : (a : Int) = A) (hM : (m : Int) = M) (hB : (b : Int) = B) n e os (hs : e.size = d.size) => sym_at2 (cap := cap) HH.out hg a m b A M B hA hM hB n e os hs)
  have HS0 := Lib.hid (show St1 d d N 0 from st1_start (hN ▸ hr))
  rw [← hN] at hn50 HI HSM ⊢
  have HND := Lib.hid hN
  clear hN hr
  go_enter Tryz.func54, Tryz.ntmps54
  go_wp2_with fail
  go_loopw [7, 8] (fun t7 t8 wr => ∃ (k n : Nat) (os : Array Obj) (e : Array Rk), t7 = .int .i64 (20 * (k : Int)) ∧ t8 = .int .i64 (20 * (k : Int) + 20) ∧ wr = SW w g n e os ∧ Hid (k ≤ 2 ∧ St1 d e N k)) (fun t7 _ _ => 100 - (intOf t7).toNat)
  case atStart => exact ⟨0, 0, #[], d, rfl, rfl, HST.out, Lib.hid ⟨by omega, HS0.out⟩⟩
  case round =>
    obtain ⟨k, n, os, e, rfl, rfl, rfl, HS⟩ := hrel
    have hk2 : (k : Int) ≤ 2 := by have := HS.out.1; omega
    by_cases hb : 20 * k + 20 ≤ N
    · have k1 : 20 * (k : Int) + 20 ≤ (N : Int) := by omega
      have HC := Lib.hid (HI.out (20 * k) (20 * k + 20) (20 * (k : Int)) (20 * (k : Int) + 20) (by omega) (by omega) n e os (HS.out.2.perm.1.trans HND.out.symm) (by omega) (by have := HS.out.2.perm.1; have := HND.out; omega) (by have := HS.out.2.perm.1; have := HND.out; omega) (fun i j h1 h2 h3 => HS.out.2.rk i j h1 h2 (by omega)))
      have HNX := Lib.hid (fun e2 => st1_step (e2 := e2) HND.out HS.out.2 hb (by have := HS.out.1; omega))
      have hk1 : k ≤ 1 := by omega
      generalize SW w g n e os = wq at *
      go_wp2_with fail
      refine HC.out.mono ?_
      rintro e1 w' ⟨rfl, n2, os2, e2, rfl, hm⟩
      have HS2 := Lib.hid (HNX.out e2 hm)
      clear hm HC HNX
      go_wp2_with fail
      refine ⟨⟨k + 1, n2, os2, e2, by first | (congr 1; done) | (congr 1; omega), by first | (congr 1; done) | (congr 1; omega), rfl, Lib.hid ⟨by omega, HS2.out⟩⟩, ?_⟩
      simp only [intOf]
      omega
    · have k1 : ¬ 20 * (k : Int) + 20 ≤ (N : Int) := by omega
      have HC := Lib.hid (HI.out (20 * k) N (20 * (k : Int)) N (by omega) rfl n e os (HS.out.2.perm.1.trans HND.out.symm) HS.out.2.le (by have := HS.out.2.perm.1; have := HND.out; omega) (by have := HS.out.2.perm.1; have := HND.out; omega) HS.out.2.rk)
      have HNX := Lib.hid (fun e2 => st1_end (e2 := e2) HND.out HS.out.2 (by omega) HS.out.1)
      generalize SW w g n e os = wq at *
      go_wp2_with fail
      refine HC.out.mono ?_
      rintro e1 w' ⟨rfl, n2, os2, e2, rfl, hm⟩
      have HS2 := Lib.hid (HNX.out e2 hm)
      clear hm HC HNX
      go_wp2_with fail
      clear hb k1 hk2 HS
      go_loopw [6] (fun t6 wr => ∃ (n : Nat) (os : Array Obj) (e : Array Rk), wr = SW w g n e os ∧ ((t6 = .int .i64 20 ∧ Hid (St2 d e N)) ∨ (t6 = .int .i64 40 ∧ Hid (20 < N ∧ St3 d e N)) ∨ (t6 = .int .i64 80 ∧ Hid (40 < N ∧ Merged 0 N d e)))) (fun t6 _ => 100 - (intOf t6).toNat)
      case atStart => exact ⟨n2, os2, e2, rfl, .inl ⟨rfl, HS2⟩⟩
      case round =>
        obtain ⟨n, os, e, rfl, ⟨rfl, HA⟩ | ⟨rfl, HA⟩ | ⟨rfl, HA⟩⟩ := hrel
        · have hze := HA.out.perm.1.trans HND.out.symm
          by_cases h20 : 20 < N
          · have i1 : (20 : Int) < (N : Int) := by omega
            by_cases h40 : 40 ≤ N
            · have i2 : (40 : Int) ≤ (N : Int) := by omega
              have HC := Lib.hid (HSM.out 0 20 40 0 20 40 rfl rfl rfl n e os hze (by omega) (by omega) (by have := HND.out; omega) (by have := HND.out; omega) (st2_m40 HA.out h40))
              have HNX := Lib.hid (fun e2 => st2_next (e2 := e2) HND.out HA.out h20)
              rw [Nat.min_eq_left (by omega)] at HNX
              go_wp2_with fail
              go_loopw [7, 8] (fun t7 t8 wr => (t7 = .int .i64 0 ∧ t8 = .int .i64 40 ∧ wr = SW w g n e os) ∨ (∃ n3 os3 e3, t7 = .int .i64 40 ∧ t8 = .int .i64 80 ∧ wr = SW w g n3 e3 os3 ∧ Hid (St3 d e3 N))) (fun t7 _ _ => 100 - (intOf t7).toNat)
              case atStart => exact .inl ⟨rfl, rfl, rfl⟩
              case round =>
                rcases hrel with ⟨rfl, rfl, rfl⟩ | ⟨n3, os3, e3, rfl, rfl, rfl, HA3⟩
                · generalize SW w g n e os = wq at *
                  go_wp2_with fail
                  refine HC.out.mono ?_
                  rintro e1 w' ⟨rfl, n3, os3, e3, rfl, hm⟩
                  have HA3 := Lib.hid (HNX.out e3 hm)
                  clear hm
                  go_wp2_with fail
                  refine ⟨.inr ⟨n3, os3, e3, rfl, rfl, rfl, HA3⟩, ?_⟩
                  simp only [intOf]
                  omega
                · have i3 : ¬ (80 : Int) ≤ (N : Int) := by omega
                  have i4 : ¬ (60 : Int) < (N : Int) := by omega
                  go_wp2_with fail
                  refine ⟨⟨n3, os3, e3, rfl, .inr (.inl ⟨rfl, Lib.hid ⟨h20, HA3.out⟩⟩)⟩, ?_⟩
                  simp only [intOf]
                  omega
            · have i2 : ¬ (40 : Int) ≤ (N : Int) := by omega
              have HC := Lib.hid (HSM.out 0 20 N 0 20 N rfl rfl rfl n e os hze (by omega) h20 (by have := HND.out; omega) (by have := HND.out; omega) (st2_mn HA.out h20 (by omega)))
              have HNX := Lib.hid (fun e2 => st2_next (e2 := e2) HND.out HA.out h20)
              rw [Nat.min_eq_right (by omega)] at HNX
              go_wp2_with fail
              go_loopw [7, 8] (fun t7 t8 wr => t7 = .int .i64 0 ∧ t8 = .int .i64 40 ∧ wr = SW w g n e os) (fun t7 _ _ => 0)
              case atStart => exact ⟨rfl, rfl, rfl⟩
              case round =>
                obtain ⟨rfl, rfl, rfl⟩ := hrel
                generalize SW w g n e os = wq at *
                go_wp2_with fail
                refine HC.out.mono ?_
                rintro e1 w' ⟨rfl, n3, os3, e3, rfl, hm⟩
                have HA3 := Lib.hid (HNX.out e3 hm)
                clear hm
                go_wp2_with fail
                refine ⟨⟨n3, os3, e3, rfl, .inr (.inl ⟨rfl, Lib.hid ⟨h20, HA3.out⟩⟩)⟩, ?_⟩
                simp only [intOf]
                omega
          · have i1 : ¬ (20 : Int) < (N : Int) := by omega
            have HF := Lib.hid (st2_done HA.out (by omega))
            go_wp2_with fail
            go_end0
            exact ⟨rfl, n, os, e, rfl, HF.out⟩
        · have hze := HA.out.2.perm.1.trans HND.out.symm
          by_cases h40 : 40 < N
          · have i1 : (40 : Int) < (N : Int) := by omega
            have i2 : ¬ (80 : Int) ≤ (N : Int) := by omega
            have HC := Lib.hid (HSM.out 0 40 N 0 40 N rfl rfl rfl n e os hze (by omega) h40 (by have := HND.out; omega) (by have := HND.out; omega) (st3_m HA.out.2 h40))
            have HNX := Lib.hid (fun e2 => st3_next (e2 := e2) HA.out.2)
            go_wp2_with fail
            go_loopw [7, 8] (fun t7 t8 wr => t7 = .int .i64 0 ∧ t8 = .int .i64 80 ∧ wr = SW w g n e os) (fun t7 _ _ => 0)
            case atStart => exact ⟨rfl, rfl, rfl⟩
            case round =>
              obtain ⟨rfl, rfl, rfl⟩ := hrel
              generalize SW w g n e os = wq at *
              go_wp2_with fail
              refine HC.out.mono ?_
              rintro e1 w' ⟨rfl, n3, os3, e3, rfl, hm⟩
              have HA3 := Lib.hid (HNX.out e3 hm)
              clear hm
              go_wp2_with fail
              refine ⟨⟨n3, os3, e3, rfl, .inr (.inr ⟨rfl, Lib.hid ⟨h40, HA3.out⟩⟩)⟩, ?_⟩
              simp only [intOf]
              omega
          · have i1 : ¬ (40 : Int) < (N : Int) := by omega
            have HF := Lib.hid (st3_done HA.out.2 (by omega))
            go_wp2_with fail
            go_end0
            exact ⟨rfl, n, os, e, rfl, HF.out⟩
        · have i1 : ¬ (80 : Int) < (N : Int) := by omega
          have HF := Lib.hid HA.out.2
          go_wp2_with fail
          go_end0
          exact ⟨rfl, n, os, e, rfl, HF.out⟩
end Go.Proofs.YtbdgoffbkenofaaGreat.So
namespace Go.Proofs.YtbdgoffbkenofaaGreat.So
open Go Go.RowKit Go.Shelf Go.Sort Go.Lib Go.Proofs.YtbdgoffbkenofaaGreat.Tk Go.Proofs.YtbdgoffbkenofaaGreat.Tr
set_option linter.unusedVariables false
set_option linter.unusedSimpArgs false
set_option maxRecDepth 100000

/-- Of i attributes those that have another name than the one ahead. -/
def kp (d : Array Rk) : Nat → List Rk
  | 0 => []
  | i + 1 => kp d i ++ (if i = 0 ∨ d[i]!.1.1 ≠ d[i - 1]!.1.1 then [d[i]!] else [])
theorem kp_len (d : Array Rk) : ∀ i, (kp d i).length ≤ i
  | 0 => Nat.le_refl _
  | i + 1 => by
    have := kp_len d i
    unfold kp
    rw [List.length_append]
    split <;> simp <;> omega
theorem kp_yes {d : Array Rk} {i : Nat} (h : i = 0 ∨ d[i]!.1.1 ≠ d[i - 1]!.1.1) : kp d (i + 1) = kp d i ++ [d[i]!] := by
  conv => lhs; unfold kp
  rw [if_pos h]
theorem kp_no {d : Array Rk} {i : Nat} (h : ¬ (i = 0 ∨ d[i]!.1.1 ≠ d[i - 1]!.1.1)) : kp d (i + 1) = kp d i := by
  conv => lhs; unfold kp
  rw [if_neg h]; exact List.append_nil _
theorem kp_all {d : Array Rk} : ∀ k, (∀ j, 0 < j → j < k → d[j]!.1.1 ≠ d[j - 1]!.1.1) → (kp d k).length = k ∧ ∀ j, j < k → (kp d k)[j]! = d[j]!
  | 0, h => ⟨rfl, fun j hj => by omega⟩
  | k + 1, h => by
    obtain ⟨h1, h2⟩ := kp_all k (fun j hj1 hj2 => h j hj1 (by omega))
    have hy : k = 0 ∨ d[k]!.1.1 ≠ d[k - 1]!.1.1 := by
      rcases Nat.eq_zero_or_pos k with c | c
      · exact .inl c
      · exact .inr (h k c (by omega))
    rw [kp_yes hy]
    refine ⟨by rw [List.length_append, h1]; rfl, fun j hj => ?_⟩
    rw [List.getElem!_eq_getElem?_getD]
    rcases Nat.lt_or_ge j k with c | c
    · rw [List.getElem?_append_left (by omega), ← List.getElem!_eq_getElem?_getD]; exact h2 j c
    · have : j = k := by omega
      subst this
      rw [List.getElem?_append_right (by omega), h1, Nat.sub_self]; rfl
set_option maxHeartbeats 2000000 in
theorem closure_eqn (x y : At) (W : World) : Calls Tryz.prog 34 #[.agg #[.string x.1, .string x.2], .agg #[.string y.1, .string y.2]] W fun e w' => e = .returned (.bool (decide (x.1 = y.1))) ∧ ∃ q os', w' = grow (W.drewN q) os' := by
  have hq := Sr.str_eq x.1 y.1
  go_enter Tryz.func34, Tryz.ntmps34
  by_cases h : x.1 = y.1
  · have hd : decide (x.1 = y.1) = true := decide_eq_true h
    have hq' : (x.1.toList == y.1.toList) = true := by rw [h]; simp
    rw [hd]
    clear h hq hd
    go_wp2_with fail
    go_ret
    exact ⟨rfl, 0, _, by rw [alloc_eq_grow, alloc_eq_grow, grow_grow]; rfl⟩
  · have hd : decide (x.1 = y.1) = false := decide_eq_false h
    have hq' : (x.1.toList == y.1.toList) = false := (lit_eq x.1 y.1.toList y.1 rfl).trans (decide_eq_false h)
    rw [hd]
    clear h hq hd
    go_wp2_with fail
    go_ret
    exact ⟨rfl, 0, _, by rw [alloc_eq_grow, alloc_eq_grow, grow_grow]; rfl⟩
/-- One element stored. -/
theorem SW_set {w : World} {g : Nat} (m : Nat) (d : Array Rk) (os : Array Obj) (hg : g < w.heap.size) (k : Nat) (x : Rk) (hk : k < d.size) :
    ((SW w g m d os).setCell ⟨g, k * 2, none⟩ (.string x.1.1)).setCell ⟨g, k * 2 + 1, none⟩ (.string x.1.2) = SW w g m (d.setIfInBounds k x) os := by
  have e : setMany (flatK encR 2 d) (k * 2) (encR x) = flatK encR 2 (d.setIfInBounds k x) := by
    refine ext_get! (by simp) fun t ht => ?_
    have ht' : t < d.size * 2 := by simpa using ht
    rw [get_setMany _ _ _ _ (by simpa using ht'), get_flatK encR 2 d _ ht', get_flatK encR 2 (d.setIfInBounds k x) _ (by simpa using ht'), encR_len]
    by_cases c : k * 2 ≤ t ∧ t < k * 2 + 2
    · rw [if_pos c, show t / 2 = k by omega, show t % 2 = t - k * 2 by omega]
      simp [getElem!_def, Array.getElem?_setIfInBounds, hk]
    · rw [if_neg c]
      have hne : ¬ k = t / 2 := by omega
      simp [getElem!_def, Array.getElem?_setIfInBounds, hne]
  show (SW w g m d os).setCells g (k * 2) (encR x) = _
  unfold SW sortWorldK
  rw [setCells_grow os g _ _ _ (by rw [size_putRowK]; exact hg)]
  congr 1
  unfold putRowK
  have := setCells_putRow (Sort.ahead w m) g 0 (encR x) (k * 2) (flatK encR 2 d) (by rw [encR_len, size_flatK]; omega)
  rw [Nat.zero_add] at this
  rw [this, e]
/-- clear(s), s a slice of attributes. -/
theorem run_clear_at (w : World) (b o n : Nat) (hn : 0 < n) (hc : ∀ j, j < n * 2 → (w.cell? ⟨b, o + j, none⟩).isSome = true) (hf : ∀ j, j < n * 2 → w.frozen? ⟨b, o + j, none⟩ = false) :
    ∃ Z : List Value, Z.length = n * 2 ∧ ∀ (ty : TypeId) (c : Nat), (Builtin.clear_ #[25] ty #[.slice (some ⟨b, o, none⟩) n c]).run Tryz.prog w = .ok (.tuple #[]) (w.setCells b o Z) := by
  refine ⟨(Builtin.zeroCells (Value.agg #[.string ByteArray.empty, .string ByteArray.empty]).cells n).toList, ?_, ?_⟩
  · simp [Builtin.zeroCells, Value.cells]
  · have h1 : ∀ v ∈ (Builtin.zeroCells (Value.agg #[.string ByteArray.empty, .string ByteArray.empty]).cells n).toList, v.oneCell' = true := by
      intro v hv
      have key : ∀ i : Nat, ((#[Value.string ByteArray.empty, Value.string ByteArray.empty] : Array Value)[i % 2]!).oneCell' = true := fun i => by
        rcases Nat.mod_two_eq_zero_or_one i with h | h <;> rw [h] <;> rfl
      rw [Array.mem_toList_iff] at hv
      obtain ⟨i, _, rfl⟩ := Array.mem_map.1 hv
      exact key i
    have hl : (Builtin.zeroCells (Value.agg #[.string ByteArray.empty, .string ByteArray.empty]).cells n).toList.length = n * 2 := by simp [Builtin.zeroCells, Value.cells]
    have hst := run_storeCells_cells (P := Tryz.prog) b o _ 0 w (by rw [hl]; simpa using hc) (by rw [hl]; simpa using hf) h1
    simp only [Nat.add_zero] at hst
    obtain ⟨m, rfl⟩ : ∃ m, n = m + 1 := ⟨n - 1, by omega⟩
    have hz : ∀ w, (zeroValue 30).run Tryz.prog w = .ok (.agg #[.string ByteArray.empty, .string ByteArray.empty]) w := fun w => by kernel_rfl
    intro ty c
    simp [Builtin.clear_, run_underlying Tryz.underlying25, hz, hst]
theorem setCells_other (b k : Nat) (hk : k ≠ b) : ∀ (vs : List Value) (o : Nat) (w : World), (w.setCells b o vs).heap[k]? = w.heap[k]?
  | [], _, _ => rfl
  | v :: r, o, w => by
    rw [World.setCells, setCells_other b k hk r (o + 1)]
    rw [setCell_eq]
    show (w.heap.modify b _)[k]? = _
    rw [Array.getElem?_modify, if_neg (fun e => hk e.symm)]
theorem setCells_rest (b : Nat) : ∀ (vs : List Value) (o : Nat) (w : World), (w.setCells b o vs).os = w.os ∧ (w.setCells b o vs).tape = w.tape ∧ (w.setCells b o vs).output = w.output
  | [], _, _ => ⟨rfl, rfl, rfl⟩
  | v :: r, o, w => by
    have := setCells_rest b r (o + 1) (w.setCell ⟨b, o, none⟩ v)
    exact this
theorem SW_fr {w : World} {g : Nat} (m : Nat) (d : Array Rk) (os : Array Obj) : Fr (fun k => k = g) w.heap.size w (SW w g m d os) :=
  ⟨rfl, rfl, rfl, size_sortWorldK_c encR 2 w g 0 m d os, fun k hk hne => by
    show ((w.heap.modify g _) ++ os)[k]? = _
    rw [Array.getElem?_append_left (by simpa using hk), Array.getElem?_modify, if_neg (fun e => hne e.symm)]⟩
/-- What the second loop keeps: kk of the first i are kept, in their places; from kk on nothing has turned. -/
structure CpI (d d' : Array Rk) (i kk : Nat) : Prop where
  size : d'.size = d.size
  old : ∀ j, kk ≤ j → d'[j]! = d[j]!
  len : (kp d i).length = kk
  new : ∀ j, j < kk → d'[j]! = (kp d i)[j]!
theorem cpI_start {d : Array Rk} {k : Nat} (h : ∀ j, 0 < j → j < k → d[j]!.1.1 ≠ d[j - 1]!.1.1) (h0 : 0 < k) (he : d[k]!.1.1 = d[k - 1]!.1.1) : CpI d d (k + 1) k := by
  obtain ⟨h1, h2⟩ := kp_all k h
  have e : kp d (k + 1) = kp d k := kp_no (by rintro (c | c); omega; exact c he)
  exact ⟨rfl, fun j _ => rfl, by rw [e]; exact h1, fun j hj => by rw [e]; exact (h2 j hj).symm⟩
theorem cpI_no {d d' : Array Rk} {i kk : Nat} (h : CpI d d' i kk) (h0 : 0 < i) (he : d[i]!.1.1 = d[i - 1]!.1.1) : CpI d d' (i + 1) kk := by
  have e : kp d (i + 1) = kp d i := kp_no (by rintro (c | c); omega; exact c he)
  exact ⟨h.size, h.old, by rw [e]; exact h.len, fun j hj => by rw [e]; exact h.new j hj⟩
theorem cpI_yes {d d' : Array Rk} {i kk : Nat} (h : CpI d d' i kk) (he : d[i]!.1.1 ≠ d[i - 1]!.1.1) (hk : kk < d.size) : CpI d (d'.setIfInBounds kk d[i]!) (i + 1) (kk + 1) := by
  have e : kp d (i + 1) = kp d i ++ [d[i]!] := kp_yes (.inr he)
  have g : ∀ j, (d'.setIfInBounds kk d[i]!)[j]! = if kk = j then d[i]! else d'[j]! := fun j => by
    have := h.size
    by_cases c : kk = j
    · rw [if_pos c]; subst c
      simp [getElem!_def, Array.getElem?_setIfInBounds, show kk < d'.size by omega]
    · rw [if_neg c]
      simp [getElem!_def, Array.getElem?_setIfInBounds, c]
  refine ⟨by simp [h.size], fun j hj => by rw [g, if_neg (by omega)]; exact h.old j (by omega), by rw [e, List.length_append, h.len]; rfl, fun j hj => ?_⟩
  rw [g, e, List.getElem!_eq_getElem?_getD]
  by_cases c : kk = j
  · rw [if_pos c, List.getElem?_append_right (by rw [h.len]; omega), h.len, c, Nat.sub_self]; rfl
  · rw [if_neg c, List.getElem?_append_left (by rw [h.len]; omega), ← List.getElem!_eq_getElem?_getD]
    exact h.new j (by omega)
end Go.Proofs.YtbdgoffbkenofaaGreat.So
namespace Go.Proofs.YtbdgoffbkenofaaGreat.So
open Go Go.RowKit Go.Shelf Go.Sort Go.Lib Go.Proofs.YtbdgoffbkenofaaGreat.Tk Go.Proofs.YtbdgoffbkenofaaGreat.Tr
set_option linter.unusedVariables false
set_option linter.unusedSimpArgs false
set_option maxRecDepth 100000

def CpEnd (d : Array Rk) (g cap : Nat) (w : World) (e : Ending) (w' : World) : Prop :=
  e = .returned (.slice (some ⟨g, 0, none⟩) (kp d d.size).length cap) ∧ (∀ j, j < (kp d d.size).length → w'.cell? ⟨g, j * 2, none⟩ = some (.string (kp d d.size)[j]!.1.1) ∧ w'.cell? ⟨g, j * 2 + 1, none⟩ = some (.string (kp d d.size)[j]!.1.2)) ∧ Fr (fun k => k = g) w.heap.size w w'
/-- Where nothing falls out. -/
theorem cp_all {d : Array Rk} {g cap n : Nat} {w : World} {os : Array Obj} (hH : HoldsK encR 2 w g 0 d) (hg : g < w.heap.size) (h : ∀ j, 0 < j → j < d.size → d[j]!.1.1 ≠ d[j - 1]!.1.1) : CpEnd d g cap w (.returned (.slice (some ⟨g, 0, none⟩) d.size cap)) (SW w g n d os) := by
  obtain ⟨h1, h2⟩ := kp_all d.size h
  refine ⟨by rw [h1], fun j hj => ?_, SW_fr n d os⟩
  rw [h1] at hj
  have hc := rk_cells (SW_holds hH hg n d os rfl).1 (i := j) hj
  rw [h2 j hj]
  exact ⟨hc.1, hc.2.1⟩
theorem cp_some {d d' : Array Rk} {g cap n kk : Nat} {w : World} {os : Array Obj} {Z : List Value} (hH : HoldsK encR 2 w g 0 d) (hg : g < w.heap.size) (h : CpI d d' d.size kk) (hk : kk ≤ d.size) (hZ : Z.length = (d.size - kk) * 2) : CpEnd d g cap w (.returned (.slice (some ⟨g, 0, none⟩) kk cap)) ((SW w g n d' os).setCells g (kk * 2) Z) := by
  have hh := SW_holds hH hg n d' os h.size
  have hs := holds_setCells_c hh.1 (kk * 2) Z (by rw [size_flatK, h.size]; omega)
  rw [Nat.zero_add] at hs
  have hf := SW_fr (w := w) (g := g) n d' os
  have hr := setCells_rest g Z (kk * 2) (SW w g n d' os)
  refine ⟨by rw [h.len], fun j hj => ?_, ⟨hr.1.trans hf.os, hr.2.1.trans hf.tape, hr.2.2.trans hf.output, by rw [Sort.size_setCells]; exact hf.size, fun k hk1 hk2 => ?_⟩⟩
  · rw [h.len] at hj
    have a1 := (hs (j * 2) (by rw [size_setMany, size_flatK, h.size]; omega)).1
    have a2 := (hs (j * 2 + 1) (by rw [size_setMany, size_flatK, h.size]; omega)).1
    rw [Nat.zero_add, get_setMany _ _ _ _ (by rw [size_flatK, h.size]; omega), if_neg (by omega), get_flatK encR 2 d' _ (by rw [h.size]; omega), show j * 2 / 2 = j by omega, show j * 2 % 2 = 0 by omega, h.new j hj] at a1
    rw [Nat.zero_add, get_setMany _ _ _ _ (by rw [size_flatK, h.size]; omega), if_neg (by omega), get_flatK encR 2 d' _ (by rw [h.size]; omega), show (j * 2 + 1) / 2 = j by omega, show (j * 2 + 1) % 2 = 1 by omega, h.new j hj] at a2
    exact ⟨a1, a2⟩
  · rw [setCells_other g k hk2]; exact hf.block k hk1 hk2
set_option maxHeartbeats 16000000 in
theorem compact_calls (g cap : Nat) (d : Array Rk) (w : World) (hH : HoldsK encR 2 w g 0 d) (hg : g < w.heap.size) (hcap : d.size ≤ cap) (hcm : cap ≤ maxLen) (hsz : d.size ≤ 1000000) :
    Calls Tryz.prog 33 #[.slice (some ⟨g, 0, none⟩) d.size cap, .func (.func 34) #[] #[]] w (CpEnd d g cap w) := by
  have HST : Hid (w = SW w g 0 d #[]) := by show w = _; unfold SW sortWorldK; rw [grow_empty]; exact (putRowK_self encR 2 w g 0 d hH).symm
  have HH := Lib.hid hH
  have mixed := mixedT
  unfold maxLen at hcm
  by_cases h2 : d.size < 2
  · have HF := Lib.hid (cp_all (cap := cap) (n := 0) (os := #[]) hH hg (fun j h1 h3 => by omega))
    rw [← HST.out] at HF
    clear hH
    go_enter Tryz.func33, Tryz.ntmps33
    go_wp2_with fail
    go_ret
    exact HF.out
  clear hH
  have h2' : 2 ≤ d.size := by omega
  go_enter Tryz.func33, Tryz.ntmps33
  go_wp2_with fail
  clear h2
  go_loopw [5] (fun t5 wr => ∃ (q n : Nat) (os : Array Obj), t5 = .int .i64 ((q : Int) + 1) ∧ wr = SW w g n d os ∧ Hid (q + 1 ≤ d.size ∧ ∀ j, 0 < j → j < q + 1 → d[j]!.1.1 ≠ d[j - 1]!.1.1)) (fun t5 _ => d.size - (intOf t5).toNat)
  case atStart => exact ⟨0, 0, #[], rfl, HST.out, Lib.hid ⟨by omega, fun j h1 h2 => by omega⟩⟩
  case round =>
    obtain ⟨q, n, os, rfl, rfl, HQ⟩ := hrel
    have hq1 : q + 1 ≤ d.size := HQ.out.1
    by_cases hlt : q + 1 < d.size
    · have k1 : (q : Int) + 1 < (d.size : Int) := by omega
      have kb2 : (q : Int) < (d.size : Int) := by omega
      have kw : IntKind.i64.wrap (q : Int) = (q : Int) := IntWalk.i64_in _ (by omega)
      have p0 : (0 : Int) ≤ (q : Int) + 1 := by omega
      have e0 : ((q : Int) + 1).toNat = q + 1 := by omega
      have hHd : HoldsK encR 2 (SW w g n d os) g 0 d := holdsK_sortWorldK_c encR 2 w g 0 d _ _ _ HH.out hg rfl
      have hgw : g < (SW w g n d os).heap.size := Nat.lt_of_lt_of_le hg (size_sortWorldK_c encR 2 w g 0 _ _ _)
      obtain ⟨x, hx⟩ : ∃ x, d[q + 1]! = x := ⟨_, rfl⟩
      obtain ⟨y, hy⟩ : ∃ y, d[q]! = y := ⟨_, rfl⟩
      have ra := rk_cells hHd (i := q + 1) (by omega)
      have rb := rk_cells hHd (i := q) (by omega)
      rw [hx] at ra
      rw [hy] at rb
      have x0 := cell_grown (a := ⟨g, (q + 1) * 2, none⟩) hgw ra.1
      have x1 := cell_grown (a := ⟨g, (q + 1) * 2 + 1, none⟩) hgw ra.2.1
      have y0 := cell_grown (a := ⟨g, q * 2, none⟩) hgw rb.1
      have y1 := cell_grown (a := ⟨g, q * 2 + 1, none⟩) hgw rb.2.1
      have HG := Lib.hid (fun (n' : Nat) (os' : Array Obj) => show grow ((SW w g n d os).drewN n') os' = SW w g (n + n') d (os ++ os') from sortWorldK_grown_c encR 2 w g 0 n n' d os os')
      have HCL := Lib.hid (fun W => closure_eqn x.1 y.1 W)
      have HEQ := Lib.hid (show (d[q + 1]!.1.1 = d[q]!.1.1) = (x.1.1 = y.1.1) from by rw [hx, hy])
      have HLT := Lib.hid hlt
      generalize SW w g n d os = wq at *
      by_cases hxy : x.1.1 = y.1.1
      · have HE := Lib.hid (show d[q + 1]!.1.1 = d[q]!.1.1 from by rw [HEQ.out]; exact hxy)
        rw [decide_eq_true hxy] at HCL
        clear hHd hgw hx hy ra rb hxy hlt
        go_wp2_with fail
        go_quiet_grown (first | (go_at_call 34; refine Calls.grown_of (HCL.out _)))
        go_wp2_with fail
        have HST2 := Lib.hid (cpI_start (k := q + 1) HQ.out.2 (by omega) HE.out)
        obtain ⟨L, hL⟩ : ∃ L, L = d.size - (q + 1) := ⟨_, rfl⟩
        obtain ⟨C, hC⟩ : ∃ C, C = cap - (q + 1) := ⟨_, rfl⟩
        rw [← hL, ← hC]
        have HL := Lib.hid (show L + (q + 1) = d.size by have := HLT.out; omega)
        have hLz : L ≤ 1000000 := by omega
        have HLT2 := Lib.hid HLT.out
        clear hL hC kw p0 e0 kb2 k1 hq1 HQ HE x0 x1 y0 y1 HCL
        go_loopw [5, 7] (fun t5 t7 wr => ∃ (kk r n : Nat) (os : Array Obj) (d' : Array Rk), t5 = .int .i64 (kk : Int) ∧ t7 = .int .i64 ((r : Int) + 1) ∧ wr = SW w g n d' os ∧ Hid (q + 1 ≤ kk ∧ kk ≤ q + 1 + r ∧ r + 1 ≤ L ∧ CpI d d' (q + 1 + r + 1) kk)) (fun _ t7 _ => L - (intOf t7).toNat)
        case atStart => exact ⟨q + 1, 0, n + nq, os ++ osq, d, rfl, rfl, HG.out nq osq, Lib.hid ⟨Nat.le_refl _, Nat.le_refl _, by have := HL.out; have := HLT2.out; omega, HST2.out⟩⟩
        case round =>
          clear HG
          obtain ⟨kk, r, n, os, d', rfl, rfl, rfl, HI⟩ := hrel
          have hz : d'.size = d.size := HI.out.2.2.2.size
          have hkk : kk ≤ q + 1 + r := HI.out.2.1
          have hrL : r + 1 ≤ L := HI.out.2.2.1
          have hkd : (kk : Int) < (d.size : Int) := by have := HL.out; omega
          by_cases hr : r + 1 < L
          · have k1 : (r : Int) + 1 < (L : Int) := by omega
            have kb2 : (r : Int) < (L : Int) := by omega
            have kw : IntKind.i64.wrap (r : Int) = (r : Int) := IntWalk.i64_in _ (by omega)
            have p0 : (0 : Int) ≤ (r : Int) + 1 := by omega
            have e0 : ((r : Int) + 1).toNat = r + 1 := by omega
            have hP : q + 1 + (r + 1) < d.size := by have := HL.out; omega
            have hHd : HoldsK encR 2 (SW w g n d' os) g 0 d' := holdsK_sortWorldK_c encR 2 w g 0 d _ _ _ HH.out hg hz
            have hgw : g < (SW w g n d' os).heap.size := Nat.lt_of_lt_of_le hg (size_sortWorldK_c encR 2 w g 0 _ _ _)
            obtain ⟨x, hx⟩ : ∃ x, d[q + 1 + (r + 1)]! = x := ⟨_, rfl⟩
            obtain ⟨y, hy⟩ : ∃ y, d[q + 1 + r]! = y := ⟨_, rfl⟩
            have ra := rk_cells hHd (i := q + 1 + (r + 1)) (by omega)
            have rb := rk_cells hHd (i := q + 1 + r) (by omega)
            rw [HI.out.2.2.2.old _ (by omega), hx, show (q + 1 + (r + 1)) * 2 = (q + 1) * 2 + (r + 1) * 2 by omega] at ra
            rw [HI.out.2.2.2.old _ (by omega), hy, show (q + 1 + r) * 2 = (q + 1) * 2 + r * 2 by omega] at rb
            have x0 := cell_grown (a := ⟨g, (q + 1) * 2 + (r + 1) * 2, none⟩) hgw ra.1
            have x1 := cell_grown (a := ⟨g, (q + 1) * 2 + (r + 1) * 2 + 1, none⟩) hgw ra.2.1
            have y0 := cell_grown (a := ⟨g, (q + 1) * 2 + r * 2, none⟩) hgw rb.1
            have y1 := cell_grown (a := ⟨g, (q + 1) * 2 + r * 2 + 1, none⟩) hgw rb.2.1
            have HG := Lib.hid (fun (n' : Nat) (os' : Array Obj) => show grow ((SW w g n d' os).drewN n') os' = SW w g (n + n') d' (os ++ os') from sortWorldK_grown_c encR 2 w g 0 n n' d' os os')
            have HCL := Lib.hid (fun W => closure_eqn x.1 y.1 W)
            have HHD2 := Lib.hid (fun (n' : Nat) (os' : Array Obj) => rk_cells (holdsK_sortWorldK_c encR 2 w g 0 d d' n' os' HH.out hg hz) (i := kk) (by omega))
            have HX := Lib.hid hx
            have HY := Lib.hid hy
            have HLTR := Lib.hid hr
            generalize SW w g n d' os = wq at *
            by_cases hxy : x.1.1 = y.1.1
            · have HN := Lib.hid (show CpI d d' (q + 1 + r + 1 + 1) kk from cpI_no HI.out.2.2.2 (by omega) (by rw [show q + 1 + r + 1 - 1 = q + 1 + r by omega, show q + 1 + r + 1 = q + 1 + (r + 1) by omega, HX.out, HY.out]; exact hxy))
              rw [decide_eq_true hxy] at HCL
              clear hHd hgw hx hy ra rb hxy hr HHD2
              go_wp2_with fail
              go_quiet_grown (first | (go_at_call 34; refine Calls.grown_of (HCL.out _)))
              go_wp2_with fail
              refine ⟨⟨kk, r + 1, n + nq, os ++ osq, d', rfl, rfl, HG.out nq osq, Lib.hid ⟨HI.out.1, by omega, by have := HLTR.out; omega, by rw [show q + 1 + (r + 1) + 1 = q + 1 + r + 1 + 1 by omega]; exact HN.out⟩⟩, ?_⟩
              simp only [intOf]
              have := HLTR.out
              omega
            · have HN := Lib.hid (show CpI d (d'.setIfInBounds kk x) (q + 1 + r + 1 + 1) (kk + 1) from by
                have e : q + 1 + (r + 1) = q + 1 + r + 1 := by omega
                have := cpI_yes HI.out.2.2.2 (by rw [show q + 1 + r + 1 - 1 = q + 1 + r by omega, ← e, HX.out, HY.out]; exact hxy) (by omega)
                rw [← e, HX.out] at this
                rw [← e]; exact this)
              rw [decide_eq_false hxy] at HCL
              clear hHd hgw hx hy ra rb hxy hr
              go_wp2_with fail
              go_quiet_grown (first | (go_at_call 34; refine Calls.grown_of (HCL.out _)))
              replace x0 := x0 nq osq
              replace x1 := x1 nq osq
              have hg2 := HG.out nq osq
              obtain ⟨z0, z1, f0, f1⟩ := HHD2.out (n + nq) (os ++ osq)
              change (SW w g (n + nq) d' (os ++ osq)).cell? _ = _ at z0
              change (SW w g (n + nq) d' (os ++ osq)).cell? _ = _ at z1
              change (SW w g (n + nq) d' (os ++ osq)).frozen? _ = _ at f0
              change (SW w g (n + nq) d' (os ++ osq)).frozen? _ = _ at f1
              have HSET := Lib.hid (SW_set (w := w) (g := g) (n + nq) d' (os ++ osq) hg kk x (by omega))
              rw [← hg2] at z0 z1 f0 f1 HSET
              clear y0 y1 HG hg2 HHD2
              generalize grow (wq.drewN nq) osq = wq2 at *
              go_wp2_with fail
              refine ⟨⟨kk + 1, r + 1, n + nq, os ++ osq, _, rfl, rfl, HSET.out, Lib.hid ⟨by have := HI.out.1; omega, by omega, by have := HLTR.out; omega, by rw [show q + 1 + (r + 1) + 1 = q + 1 + r + 1 + 1 by omega]; exact HN.out⟩⟩, ?_⟩
              simp only [intOf]
              have := HLTR.out
              omega
          · have k1 : ¬ (r : Int) + 1 < (L : Int) := by omega
            have hend : q + 1 + r + 1 = d.size := by have := HL.out; omega
            have hkz : kk < d.size := by omega
            have hHd : HoldsK encR 2 (SW w g n d' os) g 0 d' := holdsK_sortWorldK_c encR 2 w g 0 d _ _ _ HH.out hg hz
            have hcc : ∀ j, j < (d.size - kk) * 2 → ((SW w g n d' os).cell? ⟨g, kk * 2 + j, none⟩).isSome = true := fun j hj => by
              have := (hHd (kk * 2 + j) (by rw [size_flatK, hz]; omega)).1
              rw [Nat.zero_add] at this
              rw [this]; rfl
            have hff : ∀ j, j < (d.size - kk) * 2 → (SW w g n d' os).frozen? ⟨g, kk * 2 + j, none⟩ = false := fun j hj => by
              have := (hHd (kk * 2 + j) (by rw [size_flatK, hz]; omega)).2
              rw [Nat.zero_add] at this
              exact this
            obtain ⟨Z, hZ, hcl⟩ := run_clear_at (SW w g n d' os) g (kk * 2) (d.size - kk) (by omega) hcc hff
            have HF := Lib.hid (cp_some (cap := cap) (n := n) (os := os) (Z := Z) HH.out hg (hend ▸ HI.out.2.2.2) (by omega) hZ)
            have hk0 : kk ≤ cap := by omega
            have hk1 : (kk : Int) ≤ (cap : Int) := by omega
            have hk2 : (kk : Int) ≤ (d.size : Int) := by omega
            clear hcc hff hHd hZ hend
            generalize SW w g n d' os = wq at *
            go_wp2_with fail
            go_ret
            exact HF.out
      · have HE := Lib.hid (show d[q + 1]!.1.1 ≠ d[q]!.1.1 from by rw [ne_eq, HEQ.out]; exact hxy)
        rw [decide_eq_false hxy] at HCL
        have HQ2 := Lib.hid (show q + 1 + 1 ≤ d.size ∧ ∀ j, 0 < j → j < q + 1 + 1 → d[j]!.1.1 ≠ d[j - 1]!.1.1 from ⟨by omega, fun j h1 h3 => by
          by_cases c : j = q + 1
          · subst c; exact HE.out
          · exact HQ.out.2 j h1 (by omega)⟩)
        clear hHd hgw hx hy ra rb hxy hlt
        go_wp2_with fail
        go_quiet_grown (first | (go_at_call 34; refine Calls.grown_of (HCL.out _)))
        go_wp2_with fail
        refine ⟨⟨q + 1, n + nq, os ++ osq, rfl, HG.out nq osq, HQ2⟩, ?_⟩
        simp only [intOf]
        have := HLT.out
        omega
    · have k1 : ¬ (q : Int) + 1 < (d.size : Int) := by omega
      have HF := Lib.hid (cp_all (cap := cap) (n := n) (os := os) HH.out hg (fun j h1 h3 => HQ.out.2 j h1 (by omega)))
      go_wp2_with fail
      go_ret
      exact HF.out
end Go.Proofs.YtbdgoffbkenofaaGreat.So
