/- Attributes with their ranks; slices.swapRangeCmpFunc. -/
import Derived.Test.YtbdgoffbkenofaaGreatTkG
import Derived.Shelf.SlSortCmp.InsertionK
import Derived.Shelf.SlicesQ.Reverse
import Derived.BigRegion
namespace Go.Proofs.YtbdgoffbkenofaaGreat.So
open Go Go.RowKit Go.Shelf Go.Sort Go.Lib Go.Proofs.YtbdgoffbkenofaaGreat.Tk Go.Proofs.YtbdgoffbkenofaaGreat.Tr
set_option linter.unusedVariables false
set_option linter.unusedSimpArgs false
set_option maxRecDepth 100000

/-- An attribute and its rank: where it stood at first. -/
abbrev Rk := At × Nat
def encR (p : Rk) : List Value := encAt p.1
theorem encR_len (p : Rk) : (encR p).length = 2 := rfl
theorem encR_one (p : Rk) : ∀ v ∈ encR p, v.oneCell' = true := fun u hu => by simp [encR, encAt] at hu; rcases hu with rfl | rfl <;> rfl
def cfR (x y : Rk) : Int := cfAt x.1 y.1
/-- A world of the sort's. -/
abbrev SW (w : World) (g m : Nat) (d : Array Rk) (os : Array Obj) : World := sortWorldK encR 2 w g 0 m d os
/-- The first n of two runs exchanged. -/
def swR (d : Array Rk) (a b : Nat) : Nat → Array Rk
  | 0 => d
  | n + 1 => swp (swR d a b n) (a + n) (b + n)
theorem swR_size (d : Array Rk) (a b : Nat) : ∀ n, (swR d a b n).size = d.size
  | 0 => rfl
  | n + 1 => by unfold swR; rw [size_swp]; exact swR_size d a b n
/-- An element's cells. -/
theorem rk_cells {W : World} {g : Nat} {d : Array Rk} (h : HoldsK encR 2 W g 0 d) {i : Nat} (hi : i < d.size) :
    W.cell? ⟨g, i * 2, none⟩ = some (.string d[i]!.1.1) ∧ W.cell? ⟨g, i * 2 + 1, none⟩ = some (.string d[i]!.1.2) ∧ W.frozen? ⟨g, i * 2, none⟩ = false ∧ W.frozen? ⟨g, i * 2 + 1, none⟩ = false := by
  have a1 := h (i * 2) (by rw [size_flatK]; omega)
  have a2 := h (i * 2 + 1) (by rw [size_flatK]; omega)
  rw [get_flatK encR 2 d _ (by omega), show i * 2 / 2 = i by omega, show i * 2 % 2 = 0 by omega, Nat.zero_add] at a1
  rw [get_flatK encR 2 d _ (by omega), show (i * 2 + 1) / 2 = i by omega, show (i * 2 + 1) % 2 = 1 by omega, Nat.zero_add] at a2
  exact ⟨a1.1, a2.1, a1.2, a2.2⟩
/-- Behind the stores of one element: another one's cells can be stored. -/
theorem rk_stored {W : World} {g : Nat} {d : Array Rk} (h : HoldsK encR 2 W g 0 d) {i j : Nat} (x : Rk) (hi : i < d.size) (hj : j < d.size) :
    (∃ v, ((W.setCell ⟨g, i * 2, none⟩ (.string x.1.1)).setCell ⟨g, i * 2 + 1, none⟩ (.string x.1.2)).drew.cell? ⟨g, j * 2, none⟩ = some v) ∧ (∃ v, ((W.setCell ⟨g, i * 2, none⟩ (.string x.1.1)).setCell ⟨g, i * 2 + 1, none⟩ (.string x.1.2)).drew.cell? ⟨g, j * 2 + 1, none⟩ = some v) ∧
    ((W.setCell ⟨g, i * 2, none⟩ (.string x.1.1)).setCell ⟨g, i * 2 + 1, none⟩ (.string x.1.2)).drew.frozen? ⟨g, j * 2, none⟩ = false ∧ ((W.setCell ⟨g, i * 2, none⟩ (.string x.1.1)).setCell ⟨g, i * 2 + 1, none⟩ (.string x.1.2)).drew.frozen? ⟨g, j * 2 + 1, none⟩ = false := by
  have hs := holds_setCells_c h (i * 2) (encR x) (by rw [encR_len, size_flatK]; omega)
  have e : W.setCells g (0 + i * 2) (encR x) = (W.setCell ⟨g, i * 2, none⟩ (.string x.1.1)).setCell ⟨g, i * 2 + 1, none⟩ (.string x.1.2) := by rw [Nat.zero_add]; rfl
  rw [e] at hs
  have a1 := hs (j * 2) (by rw [size_setMany, size_flatK]; omega)
  have a2 := hs (j * 2 + 1) (by rw [size_setMany, size_flatK]; omega)
  rw [Nat.zero_add] at a1 a2
  exact ⟨⟨_, a1.1⟩, ⟨_, a2.1⟩, a1.2, a2.2⟩
set_option maxHeartbeats 8000000 in
theorem swapRange_calls (g cap a b n : Nat) (F : Value) (d : Array Rk) (w : World) (hH : HoldsK encR 2 w g 0 d) (hg : g < w.heap.size) (ha : a + n ≤ d.size) (hb : b + n ≤ d.size) (hsz : d.size ≤ 1000000) :
    Calls Tryz.prog 117 #[.slice (some ⟨g, 0, none⟩) d.size cap, .int .i64 a, .int .i64 b, .int .i64 n, F] w fun e w' => e = .returned (.tuple #[]) ∧ ∃ m os, w' = SW w g m (swR d a b n) os := by
  have HST : Hid (w = SW w g 0 d #[]) := by show w = _; unfold SW sortWorldK; rw [grow_empty]; exact (putRowK_self encR 2 w g 0 d hH).symm
  have HH : Hid (HoldsK encR 2 w g 0 d) := hH
  clear hH
  have mixed := mixedT
  go_enter Tryz.func117, Tryz.ntmps117
  go_wp2_with fail
  go_loopw [10] (fun t10 wr => ∃ (i m : Nat) (os : Array Obj), t10 = .int .i64 (i : Int) ∧ Hid (i ≤ n) ∧ wr = SW w g m (swR d a b i) os) (fun t10 _ => n - (intOf t10).toNat)
  case atStart => exact ⟨0, 0, #[], rfl, Lib.hid (Nat.zero_le _), HST.out⟩
  case round =>
    obtain ⟨i, m, os, rfl, HI, rfl⟩ := hrel
    by_cases hlt : i < n
    · have k1 : (i : Int) < (n : Int) := by omega
      have HLT := Lib.hid hlt
      have hsk := swR_size d a b i
      obtain ⟨xa, hxa⟩ : ∃ x, (swR d a b i)[a + i]! = x := ⟨_, rfl⟩
      obtain ⟨xb, hxb⟩ : ∃ x, (swR d a b i)[b + i]! = x := ⟨_, rfl⟩
      have hHd : HoldsK encR 2 (SW w g m (swR d a b i) os) g 0 (swR d a b i) := holdsK_sortWorldK_c encR 2 w g 0 d _ _ _ HH.out hg hsk
      have HSW := Lib.hid (sortWorldK_swp_c encR 2 w g 0 encR_len m (swR d a b i) os hg (a + i) (b + i) (by omega) (by omega))
      rw [hxa, hxb] at HSW
      have HNX : Hid (swp (swR d a b i) (a + i) (b + i) = swR d a b (i + 1)) := Lib.hid rfl
      generalize hD : swR d a b i = D at *
      generalize hwq : SW w g m D os = wq at *
      have hHd2 : HoldsK encR 2 wq.drew g 0 D := hHd
      have ra := rk_cells hHd (i := a + i) (by omega)
      have rb := rk_cells hHd (i := b + i) (by omega)
      rw [hxa] at ra
      rw [hxb] at rb
      obtain ⟨x0, x1, f0, f1⟩ := ra
      obtain ⟨y0, y1, f2, f3⟩ := rb
      obtain ⟨⟨v0, z0⟩, ⟨v1, z1⟩, f4, f5⟩ := rk_stored hHd (i := a + i) (j := b + i) xb (by omega) (by omega)
      have z0' : ((wq.setCell ⟨g, (a + i) * 2, none⟩ (.string xb.1.1)).setCell ⟨g, (a + i) * 2 + 1, none⟩ (.string xb.1.2)).cell? ⟨g, (b + i) * 2, none⟩ = some v0 := z0
      have z1' : ((wq.setCell ⟨g, (a + i) * 2, none⟩ (.string xb.1.1)).setCell ⟨g, (a + i) * 2 + 1, none⟩ (.string xb.1.2)).cell? ⟨g, (b + i) * 2 + 1, none⟩ = some v1 := z1
      have f4' : ((wq.setCell ⟨g, (a + i) * 2, none⟩ (.string xb.1.1)).setCell ⟨g, (a + i) * 2 + 1, none⟩ (.string xb.1.2)).frozen? ⟨g, (b + i) * 2, none⟩ = false := f4
      have f5' : ((wq.setCell ⟨g, (a + i) * 2, none⟩ (.string xb.1.1)).setCell ⟨g, (a + i) * 2 + 1, none⟩ (.string xb.1.2)).frozen? ⟨g, (b + i) * 2 + 1, none⟩ = false := f5
      have HWQ := Lib.hid hwq
      clear hHd hHd2 hxa hxb hD hwq hsk
      go_wp2_with fail
      go_big_region_o
      all_goals go_wp2
      refine ⟨⟨i + 1, m + 1, os, rfl, Lib.hid HLT.out, ?_⟩, ?_⟩
      · have e := HSW.out
        rw [Nat.zero_add, Nat.zero_add, HNX.out] at e
        rw [← HWQ.out]
        exact e
      · simp [intOf]; have := HLT.out; omega
    · have k1 : ¬ (i : Int) < (n : Int) := by omega
      have hi : i = n := by have := HI.out; omega
      have HR := Lib.hid (show SW w g m (swR d a b i) os = SW w g m (swR d a b n) os by rw [hi])
      clear hi
      go_wp2_with fail
      go_end0
      exact ⟨rfl, m, os, HR.out⟩
end Go.Proofs.YtbdgoffbkenofaaGreat.So
namespace Go.Proofs.YtbdgoffbkenofaaGreat.So
open Go Go.RowKit Go.Shelf Go.Sort Go.Lib Go.Proofs.YtbdgoffbkenofaaGreat.Tk Go.Proofs.YtbdgoffbkenofaaGreat.Tr
set_option linter.unusedVariables false
set_option linter.unusedSimpArgs false
set_option maxRecDepth 100000

theorem swR_get (d : Array Rk) (a b : Nat) : ∀ n, a + n ≤ b → b + n ≤ d.size → ∀ k, (swR d a b n)[k]! = if a ≤ k ∧ k < a + n then d[b + (k - a)]! else if b ≤ k ∧ k < b + n then d[a + (k - b)]! else d[k]!
  | 0, _, _, k => by rw [if_neg (by omega), if_neg (by omega)]; rfl
  | n + 1, h1, h2, k => by
    have ih := swR_get d a b n (by omega) (by omega)
    have hs := swR_size d a b n
    show (swp (swR d a b n) (a + n) (b + n))[k]! = _
    rw [swp_get _ (by omega) (by omega)]
    by_cases c1 : k = b + n
    · subst c1
      rw [if_pos rfl, ih, if_neg (by omega), if_neg (by omega), if_neg (by omega), if_pos (by omega)]
      congr 1; omega
    · rw [if_neg c1]
      by_cases c2 : k = a + n
      · subst c2
        rw [if_pos rfl, ih, if_neg (by omega), if_neg (by omega), if_pos (by omega)]
        congr 1; omega
      · rw [if_neg c2, ih]
        repeat' split
        all_goals first | rfl | (exfalso; omega)
theorem swR_perm (d : Array Rk) (a b lo hi : Nat) (h0 : lo ≤ a) (h1 : lo ≤ b) (hz : hi ≤ d.size) : ∀ n, a + n ≤ hi → b + n ≤ hi → PermIn lo hi d (swR d a b n)
  | 0, _, _ => permIn_refl _ _ _
  | n + 1, h2, h3 => permIn_trans _ _ _ _ _ (swR_perm d a b lo hi h0 h1 hz n (by omega) (by omega)) (swp_permIn _ _ _ _ _ (by omega) (by omega) (by omega) (by omega) (by rw [swR_size]; exact hz))
/-- e is d with its runs [a, m) and [m, b) exchanged. -/
structure IsRot (d e : Array Rk) (a m b : Nat) : Prop where
  size : e.size = d.size
  at_ : ∀ k, e[k]! = if a ≤ k ∧ k < b then (if k < a + (b - m) then d[m + (k - a)]! else d[k - (b - m)]!) else d[k]!
theorem rot_eq {d : Array Rk} {m i : Nat} (h1 : i ≤ m) (h2 : m + i ≤ d.size) : IsRot d (swR d (m - i) m i) (m - i) m (m + i) := by
  refine ⟨swR_size _ _ _ _, fun k => ?_⟩
  rw [swR_get d (m - i) m i (by omega) h2]
  repeat' split
  all_goals first | rfl | (exfalso; omega) | (congr 1; omega)
theorem rot_gt {d f : Array Rk} {m i j : Nat} (h1 : i ≤ m) (h2 : m + j ≤ d.size) (h : j < i) (hf : IsRot (swR d (m - i) m j) f (m - (i - j)) m (m + j)) : IsRot d f (m - i) m (m + j) := by
  refine ⟨by rw [hf.size, swR_size], fun k => ?_⟩
  have g := swR_get d (m - i) m j (by omega) h2
  rw [hf.at_ k, g, g, g]
  repeat' split
  all_goals first | rfl | (exfalso; omega) | (congr 1; omega)
theorem rot_lt {d f : Array Rk} {m i j : Nat} (h1 : i ≤ m) (h2 : m + j ≤ d.size) (h : i < j) (hf : IsRot (swR d (m - i) (m + j - i) i) f (m - i) m (m + (j - i))) : IsRot d f (m - i) m (m + j) := by
  refine ⟨by rw [hf.size, swR_size], fun k => ?_⟩
  have g := swR_get d (m - i) (m + j - i) i (by omega) (by omega)
  rw [hf.at_ k, g, g, g]
  repeat' split
  all_goals first | rfl | (exfalso; omega) | (congr 1; omega)
theorem SW_SW (w : World) (g n m : Nat) (d d' : Array Rk) (os os' : Array Obj) (hg : g < w.heap.size) (hs : d'.size = d.size) : SW (SW w g n d os) g m d' os' = SW w g (n + m) d' (os ++ os') :=
  grow_step_growK encR 2 w os os' n m g 0 d d' hg hs
/-- In a world of the sort's: its row is there, and more of the sort's is the sort's. -/
theorem SW_holds {w : World} {g : Nat} {d0 : Array Rk} (h : HoldsK encR 2 w g 0 d0) (hg : g < w.heap.size) (n : Nat) (d : Array Rk) (os : Array Obj) (hs : d.size = d0.size) : HoldsK encR 2 (SW w g n d os) g 0 d ∧ g < (SW w g n d os).heap.size :=
  ⟨holdsK_sortWorldK_c encR 2 w g 0 d0 d n os h hg hs, Nat.lt_of_lt_of_le hg (size_sortWorldK_c encR 2 w g 0 n d os)⟩
/-- swapRange in a world of the sort's. -/
theorem swap_at {w : World} {g : Nat} {d0 : Array Rk} (h : HoldsK encR 2 w g 0 d0) (hg : g < w.heap.size) (cap a b k : Nat) (A B K : Int) (hA : (a : Int) = A) (hB : (b : Int) = B) (hK : (k : Int) = K) (F : Value) (n : Nat) (d : Array Rk) (os : Array Obj) (hs : d.size = d0.size) (ha : a + k ≤ d.size) (hb : b + k ≤ d.size) (hsz : d.size ≤ 1000000) :
    Calls Tryz.prog 117 #[.slice (some ⟨g, 0, none⟩) d0.size cap, .int .i64 A, .int .i64 B, .int .i64 K, F] (SW w g n d os) fun e w' => e = .returned (.tuple #[]) ∧ ∃ m os', w' = SW w g m (swR d a b k) os' := by
  subst hA hB hK
  obtain ⟨h1, h2⟩ := SW_holds h hg n d os hs
  rw [← hs]
  refine (swapRange_calls g cap a b k F d _ h1 h2 ha hb hsz).mono ?_
  rintro e w' ⟨rfl, m, os', rfl⟩
  exact ⟨rfl, _, _, SW_SW w g n m d _ os os' hg (swR_size _ _ _ _)⟩
/-- What the loop of a rotation keeps. -/
structure RotI (d d' : Array Rk) (a m b i j : Nat) : Prop where
  size : d'.size = d.size
  perm : PermIn a b d d'
  rot : ∀ f, IsRot d' f (m - i) m (m + j) → IsRot d f a m b
  i1 : 1 ≤ i
  j1 : 1 ≤ j
  ia : i ≤ m - a
  jb : j ≤ b - m
set_option maxHeartbeats 8000000 in
theorem rotate_calls (g cap a m b : Nat) (F : Value) (d : Array Rk) (w : World) (hH : HoldsK encR 2 w g 0 d) (hg : g < w.heap.size) (ham : a < m) (hmb : m < b) (hbd : b ≤ d.size) (hsz : d.size ≤ 1000000) :
    Calls Tryz.prog 101 #[.slice (some ⟨g, 0, none⟩) d.size cap, .int .i64 a, .int .i64 m, .int .i64 b, F] w fun e w' => e = .returned (.tuple #[]) ∧ ∃ n os d', w' = SW w g n d' os ∧ IsRot d d' a m b ∧ PermIn a b d d' := by
  have HST : Hid (w = SW w g 0 d #[]) := by show w = _; unfold SW sortWorldK; rw [grow_empty]; exact (putRowK_self encR 2 w g 0 d hH).symm
  have HH := Lib.hid hH
  clear hH
  go_enter Tryz.func101, Tryz.ntmps101
  go_wp2_with fail
  go_loopw [10, 11] (fun t10 t11 wr => ∃ (i j n : Nat) (d' : Array Rk) (os : Array Obj), t10 = .int .i64 (i : Int) ∧ t11 = .int .i64 (j : Int) ∧ wr = SW w g n d' os ∧ Hid (RotI d d' a m b i j)) (fun t10 t11 _ => (intOf t10).toNat + (intOf t11).toNat)
  case atStart => exact ⟨m - a, b - m, 0, d, #[], by go_num, by go_num, HST.out, Lib.hid ⟨rfl, permIn_refl _ _ _, fun f hf => by rw [show m - (m - a) = a by omega, show m + (b - m) = b by omega] at hf; exact hf, by omega, by omega, Nat.le_refl _, Nat.le_refl _⟩⟩
  case round =>
    obtain ⟨i, j, n, d', os, rfl, rfl, rfl, HR⟩ := hrel
    have hia : (i : Int) ≤ (m : Int) - (a : Int) := by have := HR.out.ia; omega
    have hjb : (j : Int) ≤ (b : Int) - (m : Int) := by have := HR.out.jb; omega
    have hi1 : 1 ≤ (i : Int) := by have := HR.out.i1; omega
    have hj1 : 1 ≤ (j : Int) := by have := HR.out.j1; omega
    by_cases hij : i = j
    · subst hij
      have q0 : ((i : Int) != (i : Int)) = false := by simp
      have HC := Lib.hid (swap_at HH.out hg cap (m - i) m i ((m : Int) - (i : Int)) m i (by omega) rfl rfl F n d' os HR.out.size (by have := HR.out.size; omega) (by have := HR.out.size; omega) (by have := HR.out.size; omega))
      generalize SW w g n d' os = wq at *
      go_wp2_with fail
      refine HC.out.mono ?_
      rintro e w' ⟨rfl, n2, os2, rfl⟩
      go_wp2_with fail
      go_end0
      have hsz2 := HR.out.size
      exact ⟨rfl, n2, os2, _, rfl, HR.out.rot _ (rot_eq (by omega) (by omega)), permIn_trans _ _ _ _ _ HR.out.perm (swR_perm d' (m - i) m a b (by omega) (by omega) (by omega) i (by omega) (by omega))⟩
    · have q0 : ((i : Int) != (j : Int)) = true := by rw [bne_iff_ne]; omega
      by_cases hgt : j < i
      · have k1 : (i : Int) > (j : Int) := by omega
        have hsz2 := HR.out.size
        have HC := Lib.hid (swap_at HH.out hg cap (m - i) m j ((m : Int) - (i : Int)) m j (by omega) rfl rfl F n d' os HR.out.size (by omega) (by omega) (by omega))
        have HN := Lib.hid (show RotI d (swR d' (m - i) m j) a m b (i - j) j from ⟨by rw [swR_size]; exact hsz2, permIn_trans _ _ _ _ _ HR.out.perm (swR_perm d' (m - i) m a b (by omega) (by omega) (by omega) j (by omega) (by omega)), fun f hf => HR.out.rot f (rot_gt (by omega) (by omega) hgt hf), by omega, by omega, by have := HR.out.ia; omega, HR.out.jb⟩)
        have e1 : (((i - j : Nat)) : Int) = (i : Int) - (j : Int) := by omega
        have HE := Lib.hid e1
        have HLT := Lib.hid (show i - j + j < i + j by omega)
        clear hsz2 e1
        generalize SW w g n d' os = wq at *
        go_wp2_with fail
        refine HC.out.mono ?_
        rintro e w' ⟨rfl, n2, os2, rfl⟩
        go_wp2_with fail
        refine ⟨⟨i - j, j, n2, _, os2, by rw [HE.out], rfl, rfl, HN.out⟩, ?_⟩
        simp only [intOf]
        have := HE.out
        have := HLT.out
        omega
      · have k1 : ¬ (i : Int) > (j : Int) := by omega
        have hsz2 := HR.out.size
        have hlt : i < j := by omega
        have HC := Lib.hid (swap_at HH.out hg cap (m - i) (m + j - i) i ((m : Int) - (i : Int)) ((m : Int) + (j : Int) - (i : Int)) i (by omega) (by omega) rfl F n d' os HR.out.size (by omega) (by omega) (by omega))
        have HN := Lib.hid (show RotI d (swR d' (m - i) (m + j - i) i) a m b i (j - i) from ⟨by rw [swR_size]; exact hsz2, permIn_trans _ _ _ _ _ HR.out.perm (swR_perm d' (m - i) (m + j - i) a b (by omega) (by omega) (by omega) i (by omega) (by omega)), fun f hf => HR.out.rot f (rot_lt (by omega) (by omega) hlt hf), HR.out.i1, by omega, HR.out.ia, by have := HR.out.jb; omega⟩)
        have e1 : (((j - i : Nat)) : Int) = (j : Int) - (i : Int) := by omega
        have HE := Lib.hid e1
        have HLT := Lib.hid (show i + (j - i) < i + j by have := HR.out.i1; omega)
        clear hsz2 e1
        generalize SW w g n d' os = wq at *
        go_wp2_with fail
        refine HC.out.mono ?_
        rintro e w' ⟨rfl, n2, os2, rfl⟩
        go_wp2_with fail
        refine ⟨⟨i, j - i, n2, _, os2, rfl, by rw [HE.out], rfl, HN.out⟩, ?_⟩
        simp only [intOf]
        have := HE.out
        have := HLT.out
        omega
end Go.Proofs.YtbdgoffbkenofaaGreat.So
namespace Go.Proofs.YtbdgoffbkenofaaGreat.So
open Go Go.RowKit Go.Shelf Go.Sort Go.Lib Go.Proofs.YtbdgoffbkenofaaGreat.Tk Go.Proofs.YtbdgoffbkenofaaGreat.Tr
set_option linter.unusedVariables false

def ltR (x y : Rk) : Bool := ltOf cfR x y
theorem ltR_at (x y : Rk) : ltR x y = decide (x.1.1.data.toList < y.1.1.data.toList) := ltAt x.1 y.1
theorem swoR : SWO ltR where
  irrefl x := swoAt.irrefl x.1
  trans x y z := swoAt.trans x.1 y.1 z.1
  ntrans x y z := swoAt.ntrans x.1 y.1 z.1
/-- Ahead: by name, of one name by rank. -/
def Prec (x y : Rk) : Prop := ltR x y = true ∨ (ltR y x = false ∧ x.2 < y.2)
theorem Prec.trans {x y z : Rk} (h1 : Prec x y) (h2 : Prec y z) : Prec x z := by
  rcases h1 with h1 | ⟨h1, r1⟩
  · rcases h2 with h2 | ⟨h2, r2⟩
    · exact .inl (swoR.trans _ _ _ h1 h2)
    · left
      cases h : ltR x z with
      | true => rfl
      | false => rw [swoR.ntrans _ _ _ h h2] at h1; cases h1
  · rcases h2 with h2 | ⟨h2, r2⟩
    · left
      cases h : ltR x z with
      | true => rfl
      | false => rw [swoR.ntrans _ _ _ h1 h] at h2; cases h2
    · exact .inr ⟨swoR.ntrans _ _ _ h2 h1, by omega⟩
def PrecE (x y : Rk) : Prop := x = y ∨ Prec x y
theorem PrecE.trans1 {x y z : Rk} (h1 : PrecE x y) (h2 : Prec y z) : Prec x z := by
  rcases h1 with rfl | h1
  · exact h2
  · exact h1.trans h2
theorem Prec.trans2 {x y z : Rk} (h1 : Prec x y) (h2 : PrecE y z) : Prec x z := by
  rcases h2 with rfl | h2
  · exact h1
  · exact h1.trans h2
def Srt (lo hi : Nat) (d : Array Rk) : Prop := ∀ i j, lo ≤ i → i < j → j < hi → Prec d[i]! d[j]!
theorem Srt.le {lo hi : Nat} {d : Array Rk} (h : Srt lo hi d) {i j : Nat} (h1 : lo ≤ i) (h2 : i ≤ j) (h3 : j < hi) : PrecE d[i]! d[j]! := by
  rcases Nat.eq_or_lt_of_le h2 with rfl | h2
  · exact .inl rfl
  · exact .inr (h i j h1 h2 h3)
structure MergeOK (a m b : Nat) (d : Array Rk) : Prop where
  l : Srt a m d
  r : Srt m b d
  rk : ∀ i j, a ≤ i → i < m → m ≤ j → j < b → d[i]!.2 < d[j]!.2
theorem MergeOK.yes {a m b : Nat} {d : Array Rk} (h : MergeOK a m b d) {i j : Nat} (h1 : a ≤ i) (h2 : i < m) (h3 : m ≤ j) (h4 : j < b) (hl : ltR d[j]! d[i]! = true) : Prec d[j]! d[i]! := .inl hl
theorem MergeOK.no {a m b : Nat} {d : Array Rk} (h : MergeOK a m b d) {i j : Nat} (h1 : a ≤ i) (h2 : i < m) (h3 : m ≤ j) (h4 : j < b) (hl : ltR d[j]! d[i]! = false) : Prec d[i]! d[j]! := .inr ⟨hl, h.rk i j h1 h2 h3 h4⟩
/-- Two runs cut at s and t, and the middle exchanged. -/
structure CutR (a m b s t : Nat) (d e : Array Rk) : Prop where
  cross : ∀ i j, a ≤ i → i < s + (t - m) → s + (t - m) ≤ j → j < b → Prec e[i]! e[j]!
  left : MergeOK a s (s + (t - m)) e
  right : MergeOK (s + (t - m)) t b e
theorem cutR {a m b s t : Nat} {d e : Array Rk} (h : MergeOK a m b d) (has : a ≤ s) (hsm : s ≤ m) (hmt : m ≤ t) (htb : t ≤ b) (he : IsRot d e s m t) (h1 : s < m → m < t → Prec d[t - 1]! d[s]!) (h2 : a < s → t < b → Prec d[s - 1]! d[t]!) : CutR a m b s t d e := by
  have e1 : ∀ i, i < s → e[i]! = d[i]! := fun i hi => by rw [he.at_ i, if_neg (by omega)]
  have e2 : ∀ i, s ≤ i → i < s + (t - m) → e[i]! = d[m + (i - s)]! := fun i hi hj => by rw [he.at_ i, if_pos (by omega), if_pos (by omega)]
  have e3 : ∀ i, s + (t - m) ≤ i → i < t → e[i]! = d[i - (t - m)]! := fun i hi hj => by rw [he.at_ i, if_pos (by omega), if_neg (by omega)]
  have e4 : ∀ i, t ≤ i → e[i]! = d[i]! := fun i hi => by rw [he.at_ i, if_neg (by omega)]
  refine ⟨fun i j hi1 hi2 hj1 hj2 => ?_, ⟨fun i j hi hij hj => ?_, fun i j hi hij hj => ?_, fun i j hi1 hi2 hj1 hj2 => ?_⟩, ⟨fun i j hi hij hj => ?_, fun i j hi hij hj => ?_, fun i j hi1 hi2 hj1 hj2 => ?_⟩⟩
  · rcases Nat.lt_or_ge i s with c1 | c1
    · rw [e1 i c1]
      rcases Nat.lt_or_ge j t with c2 | c2
      · rw [e3 j hj1 c2]; exact h.l i _ hi1 (by omega) (by omega)
      · rw [e4 j c2]
        exact ((h.l.le hi1 (show i ≤ s - 1 by omega) (by omega)).trans1 (h2 (by omega) (by omega))).trans2 (h.r.le (by omega) c2 hj2)
    · rw [e2 i c1 hi2]
      rcases Nat.lt_or_ge j t with c2 | c2
      · rw [e3 j hj1 c2]
        exact ((h.r.le (by omega) (show m + (i - s) ≤ t - 1 by omega) (by omega)).trans1 (h1 (by omega) (by omega))).trans2 (h.l.le has (show s ≤ j - (t - m) by omega) (by omega))
      · rw [e4 j c2]; exact h.r _ j (by omega) (by omega) hj2
  · rw [e1 i (by omega), e1 j (by omega)]; exact h.l i j hi hij (by omega)
  · rw [e2 i hi (by omega), e2 j (by omega) hj]; exact h.r _ _ (by omega) (by omega) (by omega)
  · rw [e1 i hi2, e2 j hj1 hj2]; exact h.rk _ _ hi1 (by omega) (by omega) (by omega)
  · rw [e3 i hi (by omega), e3 j (by omega) hj]; exact h.l _ _ (by omega) (by omega) (by omega)
  · rw [e4 i hi, e4 j (by omega)]; exact h.r _ _ (by omega) hij hj
  · rw [e3 i hi1 hi2, e4 j hj1]; exact h.rk _ _ (by omega) (by omega) (by omega) hj2
/-- Two halves sorted each by itself, where all of the one are ahead of all of the other. -/
theorem join_srt {a mid b : Nat} {e e1 e2 : Array Rk} (hb : b ≤ e.size) (hm : a ≤ mid) (hmb : mid ≤ b) (hc : ∀ i j, a ≤ i → i < mid → mid ≤ j → j < b → Prec e[i]! e[j]!) (p1 : PermIn a mid e e1) (p2 : PermIn mid b e1 e2) (s1 : Srt a mid e1) (s2 : Srt mid b e2) : Srt a b e2 := by
  intro i j hi hij hj
  have out2 : ∀ k, k < mid → e2[k]! = e1[k]! := fun k hk => p2.2.1 k (.inl hk)
  rcases Nat.lt_or_ge j mid with c1 | c1
  · rw [out2 i (by omega), out2 j c1]; exact s1 i j hi hij c1
  · rcases Nat.lt_or_ge i mid with c2 | c2
    · rw [out2 i c2]
      have a1 := permIn_all e e1 a mid (fun x => ∀ j, mid ≤ j → j < b → Prec x e[j]!) (by omega) p1 (fun k hk1 hk2 j hj1 hj2 => hc k j hk1 hk2 hj1 hj2) i hi c2
      exact permIn_all e1 e2 mid b (fun y => Prec e1[i]! y) (by rw [p1.1]; exact hb) p2 (fun k hk1 hk2 => by
        have := a1 k hk1 hk2
        rwa [← p1.2.1 k (.inr hk1)] at this) j c1 hj
    · exact s2 i j c2 hij hj
/-- What symMerge does. -/
structure Merged (a b : Nat) (d e : Array Rk) : Prop where
  perm : PermIn a b d e
  srt : Srt a b e
theorem left_srt {a s mid : Nat} {e : Array Rk} (h : MergeOK a s mid e) (hn : ¬ (a < s ∧ s < mid)) (h1 : a ≤ s) (h2 : s ≤ mid) : Srt a mid e := by
  by_cases c : a = s
  · rw [c]; exact h.r
  · have : s = mid := by omega
    rw [← this]; exact h.l
/-- An element moved up through a run, one place at a time. -/
theorem up_start (d : Array Rk) (a : Nat) : IsRot d d a (a + 1) (a + 1) := ⟨rfl, fun k => by
  repeat' split
  all_goals first | rfl | (exfalso; omega) | (congr 1; omega)⟩
theorem up_step {d e : Array Rk} {a k : Nat} (h : IsRot d e a (a + 1) (k + 1)) (hak : a ≤ k) (hk : k + 1 < d.size) : IsRot d (swp e k (k + 1)) a (a + 1) (k + 2) := by
  refine ⟨by rw [size_swp]; exact h.size, fun i => ?_⟩
  rw [swp_get e (by rw [h.size]; omega) (by rw [h.size]; omega), h.at_ k, h.at_ (k + 1), h.at_ i]
  repeat' split
  all_goals first | rfl | (exfalso; omega) | (congr 1; omega)
theorem down_start (d : Array Rk) (m : Nat) : IsRot d d m m (m + 1) := ⟨rfl, fun k => by
  repeat' split
  all_goals first | rfl | (exfalso; omega) | (congr 1; omega)⟩
theorem down_step {d e : Array Rk} {m k : Nat} (h : IsRot d e (k + 1) m (m + 1)) (hkm : k + 1 ≤ m) (hk : m < d.size) : IsRot d (swp e (k + 1) k) k m (m + 1) := by
  refine ⟨by rw [size_swp]; exact h.size, fun i => ?_⟩
  rw [swp_get e (by rw [h.size]; omega) (by rw [h.size]; omega), h.at_ k, h.at_ (k + 1), h.at_ i]
  repeat' split
  all_goals first | rfl | (exfalso; omega) | (congr 1; omega)
/-- One element merged into the run behind it. -/
theorem one_left {a b t : Nat} {d e : Array Rk} (h : MergeOK a (a + 1) b d) (hb : b ≤ d.size) (h1 : a + 1 ≤ t) (h2 : t ≤ b) (he : IsRot d e a (a + 1) t) (hp : PermIn a b d e) (c1 : a + 1 < t → ltR d[t - 1]! d[a]! = true) (c2 : t < b → ltR d[t]! d[a]! = false) : Merged a b d e := by
  have hc := cutR h (Nat.le_refl a) (by omega) h1 h2 he (fun _ ht => .inl (c1 ht)) (fun x => absurd x (Nat.lt_irrefl _))
  have ez : a + (t - (a + 1)) + 1 = t := by omega
  have em : e[a + (t - (a + 1))]! = d[a]! := by rw [he.at_, if_pos (by omega), if_neg (by omega)]; congr 1; omega
  have sr : Srt (a + (t - (a + 1))) b e := by
    intro i j hi hij hj
    rcases Nat.eq_or_lt_of_le hi with c | c
    · subst c
      rw [em]
      have et : ∀ k, t ≤ k → e[k]! = d[k]! := fun k hk => by rw [he.at_, if_neg (by omega)]
      rw [et j (by omega)]
      exact (h.no (Nat.le_refl a) (by omega) h1 (by omega) (c2 (by omega))).trans2 (h.r.le h1 (by omega) hj)
    · exact hc.right.r i j (by omega) hij hj
  exact ⟨hp, join_srt (by rw [he.size]; exact hb) (by omega) (by omega) hc.cross (permIn_refl _ _ _) (permIn_refl _ _ _) hc.left.r sr⟩
/-- One element merged into the run ahead of it. -/
theorem one_right {a m s : Nat} {d e : Array Rk} (h : MergeOK a m (m + 1) d) (hb : m + 1 ≤ d.size) (h1 : a ≤ s) (h2 : s ≤ m) (he : IsRot d e s m (m + 1)) (hp : PermIn a (m + 1) d e) (c1 : s < m → ltR d[m]! d[s]! = true) (c2 : a < s → ltR d[m]! d[s - 1]! = false) : Merged a (m + 1) d e := by
  have hc := cutR h h1 h2 (by omega) (Nat.le_refl (m + 1)) he (fun hs _ => .inl (c1 hs)) (fun _ x => absurd x (Nat.lt_irrefl _))
  have ez : s + (m + 1 - m) = s + 1 := by omega
  have cr := hc.cross
  have cl := hc.left
  have cg := hc.right
  rw [ez] at cr cl cg
  have em : e[s]! = d[m]! := by rw [he.at_, if_pos (by omega), if_pos (by omega)]; congr 1; omega
  have sl : Srt a (s + 1) e := by
    intro i j hi hij hj
    rcases Nat.lt_or_ge j s with c | c
    · exact cl.l i j hi hij c
    · have : j = s := by omega
      subst this
      have ei : e[i]! = d[i]! := by rw [he.at_, if_neg (by omega)]
      rw [em, ei]
      exact (h.l.le hi (show i ≤ j - 1 by omega) (by omega)).trans1 (h.no (by omega) (by omega) (Nat.le_refl m) (by omega) (c2 (by omega)))
  exact ⟨hp, join_srt (by rw [he.size]; exact hb) (by omega) (by omega) cr (permIn_refl _ _ _) (permIn_refl _ _ _) sl cg.l⟩
end Go.Proofs.YtbdgoffbkenofaaGreat.So
