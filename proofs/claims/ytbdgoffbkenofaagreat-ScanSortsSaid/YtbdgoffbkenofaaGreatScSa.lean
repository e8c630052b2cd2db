/- Attributes with their ranks; slices.swapRangeCmpFunc. -/
import Derived.Test.YtbdgoffbkenofaaGreatTkS
import Derived.Shelf.SlSortCmp.InsertionK
import Derived.Shelf.SlicesQ.Reverse
import Derived.BigRegion
namespace Go.Proofs.YtbdgoffbkenofaaGreat.So
open Go Go.RowKit Go.Shelf Go.Sort Go.Lib Go.Proofs.YtbdgoffbkenofaaGreat.Tk Go.Proofs.YtbdgoffbkenofaaGreat.Tr
set_option linter.unusedVariables false
set_option linter.unusedSimpArgs false
set_option maxRecDepth 100000

/-- An attribute and its rank: where it stood at first. -/
abbrev Rk := At × Nat
def encR (p : Rk) : List Value := encAt p.1
theorem encR_len (p : Rk) : (encR p).length = 2 := rfl
theorem encR_one (p : Rk) : ∀ v ∈ encR p, v.oneCell' = true := fun u hu => by simp [encR, encAt] at hu; rcases hu with rfl | rfl <;> rfl
def cfR (x y : Rk) : Int := cfAt x.1 y.1
/-- A world of the sort's. -/
abbrev SW (w : World) (g m : Nat) (d : Array Rk) (os : Array Obj) : World := sortWorldK encR 2 w g 0 m d os
/-- The first n of two runs exchanged. -/
def swR (d : Array Rk) (a b : Nat) : Nat → Array Rk
  | 0 => d
  | n + 1 => swp (swR d a b n) (a + n) (b + n)
theorem swR_size (d : Array Rk) (a b : Nat) : ∀ n, (swR d a b n).size = d.size
  | 0 => rfl
  | n + 1 => by unfold swR; rw [size_swp]; exact swR_size d a b n
/-- An element's cells. -/
theorem rk_cells {W : World} {g : Nat} {d : Array Rk} (h : HoldsK encR 2 W g 0 d) {i : Nat} (hi : i < d.size) :
    W.cell? ⟨g, i * 2, none⟩ = some (.string d[i]!.1.1) ∧ W.cell? ⟨g, i * 2 + 1, none⟩ = some (.string d[i]!.1.2) ∧ W.frozen? ⟨g, i * 2, none⟩ = false ∧ W.frozen? ⟨g, i * 2 + 1, none⟩ = false := by
  have a1 := h (i * 2) (by rw [size_flatK]; omega)
  have a2 := h (i * 2 + 1) (by rw [size_flatK]; omega)
  rw [get_flatK encR 2 d _ (by omega), show i * 2 / 2 = i by omega, show i * 2 % 2 = 0 by omega, Nat.zero_add] at a1
  rw [get_flatK encR 2 d _ (by omega), show (i * 2 + 1) / 2 = i by omega, show (i * 2 + 1) % 2 = 1 by omega, Nat.zero_add] at a2
  exact ⟨a1.1, a2.1, a1.2, a2.2⟩
/-- Behind the stores of one element: another one's cells can be stored. -/
theorem rk_stored {W : World} {g : Nat} {d : Array Rk} (h : HoldsK encR 2 W g 0 d) {i j : Nat} (x : Rk) (hi : i < d.size) (hj : j < d.size) :
    (∃ v, ((W.setCell ⟨g, i * 2, none⟩ (.string x.1.1)).setCell ⟨g, i * 2 + 1, none⟩ (.string x.1.2)).drew.cell? ⟨g, j * 2, none⟩ = some v) ∧ (∃ v, ((W.setCell ⟨g, i * 2, none⟩ (.string x.1.1)).setCell ⟨g, i * 2 + 1, none⟩ (.string x.1.2)).drew.cell? ⟨g, j * 2 + 1, none⟩ = some v) ∧
    ((W.setCell ⟨g, i * 2, none⟩ (.string x.1.1)).setCell ⟨g, i * 2 + 1, none⟩ (.string x.1.2)).drew.frozen? ⟨g, j * 2, none⟩ = false ∧ ((W.setCell ⟨g, i * 2, none⟩ (.string x.1.1)).setCell ⟨g, i * 2 + 1, none⟩ (.string x.1.2)).drew.frozen? ⟨g, j * 2 + 1, none⟩ = false := by
  have hs := holds_setCells_c h (i * 2) (encR x) (by rw [encR_len, size_flatK]; omega)
  have e : W.setCells g (0 + i * 2) (encR x) = (W.setCell ⟨g, i * 2, none⟩ (.string x.1.1)).setCell ⟨g, i * 2 + 1, none⟩ (.string x.1.2) := by rw [Nat.zero_add]; rfl
  rw [e] at hs
  have a1 := hs (j * 2) (by rw [size_setMany, size_flatK]; omega)
  have a2 := hs (j * 2 + 1) (by rw [size_setMany, size_flatK]; omega)
  rw [Nat.zero_add] at a1 a2
  exact ⟨⟨_, a1.1⟩, ⟨_, a2.1⟩, a1.2, a2.2⟩
set_option maxHeartbeats 8000000 in
theorem swapRange_calls (g cap a b n : Nat) (F : Value) (d : Array Rk) (w : World) (hH : HoldsK encR 2 w g 0 d) (hg : g < w.heap.size) (ha : a + n ≤ d.size) (hb : b + n ≤ d.size) (hsz : d.size ≤ 1000000) :
    Calls Tryz.prog 117 #[.slice (some ⟨g, 0, none⟩) d.size cap, .int .i64 a, .int .i64 b, .int .i64 n, F] w fun e w' => e = .returned (.tuple #[]) ∧ ∃ m os, w' = SW w g m (swR d a b n) os := by
  have HST : Hid (w = SW w g 0 d #[]) := by show w = _; unfold SW sortWorldK; rw [grow_empty]; exact (putRowK_self encR 2 w g 0 d hH).symm
  have HH : Hid (HoldsK encR 2 w g 0 d) := hH
  clear hH
  have mixed := mixedT
  go_enter Tryz.func117, Tryz.ntmps117
  go_wp2_with fail
  go_loopw [10] (fun t10 wr => ∃ (i m : Nat) (os : Array Obj), t10 = .int .i64 (i : Int) ∧ Hid (i ≤ n) ∧ wr = SW w g m (swR d a b i) os) (fun t10 _ => n - (intOf t10).toNat)
  case atStart => exact ⟨0, 0, #[], rfl, Lib.hid (Nat.zero_le _), HST.out⟩
  case round =>
    obtain ⟨i, m, os, rfl, HI, rfl⟩ := hrel
    by_cases hlt : i < n
    · have k1 : (i : Int) < (n : Int) := by omega
      have HLT := Lib.hid hlt
      have hsk := swR_size d a b i
      obtain ⟨xa, hxa⟩ : ∃ x, (swR d a b i)[a + i]! = x := ⟨_, rfl⟩
      obtain ⟨xb, hxb⟩ : ∃ x, (swR d a b i)[b + i]! = x := ⟨_, rfl⟩
      have hHd : HoldsK encR 2 (SW w g m (swR d a b i) os) g 0 (swR d a b i) := holdsK_sortWorldK_c encR 2 w g 0 d _ _ _ HH.out hg hsk
      have HSW := Lib.hid (sortWorldK_swp_c encR 2 w g 0 encR_len m (swR d a b i) os hg (a + i) (b + i) (by omega) (by omega))
      rw [hxa, hxb] at HSW
      have HNX : Hid (swp (swR d a b i) (a + i) (b + i) = swR d a b (i + 1)) := Lib.hid rfl
      generalize hD : swR d a b i = D at *
      generalize hwq : SW w g m D os = wq at *
      have hHd2 : HoldsK encR 2 wq.drew g 0 D := hHd
      have ra := rk_cells hHd (i := a + i) (by omega)
      have rb := rk_cells hHd (i := b + i) (by omega)
      rw [hxa] at ra
      rw [hxb] at rb
      obtain ⟨x0, x1, f0, f1⟩ := ra
      obtain ⟨y0, y1, f2, f3⟩ := rb
      obtain ⟨⟨v0, z0⟩, ⟨v1, z1⟩, f4, f5⟩ := rk_stored hHd (i := a + i) (j := b + i) xb (by omega) (by omega)
      have z0' : ((wq.setCell ⟨g, (a + i) * 2, none⟩ (.string xb.1.1)).setCell ⟨g, (a + i) * 2 + 1, none⟩ (.string xb.1.2)).cell? ⟨g, (b + i) * 2, none⟩ = some v0 := z0
      have z1' : ((wq.setCell ⟨g, (a + i) * 2, none⟩ (.string xb.1.1)).setCell ⟨g, (a + i) * 2 + 1, none⟩ (.string xb.1.2)).cell? ⟨g, (b + i) * 2 + 1, none⟩ = some v1 := z1
      have f4' : ((wq.setCell ⟨g, (a + i) * 2, none⟩ (.string xb.1.1)).setCell ⟨g, (a + i) * 2 + 1, none⟩ (.string xb.1.2)).frozen? ⟨g, (b + i) * 2, none⟩ = false := f4
      have f5' : ((wq.setCell ⟨g, (a + i) * 2, none⟩ (.string xb.1.1)).setCell ⟨g, (a + i) * 2 + 1, none⟩ (.string xb.1.2)).frozen? ⟨g, (b + i) * 2 + 1, none⟩ = false := f5
      have HWQ := Lib.hid hwq
      clear hHd hHd2 hxa hxb hD hwq hsk
      go_wp2_with fail
      go_big_region_o
      all_goals go_wp2
      refine ⟨⟨i + 1, m + 1, os, rfl, Lib.hid HLT.out, ?_⟩, ?_⟩
      · have e := HSW.out
        rw [Nat.zero_add, Nat.zero_add, HNX.out] at e
        rw [← HWQ.out]
        exact e
      · simp [intOf]; have := HLT.out; omega
    · have k1 : ¬ (i : Int) < (n : Int) := by omega
      have hi : i = n := by have := HI.out; omega
      have HR := Lib.hid (show SW w g m (swR d a b i) os = SW w g m (swR d a b n) os by rw [hi])
      clear hi
      go_wp2_with fail
      go_end0
      exact ⟨rfl, m, os, HR.out⟩
end Go.Proofs.YtbdgoffbkenofaaGreat.So
