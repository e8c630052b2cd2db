/- slices.rotateCmpFunc at attributes. -/
import Derived.Test.YtbdgoffbkenofaaGreatScSa
namespace Go.Proofs.YtbdgoffbkenofaaGreat.So
open Go Go.RowKit Go.Shelf Go.Sort Go.Lib Go.Proofs.YtbdgoffbkenofaaGreat.Tk Go.Proofs.YtbdgoffbkenofaaGreat.Tr
set_option linter.unusedVariables false
set_option linter.unusedSimpArgs false
set_option maxRecDepth 100000

theorem swR_get (d : Array Rk) (a b : Nat) : ∀ n, a + n ≤ b → b + n ≤ d.size → ∀ k, (swR d a b n)[k]! = if a ≤ k ∧ k < a + n then d[b + (k - a)]! else if b ≤ k ∧ k < b + n then d[a + (k - b)]! else d[k]!
  | 0, _, _, k => by rw [if_neg (by omega), if_neg (by omega)]; rfl
  | n + 1, h1, h2, k => by
    have ih := swR_get d a b n (by omega) (by omega)
    have hs := swR_size d a b n
    show (swp (swR d a b n) (a + n) (b + n))[k]! = _
    rw [swp_get _ (by omega) (by omega)]
    by_cases c1 : k = b + n
    · subst c1
      rw [if_pos rfl, ih, if_neg (by omega), if_neg (by omega), if_neg (by omega), if_pos (by omega)]
      congr 1; omega
    · rw [if_neg c1]
      by_cases c2 : k = a + n
      · subst c2
        rw [if_pos rfl, ih, if_neg (by omega), if_neg (by omega), if_pos (by omega)]
        congr 1; omega
      · rw [if_neg c2, ih]
        repeat' split
        all_goals first | rfl | (exfalso; omega)
theorem swR_perm (d : Array Rk) (a b lo hi : Nat) (h0 : lo ≤ a) (h1 : lo ≤ b) (hz : hi ≤ d.size) : ∀ n, a + n ≤ hi → b + n ≤ hi → PermIn lo hi d (swR d a b n)
  | 0, _, _ => permIn_refl _ _ _
  | n + 1, h2, h3 => permIn_trans _ _ _ _ _ (swR_perm d a b lo hi h0 h1 hz n (by omega) (by omega)) (swp_permIn _ _ _ _ _ (by omega) (by omega) (by omega) (by omega) (by rw [swR_size]; exact hz))
/-- e is d with its runs [a, m) and [m, b) exchanged. -/
structure IsRot (d e : Array Rk) (a m b : Nat) : Prop where
  size : e.size = d.size
  at_ : ∀ k, e[k]! = if a ≤ k ∧ k < b then (if k < a + (b - m) then d[m + (k - a)]! else d[k - (b - m)]!) else d[k]!
theorem rot_eq {d : Array Rk} {m i : Nat} (h1 : i ≤ m) (h2 : m + i ≤ d.size) : IsRot d (swR d (m - i) m i) (m - i) m (m + i) := by
  refine ⟨swR_size _ _ _ _, fun k => ?_⟩
  rw [swR_get d (m - i) m i (by omega) h2]
  repeat' split
  all_goals first | rfl | (exfalso; omega) | (congr 1; omega)
theorem rot_gt {d f : Array Rk} {m i j : Nat} (h1 : i ≤ m) (h2 : m + j ≤ d.size) (h : j < i) (hf : IsRot (swR d (m - i) m j) f (m - (i - j)) m (m + j)) : IsRot d f (m - i) m (m + j) := by
  refine ⟨by rw [hf.size, swR_size], fun k => ?_⟩
  have g := swR_get d (m - i) m j (by omega) h2
  rw [hf.at_ k, g, g, g]
  repeat' split
  all_goals first | rfl | (exfalso; omega) | (congr 1; omega)
theorem rot_lt {d f : Array Rk} {m i j : Nat} (h1 : i ≤ m) (h2 : m + j ≤ d.size) (h : i < j) (hf : IsRot (swR d (m - i) (m + j - i) i) f (m - i) m (m + (j - i))) : IsRot d f (m - i) m (m + j) := by
  refine ⟨by rw [hf.size, swR_size], fun k => ?_⟩
  have g := swR_get d (m - i) (m + j - i) i (by omega) (by omega)
  rw [hf.at_ k, g, g, g]
  repeat' split
  all_goals first | rfl | (exfalso; omega) | (congr 1; omega)
theorem SW_SW (w : World) (g n m : Nat) (d d' : Array Rk) (os os' : Array Obj) (hg : g < w.heap.size) (hs : d'.size = d.size) : SW (SW w g n d os) g m d' os' = SW w g (n + m) d' (os ++ os') :=
  grow_step_growK encR 2 w os os' n m g 0 d d' hg hs
/-- In a world of the sort's: its row is there, and more of the sort's is the sort's. -/
theorem SW_holds {w : World} {g : Nat} {d0 : Array Rk} (h : HoldsK encR 2 w g 0 d0) (hg : g < w.heap.size) (n : Nat) (d : Array Rk) (os : Array Obj) (hs : d.size = d0.size) : HoldsK encR 2 (SW w g n d os) g 0 d ∧ g < (SW w g n d os).heap.size :=
  ⟨holdsK_sortWorldK_c encR 2 w g 0 d0 d n os h hg hs, Nat.lt_of_lt_of_le hg (size_sortWorldK_c encR 2 w g 0 n d os)⟩
/-- swapRange in a world of the sort's. -/
theorem swap_at {w : World} {g : Nat} {d0 : Array Rk} (h : HoldsK encR 2 w g 0 d0) (hg : g < w.heap.size) (cap a b k : Nat) (A B K : Int) (hA : (a : Int) = A) (hB : (b : Int) = B) (hK : (k : Int) = K) (F : Value) (n : Nat) (d : Array Rk) (os : Array Obj) (hs : d.size = d0.size) (ha : a + k ≤ d.size) (hb : b + k ≤ d.size) (hsz : d.size ≤ 1000000) :
    Calls Tryz.prog 117 #[.slice (some ⟨g, 0, none⟩) d0.size cap, .int .i64 A, .int .i64 B, .int .i64 K, F] (SW w g n d os) fun e w' => e = .returned (.tuple #[]) ∧ ∃ m os', w' = SW w g m (swR d a b k) os' := by
  subst hA hB hK
  obtain ⟨h1, h2⟩ := SW_holds h hg n d os hs
  rw [← hs]
  refine (swapRange_calls g cap a b k F d _ h1 h2 ha hb hsz).mono ?_
  rintro e w' ⟨rfl, m, os', rfl⟩
  exact ⟨rfl, _, _, SW_SW w g n m d _ os os' hg (swR_size _ _ _ _)⟩
/-- What the loop of a rotation keeps. -/
structure RotI (d d' : Array Rk) (a m b i j : Nat) : Prop where
  size : d'.size = d.size
  perm : PermIn a b d d'
  rot : ∀ f, IsRot d' f (m - i) m (m + j) → IsRot d f a m b
  i1 : 1 ≤ i
  j1 : 1 ≤ j
  ia : i ≤ m - a
  jb : j ≤ b - m
set_option maxHeartbeats 8000000 in
theorem rotate_calls (g cap a m b : Nat) (F : Value) (d : Array Rk) (w : World) (hH : HoldsK encR 2 w g 0 d) (hg : g < w.heap.size) (ham : a < m) (hmb : m < b) (hbd : b ≤ d.size) (hsz : d.size ≤ 1000000) :
    Calls Tryz.prog 101 #[.slice (some ⟨g, 0, none⟩) d.size cap, .int .i64 a, .int .i64 m, .int .i64 b, F] w fun e w' => e = .returned (.tuple #[]) ∧ ∃ n os d', w' = SW w g n d' os ∧ IsRot d d' a m b ∧ PermIn a b d d' := by
  have HST : Hid (w = SW w g 0 d #[]) := by show w = _; unfold SW sortWorldK; rw [grow_empty]; exact (putRowK_self encR 2 w g 0 d hH).symm
  have HH := Lib.hid hH
  clear hH
  go_enter Tryz.func101, Tryz.ntmps101
  go_wp2_with fail
  go_loopw [10, 11] (fun t10 t11 wr => ∃ (i j n : Nat) (d' : Array Rk) (os : Array Obj), t10 = .int .i64 (i : Int) ∧ t11 = .int .i64 (j : Int) ∧ wr = SW w g n d' os ∧ Hid (RotI d d' a m b i j)) (fun t10 t11 _ => (intOf t10).toNat + (intOf t11).toNat)
  case atStart => exact ⟨m - a, b - m, 0, d, #[], by go_num, by go_num, HST.out, Lib.hid ⟨rfl, permIn_refl _ _ _, fun f hf => by rw [show m - (m - a) = a by omega, show m + (b - m) = b by omega] at hf; exact hf, by omega, by omega, Nat.le_refl _, Nat.le_refl _⟩⟩
  case round =>
    obtain ⟨i, j, n, d', os, rfl, rfl, rfl, HR⟩ := hrel
    have hia : (i : Int) ≤ (m : Int) - (a : Int) := by have := HR.out.ia; omega
    have hjb : (j : Int) ≤ (b : Int) - (m : Int) := by have := HR.out.jb; omega
    have hi1 : 1 ≤ (i : Int) := by have := HR.out.i1; omega
    have hj1 : 1 ≤ (j : Int) := by have := HR.out.j1; omega
    by_cases hij : i = j
    · subst hij
      have q0 : ((i : Int) != (i : Int)) = false := by simp
      have HC := Lib.hid (swap_at HH.out hg cap (m - i) m i ((m : Int) - (i : Int)) m i (by omega) rfl rfl F n d' os HR.out.size (by have := HR.out.size; omega) (by have := HR.out.size; omega) (by have := HR.out.size; omega))
      generalize SW w g n d' os = wq at *
      go_wp2_with fail
      refine HC.out.mono ?_
      rintro e w' ⟨rfl, n2, os2, rfl⟩
      go_wp2_with fail
      go_end0
      have hsz2 := HR.out.size
      exact ⟨rfl, n2, os2, _, rfl, HR.out.rot _ (rot_eq (by omega) (by omega)), permIn_trans _ _ _ _ _ HR.out.perm (swR_perm d' (m - i) m a b (by omega) (by omega) (by omega) i (by omega) (by omega))⟩
    · have q0 : ((i : Int) != (j : Int)) = true := by rw [bne_iff_ne]; omega
      by_cases hgt : j < i
      · have k1 : (i : Int) > (j : Int) := by omega
        have hsz2 := HR.out.size
        have HC := Lib.hid (swap_at HH.out hg cap (m - i) m j ((m : Int) - (i : Int)) m j (by omega) rfl rfl F n d' os HR.out.size (by omega) (by omega) (by omega))
        have HN := Lib.hid (show RotI d (swR d' (m - i) m j) a m b (i - j) j from ⟨by rw [swR_size]; exact hsz2, permIn_trans _ _ _ _ _ HR.out.perm (swR_perm d' (m - i) m a b (by omega) (by omega) (by omega) j (by omega) (by omega)), fun f hf => HR.out.rot f (rot_gt (by omega) (by omega) hgt hf), by omega, by omega, by have := HR.out.ia; omega, HR.out.jb⟩)
        have e1 : (((i - j : Nat)) : Int) = (i : Int) - (j : Int) := by omega
        have HE := Lib.hid e1
        have HLT := Lib.hid (show i - j + j < i + j by omega)
        clear hsz2 e1
        generalize SW w g n d' os = wq at *
        go_wp2_with fail
        refine HC.out.mono ?_
        rintro e w' ⟨rfl, n2, os2, rfl⟩
        go_wp2_with fail
        refine ⟨⟨i - j, j, n2, _, os2, by rw [HE.out], rfl, rfl, HN.out⟩, ?_⟩
        simp only [intOf]
        have := HE.out
        have := HLT.out
        omega
      · have k1 : ¬ (i : Int) > (j : Int) := by omega
        have hsz2 := HR.out.size
        have hlt : i < j := by omega
        have HC := Lib.hid (swap_at HH.out hg cap (m - i) (m + j - i) i ((m : Int) - (i : Int)) ((m : Int) + (j : Int) - (i : Int)) i (by omega) (by omega) rfl F n d' os HR.out.size (by omega) (by omega) (by omega))
        have HN := Lib.hid (show RotI d (swR d' (m - i) (m + j - i) i) a m b i (j - i) from ⟨by rw [swR_size]; exact hsz2, permIn_trans _ _ _ _ _ HR.out.perm (swR_perm d' (m - i) (m + j - i) a b (by omega) (by omega) (by omega) i (by omega) (by omega)), fun f hf => HR.out.rot f (rot_lt (by omega) (by omega) hlt hf), HR.out.i1, by omega, HR.out.ia, by have := HR.out.jb; omega⟩)
        have e1 : (((j - i : Nat)) : Int) = (j : Int) - (i : Int) := by omega
        have HE := Lib.hid e1
        have HLT := Lib.hid (show i + (j - i) < i + j by have := HR.out.i1; omega)
        clear hsz2 e1
        generalize SW w g n d' os = wq at *
        go_wp2_with fail
        refine HC.out.mono ?_
        rintro e w' ⟨rfl, n2, os2, rfl⟩
        go_wp2_with fail
        refine ⟨⟨i, j - i, n2, _, os2, rfl, by rw [HE.out], rfl, HN.out⟩, ?_⟩
        simp only [intOf]
        have := HE.out
        have := HLT.out
        omega
end Go.Proofs.YtbdgoffbkenofaaGreat.So
