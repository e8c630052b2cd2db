/- strings.Replacer: what it builds at its first use, where one of its old texts has two bytes. -/
import Derived.Test.YtioaigedcoapcaaGreatDoorMk2
import Derived.Test.YtioaigedcoapcaaGreatDoorDo
namespace Go.Proofs.YtioaigedcoapcaaGreatDoor.Gr
open Go Go.RowKit Go.Proofs.YtioaigedcoapcaaGreatDoor.Tr
set_option linter.unusedVariables false
set_option maxRecDepth 100000

/-- What the keys and values of a replacer must be. -/
structure GoodK (K : Prs) (n : Nat) (M : List Int) (N : Nat) : Prop where
  cnt : N = 2 * K.length
  small : N ≤ 1000
  big : 4 ≤ N
  size : ∀ p ∈ K, p.1.size ≤ 1000
  n0 : 0 < n
  n1 : n ≤ 100
  sum : sumT (mk1 zeros256 (keysOf K)) 256 = n
  map : mixL (mk1 zeros256 (keysOf K)) n 256 = M
  first : ∀ (k : Nat) p, K[k]? = some p → 0 < p.1.size ∧ (∃ m : Nat, M[first p]? = some (m : Int) ∧ m < n) ∧ ∀ q ∈ K.take k, M[Gr.first q]? ≠ M[Gr.first p]?
  rng : ∀ c : Nat, c < 256 → ∃ m : Nat, M[c]? = some (m : Int) ∧ m ≤ n
  inj : ∀ p ∈ K, ∀ c : Nat, c < 256 → c ≠ Gr.first p → M[c]? ≠ M[Gr.first p]?
  vsize : ∀ p ∈ K, p.2.size ≤ 1000
  p0 : ∃ p, K[0]? = some p ∧ p.1.size = 1 ∧ p.2.size ≠ 1
  p1 : ∃ p, K[1]? = some p ∧ p.1.size = 2
theorem mk_calls {K : Prs} {n N : Nat} {M : List Int} (hG : GoodK K n M N) (sb cap : Nat) (w : World) (hK : Olds w sb K) :
    Calls Tryz.prog 400 #[.slice (some ⟨sb, 0, none⟩) N cap] w (MkEnd n M N K w) :=
  mk_any sb N cap K w hK hG.cnt hG.small hG.size n hG.sum hG.n0 hG.n1 M hG.map hG.first
def BuildEnd (n : Nat) (M : List Int) (N : Nat) (K : Prs) (w : World) (e : Ending) (w' : World) : Prop := ∃ g tb, e = .returned (.iface 416 (.pointer (some ⟨g, 0, none⟩))) ∧ w.heap.size ≤ g ∧ Built w' g tb n M N K ∧ Below w.heap.size w w'
set_option maxHeartbeats 1000000 in
theorem build_calls {K : Prs} {n N : Nat} {M : List Int} (hG : GoodK K n M N) (r sb cap : Nat) (a b c d : Value) (w : World) (hK : Olds w sb K) (hr : w.heap[r]? = some (.cells #[a, b, c, d, .slice (some ⟨sb, 0, none⟩) N cap] 363 (0, 0))) :
    Calls Tryz.prog 363 #[.pointer (some ⟨r, 0, none⟩)] w (BuildEnd n M N K w) := by
  have c4 : w.cell? ⟨r, 4, none⟩ = some (.slice (some ⟨sb, 0, none⟩) N cap) := by rw [block_cell hr]; rfl
  obtain ⟨p0, h0, z0, y0⟩ := hG.p0
  obtain ⟨p1, h1, z1⟩ := hG.p1
  have k0 := hK.key 0 p0 h0
  have v0 := hK.val 0 p0 h0
  have k1 := hK.key 1 p1 h1
  have hN4 := hG.big
  have hNs := hG.small
  have C := Lib.hid (mk_calls hG sb cap w hK)
  have l0 : (2 : Int) < (N : Int) := by omega
  have l00 : (0 : Int) < (N : Int) := by omega
  have l1 : ((N : Int) == 2) = false := by rw [beq_eq_false_iff_ne]; omega
  have y1 : ((p0.2.size : Int) == 1) = false := by rw [beq_eq_false_iff_ne]; omega
  have y2 : ((p0.2.size : Int) != 1) = true := by rw [bne, y1]; rfl
  clear hK hr hG h0 h1
  go_enter Tryz.func363, Tryz.ntmps363
  go_wp2_with fail
  refine wp_loop_rounds 2 ?_
  rw [rounds_succ]
  go_wp2_with fail
  rw [rounds_succ]
  go_wp2_with fail
  refine C.out.mono ?_
  rintro e w1 ⟨g, tb, rfl, h1, h2, h3⟩
  have H2 := Lib.hid h2
  have H3 := Lib.hid h3
  clear h2 h3
  go_wp2_with fail
  go_ret
  exact ⟨g, tb, rfl, h1, H2.out, H3.out⟩
end Go.Proofs.YtioaigedcoapcaaGreatDoor.Gr
