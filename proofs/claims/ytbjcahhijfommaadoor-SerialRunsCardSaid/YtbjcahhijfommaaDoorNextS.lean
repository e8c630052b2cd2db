/- topiarylaw00.next: a number out of a list, and the place moved on. -/
import Derived.Test.YtbjcahhijfommaaDoorCopyS
import Derived.IntWalk
namespace Go.Proofs.YtbjcahhijfommaaDoor.Gn
open Go Go.RowKit Go.Proofs.YtbjcahhijfommaaDoor.Tr
set_option linter.unusedVariables false
theorem and40 (z : Int) : ∃ v : Nat, bits .and .i64 z 1099511627775 = (v : Int) ∧ v < 1099511627776 := by
  have h : (BitVec.ofInt 64 1099511627775).toNat = 1099511627775 := by decide
  have h2 : (BitVec.ofInt 64 z).toNat &&& 1099511627775 < 2 ^ 40 := Nat.and_lt_two_pow _ (by decide)
  refine ⟨(BitVec.ofInt 64 z).toNat &&& 1099511627775, ?_, by simpa using h2⟩
  have e : (BitVec.ofInt 64 z &&& BitVec.ofInt 64 1099511627775).toNat = (BitVec.ofInt 64 z).toNat &&& 1099511627775 := by rw [BitVec.toNat_and, h]
  show IntKind.i64.wrap ((BitVec.ofInt 64 z &&& BitVec.ofInt 64 1099511627775).toNat : Int) = _
  rw [e, IntKind.wrap_i64]
  omega
theorem place_any (v n : Int) (h0 : 0 < n) (h1 : n ≤ 9223372036854775807) (w : World) :
    Calls Tryd.prog 12 #[.int .i64 v, .int .i64 n] w fun e w' => (∃ k : Nat, (k : Int) < n ∧ e = .returned (.int .i64 k)) ∧ w = w' := by
  have b1 := Int.tmod_lt_of_pos v h0
  have b0 : -n < v.tmod n := by
    have := Int.lt_tmod_of_pos v h0
    omega
  have hn : ¬ n = 0 := by omega
  have hn1 : (n == 0) = false := by rw [beq_eq_false_iff_ne]; omega
  rcases Int.lt_or_le (v.tmod n) 0 with h | h
  · go_enter Tryd.func12, Tryd.ntmps12
    go_wp2
    go_ret
    exact ⟨⟨(v.tmod n + n).toNat, by omega, congrArg (fun x => Ending.returned (.int .i64 x)) (by omega)⟩, rfl⟩
  · go_enter Tryd.func12, Tryd.ntmps12
    go_wp2
    go_ret
    exact ⟨⟨(v.tmod n).toNat, by omega, congrArg (fun x => Ending.returned (.int .i64 x)) (by omega)⟩, rfl⟩
/-- A list of numbers in memory, in blocks below B. -/
def LRow (w : World) (B : Nat) (A : Option Addr) (len : Nat) : Prop := len ≤ maxLen ∧ ∀ i, i < len → ∃ b off z, A = some ⟨b, off, none⟩ ∧ b < B ∧ w.cell? ⟨b, off + i, none⟩ = some (.int .i64 z)
theorem LRow.keep {w w' : World} {B : Nat} {A : Option Addr} {len : Nat} (h : LRow w B A len) (hk : ∀ p : Addr, p.block < B → w'.cell? p = w.cell? p) : LRow w' B A len :=
  ⟨h.1, fun i hi => by obtain ⟨b, off, z, e, hb, hc⟩ := h.2 i hi; exact ⟨b, off, z, e, hb, (hk _ hb).trans hc⟩⟩
/-- The one cell of a counter. -/
def Cnt (w : World) (a : Nat) (x : Int) : Prop := w.heap[a]? = some (.cells #[.int .i64 x] 3 (0, 0))
theorem Cnt.cell {w : World} {a : Nat} {x : Int} (h : Cnt w a x) : w.cell? ⟨a, 0, none⟩ = some (.int .i64 x) := by rw [block_cell h]; rfl
theorem Cnt.lt {w : World} {a : Nat} {x : Int} (h : Cnt w a x) : a < w.heap.size := lt_of_block h
theorem Cnt.set {w : World} {a : Nat} {x : Int} (h : Cnt w a x) (y : Int) : Cnt (w.setCell ⟨a, 0, none⟩ (.int .i64 y)) a y := by
  unfold Cnt at *
  simp only [World.setCell, Array.getElem?_modify, ↓reduceIte, h, Option.map_some]
  rfl
def NextEnd (a : Nat) (w : World) (e : Ending) (w' : World) : Prop := ∃ (v : Nat) (y : Int), e = .returned (.int .i64 v) ∧ v < 1099511627776 ∧ Cnt w' a y ∧ Fr (· = a) w.heap.size w w'
set_option maxHeartbeats 2000000 in
set_option maxRecDepth 100000 in
theorem next_calls (A : Option Addr) (len cap a B : Nat) (x : Int) (w : World) (hl : LRow w B A len) (hB : B ≤ a) (hc : Cnt w a x) :
    Calls Tryd.prog 23 #[.slice A len cap, .pointer (some ⟨a, 0, none⟩)] w (NextEnd a w) := by
  have HL := Lib.hid hl
  have HC := Lib.hid hc
  have hlen := hl.1
  unfold maxLen at hlen
  clear hl
  rcases Nat.eq_zero_or_pos len with rfl | hpos
  · clear hc
    go_enter Tryd.func23, Tryd.ntmps23
    go_wp2_with fail
    go_ret
    exact ⟨0, x, rfl, by decide, HC.out, Fr.refl _ _ _⟩
  have hne : ((len : Int) == 0) = false := by rw [beq_eq_false_iff_ne]; omega
  have hne2 : ¬ (len : Int) = 0 := by omega
  have c0 := hc.cell
  have f0 : w.frozen? ⟨a, 0, none⟩ = false := Lib.frozen_of_heap hc 0
  have hS : ∀ y, Fr (· = a) w.heap.size w (w.setCell ⟨a, 0, none⟩ (.int .i64 y)) ∧ Cnt (w.setCell ⟨a, 0, none⟩ (.int .i64 y)) a y := fun y => ⟨(Fr.refl (· = a) w.heap.size w).setCell (p := ⟨a, 0, none⟩) (.inr rfl) _, hc.set y⟩
  have HS := Lib.hid hS
  clear hc hS
  go_enter Tryd.func23, Tryd.ntmps23
  go_upto_region 4 with fail
  generalize hy : wrap64 (x + 1) = y
  have H1 : Hid _ := Lib.hid (HS.out y)
  generalize w.setCell ⟨a, 0, none⟩ (.int .i64 y) = w1 at H1 ⊢
  clear hy HS c0 f0
  have q0 := cell_regrown H1.out.2.cell
  have HL1 : Hid (LRow w1 B A len) := Lib.hid (HL.out.keep fun p hp => H1.out.1.cell (by have := HC.out.lt; omega) (by omega))
  clear HL HC
  have hl2 := HL1.out.2
  have HLL := Lib.hid hl2
  clear hl2
  refine Kr.wp_region_R [(2, fun v _ => v = .pointer (some ⟨a, 0, none⟩)), (6, fun v _ => v = .pointer (some ⟨a, 0, none⟩)), (14, fun v _ => ∃ k : Nat, (k : Int) < (len : Int) ∧ v = .int .i64 k)] mixed2 (by kernel_rfl) ?_
  repeat (refine Kr.wpR_one rfl rfl ?_; go_big_quiet_step (fail); refine wpQuiet_nil ?_)
  refine Kr.wpR_call _ rfl rfl rfl ?_ ?_
  · intro W hW hk
    go_simp
    exact upMany_value rfl (Below.refl _ _)
  rintro v ⟨_, _, _, _, hS, _⟩
  obtain rfl := hS
  go_frame
  repeat (refine Kr.wpR_one rfl rfl ?_; go_big_quiet_step (fail); refine wpQuiet_nil ?_)
  refine Kr.wpR_call _ rfl rfl rfl ?_ ?_
  · intro W hW hk
    go_simp
    exact upMany_value rfl (Below.refl _ _)
  rintro v ⟨_, _, _, _, hS, _⟩
  obtain rfl := hS
  go_frame
  repeat (refine Kr.wpR_one rfl rfl ?_; go_big_quiet_step (fail); refine wpQuiet_nil ?_)
  refine Kr.wpR_call _ rfl rfl rfl ?_ ?_
  · intro W hW hk
    go_simp
    refine Kr.upMany_enter ((place_any _ (len : Int) (by omega) (by omega) W).mono ?_)
    rintro e w' ⟨⟨k, hk1, rfl⟩, rfl⟩
    exact ⟨_, rfl, ⟨k, by omega, rfl⟩, Below.refl _ _⟩
  rintro v ⟨_, _, _, _, hS, _⟩
  obtain ⟨k, hk, rfl⟩ := hS
  obtain ⟨bl, off, z, rfl, hbl, hcz⟩ := HLL.out k (by omega)
  have rz := cell_regrown hcz
  obtain ⟨v, hv1, hv2⟩ := and40 z
  clear hcz
  go_frame
  repeat (refine Kr.wpR_one rfl rfl ?_; go_big_quiet_step (fail); refine wpQuiet_nil ?_)
  refine Kr.wpR_nil ?_
  intro w' hb _
  have HZ : Hid (NextEnd a w (.returned (.int .i64 (v : Int))) w') := Lib.hid ⟨v, y, rfl, hv2, (hb.block _ H1.out.2.lt).trans H1.out.2, H1.out.1.trans (Fr.of_below (hb.mono H1.out.1.size))⟩
  clear hb
  go_wp2_with fail
  go_ret
  exact HZ.out
end Go.Proofs.YtbjcahhijfommaaDoor.Gn
