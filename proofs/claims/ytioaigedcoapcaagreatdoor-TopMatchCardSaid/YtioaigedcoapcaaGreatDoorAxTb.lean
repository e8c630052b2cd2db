/- strings.Replacer: what it builds of four pairs of bytes. -/
import Derived.Test.YtioaigedcoapcaaGreatDoorAxTr
import Derived.Test.YtioaigedcoapcaaGreatDoorNrp
import Derived.Deep.WholeRow
namespace Go.Proofs.YtioaigedcoapcaaGreatDoor.Br
open Go Go.RowKit Go.Lib Go.Proofs.YtioaigedcoapcaaGreatDoor.Tr Go.Proofs.YtioaigedcoapcaaGreatDoor.Gr
set_option linter.unusedVariables false
set_option maxRecDepth 100000

def K4 : Prs := [(⟨#[34]⟩, ⟨#[95]⟩), (⟨#[39]⟩, ⟨#[95]⟩), (⟨#[60]⟩, ⟨#[95]⟩), (⟨#[61]⟩, ⟨#[95]⟩)]
/-- A table of bytes. -/
structure Tabl (w : World) (g : Nat) (F : Nat → Int) : Prop where
  lt : g < w.heap.size
  cell : ∀ c, c < 256 → w.cell? ⟨g, c, none⟩ = some (.int .u8 (F c))
  free : ∀ c, c < 256 → w.frozen? ⟨g, c, none⟩ = false
theorem Tabl.set {w : World} {g : Nat} {F : Nat → Int} (h : Tabl w g F) (i : Nat) (v : Int) : Tabl (w.setCell ⟨g, i, none⟩ (.int .u8 v)) g (fun c => if c = i then v else F c) := by
  refine ⟨by simpa using h.lt, fun c hc => ?_, fun c hc => by rw [World.frozen?_setCell]; exact h.free c hc⟩
  by_cases hci : c = i
  · subst hci; rw [World.cell?_setCell_same _ _ _ (h.cell c hc), if_pos rfl]
  · rw [World.cell?_setCell_other _ _ _ _ (show (⟨g, i, none⟩ : Addr) ≠ ⟨g, c, none⟩ by intro e; injection e with _ h2; exact hci h2.symm), h.cell c hc, if_neg hci]
theorem Tabl.congr {w : World} {g : Nat} {F G : Nat → Int} (h : Tabl w g F) (e : ∀ c, c < 256 → F c = G c) : Tabl w g G :=
  ⟨h.lt, fun c hc => by rw [← e c hc]; exact h.cell c hc, h.free⟩
theorem zero256 : Tryz.zeroCells418 = (List.replicate 256 (Value.int .u8 0)).toArray := by kernel_rfl
theorem tabl_new (w : World) : Tabl (w.alloc (.cells Tryz.zeroCells418 418)) w.heap.size (fun _ => 0) := by
  have h := alloc_new w (.cells Tryz.zeroCells418 418)
  refine ⟨by simp, fun c hc => ?_, fun c hc => Lib.frozen_of_heap h c⟩
  rw [block_cell h, zero256, List.getElem?_toArray, List.getElem?_replicate, if_pos hc]
theorem store_zeros (w : World) : (storeCells ⟨w.heap.size, 0, none⟩ Tryz.zeroCells418.toList).run Tryz.prog (w.alloc (.cells Tryz.zeroCells418 418)) = .ok () (w.alloc (.cells Tryz.zeroCells418 418)) :=
  run_storeCells_new w 418 Tryz.zeroCells418 Tryz.zeroCells418 (by kernel_rfl) rfl (by kernel_rfl)
theorem rng_step {w : World} {g k : Nat} (h : Tabl w g (fun c => if c < k then (c : Int) else 0)) : Tabl (w.setCell ⟨g, k, none⟩ (.int .u8 (k : Int))) g (fun c => if c < k + 1 then (c : Int) else 0) :=
  (h.set k k).congr fun c _ => by
    show (if c = k then (k : Int) else if c < k then (c : Int) else 0) = if c < k + 1 then (c : Int) else 0
    by_cases h1 : c = k
    · rw [if_pos h1, if_pos (by omega), h1]
    · rw [if_neg h1]
      by_cases h2 : c < k
      · rw [if_pos h2, if_pos (by omega)]
      · rw [if_neg h2, if_neg (by omega)]
theorem nameB_nat (x : UInt8) : ((Tk.nameB x).toNat : Int) = if x.toNat = 34 then 95 else if x.toNat = 39 then 95 else if x.toNat = 60 then 95 else if x.toNat = 61 then 95 else (x.toNat : Int) := by
  unfold Tk.nameB
  have e : ∀ n : UInt8, (x = n) = (x.toNat = n.toNat) := fun n => propext UInt8.toNat_inj.symm
  have e1 : (34 : UInt8).toNat = 34 := rfl
  have e2 : (39 : UInt8).toNat = 39 := rfl
  have e3 : (60 : UInt8).toNat = 60 := rfl
  have e4 : (61 : UInt8).toNat = 61 := rfl
  by_cases h : x = 34 ∨ x = 39 ∨ x = 60 ∨ x = 61
  · rw [if_pos h]
    rcases h with h | h | h | h <;> (subst h; rfl)
  · rw [if_neg h]
    rw [e 34, e 39, e 60, e 61] at h
    rw [if_neg (by omega), if_neg (by omega), if_neg (by omega), if_neg (by omega)]
theorem four_sets {w : World} {g : Nat} (h : Tabl w g (fun c => if c < 256 then (c : Int) else 0)) :
    ByTable Tk.nameB g ((((w.setCell ⟨g, 61, none⟩ (.int .u8 95)).setCell ⟨g, 60, none⟩ (.int .u8 95)).setCell ⟨g, 39, none⟩ (.int .u8 95)).setCell ⟨g, 34, none⟩ (.int .u8 95)) := by
  have h4 := (((h.set 61 95).set 60 95).set 39 95).set 34 95
  refine ⟨h4.lt, fun x => ?_⟩
  have hx : x.toNat < 256 := x.toNat_lt
  rw [h4.cell _ hx, nameB_nat, if_pos hx]
def BbEnd (w : World) (e : Ending) (w' : World) : Prop := ∃ g, e = .returned (.iface 419 (.pointer (some ⟨g, 0, none⟩))) ∧ w.heap.size ≤ g ∧ ByTable Tk.nameB g w' ∧ Below w.heap.size w w'
set_option maxHeartbeats 4000000 in
theorem bbuild_calls (r sb cap : Nat) (a b c d : Value) (w : World) (hK : Olds w sb K4) (hr : w.heap[r]? = some (.cells #[a, b, c, d, .slice (some ⟨sb, 0, none⟩) 8 cap] 363 (0, 0))) :
    Calls Tryz.prog 363 #[.pointer (some ⟨r, 0, none⟩)] w (BbEnd w) := by
  have c4 : w.cell? ⟨r, 4, none⟩ = some (.slice (some ⟨sb, 0, none⟩) 8 cap) := by rw [block_cell hr]; rfl
  have k0 : w.cell? ⟨sb, 0, none⟩ = some (.string ⟨#[34]⟩) := hK.key 0 _ rfl
  have v0 : w.cell? ⟨sb, 1, none⟩ = some (.string ⟨#[95]⟩) := hK.val 0 _ rfl
  have k1 : w.cell? ⟨sb, 2, none⟩ = some (.string ⟨#[39]⟩) := hK.key 1 _ rfl
  have v1 : w.cell? ⟨sb, 3, none⟩ = some (.string ⟨#[95]⟩) := hK.val 1 _ rfl
  have k2 : w.cell? ⟨sb, 4, none⟩ = some (.string ⟨#[60]⟩) := hK.key 2 _ rfl
  have v2 : w.cell? ⟨sb, 5, none⟩ = some (.string ⟨#[95]⟩) := hK.val 2 _ rfl
  have k3 : w.cell? ⟨sb, 6, none⟩ = some (.string ⟨#[61]⟩) := hK.key 3 _ rfl
  have v3 : w.cell? ⟨sb, 7, none⟩ = some (.string ⟨#[95]⟩) := hK.val 3 _ rfl
  have HT0 := Lib.hid (tabl_new w)
  have HB0 := Lib.hid ((Below.refl w.heap.size w).alloc (Nat.le_refl _) (.cells Tryz.zeroCells418 418))
  have HLT := Lib.hid hK.lt
  have HK := Lib.hid hK
  have hne : sb ≠ w.heap.size := by have := hK.lt; omega
  have hne2 : w.heap.size ≠ sb := fun e => hne e.symm
  clear hK hr
  have hsz := store_zeros w
  go_enter Tryz.func363, Tryz.ntmps363
  go_wp2_with fail
  refine wp_loop_rounds 5 ?_
  rw [rounds_succ]
  go_wp2_with fail
  rw [rounds_succ]
  go_wp2_with fail
  rw [rounds_succ]
  go_wp2_with fail
  rw [rounds_succ]
  go_wp2_with fail
  rw [rounds_succ]
  go_wp2_with fail
  generalize hw0 : w.alloc (.cells Tryz.zeroCells418 418) = w0 at *
  clear hsz hw0 c4 k0 v0 k1 v1 k2 v2 k3 v3
  go_loopw [61] (fun t wr => ∃ k : Nat, Hid (k ≤ 256) ∧ t = .int .i64 (k : Int) ∧ Hid (Tabl wr w.heap.size (fun c => if c < k then (c : Int) else 0)) ∧ Hid (Below w.heap.size w wr)) (fun t _ => 256 - (RowKit.intOf t).toNat)
  case atStart => exact ⟨0, Lib.hid (by omega), rfl, Lib.hid (HT0.out.congr fun c _ => by simp), HB0⟩
  case round =>
    obtain ⟨k, HKL, rfl, HT, HB⟩ := hrel
    by_cases hlt : k < 256
    · have hz : (k : Int) < 256 := by omega
      have hwk : IntKind.i64.wrap ((k : Int) + 1) = (k : Int) + 1 := IntWalk.i64_in _ (by omega)
      have hw8 : IntKind.u8.wrap (k : Int) = (k : Int) := IntWalk.u8_in _ (by omega)
      have ck := HT.out.cell k hlt
      have fk := HT.out.free k hlt
      have HW := Lib.hid (show (k : Int) + 1 = ((k + 1 : Nat) : Int) by omega)
      have HLTk := Lib.hid hlt
      go_wp2_with fail
      go_roundw
      case rel => exact ⟨k + 1, Lib.hid (by have := HLTk.out; omega), by rw [HW.out], Lib.hid (rng_step HT.out), Lib.hid (HB.out.setCell (p := ⟨w.heap.size, k, none⟩) (Nat.le_refl _) _)⟩
      case measure => simp [RowKit.intOf]; omega
    · obtain rfl : k = 256 := by have := HKL.out; omega
      have hO := HK.out.below HB.out HLT.out
      have k0 : wr.cell? ⟨sb, 0, none⟩ = some (.string ⟨#[34]⟩) := hO.key 0 _ rfl
      have v0 : wr.cell? ⟨sb, 1, none⟩ = some (.string ⟨#[95]⟩) := hO.val 0 _ rfl
      have k1 : wr.cell? ⟨sb, 2, none⟩ = some (.string ⟨#[39]⟩) := hO.key 1 _ rfl
      have v1 : wr.cell? ⟨sb, 3, none⟩ = some (.string ⟨#[95]⟩) := hO.val 1 _ rfl
      have k2 : wr.cell? ⟨sb, 4, none⟩ = some (.string ⟨#[60]⟩) := hO.key 2 _ rfl
      have v2 : wr.cell? ⟨sb, 5, none⟩ = some (.string ⟨#[95]⟩) := hO.val 2 _ rfl
      have k3 : wr.cell? ⟨sb, 6, none⟩ = some (.string ⟨#[61]⟩) := hO.key 3 _ rfl
      have v3 : wr.cell? ⟨sb, 7, none⟩ = some (.string ⟨#[95]⟩) := hO.val 3 _ rfl
      have c34 : wr.cell? ⟨w.heap.size, 34, none⟩ = some (.int .u8 34) := HT.out.cell 34 (by omega)
      have e34 : ∀ h, ((⟨#[34]⟩ : ByteArray)[0]'h).toNat = 34 := fun _ => rfl
      have c39 : wr.cell? ⟨w.heap.size, 39, none⟩ = some (.int .u8 39) := HT.out.cell 39 (by omega)
      have e39 : ∀ h, ((⟨#[39]⟩ : ByteArray)[0]'h).toNat = 39 := fun _ => rfl
      have c60 : wr.cell? ⟨w.heap.size, 60, none⟩ = some (.int .u8 60) := HT.out.cell 60 (by omega)
      have e60 : ∀ h, ((⟨#[60]⟩ : ByteArray)[0]'h).toNat = 60 := fun _ => rfl
      have c61 : wr.cell? ⟨w.heap.size, 61, none⟩ = some (.int .u8 61) := HT.out.cell 61 (by omega)
      have e61 : ∀ h, ((⟨#[61]⟩ : ByteArray)[0]'h).toNat = 61 := fun _ => rfl
      have e95 : ∀ h, ((⟨#[95]⟩ : ByteArray)[0]'h).toNat = 95 := fun _ => rfl
      have f34 := HT.out.free 34 (by omega)
      have f39 := HT.out.free 39 (by omega)
      have f60 := HT.out.free 60 (by omega)
      have f61 := HT.out.free 61 (by omega)
      clear hO hlt
      go_wp2_with fail
      refine wp_loop_rounds 5 ?_
      rw [rounds_succ]
      go_wp2_with fail
      rw [rounds_succ]
      go_wp2_with fail
      rw [rounds_succ]
      go_wp2_with fail
      rw [rounds_succ]
      go_wp2_with fail
      rw [rounds_succ]
      go_wp2_with fail
      go_ret
      exact ⟨w.heap.size, rfl, Nat.le_refl _, four_sets HT.out, (((HB.out.setCell (p := ⟨w.heap.size, 61, none⟩) (Nat.le_refl _) _).setCell (p := ⟨w.heap.size, 60, none⟩) (Nat.le_refl _) _).setCell (p := ⟨w.heap.size, 39, none⟩) (Nat.le_refl _) _).setCell (p := ⟨w.heap.size, 34, none⟩) (Nat.le_refl _) _⟩
end Go.Proofs.YtioaigedcoapcaaGreatDoor.Br
