/- strings.Replacer of bytes: its first use; token.named. -/
import Derived.Test.YtioaigedcoapcaaGreatDoorAxTb
namespace Go.Proofs.YtioaigedcoapcaaGreatDoor.Br
open Go Go.RowKit Go.Lib Go.Proofs.YtioaigedcoapcaaGreatDoor.Tr Go.Proofs.YtioaigedcoapcaaGreatDoor.Gr Go.Proofs.YtioaigedcoapcaaGreatDoor.Sr Go.Proofs.YtioaigedcoapcaaGreatDoor.On
set_option linter.unusedVariables false
set_option maxRecDepth 100000

def OnceB (r : Nat) (sm : Value) (g : Nat) (w w' : World) : Prop :=
  w'.heap[r]? = some (.cells #[.int .u32 0, .int .i32 1, sm, .iface 419 (.pointer (some ⟨g, 0, none⟩)), .slice none 0 0] 363 (0, 0)) ∧ ByTable Tk.nameB g w' ∧ w.heap.size ≤ g ∧ Fr (· = r) w.heap.size w w'
theorem ByTable.setCell {f : UInt8 → UInt8} {tb : Nat} {w : World} (h : ByTable f tb w) {p : Addr} (hp : p.block ≠ tb) (x : Value) : ByTable f tb (w.setCell p x) :=
  ⟨by simpa using h.1, fun y => by rw [World.cell?_setCell_other _ p ⟨tb, y.toNat, none⟩ _ (fun e => hp (by rw [e]))]; exact h.2 y⟩
theorem ByTable.drew {f : UInt8 → UInt8} {tb : Nat} {w : World} (h : ByTable f tb w) : ByTable f tb w.drew := ⟨h.1, h.2⟩
theorem bonce_calls (r sb cap : Nat) (sm : Value) (w : World) (hK : Olds w sb K4)
    (hr : w.heap[r]? = some (.cells #[.int .u32 0, .int .i32 1, sm, .nilIface, .slice (some ⟨sb, 0, none⟩) 8 cap] 363 (0, 0))) :
    Calls Tryz.prog 322 #[.pointer (some ⟨r, 0, none⟩)] w fun e w' => e = .returned (.tuple #[]) ∧ ∃ g, OnceB r sm g w w' := by
  have C := Lib.hid (bbuild_calls r sb cap _ _ _ _ w hK hr)
  have HR := Lib.hid hr
  have hrl := lt_of_block hr
  clear hK hr
  go_enter Tryz.func322, Tryz.ntmps322
  go_wp2_with fail
  refine C.out.mono ?_
  rintro e w1 ⟨g, rfl, h1, h2, h3⟩
  have hb := (h3.block _ hrl).trans HR.out
  have c3 : w1.cell? ⟨r, 3, none⟩ = some .nilIface := by rw [block_cell hb]; rfl
  have c4 : w1.cell? ⟨r, 4, none⟩ = some (.slice (some ⟨sb, 0, none⟩) 8 cap) := by rw [block_cell hb]; rfl
  have f3 : w1.frozen? ⟨r, 3, none⟩ = false := frozen_of_row w1 r 3 _ _ hb
  have f4 : w1.frozen? ⟨r, 4, none⟩ = false := frozen_of_row w1 r 4 _ _ hb
  have HB := Lib.hid hb
  have H2 := Lib.hid h2
  have H3 := Lib.hid h3
  clear hb h2 h3
  go_wp2_with fail
  go_end0
  have b1 := heap_setCell_same w1 r 3 _ _ (.iface 419 (.pointer (some ⟨g, 0, none⟩))) HB.out
  have b2 := heap_setCell_same _ r 4 _ _ (.slice none 0 0) b1
  exact ⟨rfl, g, b2, ByTable.setCell (ByTable.setCell H2.out (p := ⟨r, 3, none⟩) (by show r ≠ g; omega) _) (p := ⟨r, 4, none⟩) (by show r ≠ g; omega) _, h1, ((Fr.of_below (R := (· = r)) H3.out).setCell (p := ⟨r, 3, none⟩) (.inr rfl) _).setCell (p := ⟨r, 4, none⟩) (.inr rfl) _⟩
theorem breplace_calls (r sb cap : Nat) (sm : Value) (s : ByteArray) (w : World) (hK : Olds w sb K4) (hne : sb ≠ r)
    (hr : w.heap[r]? = some (.cells #[.int .u32 0, .int .i32 0, sm, .nilIface, .slice (some ⟨sb, 0, none⟩) 8 cap] 363 (0, 0))) (hs : s.size ≤ 1000000) :
    Calls Tryz.prog 274 #[.pointer (some ⟨r, 0, none⟩), .string s] w fun e w' => e = .returned (.string ⟨(s.data.toList.map Tk.nameB).toArray⟩) ∧ Fr (· = r) w.heap.size w w' := by
  have hr1 := heap_setCell_same w r 1 _ _ (.int .i32 1) hr
  have hO := bonce_calls r sb cap sm (w.setCell ⟨r, 1, none⟩ (.int .i32 1)) (hK.setCell hne _) hr1
  have D := Lib.hid (do_first r sm .nilIface (.slice (some ⟨sb, 0, none⟩) 8 cap) w hr (fun w2 => ∃ g, OnceB r sm g (w.setCell ⟨r, 1, none⟩ (.int .i32 1)) w2) (fun w2 ⟨g, h⟩ => ⟨_, _, h.1⟩) hO)
  have hrl := lt_of_block hr
  clear hr1 hO hK hr
  have hmf : ∀ (fn : Fn) (first cap : Array Value) (w : World), (Instr.makeFunc fn first cap).run Tryz.prog w = .ok (.func fn first cap) w := fun _ _ _ _ => rfl
  go_enter Tryz.func274, Tryz.ntmps274
  go_wp2_with fail
  refine D.out.mono ?_
  rintro e w1 ⟨rfl, w2, ⟨g, h1, h2, h3, h4⟩, hw1⟩
  have b1 := heap_setCell_same w2 r 0 _ _ (.int .u32 1) h1
  have b2 := heap_setCell_same (w2.setCell ⟨r, 0, none⟩ (.int .u32 1)).drew r 1 _ _ (.int .i32 0) b1
  have hgr : r < g := by
    have : (w.setCell ⟨r, 1, none⟩ (.int .i32 1)).heap.size = w.heap.size := by simp
    omega
  have hB1 : ByTable Tk.nameB g w1 := by
    rw [hw1]
    exact ByTable.setCell (p := ⟨r, 1, none⟩) (ByTable.drew (ByTable.setCell (p := ⟨r, 0, none⟩) h2 (by show r ≠ g; omega) _)) (by show r ≠ g; omega) _
  have hF1 : Fr (· = r) w.heap.size w w1 := by
    rw [hw1]
    have h4' : Fr (· = r) w.heap.size w w2 := ((Fr.refl (· = r) w.heap.size w).setCell (p := ⟨r, 1, none⟩) (.inr rfl) _).trans (by simpa using h4)
    exact ((h4'.setCell (p := ⟨r, 0, none⟩) (.inr rfl) _).drew).setCell (p := ⟨r, 1, none⟩) (.inr rfl) _
  have c3 : w1.cell? ⟨r, 3, none⟩ = some (.iface 419 (.pointer (some ⟨g, 0, none⟩))) := by
    rw [hw1, block_cell b2]; rfl
  have HB1 := Lib.hid hB1
  have HF1 := Lib.hid hF1
  clear b1 b2 h1 h2 h3 h4 hw1 hB1 hF1 D
  go_wp2_with fail
  refine (brep_calls Tk.nameB g s (by omega) w1 HB1.out).mono ?_
  rintro e w3 ⟨rfl, hb⟩
  have HB := Lib.hid hb
  clear hb c3
  go_wp2_with fail
  go_ret
  exact ⟨rfl, HF1.out.trans ((Fr.of_below HB.out).mono HF1.out.size fun k _ hk => hk)⟩
theorem eight (w : World) : ∀ j u, (strs K4)[j]? = some u → (w.alloc (.cells #[.string ⟨#[34]⟩, .string ⟨#[95]⟩, .string ⟨#[39]⟩, .string ⟨#[95]⟩, .string ⟨#[60]⟩, .string ⟨#[95]⟩, .string ⟨#[61]⟩, .string ⟨#[95]⟩] 9)).cell? ((⟨w.heap.size, 0, none⟩ : Addr).add j) = some u := by
  intro j u h
  have ha : (⟨w.heap.size, 0, none⟩ : Addr).add j = ⟨w.heap.size, j, none⟩ := by unfold Addr.add; split <;> simp_all
  rw [ha, block_cell (alloc_new w _)]
  rw [← h]
  simp [strs, K4]
set_option maxHeartbeats 2000000 in
theorem named_calls (s : ByteArray) (hs : s.size ≤ 1000000) (w : World) :
    Calls Tryz.prog 303 #[.string s] w fun e w' => e = .returned (.string (Tk.namedP s)) ∧ Below w.heap.size w w' := by
  have HL := Lib.hid (Tk.tlower s (by omega))
  have hz := Tk.lowS_size s
  have HS := Lib.hid (show (Tk.lowS s).size ≤ 1000000 by omega)
  have HV := Lib.hid (show (⟨((Tk.lowS s).data.toList.map Tk.nameB).toArray⟩ : ByteArray) = Tk.namedP s by unfold Tk.namedP Tk.lowS; rfl)
  generalize Tk.lowS s = l at *
  clear hs hz
  go_enter Tryz.func303, Tryz.ntmps303
  go_wp2_with fail
  have hb0 : Below w.heap.size w (w.alloc (.cells #[.string ⟨#[34]⟩, .string ⟨#[95]⟩, .string ⟨#[39]⟩, .string ⟨#[95]⟩, .string ⟨#[60]⟩, .string ⟨#[95]⟩, .string ⟨#[61]⟩, .string ⟨#[95]⟩] 9)) := (Below.refl _ _).alloc (Nat.le_refl _) _
  have h8 := eight w
  generalize w.alloc (.cells #[.string ⟨#[34]⟩, .string ⟨#[95]⟩, .string ⟨#[39]⟩, .string ⟨#[95]⟩, .string ⟨#[60]⟩, .string ⟨#[95]⟩, .string ⟨#[61]⟩, .string ⟨#[95]⟩] 9) = w1 at *
  refine (Gr.new_calls K4 8 rfl (by decide) (by decide) _ 8 w1 h8).mono ?_
  rintro e w2 ⟨r, sb, cap, sm, rfl, hr, hO, hne, hge, hb2⟩
  have HR := Lib.hid hr
  have HO := Lib.hid hO
  have HGE := Lib.hid hge
  have HB2 := Lib.hid (hb0.trans (hb2.mono hb0.size))
  have HG0 := Lib.hid hb0.size
  clear hb0 h8 hr hO hb2 hge
  go_wp2_with fail
  refine (HL.out _).mono ?_
  rintro e w3 ⟨rfl, hb3⟩
  have HR3 := Lib.hid ((hb3.block _ (lt_of_block HR.out)).trans HR.out)
  have HO3 := Lib.hid (HO.out.below hb3 HO.out.lt)
  have HB3 := Lib.hid (HB2.out.trans (hb3.mono HB2.out.size))
  clear hb3
  go_wp2_with fail
  refine (breplace_calls r sb cap sm l w3 HO3.out hne HR3.out HS.out).mono ?_
  rintro e w4 ⟨rfl, hf⟩
  have HF := Lib.hid hf
  clear hf
  go_wp2_with fail
  go_ret
  exact ⟨by rw [HV.out]; rfl, HB3.out.trans (HF.out.below (fun k hk e => by have := HG0.out; have := HGE.out; omega) HB3.out.size)⟩
end Go.Proofs.YtioaigedcoapcaaGreatDoor.Br
