/- strings.Replacer: its first use. -/
import Derived.Test.YtioaigedcoapcaaGreatDoorRpl
import Derived.Test.YtioaigedcoapcaaGreatDoorOnceB
namespace Go.Proofs.YtioaigedcoapcaaGreatDoor.Gr
open Go Go.RowKit Go.Proofs.YtioaigedcoapcaaGreatDoor.Tr Go.Proofs.YtioaigedcoapcaaGreatDoor.Sr Go.Proofs.YtioaigedcoapcaaGreatDoor.On
set_option linter.unusedVariables false
set_option maxRecDepth 100000

theorem Olds.setCell {w : World} {sb : Nat} {K : Prs} (h : Olds w sb K) {p : Addr} (hp : sb ≠ p.block) (x : Value) : Olds (w.setCell p x) sb K :=
  ⟨fun k q hq => by rw [World.cell?_setCell_other _ p ⟨sb, 2 * k, none⟩ _ (fun e => hp (by rw [e]))]; exact h.key k q hq, fun k q hq => by rw [World.cell?_setCell_other _ p ⟨sb, 2 * k + 1, none⟩ _ (fun e => hp (by rw [e]))]; exact h.val k q hq, by simpa using h.lt⟩
def RpcEnd (K : Prs) (r : Nat) (s : ByteArray) (w : World) (e : Ending) (w' : World) : Prop := ∃ out, e = .returned (.string ⟨out.toArray⟩) ∧ Rep K s.data.toList out ∧ Fr (· = r) w.heap.size w w'
theorem replace_calls {K : Prs} {n N : Nat} {M : List Int} (hG : GoodK K n M N) (r sb cap : Nat) (sm : Value) (s : ByteArray) (w : World) (hK : Olds w sb K) (hne : sb ≠ r)
    (hr : w.heap[r]? = some (.cells #[.int .u32 0, .int .i32 0, sm, .nilIface, .slice (some ⟨sb, 0, none⟩) N cap] 363 (0, 0))) (hs : s.size ≤ 1000000) :
    Calls Tryz.prog 274 #[.pointer (some ⟨r, 0, none⟩), .string s] w (RpcEnd K r s w) := by
  have hr1 := heap_setCell_same w r 1 _ _ (.int .i32 1) hr
  have hO := once_calls hG r sb cap sm (w.setCell ⟨r, 1, none⟩ (.int .i32 1)) (hK.setCell hne _) hr1
  have D := Lib.hid (do_first r sm .nilIface (.slice (some ⟨sb, 0, none⟩) N cap) w hr (fun w2 => ∃ g tb, OnceP n M N K r sm g tb (w.setCell ⟨r, 1, none⟩ (.int .i32 1)) w2) (fun w2 ⟨g, tb, h⟩ => ⟨_, _, h.1⟩) hO)
  have HG := Lib.hid hG
  have hrl := lt_of_block hr
  clear hr1 hO hK hr hG
  have hmf : ∀ (fn : Fn) (first cap : Array Value) (w : World), (Instr.makeFunc fn first cap).run Tryz.prog w = .ok (.func fn first cap) w := fun _ _ _ _ => rfl
  go_enter Tryz.func274, Tryz.ntmps274
  go_wp2_with fail
  refine D.out.mono ?_
  rintro e w1 ⟨rfl, w2, ⟨g, tb, h1, h2, h3, h4⟩, hw1⟩
  have b1 := heap_setCell_same w2 r 0 _ _ (.int .u32 1) h1
  have b2 := heap_setCell_same (w2.setCell ⟨r, 0, none⟩ (.int .u32 1)).drew r 1 _ _ (.int .i32 0) b1
  have hgr : r < g := by
    have : (w.setCell ⟨r, 1, none⟩ (.int .i32 1)).heap.size = w.heap.size := by simp
    omega
  have hB1 : Built w1 g tb n M N K := by
    rw [hw1]
    exact built_setCell (p := ⟨r, 1, none⟩) ((built_setCell (p := ⟨r, 0, none⟩) h2 hgr _).keep (Below.refl _ _).drew) hgr _
  have hF1 : Fr (· = r) w.heap.size w w1 := by
    rw [hw1]
    have h4' : Fr (· = r) w.heap.size w w2 := ((Fr.refl (· = r) w.heap.size w).setCell (p := ⟨r, 1, none⟩) (.inr rfl) _).trans (by simpa using h4)
    exact ((h4'.setCell (p := ⟨r, 0, none⟩) (.inr rfl) _).drew).setCell (p := ⟨r, 1, none⟩) (.inr rfl) _
  have c3 : w1.cell? ⟨r, 3, none⟩ = some (.iface 416 (.pointer (some ⟨g, 0, none⟩))) := by
    rw [hw1, block_cell b2]; rfl
  have HB1 := Lib.hid hB1
  have HF1 := Lib.hid hF1
  clear b1 b2 h1 h2 h3 h4 hw1 hB1 hF1 D
  go_wp2_with fail
  refine (greplace_calls HG.out g tb s w1 HB1.out hs).mono ?_
  rintro e w3 ⟨out, rfl, ho, hb⟩
  have HO := Lib.hid ho
  have HB := Lib.hid hb
  clear ho hb c3
  go_wp2_with fail
  go_ret
  exact ⟨out, rfl, HO.out, HF1.out.trans ((Fr.of_below HB.out).mono HF1.out.size fun k _ hk => hk)⟩
end Go.Proofs.YtioaigedcoapcaaGreatDoor.Gr
