/- sync.Once's Do, the first time: the method value of a Replacer that it is handed is called once. -/
import Derived.Test.YtioaigedcoapcaaGreatDoorOnce
import Derived.Test.YtioaigedcoapcaaGreatDoorFr
namespace Go.Proofs.YtioaigedcoapcaaGreatDoor.On
open Go Go.RowKit Go.Proofs.YtioaigedcoapcaaGreatDoor.Tr
set_option linter.unusedVariables false

/-- What doSlow leaves: what the function left, the Once done, the lock free. -/
def SlowEnd (r : Nat) (P : World → Prop) (e : Ending) (w' : World) : Prop := e = .returned (.tuple #[]) ∧ ∃ w2, P w2 ∧ w' = (w2.setCell ⟨r, 0, none⟩ (.int .u32 1)).drew.setCell ⟨r, 1, none⟩ (.int .i32 0)
set_option maxRecDepth 100000 in
set_option maxHeartbeats 1600000 in
theorem slow_any (r : Nat) (sm iv ov : Value) (w : World) (hb : w.heap[r]? = some (.cells #[.int .u32 0, .int .i32 0, sm, iv, ov] 363 (0, 0)))
    (P : World → Prop) (hP : ∀ w2, P w2 → ∃ iv' ov' : Value, w2.heap[r]? = some (.cells #[.int .u32 0, .int .i32 1, sm, iv', ov'] 363 (0, 0)))
    (hf : Calls Tryz.prog 322 #[.pointer (some ⟨r, 0, none⟩)] (w.setCell ⟨r, 1, none⟩ (.int .i32 1)) fun e w2 => e = .returned (.tuple #[]) ∧ P w2) :
    Calls Tryz.prog 362 #[.pointer (some ⟨r, 0, none⟩), .func (.func 322) #[.pointer (some ⟨r, 0, none⟩)] #[]] w (SlowEnd r P) := by
  have h0 : w.cell? ⟨r, 0, none⟩ = some (.int .u32 0) := by rw [block_cell hb]; rfl
  have h1 : w.cell? ⟨r, 1, none⟩ = some (.int .i32 0) := by rw [block_cell hb]; rfl
  have f0 : w.frozen? ⟨r, 0, none⟩ = false := frozen_of_row w r 0 _ _ hb
  have f1 : w.frozen? ⟨r, 1, none⟩ = false := frozen_of_row w r 1 _ _ hb
  have hl := run_call_load (P := Tryz.prog) Tryz.func395 (by kernel_rfl) (by kernel_rfl) (by kernel_rfl) .u32 (by kernel_rfl) (w := w.setCell ⟨r, 1, none⟩ (.int .i32 1)) (a := ⟨r, 0, none⟩) (x := 0) ((World.cell?_setCell_other _ ⟨r, 1, none⟩ ⟨r, 0, none⟩ _ (by simp)).trans h0)
  have hnot : ∀ (x : Bool) (w : World), (Op.unary .not (.bool x)).run Tryz.prog w = .ok (.bool (!x)) w := fun _ _ => rfl
  have HP := Lib.hid hP
  clear hb hP
  go_enter_defers Tryz.func362, Tryz.ntmps362
  go_wp2_with (first | (go_at_call 396; refine (lock_free ⟨r, 1, none⟩ _ (by go_simp) (by go_simp)).mono ?_; rintro e w' ⟨rfl, rfl⟩) | (go_at_call 361; go_in))
  refine hf.mono ?_
  rintro e w2 ⟨rfl, hp⟩
  obtain ⟨iv', ov', hb2⟩ := HP.out w2 hp
  have d0 : w2.cell? ⟨r, 0, none⟩ = some (.int .u32 0) := by rw [block_cell hb2]; rfl
  have d1 : w2.cell? ⟨r, 1, none⟩ = some (.int .i32 1) := by rw [block_cell hb2]; rfl
  have e0 : w2.frozen? ⟨r, 0, none⟩ = false := frozen_of_row w2 r 0 _ _ hb2
  have e1 : w2.frozen? ⟨r, 1, none⟩ = false := frozen_of_row w2 r 1 _ _ hb2
  clear hb2
  go_wp2
  refine leaves_cons (f := 398) (args := #[.pointer (some ⟨r, 0, none⟩), .bool true]) (by simp) (by simp [go_sem]) ?_
  refine (store_deferred ⟨r, 0, none⟩ (.int .u32 0) .returning _ d0 e0).mono ?_
  rintro e u' w'' ⟨rfl, rfl, rfl⟩
  refine leaves_cons (f := 397) (args := #[.pointer (some ⟨r, 1, none⟩)]) (by simp [settle]) (by simp [go_sem]) ?_
  refine (unlock_deferred ⟨r, 1, none⟩ _ _ ?_ (by simp [e1])).mono ?_
  · exact (World.cell?_setCell_other _ ⟨r, 0, none⟩ ⟨r, 1, none⟩ _ (by simp)).trans d1
  rintro e u' w'' ⟨rfl, rfl, rfl⟩
  simp only [Leaves, settle, results, Tryz.results362]
  simp
  exact ⟨rfl, w2, hp, rfl⟩
/-- Do, not yet done, the lock free. -/
theorem do_first (r : Nat) (sm iv ov : Value) (w : World) (hb : w.heap[r]? = some (.cells #[.int .u32 0, .int .i32 0, sm, iv, ov] 363 (0, 0)))
    (P : World → Prop) (hP : ∀ w2, P w2 → ∃ iv' ov' : Value, w2.heap[r]? = some (.cells #[.int .u32 0, .int .i32 1, sm, iv', ov'] 363 (0, 0)))
    (hf : Calls Tryz.prog 322 #[.pointer (some ⟨r, 0, none⟩)] (w.setCell ⟨r, 1, none⟩ (.int .i32 1)) fun e w2 => e = .returned (.tuple #[]) ∧ P w2) :
    Calls Tryz.prog 321 #[.pointer (some ⟨r, 0, none⟩), .func (.func 322) #[.pointer (some ⟨r, 0, none⟩)] #[]] w (SlowEnd r P) := by
  have h0 : w.cell? ⟨r, 0, none⟩ = some (.int .u32 0) := by rw [block_cell hb]; rfl
  have hl := run_call_load (P := Tryz.prog) Tryz.func395 (by kernel_rfl) (by kernel_rfl) (by kernel_rfl) .u32 (by kernel_rfl) h0
  have hnot : ∀ (x : Bool) (w : World), (Op.unary .not (.bool x)).run Tryz.prog w = .ok (.bool (!x)) w := fun _ _ => rfl
  have H := Lib.hid (slow_any r sm iv ov w hb P hP hf)
  clear hb hP hf
  go_enter Tryz.func321, Tryz.ntmps321
  go_wp2_with (first | (go_at_call 362; refine H.out.mono ?_; rintro e w' ⟨rfl, hx⟩) | (go_at_call 361; go_in))
  go_end0
  exact ⟨rfl, hx⟩
end Go.Proofs.YtioaigedcoapcaaGreatDoor.On
