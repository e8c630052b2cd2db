/- sync.Once's Do, not yet done, the lock free: the function is called, and the Once is done; the parts of its road, each a contract. -/
import Derived.Test.YtbdgoffbkenofaaGreatProg
import Derived.WalkKit
import Derived.Tactics
import Derived.Tactics2
import Derived.Defers
import Derived.Laws.Pointers
import Derived.Laws.LoneSync
import Derived.RegionTactic
import Derived.RegionCalls
import Derived.ChangeAlike
import Derived.Laws.NewBlocks
import Derived.Test.YtbdgoffbkenofaaGreatFrTr
namespace Go.Proofs.YtbdgoffbkenofaaGreat.On
open Go Go.RowKit
set_option linter.unusedVariables false
theorem disable (w : World) : (callFunc 155 #[]).run Tryz.prog w = .ok (.value (.tuple #[])) w := run_call_mark0 Tryz.func155 (by kernel_rfl) (by kernel_rfl) (by kernel_rfl) .disable (by kernel_rfl) w
theorem enable (w : World) : (callFunc 157 #[]).run Tryz.prog w = .ok (.value (.tuple #[])) w := run_call_mark0 Tryz.func157 (by kernel_rfl) (by kernel_rfl) (by kernel_rfl) .enable (by kernel_rfl) w
theorem acquire (a : Addr) (w : World) : (callFunc 158 #[.pointer (some a)]).run Tryz.prog w = .ok (.value (.tuple #[])) w := run_call_marked Tryz.func158 (by kernel_rfl) (by kernel_rfl) (by kernel_rfl) .acquire (by kernel_rfl) a w
theorem releaseMerge (a : Addr) (w : World) : (callFunc 160 #[.pointer (some a)]).run Tryz.prog w = .ok (.value (.tuple #[])) w := run_call_marked Tryz.func160 (by kernel_rfl) (by kernel_rfl) (by kernel_rfl) .releaseMerge (by kernel_rfl) a w
/-- The Bool's Store(true), entered as a deferred call. -/
theorem store_deferred (a : Addr) (x : Value) (u : FrameMode) (w : World) (hc : w.cell? a = some x) (hz : w.frozen? a = false) :
    CallsD Tryz.prog 145 #[.pointer (some a), .bool true] u w fun e u' w' => u' = u ∧ (e = .returned (.tuple #[]) ∧ w' = w.drew.setCell a (.int .u32 1)) := by
  have hc' : w.drew.cell? a = some x := by go_simp
  have hz' : w.drew.frozen? a = false := by go_simp
  have hst := run_call_store (P := Tryz.prog) Tryz.func151 (by kernel_rfl) (by kernel_rfl) (by kernel_rfl) (by kernel_rfl) (k := .u32) (y := 1) hc' hz'
  go_enter_d Tryz.func145, Tryz.ntmps145
  go_wp2
  go_region_calls
  all_goals (go_end0; exact ⟨rfl, rfl⟩)
set_option maxRecDepth 100000 in
/-- Unlock, entered as a deferred call, the lock held, nobody waiting. -/
theorem unlock_deferred (a : Addr) (u : FrameMode) (w : World) (hc : w.cell? a = some (.int .i32 1)) (hz : w.frozen? a = false) :
    CallsD Tryz.prog 144 #[.pointer (some a)] u w fun e u' w' => u' = u ∧ (e = .returned (.tuple #[]) ∧ w' = w.setCell a (.int .i32 0)) := by
  have hd := disable
  have he := enable
  have hr := releaseMerge
  have hadd := run_call_add (P := Tryz.prog) Tryz.func161 (by kernel_rfl) (by kernel_rfl) (by kernel_rfl) .i32 (by kernel_rfl) (y := -1) (s := 0) hc hz (by simp [go_sem]; rfl)
  have hcv := run_convert_to_unsafe (P := Tryz.prog) (src := 186) (dst := 104) Tryz.underlying186 Tryz.underlying104 (by kernel_rfl) hc
  go_enter_d Tryz.func144, Tryz.ntmps144
  go_wp2
  go_end0
  go_wp2
  go_end0
  exact ⟨rfl, rfl⟩
set_option maxRecDepth 100000 in
/-- Lock, the lock free. -/
theorem lock_free (a : Addr) (w : World) (hc : w.cell? a = some (.int .i32 0)) (hz : w.frozen? a = false) :
    Calls Tryz.prog 143 #[.pointer (some a)] w fun e w' => e = .returned (.tuple #[]) ∧ w' = w.setCell a (.int .i32 1) := by
  have hd := disable
  have he := enable
  have ha := acquire
  have hcas := run_call_cas_hit (P := Tryz.prog) Tryz.func156 (by kernel_rfl) (by kernel_rfl) (by kernel_rfl) .i32 (by kernel_rfl) (y := 1) hc hz
  have hc' : (w.setCell a (.int .i32 1)).cell? a = some (.int .i32 1) := World.cell?_setCell_same w a _ hc
  have hcv := run_convert_to_unsafe (P := Tryz.prog) (src := 186) (dst := 104) Tryz.underlying186 Tryz.underlying104 (by kernel_rfl) hc'
  go_enter Tryz.func143, Tryz.ntmps143
  go_wp2
  first | go_end0 | (simp only [Exit.inBlock, Exit.then]; refine bodyPost_ret (results_none rfl _ _ _) rfl ?_) | refine bodyPost_ret (results_none rfl _ _ _) rfl ?_
  go_wp2
  go_end0
  exact ⟨rfl, rfl⟩
end Go.Proofs.YtbdgoffbkenofaaGreat.On
namespace Go.Proofs.YtbdgoffbkenofaaGreat.On
open Go Go.RowKit Go.Proofs.YtbdgoffbkenofaaGreat.Tr
set_option linter.unusedVariables false

/-- What doSlow leaves: what the function left, the Once done, the lock free. -/
def SlowEnd (r : Nat) (P : World → Prop) (e : Ending) (w' : World) : Prop := e = .returned (.tuple #[]) ∧ ∃ w2, P w2 ∧ w' = (w2.setCell ⟨r, 0, none⟩ (.int .u32 1)).drew.setCell ⟨r, 1, none⟩ (.int .i32 0)
set_option maxRecDepth 100000 in
set_option maxHeartbeats 1600000 in
theorem slow_any (r : Nat) (sm iv ov : Value) (w : World) (hb : w.heap[r]? = some (.cells #[.int .u32 0, .int .i32 0, sm, iv, ov] 134 (0, 0)))
    (P : World → Prop) (hP : ∀ w2, P w2 → ∃ iv' ov' : Value, w2.heap[r]? = some (.cells #[.int .u32 0, .int .i32 1, sm, iv', ov'] 134 (0, 0)))
    (hf : Calls Tryz.prog 124 #[.pointer (some ⟨r, 0, none⟩)] (w.setCell ⟨r, 1, none⟩ (.int .i32 1)) fun e w2 => e = .returned (.tuple #[]) ∧ P w2) :
    Calls Tryz.prog 135 #[.pointer (some ⟨r, 0, none⟩), .func (.func 124) #[.pointer (some ⟨r, 0, none⟩)] #[]] w (SlowEnd r P) := by
  have h0 : w.cell? ⟨r, 0, none⟩ = some (.int .u32 0) := by rw [block_cell hb]; rfl
  have h1 : w.cell? ⟨r, 1, none⟩ = some (.int .i32 0) := by rw [block_cell hb]; rfl
  have f0 : w.frozen? ⟨r, 0, none⟩ = false := frozen_of_row w r 0 _ _ hb
  have f1 : w.frozen? ⟨r, 1, none⟩ = false := frozen_of_row w r 1 _ _ hb
  have hl := run_call_load (P := Tryz.prog) Tryz.func142 (by kernel_rfl) (by kernel_rfl) (by kernel_rfl) .u32 (by kernel_rfl) (w := w.setCell ⟨r, 1, none⟩ (.int .i32 1)) (a := ⟨r, 0, none⟩) (x := 0) ((World.cell?_setCell_other _ ⟨r, 1, none⟩ ⟨r, 0, none⟩ _ (by simp)).trans h0)
  have hnot : ∀ (x : Bool) (w : World), (Op.unary .not (.bool x)).run Tryz.prog w = .ok (.bool (!x)) w := fun _ _ => rfl
  have HP := Lib.hid hP
  clear hb hP
  go_enter_defers Tryz.func135, Tryz.ntmps135
  go_wp2_with (first | (go_at_call 143; refine (lock_free ⟨r, 1, none⟩ _ (by go_simp) (by go_simp)).mono ?_; rintro e w' ⟨rfl, rfl⟩) | (go_at_call 134; go_in))
  refine hf.mono ?_
  rintro e w2 ⟨rfl, hp⟩
  obtain ⟨iv', ov', hb2⟩ := HP.out w2 hp
  have d0 : w2.cell? ⟨r, 0, none⟩ = some (.int .u32 0) := by rw [block_cell hb2]; rfl
  have d1 : w2.cell? ⟨r, 1, none⟩ = some (.int .i32 1) := by rw [block_cell hb2]; rfl
  have e0 : w2.frozen? ⟨r, 0, none⟩ = false := frozen_of_row w2 r 0 _ _ hb2
  have e1 : w2.frozen? ⟨r, 1, none⟩ = false := frozen_of_row w2 r 1 _ _ hb2
  clear hb2
  go_wp2
  refine leaves_cons (f := 145) (args := #[.pointer (some ⟨r, 0, none⟩), .bool true]) (by simp) (by simp [go_sem]) ?_
  refine (store_deferred ⟨r, 0, none⟩ (.int .u32 0) .returning _ d0 e0).mono ?_
  rintro e u' w'' ⟨rfl, rfl, rfl⟩
  refine leaves_cons (f := 144) (args := #[.pointer (some ⟨r, 1, none⟩)]) (by simp [settle]) (by simp [go_sem]) ?_
  refine (unlock_deferred ⟨r, 1, none⟩ _ _ ?_ (by simp [e1])).mono ?_
  · exact (World.cell?_setCell_other _ ⟨r, 0, none⟩ ⟨r, 1, none⟩ _ (by simp)).trans d1
  rintro e u' w'' ⟨rfl, rfl, rfl⟩
  simp only [Leaves, settle, results, Tryz.results135]
  simp
  exact ⟨rfl, w2, hp, rfl⟩
/-- Do, not yet done, the lock free. -/
theorem do_first (r : Nat) (sm iv ov : Value) (w : World) (hb : w.heap[r]? = some (.cells #[.int .u32 0, .int .i32 0, sm, iv, ov] 134 (0, 0)))
    (P : World → Prop) (hP : ∀ w2, P w2 → ∃ iv' ov' : Value, w2.heap[r]? = some (.cells #[.int .u32 0, .int .i32 1, sm, iv', ov'] 134 (0, 0)))
    (hf : Calls Tryz.prog 124 #[.pointer (some ⟨r, 0, none⟩)] (w.setCell ⟨r, 1, none⟩ (.int .i32 1)) fun e w2 => e = .returned (.tuple #[]) ∧ P w2) :
    Calls Tryz.prog 123 #[.pointer (some ⟨r, 0, none⟩), .func (.func 124) #[.pointer (some ⟨r, 0, none⟩)] #[]] w (SlowEnd r P) := by
  have h0 : w.cell? ⟨r, 0, none⟩ = some (.int .u32 0) := by rw [block_cell hb]; rfl
  have hl := run_call_load (P := Tryz.prog) Tryz.func142 (by kernel_rfl) (by kernel_rfl) (by kernel_rfl) .u32 (by kernel_rfl) h0
  have hnot : ∀ (x : Bool) (w : World), (Op.unary .not (.bool x)).run Tryz.prog w = .ok (.bool (!x)) w := fun _ _ => rfl
  have H := Lib.hid (slow_any r sm iv ov w hb P hP hf)
  clear hb hP hf
  go_enter Tryz.func123, Tryz.ntmps123
  go_wp2_with (first | (go_at_call 135; refine H.out.mono ?_; rintro e w' ⟨rfl, hx⟩) | (go_at_call 134; go_in))
  go_end0
  exact ⟨rfl, hx⟩
end Go.Proofs.YtbdgoffbkenofaaGreat.On
