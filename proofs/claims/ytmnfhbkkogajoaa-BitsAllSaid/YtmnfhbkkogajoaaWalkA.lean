/- The law BitsAll, walked. -/
import Derived.Test.YtmnfhbkkogajoaaByt
import Derived.Deep.RegionHeld3
import Derived.Laws.BytesArg
namespace Go.Proofs.Ytmnfhbkkogajoaa.Wk
open Go Go.RowKit Go.Proofs.Ytmnfhbkkogajoaa.Pl Go.Proofs.Ytmnfhbkkogajoaa.Ct

/-- The eight bytes as a text. -/
def str8 (x : BitVec 64) : ByteArray := strOfNums [byt x 0, byt x 1, byt x 2, byt x 3, byt x 4, byt x 5, byt x 6, byt x 7]
theorem conv8 (x : BitVec 64) (w : World) (b cap : Nat) (h : ∀ j v, (cells8 x)[j]? = some v → w.cell? ⟨b, j, none⟩ = some v) :
    (convert 40 9 (.slice (some ⟨b, 0, none⟩) 8 cap)).run Try.prog w = .ok (.string (str8 x)) w := by
  refine run_convert_bytes_arg w 40 5 Try.underlying40 Try.underlying5 b 0 8 cap [byt x 0, byt x 1, byt x 2, byt x 3, byt x 4, byt x 5, byt x 6, byt x 7] rfl ?_ 9 Try.underlying9
  intro i hi
  rw [Nat.zero_add]
  apply h
  rw [byt_cells]
  match i, hi with
  | 0, _ => rfl
  | 1, _ => rfl
  | 2, _ => rfl
  | 3, _ => rfl
  | 4, _ => rfl
  | 5, _ => rfl
  | 6, _ => rfl
  | 7, _ => rfl
theorem cells_at (x : BitVec 64) (w : World) (b : Nat) (h0 : w.cell? ⟨b, 0, none⟩ = some (.int .u8 (byt x 0))) (h1 : w.cell? ⟨b, 1, none⟩ = some (.int .u8 (byt x 1))) (h2 : w.cell? ⟨b, 2, none⟩ = some (.int .u8 (byt x 2))) (h3 : w.cell? ⟨b, 3, none⟩ = some (.int .u8 (byt x 3))) (h4 : w.cell? ⟨b, 4, none⟩ = some (.int .u8 (byt x 4))) (h5 : w.cell? ⟨b, 5, none⟩ = some (.int .u8 (byt x 5))) (h6 : w.cell? ⟨b, 6, none⟩ = some (.int .u8 (byt x 6))) (h7 : w.cell? ⟨b, 7, none⟩ = some (.int .u8 (byt x 7))) : ∀ j v, (cells8 x)[j]? = some v → w.cell? ⟨b, j, none⟩ = some v := by
  intro j v h
  rw [byt_cells] at h
  match j, h with
  | 0, h => simp at h; rw [← h]; exact h0
  | 1, h => simp at h; rw [← h]; exact h1
  | 2, h => simp at h; rw [← h]; exact h2
  | 3, h => simp at h; rw [← h]; exact h3
  | 4, h => simp at h; rw [← h]; exact h4
  | 5, h => simp at h; rw [← h]; exact h5
  | 6, h => simp at h; rw [← h]; exact h6
  | 7, h => simp at h; rw [← h]; exact h7
  | n + 8, h => simp at h
theorem cells_made (x : BitVec 64) (w : World) : ∀ j v, (cells8 x)[j]? = some v → ((w.alloc (.cells #[.int .u8 (byt x 0), .int .u8 (byt x 1), .int .u8 (byt x 2), .int .u8 (byt x 3), .int .u8 (byt x 4), .int .u8 (byt x 5), .int .u8 (byt x 6), .int .u8 (byt x 7)] 36)).drew).cell? ⟨w.heap.size, j, none⟩ = some v :=
  cells_at x _ _ (by go_cell) (by go_cell) (by go_cell) (by go_cell) (by go_cell) (by go_cell) (by go_cell) (by go_cell)
theorem made_kept (x : BitVec 64) {w w' : World} (h : Below ((w.alloc (.cells #[.int .u8 (byt x 0), .int .u8 (byt x 1), .int .u8 (byt x 2), .int .u8 (byt x 3), .int .u8 (byt x 4), .int .u8 (byt x 5), .int .u8 (byt x 6), .int .u8 (byt x 7)] 36)).drew).heap.size ((w.alloc (.cells #[.int .u8 (byt x 0), .int .u8 (byt x 1), .int .u8 (byt x 2), .int .u8 (byt x 3), .int .u8 (byt x 4), .int .u8 (byt x 5), .int .u8 (byt x 6), .int .u8 (byt x 7)] 36)).drew) w') :
    ∀ j v, (cells8 x)[j]? = some v → w'.cell? ⟨w.heap.size, j, none⟩ = some v :=
  fun j v hj => (h.cell (p := ⟨w.heap.size, j, none⟩) (by simp)).trans (cells_made x w j v hj)
theorem made_new {W w w' : World} {o : Obj} (h : Below W.heap.size W w) (k : Below ((w.alloc o).drew).heap.size ((w.alloc o).drew) w') : Below W.heap.size W w' :=
  (((h.alloc h.size o).drew).trans (k.mono (Nat.le_trans h.size (by simp))))
theorem kept_on (x : BitVec 64) {w w' : World} {b : Nat} (h : Below w.heap.size w w') (hb : b < w.heap.size) (k : ∀ j v, (cells8 x)[j]? = some v → w.cell? ⟨b, j, none⟩ = some v) :
    ∀ j v, (cells8 x)[j]? = some v → w'.cell? ⟨b, j, none⟩ = some v :=
  fun j v hj => (h.cell (p := ⟨b, j, none⟩) hb).trans (k j v hj)
theorem lt_made {w w' : World} {o : Obj} (h : Below ((w.alloc o).drew).heap.size ((w.alloc o).drew) w') : w.heap.size < w'.heap.size := by
  have := h.size; simp at this; omega
theorem made_eight (x : BitVec 64) {w : World} {b : Nat} (h : ∀ j v, (cells8 x)[j]? = some v → w.cell? ⟨b, j, none⟩ = some v) :
    w.cell? ⟨b, 0, none⟩ = some (.int .u8 (byt x 0)) ∧ w.cell? ⟨b, 1, none⟩ = some (.int .u8 (byt x 1)) ∧ w.cell? ⟨b, 2, none⟩ = some (.int .u8 (byt x 2)) ∧ w.cell? ⟨b, 3, none⟩ = some (.int .u8 (byt x 3)) ∧ w.cell? ⟨b, 4, none⟩ = some (.int .u8 (byt x 4)) ∧ w.cell? ⟨b, 5, none⟩ = some (.int .u8 (byt x 5)) ∧ w.cell? ⟨b, 6, none⟩ = some (.int .u8 (byt x 6)) ∧ w.cell? ⟨b, 7, none⟩ = some (.int .u8 (byt x 7)) :=
  ⟨h 0 _ (by rw [byt_cells]; rfl), h 1 _ (by rw [byt_cells]; rfl), h 2 _ (by rw [byt_cells]; rfl), h 3 _ (by rw [byt_cells]; rfl), h 4 _ (by rw [byt_cells]; rfl), h 5 _ (by rw [byt_cells]; rfl), h 6 _ (by rw [byt_cells]; rfl), h 7 _ (by rw [byt_cells]; rfl)⟩
theorem kept_all (x : BitVec 64) {w w' : World} {b : Nat} (h : Below w.heap.size w w') (hb : b < w.heap.size) (k : w.cell? ⟨b, 0, none⟩ = some (.int .u8 (byt x 0)) ∧ w.cell? ⟨b, 1, none⟩ = some (.int .u8 (byt x 1)) ∧ w.cell? ⟨b, 2, none⟩ = some (.int .u8 (byt x 2)) ∧ w.cell? ⟨b, 3, none⟩ = some (.int .u8 (byt x 3)) ∧ w.cell? ⟨b, 4, none⟩ = some (.int .u8 (byt x 4)) ∧ w.cell? ⟨b, 5, none⟩ = some (.int .u8 (byt x 5)) ∧ w.cell? ⟨b, 6, none⟩ = some (.int .u8 (byt x 6)) ∧ w.cell? ⟨b, 7, none⟩ = some (.int .u8 (byt x 7))) : w'.cell? ⟨b, 0, none⟩ = some (.int .u8 (byt x 0)) ∧ w'.cell? ⟨b, 1, none⟩ = some (.int .u8 (byt x 1)) ∧ w'.cell? ⟨b, 2, none⟩ = some (.int .u8 (byt x 2)) ∧ w'.cell? ⟨b, 3, none⟩ = some (.int .u8 (byt x 3)) ∧ w'.cell? ⟨b, 4, none⟩ = some (.int .u8 (byt x 4)) ∧ w'.cell? ⟨b, 5, none⟩ = some (.int .u8 (byt x 5)) ∧ w'.cell? ⟨b, 6, none⟩ = some (.int .u8 (byt x 6)) ∧ w'.cell? ⟨b, 7, none⟩ = some (.int .u8 (byt x 7)) :=
  made_eight x (kept_on x h hb (cells_at x w b k.1 k.2.1 k.2.2.1 k.2.2.2.1 k.2.2.2.2.1 k.2.2.2.2.2.1 k.2.2.2.2.2.2.1 k.2.2.2.2.2.2.2))
theorem own_cells (x : BitVec 64) {w : World} {B e g cap : Nat} (h : w.ownsRow B e 1 (.slice (some ⟨g, 0, none⟩) 8 cap) 8 (cells8 x)) : ∀ j v, (cells8 x)[j]? = some v → w.cell? ⟨g, j, none⟩ = some v := by
  intro j v hj
  have hl : j < (cells8 x).length := by
    rcases Nat.lt_or_ge j (cells8 x).length with h | h
    · exact h
    · rw [List.getElem?_eq_none h] at hj; cases hj
  rw [cells8_len] at hl
  rw [h.cellAt j (by omega)]; exact hj
theorem low_and (x : BitVec 64) : bits .and .u64 (un x) 4294967295 = un x % 4294967296 := by
  have h0 := un_nonneg x
  have e : (4294967295 : Int) = un 4294967295#64 := by unfold un; rfl
  rw [e, b_and]
  unfold un
  rw [BitVec.toNat_and, show (4294967295#64).toNat = 2 ^ 32 - 1 from rfl, Nat.and_two_pow_sub_one_eq_mod]
  omega
theorem below_all {w w1 w2 w3 : World} {o : Obj} (hb1 : Below w.heap.size w w1) (hb2 : Below (w1.alloc o).drew.heap.size (w1.alloc o).drew w2) (hb3 : Below w2.heap.size w2 w3) : Below w.heap.size w w3 := by
  have hD := (hb1.alloc hb1.size o).drew
  have hE := hD.trans (hb2.mono hD.size)
  exact hE.trans (hb3.mono hE.size)
set_option maxHeartbeats 8000000 in
theorem bitsAll (a0 a1 a2 : Int) (w0 : (Lit.int .u64 a0).wf = true) (w1 : (Lit.int .u64 a1).wf = true) (w2 : (Lit.int .i64 a2).wf = true) (w : World) :
    Calls Try.prog 9 #[.int .u64 a0, .int .u64 a1, .int .i64 a2] w fun e w' => e = .returned (.bool true) ∧ Below w.heap.size w w' := by
  have b2 := bounds_i64 w2
  obtain ⟨x, rfl⟩ := un_of w0
  obtain ⟨y, rfl⟩ := un_of w1
  clear w0 w1 w2
  go_enter Try.func9, Try.ntmps9
  go_wp2_with fail
  refine (bytes_byt x _).mono ?_
  rintro e w1 ⟨rfl, hb1⟩
  have u0 := un_nonneg x
  have u1 := un_le x
  have hm := low_and x
  have hw1 : IntKind.u32.wrap (un x % 4294967296) = un x % 4294967296 := by rw [show IntKind.u32.wrap = fun n : Int => n % 4294967296 from funext fun n => by simp [IntKind.wrap, IntKind.bits, IntKind.signed]]; show _ % _ = _; omega
  have hw2 : IntKind.u32.wrap (un x / 4294967296) = un x / 4294967296 := by rw [show IntKind.u32.wrap = fun n : Int => n % 4294967296 from funext fun n => by simp [IntKind.wrap, IntKind.bits, IntKind.signed]]; show _ % _ = _; omega
  have kk : ∀ w', w'.cell? ⟨w1.heap.size, 0, none⟩ = some (.int .u8 (byt x 0)) → w'.cell? ⟨w1.heap.size, 1, none⟩ = some (.int .u8 (byt x 1)) → w'.cell? ⟨w1.heap.size, 2, none⟩ = some (.int .u8 (byt x 2)) → w'.cell? ⟨w1.heap.size, 3, none⟩ = some (.int .u8 (byt x 3)) → w'.cell? ⟨w1.heap.size, 4, none⟩ = some (.int .u8 (byt x 4)) → w'.cell? ⟨w1.heap.size, 5, none⟩ = some (.int .u8 (byt x 5)) → w'.cell? ⟨w1.heap.size, 6, none⟩ = some (.int .u8 (byt x 6)) → w'.cell? ⟨w1.heap.size, 7, none⟩ = some (.int .u8 (byt x 7)) → (convert 40 9 (.slice (some ⟨w1.heap.size, 0, none⟩) 8 8)).run Try.prog w' = .ok (.string (str8 x)) w' :=
    fun w' h0 h1 h2 h3 h4 h5 h6 h7 => conv8 x w' w1.heap.size 8 (cells_at x w' _ h0 h1 h2 h3 h4 h5 h6 h7)
  go_wp2_with fail
  refine wp_region_noPanic ?_
  refine wp_region_held_drew (S := (fun w' => w'.cell? ⟨w1.heap.size, 0, none⟩ = some (.int .u8 (byt x 0)) ∧ w'.cell? ⟨w1.heap.size, 1, none⟩ = some (.int .u8 (byt x 1)) ∧ w'.cell? ⟨w1.heap.size, 2, none⟩ = some (.int .u8 (byt x 2)) ∧ w'.cell? ⟨w1.heap.size, 3, none⟩ = some (.int .u8 (byt x 3)) ∧ w'.cell? ⟨w1.heap.size, 4, none⟩ = some (.int .u8 (byt x 4)) ∧ w'.cell? ⟨w1.heap.size, 5, none⟩ = some (.int .u8 (byt x 5)) ∧ w'.cell? ⟨w1.heap.size, 6, none⟩ = some (.int .u8 (byt x 6)) ∧ w'.cell? ⟨w1.heap.size, 7, none⟩ = some (.int .u8 (byt x 7)))) (by kernel_rfl) ?_ (fun h0 => ?_)
  · (first | go_keep | (exact kept_all x (by assumption) (by first | assumption | simp) (by assumption)))
  refine wpAnyH_take (i := 0) (oi := _) (v := ?v0) (by simp only [List.getElem?_toArray, List.getElem?_cons_zero]; rfl) (by kernel_rfl) (by kernel_rfl) (by kernel_rfl) (fun _ _ _ h => h) (Or.inl ⟨by rfl, ?y0⟩) (by assumption) ?r0
  case y0 => (intro w hSw; (try dsimp only at hSw); go_simp <;> with_reducible rfl)
  try simp only [Act.put, List.setIfInBounds_toArray, List.set_cons_zero, List.set_cons_succ]
  refine wpAnyH_take (i := 1) (oi := _) (v := ?v1) (by simp only [List.getElem?_toArray, List.getElem?_cons_zero, List.getElem?_cons_succ]; rfl) (by kernel_rfl) (by kernel_rfl) (by kernel_rfl) (fun _ _ _ h => h) (Or.inl ⟨by rfl, ?y1⟩) (by assumption) ?r1
  case y1 => (intro w hSw; (try dsimp only at hSw); go_simp <;> with_reducible rfl)
  try simp only [Act.put, List.setIfInBounds_toArray, List.set_cons_zero, List.set_cons_succ]
  refine wpAnyH_take (i := 3) (oi := _) (v := ?v3) (by simp only [List.getElem?_toArray, List.getElem?_cons_zero, List.getElem?_cons_succ]; rfl) (by kernel_rfl) (by kernel_rfl) (by kernel_rfl) (fun _ _ _ h => h) (Or.inl ⟨by rfl, ?y3⟩) (by assumption) ?r3
  case y3 => (intro w hSw; (try dsimp only at hSw); go_simp <;> with_reducible rfl)
  try simp only [Act.put, List.setIfInBounds_toArray, List.set_cons_zero, List.set_cons_succ]
  refine wpAnyH_take (i := 4) (oi := _) (v := ?v4) (by simp only [List.getElem?_toArray, List.getElem?_cons_zero, List.getElem?_cons_succ]; rfl) (by kernel_rfl) (by kernel_rfl) (by kernel_rfl) (fun _ _ _ h => h) (Or.inl ⟨by rfl, ?y4⟩) (by assumption) ?r4
  case y4 => (intro w hSw; (try dsimp only at hSw); go_simp <;> with_reducible rfl)
  try simp only [Act.put, List.setIfInBounds_toArray, List.set_cons_zero, List.set_cons_succ]
  refine wpAnyH_ready (rs := [2]) (by kernel_rfl) (by simp) ?_
  refine AllReadyH.cons (o := _) (by simp only [List.getElem?_toArray, List.getElem?_cons_zero, List.getElem?_cons_succ]; rfl) (fun K hK => ?_) AllReadyH.nil
  go_simp
  go_at_call 13
  (with_reducible refine (turn_calls _ x rfl a2 _).mono ?_)
  rintro e w' ⟨rfl, rfl⟩
  go_wp2_with fail
  refine hK.out _ _ ?_ (fun h1 => ?_)
  · (first | go_keep | (exact kept_all x (by assumption) (by first | assumption | simp) (by assumption)))
  clear hK K h0
  try simp only [Act.put, List.setIfInBounds_toArray, List.set_cons_zero, List.set_cons_succ]
  refine wpAnyH_ready (rs := [5]) (by kernel_rfl) (by simp) ?_
  refine AllReadyH.cons (o := _) (by simp only [List.getElem?_toArray, List.getElem?_cons_zero, List.getElem?_cons_succ]; rfl) (fun K hK => ?_) AllReadyH.nil
  go_simp
  go_at_call 20
  (with_reducible refine (rturn_calls x a2 b2.1 b2.2 _).mono ?_)
  rintro e w' ⟨rfl, rfl⟩
  go_wp2_with fail
  refine hK.out _ _ ?_ (fun h2 => ?_)
  · (first | go_keep | (exact kept_all x (by assumption) (by first | assumption | simp) (by assumption)))
  clear hK K h1
  try simp only [Act.put, List.setIfInBounds_toArray, List.set_cons_zero, List.set_cons_succ]
  refine wpAnyH_take (i := 6) (oi := _) (v := ?v6) (by simp only [List.getElem?_toArray, List.getElem?_cons_zero, List.getElem?_cons_succ]; rfl) (by kernel_rfl) (by kernel_rfl) (by kernel_rfl) (fun _ _ _ h => h) (Or.inl ⟨by rfl, ?y6⟩) (by assumption) ?r6
  case y6 => (intro w hSw; (try dsimp only at hSw); go_simp <;> with_reducible rfl)
  try simp only [Act.put, List.setIfInBounds_toArray, List.set_cons_zero, List.set_cons_succ]
  refine wpAnyH_take (i := 7) (oi := _) (v := ?v7) (by simp only [List.getElem?_toArray, List.getElem?_cons_zero, List.getElem?_cons_succ]; rfl) (by kernel_rfl) (by kernel_rfl) (by kernel_rfl) (fun _ _ _ h => h) (Or.inl ⟨by rfl, ?y7⟩) (by assumption) ?r7
  case y7 => (intro w hSw; (try dsimp only at hSw); go_simp <;> with_reducible rfl)
  try simp only [Act.put, List.setIfInBounds_toArray, List.set_cons_zero, List.set_cons_succ]
  refine wpAnyH_take (i := 8) (oi := _) (v := ?v8) (by simp only [List.getElem?_toArray, List.getElem?_cons_zero, List.getElem?_cons_succ]; rfl) (by kernel_rfl) (by kernel_rfl) (by kernel_rfl) (fun _ _ _ h => h) (Or.inl ⟨by rfl, ?y8⟩) (by assumption) ?r8
  case y8 => (intro w hSw; (try dsimp only at hSw); go_simp <;> with_reducible rfl)
  try simp only [Act.put, List.setIfInBounds_toArray, List.set_cons_zero, List.set_cons_succ]
  refine wpAnyH_take (i := 9) (oi := _) (v := ?v9) (by simp only [List.getElem?_toArray, List.getElem?_cons_zero, List.getElem?_cons_succ]; rfl) (by kernel_rfl) (by kernel_rfl) (by kernel_rfl) (fun _ _ _ h => h) (Or.inl ⟨by rfl, ?y9⟩) (by assumption) ?r9
  case y9 => (intro w hSw; (try dsimp only at hSw); go_simp <;> with_reducible rfl)
  try simp only [Act.put, List.setIfInBounds_toArray, List.set_cons_zero, List.set_cons_succ]
  refine wpAnyH_take (i := 11) (oi := _) (v := ?v11) (by simp only [List.getElem?_toArray, List.getElem?_cons_zero, List.getElem?_cons_succ]; rfl) (by kernel_rfl) (by kernel_rfl) (by kernel_rfl) (fun _ _ _ h => h) (Or.inl ⟨by rfl, ?y11⟩) (by assumption) ?r11
  case y11 => (intro w hSw; (try dsimp only at hSw); go_simp <;> with_reducible rfl)
  try simp only [Act.put, List.setIfInBounds_toArray, List.set_cons_zero, List.set_cons_succ]
  refine wpAnyH_take (i := 12) (oi := _) (v := ?v12) (by simp only [List.getElem?_toArray, List.getElem?_cons_zero, List.getElem?_cons_succ]; rfl) (by kernel_rfl) (by kernel_rfl) (by kernel_rfl) (fun _ _ _ h => h) (Or.inl ⟨by rfl, ?y12⟩) (by assumption) ?r12
  case y12 => (intro w hSw; (try dsimp only at hSw); go_simp <;> with_reducible rfl)
  try simp only [Act.put, List.setIfInBounds_toArray, List.set_cons_zero, List.set_cons_succ]
  refine wpAnyH_ready (rs := [10]) (by kernel_rfl) (by simp) ?_
  refine AllReadyH.cons (o := _) (by simp only [List.getElem?_toArray, List.getElem?_cons_zero, List.getElem?_cons_succ]; rfl) (fun K hK => ?_) AllReadyH.nil
  go_simp
  go_at_call 17
  (with_reducible refine (mix_calls x y _ _ rfl rfl _).mono ?_)
  rintro e w' ⟨rfl, rfl⟩
  go_wp2_with fail
  refine hK.out _ _ ?_ (fun h3 => ?_)
  · (first | go_keep | (exact kept_all x (by assumption) (by first | assumption | simp) (by assumption)))
  clear hK K h2
  try simp only [Act.put, List.setIfInBounds_toArray, List.set_cons_zero, List.set_cons_succ]
  refine wpAnyH_ready (rs := [13]) (by kernel_rfl) (by simp) ?_
  refine AllReadyH.cons (o := _) (by simp only [List.getElem?_toArray, List.getElem?_cons_zero, List.getElem?_cons_succ]; rfl) (fun K hK => ?_) AllReadyH.nil
  go_simp
  go_at_call 21
  (with_reducible refine (rmix_calls x y _).mono ?_)
  rintro e w' ⟨rfl, rfl⟩
  go_wp2_with fail
  refine hK.out _ _ ?_ (fun h4 => ?_)
  · (first | go_keep | (exact kept_all x (by assumption) (by first | assumption | simp) (by assumption)))
  clear hK K h3
  try simp only [Act.put, List.setIfInBounds_toArray, List.set_cons_zero, List.set_cons_succ]
  refine wpAnyH_take (i := 14) (oi := _) (v := ?v14) (by simp only [List.getElem?_toArray, List.getElem?_cons_zero, List.getElem?_cons_succ]; rfl) (by kernel_rfl) (by kernel_rfl) (by kernel_rfl) (fun _ _ _ h => h) (Or.inl ⟨by rfl, ?y14⟩) (by assumption) ?r14
  case y14 => (intro w hSw; (try dsimp only at hSw); go_simp <;> with_reducible rfl)
  try simp only [Act.put, List.setIfInBounds_toArray, List.set_cons_zero, List.set_cons_succ]
  refine wpAnyH_take (i := 15) (oi := _) (v := ?v15) (by simp only [List.getElem?_toArray, List.getElem?_cons_zero, List.getElem?_cons_succ]; rfl) (by kernel_rfl) (by kernel_rfl) (by kernel_rfl) (fun _ _ _ h => h) (Or.inl ⟨by rfl, ?y15⟩) (by assumption) ?r15
  case y15 => (intro w hSw; (try dsimp only at hSw); go_simp <;> with_reducible rfl)
  try simp only [Act.put, List.setIfInBounds_toArray, List.set_cons_zero, List.set_cons_succ]
  refine wpAnyH_take (i := 16) (oi := _) (v := ?v16) (by simp only [List.getElem?_toArray, List.getElem?_cons_zero, List.getElem?_cons_succ]; rfl) (by kernel_rfl) (by kernel_rfl) (by kernel_rfl) (fun _ _ _ h => h) (Or.inl ⟨by rfl, ?y16⟩) (by assumption) ?r16
  case y16 => (intro w hSw; (try dsimp only at hSw); go_simp <;> with_reducible rfl)
  try simp only [Act.put, List.setIfInBounds_toArray, List.set_cons_zero, List.set_cons_succ]
  refine wpAnyH_take (i := 17) (oi := _) (v := ?v17) (by simp only [List.getElem?_toArray, List.getElem?_cons_zero, List.getElem?_cons_succ]; rfl) (by kernel_rfl) (by kernel_rfl) (by kernel_rfl) (fun _ _ _ h => h) (Or.inl ⟨by rfl, ?y17⟩) (by assumption) ?r17
  case y17 => (intro w hSw; (try dsimp only at hSw); go_simp <;> with_reducible rfl)
  try simp only [Act.put, List.setIfInBounds_toArray, List.set_cons_zero, List.set_cons_succ]
  refine wpAnyH_take (i := 18) (oi := _) (v := ?v18) (by simp only [List.getElem?_toArray, List.getElem?_cons_zero, List.getElem?_cons_succ]; rfl) (by kernel_rfl) (by kernel_rfl) (by kernel_rfl) (fun _ _ _ h => h) (Or.inl ⟨by rfl, ?y18⟩) (by assumption) ?r18
  case y18 => (intro w hSw; (try dsimp only at hSw); go_simp <;> with_reducible rfl)
  try simp only [Act.put, List.setIfInBounds_toArray, List.set_cons_zero, List.set_cons_succ]
  refine wpAnyH_take (i := 20) (oi := _) (v := ?v20) (by simp only [List.getElem?_toArray, List.getElem?_cons_zero, List.getElem?_cons_succ]; rfl) (by kernel_rfl) (by kernel_rfl) (by kernel_rfl) (fun _ _ _ h => h) (Or.inl ⟨by rfl, ?y20⟩) (by assumption) ?r20
  case y20 => (intro w hSw; (try dsimp only at hSw); go_simp <;> with_reducible rfl)
  try simp only [Act.put, List.setIfInBounds_toArray, List.set_cons_zero, List.set_cons_succ]
  refine wpAnyH_take (i := 21) (oi := _) (v := ?v21) (by simp only [List.getElem?_toArray, List.getElem?_cons_zero, List.getElem?_cons_succ]; rfl) (by kernel_rfl) (by kernel_rfl) (by kernel_rfl) (fun _ _ _ h => h) (Or.inl ⟨by rfl, ?y21⟩) (by assumption) ?r21
  case y21 => (intro w hSw; (try dsimp only at hSw); go_simp <;> with_reducible rfl)
  try simp only [Act.put, List.setIfInBounds_toArray, List.set_cons_zero, List.set_cons_succ]
  refine wpAnyH_ready (rs := [19]) (by kernel_rfl) (by simp) ?_
  refine AllReadyH.cons (o := _) (by simp only [List.getElem?_toArray, List.getElem?_cons_zero, List.getElem?_cons_succ]; rfl) (fun K hK => ?_) AllReadyH.nil
  go_simp
  go_at_call 11
  (with_reducible refine (signed_calls _ x rfl a2 _).mono ?_)
  rintro e w' ⟨rfl, rfl⟩
  go_wp2_with fail
  refine hK.out _ _ ?_ (fun h5 => ?_)
  · (first | go_keep | (exact kept_all x (by assumption) (by first | assumption | simp) (by assumption)))
  clear hK K h4
  try simp only [Act.put, List.setIfInBounds_toArray, List.set_cons_zero, List.set_cons_succ]
  refine wpAnyH_ready (rs := [22]) (by kernel_rfl) (by simp) ?_
  refine AllReadyH.cons (o := _) (by simp only [List.getElem?_toArray, List.getElem?_cons_zero, List.getElem?_cons_succ]; rfl) (fun K hK => ?_) AllReadyH.nil
  go_simp
  go_at_call 22
  (with_reducible refine (rsigned_calls x a2 _).mono ?_)
  rintro e w' ⟨rfl, rfl⟩
  go_wp2_with fail
  refine hK.out _ _ ?_ (fun h6 => ?_)
  · (first | go_keep | (exact kept_all x (by assumption) (by first | assumption | simp) (by assumption)))
  clear hK K h5
  try simp only [Act.put, List.setIfInBounds_toArray, List.set_cons_zero, List.set_cons_succ]
  refine wpAnyH_take (i := 23) (oi := _) (v := ?v23) (by simp only [List.getElem?_toArray, List.getElem?_cons_zero, List.getElem?_cons_succ]; rfl) (by kernel_rfl) (by kernel_rfl) (by kernel_rfl) (fun _ _ _ h => h) (Or.inl ⟨by rfl, ?y23⟩) (by assumption) ?r23
  case y23 => (intro w hSw; (try dsimp only at hSw); go_simp <;> with_reducible rfl)
  try simp only [Act.put, List.setIfInBounds_toArray, List.set_cons_zero, List.set_cons_succ]
  refine wpAnyH_take (i := 24) (oi := _) (v := ?v24) (by simp only [List.getElem?_toArray, List.getElem?_cons_zero, List.getElem?_cons_succ]; rfl) (by kernel_rfl) (by kernel_rfl) (by kernel_rfl) (fun _ _ _ h => h) (Or.inl ⟨by rfl, ?y24⟩) (by assumption) ?r24
  case y24 => (intro w hSw; (try dsimp only at hSw); go_simp <;> with_reducible rfl)
  try simp only [Act.put, List.setIfInBounds_toArray, List.set_cons_zero, List.set_cons_succ]
  refine wpAnyH_take (i := 25) (oi := _) (v := ?v25) (by simp only [List.getElem?_toArray, List.getElem?_cons_zero, List.getElem?_cons_succ]; rfl) (by kernel_rfl) (by kernel_rfl) (by kernel_rfl) (fun _ _ _ h => h) (Or.inl ⟨by rfl, ?y25⟩) (by assumption) ?r25
  case y25 => (intro w hSw; (try dsimp only at hSw); go_simp <;> with_reducible rfl)
  try simp only [Act.put, List.setIfInBounds_toArray, List.set_cons_zero, List.set_cons_succ]
  refine wpAnyH_take (i := 26) (oi := _) (v := ?v26) (by simp only [List.getElem?_toArray, List.getElem?_cons_zero, List.getElem?_cons_succ]; rfl) (by kernel_rfl) (by kernel_rfl) (by kernel_rfl) (fun _ _ _ h => h) (Or.inl ⟨by rfl, ?y26⟩) (by assumption) ?r26
  case y26 => (intro w hSw; (try dsimp only at hSw); go_simp <;> with_reducible rfl)
  try simp only [Act.put, List.setIfInBounds_toArray, List.set_cons_zero, List.set_cons_succ]
  refine wpAnyH_take (i := 27) (oi := _) (v := ?v27) (by simp only [List.getElem?_toArray, List.getElem?_cons_zero, List.getElem?_cons_succ]; rfl) (by kernel_rfl) (by kernel_rfl) (by kernel_rfl) (fun _ _ _ h => h) (Or.inl ⟨by rfl, ?y27⟩) (by assumption) ?r27
  case y27 => (intro w hSw; (try dsimp only at hSw); go_simp <;> with_reducible rfl)
  try simp only [Act.put, List.setIfInBounds_toArray, List.set_cons_zero, List.set_cons_succ]
  refine wpAnyH_take (i := 28) (oi := _) (v := ?v28) (by simp only [List.getElem?_toArray, List.getElem?_cons_zero, List.getElem?_cons_succ]; rfl) (by kernel_rfl) (by kernel_rfl) (by kernel_rfl) (fun _ _ _ h => h) (Or.inl ⟨by rfl, ?y28⟩) (by assumption) ?r28
  case y28 => (intro w hSw; (try dsimp only at hSw); go_simp <;> with_reducible rfl)
  try simp only [Act.put, List.setIfInBounds_toArray, List.set_cons_zero, List.set_cons_succ]
  refine wpAnyH_ready (rs := [29]) (by kernel_rfl) (by simp) ?_
  refine AllReadyH.cons (o := _) (by simp only [List.getElem?_toArray, List.getElem?_cons_zero, List.getElem?_cons_succ]; rfl) (fun K hK => ?_) AllReadyH.nil
  go_simp
  go_at_call 23
  (with_reducible refine (reight_calls x _).mono ?_)
  rintro e w2 ⟨g, cap, rfl, hown, hb2⟩
  have k3 := conv8 x w2 g cap (own_cells x hown)
  have n2 := lt_made hb2
  clear hown
  go_wp2_with fail
  refine hK.out _ _ ?_ (fun h7 => ?_)
  · (first | go_keep | (exact kept_all x (by assumption) (by first | assumption | simp) (by assumption)))
  clear hK K h6
  try simp only [Act.put, List.setIfInBounds_toArray, List.set_cons_zero, List.set_cons_succ]
  refine wpAnyH_ready (rs := [30]) (by kernel_rfl) (by simp) ?_
  refine AllReadyH.cons (o := _) (by simp only [List.getElem?_toArray, List.getElem?_cons_zero, List.getElem?_cons_succ]; rfl) (fun K hK => ?_) AllReadyH.nil
  go_simp
  refine hK.out _ _ ?_ (fun h8 => ?_)
  · (first | go_keep | (exact kept_all x (by assumption) (by first | assumption | simp) (by assumption)))
  clear hK K h7
  try simp only [Act.put, List.setIfInBounds_toArray, List.set_cons_zero, List.set_cons_succ]
  refine wpAnyH_take (i := 31) (oi := _) (v := ?v31) (by simp only [List.getElem?_toArray, List.getElem?_cons_zero, List.getElem?_cons_succ]; rfl) (by kernel_rfl) (by kernel_rfl) (by kernel_rfl) (fun _ _ _ h => h) (Or.inl ⟨by rfl, ?y31⟩) (by assumption) ?r31
  case y31 => (intro w hSw; (try dsimp only at hSw); go_simp <;> with_reducible rfl)
  try simp only [Act.put, List.setIfInBounds_toArray, List.set_cons_zero, List.set_cons_succ]
  refine wpAnyH_take (i := 32) (oi := _) (v := ?v32) (by simp only [List.getElem?_toArray, List.getElem?_cons_zero, List.getElem?_cons_succ]; rfl) (by kernel_rfl) (by kernel_rfl) (by kernel_rfl) (fun _ _ _ h => h) (Or.inl ⟨by rfl, ?y32⟩) (by assumption) ?r32
  case y32 => (intro w hSw; (try dsimp only at hSw); go_simp <;> with_reducible rfl)
  try simp only [Act.put, List.setIfInBounds_toArray, List.set_cons_zero, List.set_cons_succ]
  refine wpAnyH_take (i := 33) (oi := _) (v := ?v33) (by simp only [List.getElem?_toArray, List.getElem?_cons_zero, List.getElem?_cons_succ]; rfl) (by kernel_rfl) (by kernel_rfl) (by kernel_rfl) (fun _ _ _ h => h) (Or.inl ⟨by rfl, ?y33⟩) (by assumption) ?r33
  case y33 => (intro w hSw; (try dsimp only at hSw); go_simp <;> with_reducible rfl)
  try simp only [Act.put, List.setIfInBounds_toArray, List.set_cons_zero, List.set_cons_succ]
  refine wpAnyH_take (i := 34) (oi := _) (v := ?v34) (by simp only [List.getElem?_toArray, List.getElem?_cons_zero, List.getElem?_cons_succ]; rfl) (by kernel_rfl) (by kernel_rfl) (by kernel_rfl) (fun _ _ _ h => h) (Or.inl ⟨by rfl, ?y34⟩) (by assumption) ?r34
  case y34 => (intro w hSw; (try dsimp only at hSw); go_simp <;> with_reducible rfl)
  try simp only [Act.put, List.setIfInBounds_toArray, List.set_cons_zero, List.set_cons_succ]
  refine wpAnyH_take (i := 36) (oi := _) (v := ?v36) (by simp only [List.getElem?_toArray, List.getElem?_cons_zero, List.getElem?_cons_succ]; rfl) (by kernel_rfl) (by kernel_rfl) (by kernel_rfl) (fun _ _ _ h => h) (Or.inl ⟨by rfl, ?y36⟩) (by assumption) ?r36
  case y36 => (intro w hSw; (try dsimp only at hSw); go_simp <;> with_reducible rfl)
  try simp only [Act.put, List.setIfInBounds_toArray, List.set_cons_zero, List.set_cons_succ]
  refine wpAnyH_ready (rs := [35]) (by kernel_rfl) (by simp) ?_
  refine AllReadyH.cons (o := _) (by simp only [List.getElem?_toArray, List.getElem?_cons_zero, List.getElem?_cons_succ]; rfl) (fun K hK => ?_) AllReadyH.nil
  go_simp
  go_at_call 19
  (with_reducible refine (of_byt x _).mono ?_)
  rintro e w3 ⟨rfl, hb3⟩
  go_wp2_with fail
  refine hK.out _ _ ?_ (fun h9 => ?_)
  · (first | go_keep | (exact kept_all x (by assumption) (by first | assumption | simp) (by assumption)))
  clear hK K h8
  try simp only [Act.put, List.setIfInBounds_toArray, List.set_cons_zero, List.set_cons_succ]
  refine wpAnyH_take (i := 37) (oi := _) (v := ?v37) (by simp only [List.getElem?_toArray, List.getElem?_cons_zero, List.getElem?_cons_succ]; rfl) (by kernel_rfl) (by kernel_rfl) (by kernel_rfl) (fun _ _ _ h => h) (Or.inl ⟨by rfl, ?y37⟩) (by assumption) ?r37
  case y37 => (intro w hSw; (try dsimp only at hSw); go_simp <;> with_reducible rfl)
  try simp only [Act.put, List.setIfInBounds_toArray, List.set_cons_zero, List.set_cons_succ]
  refine wpAnyH_take (i := 38) (oi := _) (v := ?v38) (by simp only [List.getElem?_toArray, List.getElem?_cons_zero, List.getElem?_cons_succ]; rfl) (by kernel_rfl) (by kernel_rfl) (by kernel_rfl) (fun _ _ _ h => h) (Or.inl ⟨by rfl, ?y38⟩) (by assumption) ?r38
  case y38 => (intro w hSw; (try dsimp only at hSw); go_simp <;> with_reducible rfl)
  try simp only [Act.put, List.setIfInBounds_toArray, List.set_cons_zero, List.set_cons_succ]
  refine wpAnyH_take (i := 39) (oi := _) (v := ?v39) (by simp only [List.getElem?_toArray, List.getElem?_cons_zero, List.getElem?_cons_succ]; rfl) (by kernel_rfl) (by kernel_rfl) (by kernel_rfl) (fun _ _ _ h => h) (Or.inl ⟨by rfl, ?y39⟩) (by assumption) ?r39
  case y39 => (intro w hSw; (try dsimp only at hSw); go_simp <;> with_reducible rfl)
  try simp only [Act.put, List.setIfInBounds_toArray, List.set_cons_zero, List.set_cons_succ]
  refine wpAnyH_take (i := 40) (oi := _) (v := ?v40) (by simp only [List.getElem?_toArray, List.getElem?_cons_zero, List.getElem?_cons_succ]; rfl) (by kernel_rfl) (by kernel_rfl) (by kernel_rfl) (fun _ _ _ h => h) (Or.inl ⟨by rfl, ?y40⟩) (by assumption) ?r40
  case y40 => (intro w hSw; (try dsimp only at hSw); go_simp <;> with_reducible rfl)
  try simp only [Act.put, List.setIfInBounds_toArray, List.set_cons_zero, List.set_cons_succ]
  refine wpAnyH_take (i := 42) (oi := _) (v := ?v42) (by simp only [List.getElem?_toArray, List.getElem?_cons_zero, List.getElem?_cons_succ]; rfl) (by kernel_rfl) (by kernel_rfl) (by kernel_rfl) (fun _ _ _ h => h) (Or.inl ⟨by rfl, ?y42⟩) (by assumption) ?r42
  case y42 => (intro w hSw; (try dsimp only at hSw); go_simp <;> with_reducible rfl)
  try simp only [Act.put, List.setIfInBounds_toArray, List.set_cons_zero, List.set_cons_succ]
  refine wpAnyH_take (i := 43) (oi := _) (v := ?v43) (by simp only [List.getElem?_toArray, List.getElem?_cons_zero, List.getElem?_cons_succ]; rfl) (by kernel_rfl) (by kernel_rfl) (by kernel_rfl) (fun _ _ _ h => h) (Or.inl ⟨by rfl, ?y43⟩) (by assumption) ?r43
  case y43 => (intro w hSw; (try dsimp only at hSw); go_simp <;> with_reducible rfl)
  try simp only [Act.put, List.setIfInBounds_toArray, List.set_cons_zero, List.set_cons_succ]
  refine wpAnyH_take (i := 44) (oi := _) (v := ?v44) (by simp only [List.getElem?_toArray, List.getElem?_cons_zero, List.getElem?_cons_succ]; rfl) (by kernel_rfl) (by kernel_rfl) (by kernel_rfl) (fun _ _ _ h => h) (Or.inl ⟨by rfl, ?y44⟩) (by assumption) ?r44
  case y44 => (intro w hSw; (try dsimp only at hSw); go_simp <;> with_reducible rfl)
  try simp only [Act.put, List.setIfInBounds_toArray, List.set_cons_zero, List.set_cons_succ]
  refine wpAnyH_ready (rs := [41]) (by kernel_rfl) (by simp) ?_
  refine AllReadyH.cons (o := _) (by simp only [List.getElem?_toArray, List.getElem?_cons_zero, List.getElem?_cons_succ]; rfl) (fun K hK => ?_) AllReadyH.nil
  go_simp
  go_at_call 16
  (with_reducible refine (low_calls x _).mono ?_)
  rintro e w' ⟨rfl, rfl⟩
  go_wp2_with fail
  refine hK.out _ _ ?_ (fun h10 => ?_)
  · (first | go_keep | (exact kept_all x (by assumption) (by first | assumption | simp) (by assumption)))
  clear hK K h9
  try simp only [Act.put, List.setIfInBounds_toArray, List.set_cons_zero, List.set_cons_succ]
  refine wpAnyH_take (i := 45) (oi := _) (v := ?v45) (by simp only [List.getElem?_toArray, List.getElem?_cons_zero, List.getElem?_cons_succ]; rfl) (by kernel_rfl) (by kernel_rfl) (by kernel_rfl) (fun _ _ _ h => h) (Or.inl ⟨by rfl, ?y45⟩) (by assumption) ?r45
  case y45 => (intro w hSw; (try dsimp only at hSw); go_simp <;> with_reducible rfl)
  try simp only [Act.put, List.setIfInBounds_toArray, List.set_cons_zero, List.set_cons_succ]
  refine wpAnyH_take (i := 46) (oi := _) (v := ?v46) (by simp only [List.getElem?_toArray, List.getElem?_cons_zero, List.getElem?_cons_succ]; rfl) (by kernel_rfl) (by kernel_rfl) (by kernel_rfl) (fun _ _ _ h => h) (Or.inl ⟨by rfl, ?y46⟩) (by assumption) ?r46
  case y46 => (intro w hSw; (try dsimp only at hSw); go_simp <;> with_reducible rfl)
  try simp only [Act.put, List.setIfInBounds_toArray, List.set_cons_zero, List.set_cons_succ]
  refine wpAnyH_take (i := 47) (oi := _) (v := ?v47) (by simp only [List.getElem?_toArray, List.getElem?_cons_zero, List.getElem?_cons_succ]; rfl) (by kernel_rfl) (by kernel_rfl) (by kernel_rfl) (fun _ _ _ h => h) (Or.inl ⟨by rfl, ?y47⟩) (by assumption) ?r47
  case y47 => (intro w hSw; (try dsimp only at hSw); go_simp <;> with_reducible rfl)
  try simp only [Act.put, List.setIfInBounds_toArray, List.set_cons_zero, List.set_cons_succ]
  refine wpAnyH_take (i := 48) (oi := _) (v := ?v48) (by simp only [List.getElem?_toArray, List.getElem?_cons_zero, List.getElem?_cons_succ]; rfl) (by kernel_rfl) (by kernel_rfl) (by kernel_rfl) (fun _ _ _ h => h) (Or.inl ⟨by rfl, ?y48⟩) (by assumption) ?r48
  case y48 => (intro w hSw; (try dsimp only at hSw); go_simp <;> with_reducible rfl)
  try simp only [Act.put, List.setIfInBounds_toArray, List.set_cons_zero, List.set_cons_succ]
  refine wpAnyH_take (i := 50) (oi := _) (v := ?v50) (by simp only [List.getElem?_toArray, List.getElem?_cons_zero, List.getElem?_cons_succ]; rfl) (by kernel_rfl) (by kernel_rfl) (by kernel_rfl) (fun _ _ _ h => h) (Or.inl ⟨by rfl, ?y50⟩) (by assumption) ?r50
  case y50 => (intro w hSw; (try dsimp only at hSw); go_simp <;> with_reducible rfl)
  try simp only [Act.put, List.setIfInBounds_toArray, List.set_cons_zero, List.set_cons_succ]
  refine wpAnyH_take (i := 51) (oi := _) (v := ?v51) (by simp only [List.getElem?_toArray, List.getElem?_cons_zero, List.getElem?_cons_succ]; rfl) (by kernel_rfl) (by kernel_rfl) (by kernel_rfl) (fun _ _ _ h => h) (Or.inl ⟨by rfl, ?y51⟩) (by assumption) ?r51
  case y51 => (intro w hSw; (try dsimp only at hSw); go_simp <;> with_reducible rfl)
  try simp only [Act.put, List.setIfInBounds_toArray, List.set_cons_zero, List.set_cons_succ]
  refine wpAnyH_take (i := 52) (oi := _) (v := ?v52) (by simp only [List.getElem?_toArray, List.getElem?_cons_zero, List.getElem?_cons_succ]; rfl) (by kernel_rfl) (by kernel_rfl) (by kernel_rfl) (fun _ _ _ h => h) (Or.inl ⟨by rfl, ?y52⟩) (by assumption) ?r52
  case y52 => (intro w hSw; (try dsimp only at hSw); go_simp <;> with_reducible rfl)
  try simp only [Act.put, List.setIfInBounds_toArray, List.set_cons_zero, List.set_cons_succ]
  refine wpAnyH_ready (rs := [49]) (by kernel_rfl) (by simp) ?_
  refine AllReadyH.cons (o := _) (by simp only [List.getElem?_toArray, List.getElem?_cons_zero, List.getElem?_cons_succ]; rfl) (fun K hK => ?_) AllReadyH.nil
  go_simp
  go_at_call 15
  (with_reducible refine (high_calls x _).mono ?_)
  rintro e w' ⟨rfl, rfl⟩
  go_wp2_with fail
  refine hK.out _ _ ?_ (fun h11 => ?_)
  · (first | go_keep | (exact kept_all x (by assumption) (by first | assumption | simp) (by assumption)))
  clear hK K h10
  try simp only [Act.put, List.setIfInBounds_toArray, List.set_cons_zero, List.set_cons_succ]
  refine wpAnyH_take (i := 53) (oi := _) (v := ?v53) (by simp only [List.getElem?_toArray, List.getElem?_cons_zero, List.getElem?_cons_succ]; rfl) (by kernel_rfl) (by kernel_rfl) (by kernel_rfl) (fun _ _ _ h => h) (Or.inl ⟨by rfl, ?y53⟩) (by assumption) ?r53
  case y53 => (intro w hSw; (try dsimp only at hSw); go_simp <;> with_reducible rfl)
  try simp only [Act.put, List.setIfInBounds_toArray, List.set_cons_zero, List.set_cons_succ]
  refine wpAnyH_take (i := 54) (oi := _) (v := ?v54) (by simp only [List.getElem?_toArray, List.getElem?_cons_zero, List.getElem?_cons_succ]; rfl) (by kernel_rfl) (by kernel_rfl) (by kernel_rfl) (fun _ _ _ h => h) (Or.inl ⟨by rfl, ?y54⟩) (by assumption) ?r54
  case y54 => (intro w hSw; (try dsimp only at hSw); go_simp <;> with_reducible rfl)
  try simp only [Act.put, List.setIfInBounds_toArray, List.set_cons_zero, List.set_cons_succ]
  refine wpAnyH_take (i := 55) (oi := _) (v := ?v55) (by simp only [List.getElem?_toArray, List.getElem?_cons_zero, List.getElem?_cons_succ]; rfl) (by kernel_rfl) (by kernel_rfl) (by kernel_rfl) (fun _ _ _ h => h) (Or.inl ⟨by rfl, ?y55⟩) (by assumption) ?r55
  case y55 => (intro w hSw; (try dsimp only at hSw); go_simp <;> with_reducible rfl)
  try simp only [Act.put, List.setIfInBounds_toArray, List.set_cons_zero, List.set_cons_succ]
  refine wpAnyH_ready (rs := [56]) (by kernel_rfl) (by simp) ?_
  refine AllReadyH.cons (o := _) (by simp only [List.getElem?_toArray, List.getElem?_cons_zero, List.getElem?_cons_succ]; rfl) (fun K hK => ?_) AllReadyH.nil
  go_simp
  go_at_call 12
  (with_reducible refine (awake_calls _).mono ?_)
  rintro e w' ⟨rfl, rfl⟩
  go_wp2_with fail
  refine hK.out _ _ ?_ (fun h12 => ?_)
  · (first | go_keep | (exact kept_all x (by assumption) (by first | assumption | simp) (by assumption)))
  clear hK K h11
  try simp only [Act.put, List.setIfInBounds_toArray, List.set_cons_zero, List.set_cons_succ]
  refine wpAnyH_take (i := 57) (oi := _) (v := ?v57) (by simp only [List.getElem?_toArray, List.getElem?_cons_zero, List.getElem?_cons_succ]; rfl) (by kernel_rfl) (by kernel_rfl) (by kernel_rfl) (fun _ _ _ h => h) (Or.inl ⟨by rfl, ?y57⟩) (by assumption) ?r57
  case y57 => (intro w hSw; (try dsimp only at hSw); go_simp <;> with_reducible rfl)
  try simp only [Act.put, List.setIfInBounds_toArray, List.set_cons_zero, List.set_cons_succ]
  refine wpAnyH_take (i := 58) (oi := _) (v := ?v58) (by simp only [List.getElem?_toArray, List.getElem?_cons_zero, List.getElem?_cons_succ]; rfl) (by kernel_rfl) (by kernel_rfl) (by kernel_rfl) (fun _ _ _ h => h) (Or.inl ⟨by rfl, ?y58⟩) (by assumption) ?r58
  case y58 => (intro w hSw; (try dsimp only at hSw); go_simp <;> with_reducible rfl)
  try simp only [Act.put, List.setIfInBounds_toArray, List.set_cons_zero, List.set_cons_succ]
  refine wpAnyH_done (by kernel_rfl) ?_ _
  refine NoPanic.normal ?_
  all_goals go_wp2
  go_ret
  exact ⟨rfl, below_all hb1 hb2 hb3⟩
end Go.Proofs.Ytmnfhbkkogajoaa.Wk
