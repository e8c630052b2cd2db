/- The closure of a function, by a number's bits; a program without go statements. -/
import GoSem.ClaimGoes
import Derived.Test.YtioaigedcoapcaaGreatDoorRows
import Derived.WalkKit
import Derived.ProofKit
import Derived.JoinedCond
namespace Go.Ax
open Go
/-- The functions that f leads to. -/
noncomputable def leadF (P : Program) (f : Nat) : List FuncId := (P.funcs[f]?).elim [] P.leadsTo
/-- closureVia, what has been seen held in a number's bits. -/
noncomputable def cloF (P : Program) (n : Nat) : List FuncId → List FuncId → Nat → List FuncId :=
  @Nat.rec (fun _ => List FuncId → List FuncId → Nat → List FuncId) (fun _ seen _ => seen.reverse)
    (fun _ ih todo seen m => @List.rec FuncId (fun _ => List FuncId) seen.reverse (fun f todo _ =>
      @Bool.rec (fun _ => List FuncId) (ih (leadF P f ++ todo) (f :: seen) (m ||| 2 ^ f)) (ih todo seen m) (Nat.testBit m f)) todo) n
theorem cloF_eq (P : Program) : ∀ (n : Nat) (todo seen : List FuncId) (m : Nat), (∀ f, seen.contains f = m.testBit f) → P.closureVia n todo seen = cloF P n todo seen m
  | 0, _, _, _, _ => rfl
  | _ + 1, [], _, _, _ => rfl
  | n + 1, f :: todo, seen, m, h => by
    have e : cloF P (n + 1) (f :: todo) seen m = @Bool.rec (fun _ => List FuncId) (cloF P n (leadF P f ++ todo) (f :: seen) (m ||| 2 ^ f)) (cloF P n todo seen m) (Nat.testBit m f) := rfl
    rw [e]
    unfold Program.closureVia
    rw [h f]
    cases hb : m.testBit f with
    | true => exact cloF_eq P n todo seen m h
    | false =>
      refine cloF_eq P n _ _ _ fun g => ?_
      rw [List.contains_cons, h g, Nat.testBit_or, Nat.testBit_two_pow, Bool.or_comm]
      congr 1
      by_cases hg : g = f
      · subst hg; simp
      · rw [beq_false_of_ne hg, decide_eq_false (fun e => hg e.symm)]
theorem closure_fast (P : Program) (f : FuncId) : P.closure f = cloF P (1 + (P.funcs.toList.map fun g => (P.leadsTo g).length + 1).sum) [f] [] 0 :=
  cloF_eq P _ _ _ _ fun g => by simp
theorem goes_none {P : Program} (h : P.funcs.toList.any Func.goes = false) (f : FuncId) : P.goes f = false := by
  unfold Program.goes
  have h2 : P.funcs.any Func.goes = false := by rw [← h, Array.any_toList]
  rw [h2, Bool.and_false, Bool.or_false, List.any_eq_false]
  intro g _
  cases hg : P.funcs[g]? with
  | none => simp
  | some fn =>
    rw [List.any_eq_false] at h
    have := h fn (Array.mem_toList_iff.2 (Array.mem_of_getElem? hg))
    simpa using this
theorem goesBy_none {P : Program} {c : OpenClaim} (hs : c.start = .entering) (h : P.funcs.toList.any Func.goes = false) : c.goesBy P = false := by
  unfold OpenClaim.goesBy Program.goesAt Program.goesFrom
  rw [hs]
  cases P.funcNamed c.func with
  | none => rfl
  | some f => simp [goes_none h f]
end Go.Ax
namespace Go.Proofs.YtioaigedcoapcaaGreatDoor.topMatch
open Go
theorem andT {a b : Bool} (h1 : a = true) (h2 : b = true) : (a && b) = true := by rw [h1, h2]; rfl
set_option maxRecDepth 1000000 in
set_option maxHeartbeats 20000000 in
theorem clo : Tryz.prog.closure 3 = [3, 4, 5, 10, 6, 11, 28, 29, 30, 31, 60, 99, 100, 12, 33, 34, 32, 13, 14, 35, 61, 101, 146, 178, 145, 193, 36, 37, 38, 45, 62, 21, 48, 74, 75, 47, 66, 67, 111, 68, 112, 113, 69, 114, 115, 148, 70, 71, 72, 73, 39, 23, 49, 15, 16, 17, 40, 41, 19, 42, 43, 44, 18, 46, 63, 102, 103, 104, 64, 105, 106, 107, 108, 109, 147, 110, 65, 20, 22, 7, 24, 50, 8, 25, 51, 52, 76, 116, 53, 77, 117, 118, 119, 120, 83, 121, 149, 150, 194, 222, 78, 122, 152, 151, 195, 79, 123, 124, 80, 125, 153, 154, 155, 196, 223, 126, 156, 157, 197, 224, 81, 82, 54, 84, 127, 85, 86, 9, 26, 55, 87, 129, 163, 206, 192, 221, 258, 312, 207, 144, 162, 203, 204, 245, 254, 246, 301, 248, 205, 247, 302, 210, 261, 348, 378, 382, 380, 379, 349, 381, 350, 252, 143, 250, 249, 251, 253, 303, 273, 274, 322, 363, 399, 418, 436, 400, 419, 321, 361, 395, 362, 396, 414, 428, 429, 430, 431, 432, 440, 441, 442, 443, 444, 434, 397, 415, 433, 435, 445, 446, 398, 417, 416, 304, 305, 351, 309, 356, 352, 353, 306, 354, 383, 384, 410, 385, 386, 411, 412, 425, 387, 388, 389, 390, 307, 255, 211, 262, 308, 355, 256, 310, 311, 357, 257, 128, 158, 159, 160, 198, 225, 199, 200, 226, 201, 202, 227, 228, 229, 275, 323, 324, 332, 368, 364, 277, 276, 325, 365, 366, 401, 420, 230, 231, 232, 278, 279, 233, 280, 281, 283, 326, 234, 282, 244, 298, 335, 336, 337, 369, 285, 330, 329, 339, 338, 370, 403, 402, 299, 340, 371, 271, 320, 319, 360, 393, 394, 413, 426, 427, 235, 284, 328, 327, 341, 290, 331, 367, 293, 333, 342, 343, 372, 334, 346, 347, 373, 404, 375, 376, 377, 406, 407, 408, 423, 422, 409, 424, 438, 439, 448, 453, 374, 405, 421, 437, 447, 449, 450, 454, 455, 451, 452, 456, 457, 458, 459, 344, 288, 300, 345, 294, 236, 237, 238, 286, 287, 289, 291, 239, 292, 240, 241, 295, 242, 296, 243, 297, 161, 57, 56, 88, 130, 164, 165, 166, 167, 168, 169, 170, 171, 172, 173, 174, 175, 89, 90, 91, 92, 93, 94, 131, 176, 27, 58, 95, 132, 177, 133, 179, 134, 180, 135, 181, 96, 136, 137, 138, 182, 59, 97, 139, 142, 190, 191, 217, 218, 219, 220, 140, 183, 208, 259, 313, 185, 212, 263, 315, 358, 391, 316, 317, 318, 264, 265, 266, 184, 209, 260, 314, 359, 392, 186, 141, 187, 188, 213, 214, 215, 189, 216, 267, 268, 269, 270, 272, 98] := by rw [Ax.closure_fast]; kernel_rfl
set_option maxRecDepth 1000000 in
set_option maxHeartbeats 20000000 in
theorem inPlaceT : (Rows.topMatchRow.inPlace == Tryz.prog.inPlace 3) = true := by unfold Program.inPlace; rw [clo]; kernel_rfl
set_option maxRecDepth 1000000 in
set_option maxHeartbeats 20000000 in
theorem unf : Tryz.prog.unfollowed 3 = true := by unfold Program.unfollowed; rw [clo]; kernel_rfl
theorem unfT : (Rows.topMatchRow.unfollowed == Tryz.prog.unfollowed 3) = true := by rw [unf]; kernel_rfl
theorem recT : (Rows.topMatchRow.recurses == Tryz.prog.recurses 3) = true := by unfold Program.recurses; rw [unf, Bool.true_or]; kernel_rfl
set_option maxRecDepth 1000000 in
set_option maxHeartbeats 20000000 in
theorem namedT : (Rows.topMatchRow.named == Tryz.prog.varsNamed 3) = true := by unfold Program.varsNamed; rw [clo]; kernel_rfl
set_option maxRecDepth 1000000 in
set_option maxHeartbeats 20000000 in
theorem goesNot : Tryz.prog.funcs.toList.any Func.goes = false := by kernel_rfl
set_option maxRecDepth 1000000 in
set_option maxHeartbeats 20000000 in
theorem closed : joinedFacts Tryz.prog 3 Tryz.f3 (OpenSpec.ofChange Rows.topMatchSpec).bare Rows.topMatchRow = true := by
  unfold joinedFacts
  refine andT (andT (andT (andT (andT (andT (andT (andT (andT (andT (andT (andT (andT (andT (andT (andT (andT (andT (andT (andT (andT (andT (andT (andT (andT (andT (andT (andT (andT (andT (andT ?_ ?_) ?_) ?_) ?_) ?_) ?_) ?_) ?_) ?_) ?_) ?_) ?_) ?_) ?_) ?_) ?_) ?_) ?_) ?_) ?_) ?_) ?_) ?_) ?_) ?_) ?_) ?_) ?_) ?_) ?_) ?_
  · as_aux_lemma => kernel_rfl
  · as_aux_lemma => kernel_rfl
  · as_aux_lemma => kernel_rfl
  · as_aux_lemma => kernel_rfl
  · as_aux_lemma => kernel_rfl
  · as_aux_lemma => kernel_rfl
  · as_aux_lemma => kernel_rfl
  · as_aux_lemma => kernel_rfl
  · as_aux_lemma => kernel_rfl
  · exact inPlaceT
  · exact unfT
  · exact recT
  · exact namedT
  · as_aux_lemma => kernel_rfl
  · as_aux_lemma => kernel_rfl
  · as_aux_lemma => kernel_rfl
  · as_aux_lemma => kernel_rfl
  · as_aux_lemma => kernel_rfl
  · as_aux_lemma => kernel_rfl
  · as_aux_lemma => kernel_rfl
  · as_aux_lemma => kernel_rfl
  · as_aux_lemma => kernel_rfl
  · as_aux_lemma => kernel_rfl
  · as_aux_lemma => kernel_rfl
  · as_aux_lemma => kernel_rfl
  · as_aux_lemma => kernel_rfl
  · as_aux_lemma => kernel_rfl
  · as_aux_lemma => kernel_rfl
  · as_aux_lemma => kernel_rfl
  · as_aux_lemma => kernel_rfl
  · as_aux_lemma => kernel_rfl
  · as_aux_lemma => kernel_rfl
end Go.Proofs.YtioaigedcoapcaaGreatDoor.topMatch
