/- serial.all: some pieces. -/
import Derived.Test.YtbjcahhijfommaaGreatDoorYl
namespace Go.Proofs.YtbjcahhijfommaaGreatDoor.Tr
open Go Go.RowKit Go.Shelf
attribute [local go_sem] Oper.semAt_some
set_option linter.unusedVariables false

section
variable {l : Nat} {T : TypeId → Bool} {B N Bw : Nat} {J Jx : List Pc → World → Prop} {pre : List Pc} {w w' : World}
theorem pcs_at {xs : List Pc} {sb j : Nat} {x : Pc} (hs : w.heap[sb]? = some (.cells (xs.map fun x => Value.string x.1).toArray 9 (0, 0))) (hx : xs[j]? = some x) : w.cell? ⟨sb, j, none⟩ = some (.string x.1) := by
  rw [block_cell hs]
  simp [hx]
set_option maxHeartbeats 2000000 in
set_option maxRecDepth 100000 in
theorem all_calls (Y : Yd l T B N Bw J Jx) (xs : List Pc) (pre : List Pc) (w : World) (sb : Nat) (hJ : J pre w) (hB : B ≤ w.heap.size) (hs : w.heap[sb]? = some (.cells (xs.map fun x => Value.string x.1).toArray 9 (0, 0)))
    (hN : pre.length + xs.length ≤ N) (hx : xs.length ≤ 1000) :
    Calls Tryz.prog 34 #[.func (.yield l) #[] #[], .slice (some ⟨sb, 0, none⟩) xs.length xs.length] w (YEnd T B J Jx (pre ++ xs) w) := by
  have hdd : ∀ k : Nat, (Fence.wide.depth.isSome = true → 1 ≤ k) := fun k h => by cases h
  refine (callsIn_wide (n := 3)).1 ?_
  refine callsIn_of_wp Tryz.func34 rfl trivial ?_ rfl
  simp only [Tryz.ntmps34, List.size_toArray, List.length_cons, List.length_nil, Nat.reduceAdd, Nat.reduceSub, Array.replicate_succ, Array.replicate_zero, List.push_toArray, List.append_toArray, List.nil_append, List.cons_append]
  gi_wp2
  gi_loopw [9] (fun i wr => ∃ j : Nat, j ≤ xs.length ∧ i = .int .i64 j ∧ YRel T B J (pre ++ xs.take j) w wr) (fun i _ => xs.length - (intOf i).toNat)
  case atStart => exact ⟨0, Nat.zero_le _, rfl, by rw [List.take_zero, List.append_nil]; exact YRel.start hJ hB⟩
  case round =>
    obtain ⟨j, hj, rfl, hR⟩ := hrel
    by_cases hjl : j < xs.length
    · obtain ⟨x, hx⟩ : ∃ x, xs[j]? = some x := ⟨_, List.getElem?_eq_getElem hjl⟩
      have hc := pcs_at (hR.k.cells _ _ _ _ hs Y.t1) hx
      have hjz : (j : Int) < (xs.length : Int) := by omega
      obtain ⟨fn, tmps, assign, body, hy, hyR⟩ := Y.yld 2 (pre ++ xs.take j) x wr hR.j (by rw [List.length_append, List.length_take]; omega)
      have hT : xs.take (j + 1) = xs.take j ++ [x] := by rw [List.take_add_one, hx]; rfl
      have HX := Lib.hid hx
      have HR := Lib.hid hR
      have HT := Lib.hid hT
      clear hx hR hT
      gi_wp2
      refine hyR.mono ?_
      rintro e W2 (⟨rfl, hJ2, hk2⟩ | ⟨rfl, q, hq⟩)
      · have hR2 := HR.out.next hJ2 hk2
        rw [List.append_assoc, ← HT.out] at hR2
        have HR2 := Lib.hid hR2
        clear hR2 hJ2 hk2
        gi_wp2
        go_roundw
        case rel => exact ⟨j + 1, by omega, by simp, HR2.out⟩
        case measure => simp [intOf]; omega
      · gi_wp2
        go_ret
        exact .inr ⟨rfl, q, hq⟩
    · obtain rfl : j = xs.length := by omega
      have hjz : ¬ ((xs.length : Int) < (xs.length : Int)) := by omega
      have hR2 := hR
      rw [List.take_length] at hR2
      have HR2 := Lib.hid hR2
      clear hR hR2
      gi_wp2
      go_ret
      exact HR2.out.end_
end
end Go.Proofs.YtbjcahhijfommaaGreatDoor.Tr
