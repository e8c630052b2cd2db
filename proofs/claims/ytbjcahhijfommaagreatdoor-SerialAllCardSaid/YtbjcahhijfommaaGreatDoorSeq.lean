/- serial.pieces: the pieces of any tree, as a sequence. -/
import Derived.RangeFuncFrom
import Derived.Test.YtbjcahhijfommaaGreatDoorSayW
namespace Go.Proofs.YtbjcahhijfommaaGreatDoor.Tr
open Go Go.RowKit Go.Shelf
attribute [local go_sem] Oper.semAt_some
set_option linter.unusedVariables false

section
variable {l : Nat} {T : TypeId → Bool} {B N Bw : Nat} {J Jx : List Pc → World → Prop}
theorem say_upto (Y : Yd l T B N Bw J Jx) (hG : 0 < B) : ∀ n t, cntT t ≤ n → SayC l T B N J Jx t
  | 0, .mk k n s al ks, h => by unfold cntT at h; omega
  | m + 1, .mk k n s al ks, h => say_step Y hG k n s al ks fun t ht => say_upto Y hG m t (by have := cnt_kid ht; unfold cntT at h; omega)
theorem say_calls (Y : Yd l T B N Bw J Jx) (hG : 0 < B) (t : Nd) : SayC l T B N J Jx t := say_upto Y hG _ t (Nat.le_refl _)
end
theorem yield_any {m : Nat} (m' : Nat) {P : Program} {l : Nat} {args : Array Value} {W : World} {R : Ending → World → Prop} (h : YieldAt Fence.wide m P l args W R) : YieldAt Fence.wide m' P l args W R := by
  obtain ⟨fn, tmps, assign, body, hy, hR⟩ := h
  exact ⟨fn, tmps, assign, body, hy, hR.1, fun c cs _ => hR.2 c cs (fun d h => by cases h)⟩
theorem pieces_calls (k : Int) (n s : ByteArray) (A K : Option Addr) (la ac lk kc : Nat) (par : ByteArray) (w : World) :
    Calls Tryz.prog 19 #[.agg #[.int .i64 k, .string n, .string s, .slice A la ac, .slice K lk kc], .string par] w fun e w' =>
      e = .returned (.func (.func 28) #[] #[.pointer (some ⟨w.heap.size, 0, none⟩), .pointer (some ⟨w.heap.size + 1, 0, none⟩)]) ∧ w' = (w.alloc (.cells #[.int .i64 k, .string n, .string s, .slice A la ac, .slice K lk kc] 25)).alloc (.cells #[.string par] 9) := by
  go_enter Tryz.func19, Tryz.ntmps19
  go_wp2_with fail
  go_ret
  exact ⟨rfl, rfl⟩
set_option maxHeartbeats 2000000 in
set_option maxRecDepth 100000 in
theorem pieces_stops (T : TypeId → Bool) (t1 : T 9 = false) (t2 : T 25 = false) (t3 : T 50 = false) (B : Nat) (hG : 0 < B) (t : Nd) (par : ByteArray) (v0 v1 v2 v3 v4 : Value) (w : World) (tb nb n : Nat)
    (hB : B ≤ w.heap.size) (hT : SpTab w) (h : IsTree w B t v0 v1 v2 v3 v4) (hf : fitT t)
    (htb : w.heap[tb]? = some (.cells #[v0, v1, v2, v3, v4] 25 (0, 0))) (hnb : w.heap[nb]? = some (.cells #[.string par] 9 (0, 0))) :
    SeqStopsK Fence.wide n Tryz.prog 28 #[.pointer (some ⟨tb, 0, none⟩), .pointer (some ⟨nb, 0, none⟩)] (fun x : Pc => #[.string x.1]) (KpT T B) (fun xs => xs = sayP (rawB par) t) (fun _ => True) (sayP (rawB par) t).length w := by
  intro l J Jx W hW hJ hJx hY h0
  have Y : Yd l T B (sayP (rawB par) t).length W.heap.size J Jx := ⟨fun m pre x w1 hj hl => (yield_any m (hY pre x w1 hj hl)).mono (by
      rintro e w' (⟨e1, e2, e3⟩ | ⟨e1, e2⟩)
      · exact .inl ⟨e1, e2, e3⟩
      · exact .inr ⟨e1, _, e2⟩), hJ, t1, t2, t3⟩
  have hWB : Below B w W := hW.mono hB
  have HS := Lib.hid (say_calls Y hG t par [] W v0 v1 v2 v3 v4 h0 (Nat.le_trans hB hW.size) (hT.below hWB hG) (h.keep (fun p hp => hWB.cell hp) (Nat.le_refl _)) hf (by simp))
  have hb1 := (hW.block _ (lt_of_block htb)).trans htb
  have hb2 := (hW.block _ (lt_of_block hnb)).trans hnb
  have c0 : W.cell? ⟨tb, 0, none⟩ = some v0 := by rw [block_cell hb1]; rfl
  have c1 : W.cell? ⟨tb, 1, none⟩ = some v1 := by rw [block_cell hb1]; rfl
  have c2 : W.cell? ⟨tb, 2, none⟩ = some v2 := by rw [block_cell hb1]; rfl
  have c3 : W.cell? ⟨tb, 3, none⟩ = some v3 := by rw [block_cell hb1]; rfl
  have c4 : W.cell? ⟨tb, 4, none⟩ = some v4 := by rw [block_cell hb1]; rfl
  have d0 : W.cell? ⟨nb, 0, none⟩ = some (.string par) := by rw [block_cell hb2]; rfl
  clear hW hJ hJx hY h0 Y hWB hT htb hnb hb1 hb2 hf
  refine callsIn_wide.2 ?_
  show Calls Tryz.prog 28 #[.func (.yield l) #[] #[], .pointer (some ⟨tb, 0, none⟩), .pointer (some ⟨nb, 0, none⟩)] W _
  cases t with
  | mk k' n' s' al' ks' =>
  unfold IsTree at h
  obtain ⟨rfl, rfl, rfl, _, _, _, A', ac', K', kc', rfl, rfl, _, _, _, _⟩ := h
  go_enter Tryz.func28, Tryz.ntmps28
  go_wp2_with fail
  refine HS.out.mono ?_
  rintro e w2 (⟨rfl, hJ2, hk2⟩ | ⟨rfl, q, hq⟩)
  · go_wp2_with fail
    go_end0
    exact ⟨⟨_, rfl⟩, .inl ⟨_, by rw [List.nil_append], hJ2⟩⟩
  · go_wp2_with fail
    go_end0
    exact ⟨⟨_, rfl⟩, .inr ⟨q, trivial, hq⟩⟩
end Go.Proofs.YtbjcahhijfommaaGreatDoor.Tr
