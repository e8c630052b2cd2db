/- strings' appendSliceWriter: written to. -/
import Derived.Test.YtioaigedcoapcaaGreatDoorProg
import Derived.Test.YtioaigedcoapcaaGreatDoorApp
import Derived.Handy
namespace Go.Proofs.YtioaigedcoapcaaGreatDoor.Gr
open Go Go.RowKit Go.Proofs.YtioaigedcoapcaaGreatDoor.Tr Go.Proofs.YtioaigedcoapcaaGreatDoor.Ap
set_option linter.unusedVariables false
set_option maxRecDepth 100000

/-- A buffer in block b, its row's value v. -/
structure Buf (w : World) (B b : Nat) (v : Value) (l : List UInt8) : Prop where
  blk : w.heap[b]? = some (.cells #[v] 510 (0, 0))
  row : w.ownsRow B 5 1 v l.length (Lib.byteCells l)
  ne : v.ownBlock ≠ some b
def bufOwn (b : Nat) (v : Value) (k : Nat) : Prop := k = b ∨ v.ownBlock = some k
theorem Buf.keep {w w' : World} {B b : Nat} {v : Value} {l : List UInt8} (h : Buf w B b v l) (hk : ∀ k, bufOwn b v k → w'.heap[k]? = w.heap[k]?) : Buf w' B b v l := by
  refine ⟨(hk b (.inl rfl)).trans h.blk, ⟨h.row.1, ?_⟩, h.ne⟩
  rcases h.row.2 with h2 | ⟨g, cap, cur, h1, h5, h6, h7⟩
  · exact .inl h2
  · exact .inr ⟨g, cap, cur, h1, h5, (hk g (.inr (by rw [h1]; rfl))).trans h6, h7⟩
theorem Buf.lt {w : World} {B b : Nat} {v : Value} {l : List UInt8} (h : Buf w B b v l) : ∀ k, bufOwn b v k → k < w.heap.size := by
  rintro k (rfl | hk)
  · exact lt_of_block h.blk
  · exact (h.row.lt k hk).2
theorem Buf.below {w w' : World} {B b : Nat} {v : Value} {l : List UInt8} (h : Buf w B b v l) (hb : Below w.heap.size w w') : Buf w' B b v l := h.keep fun k hk => hb.block k (h.lt k hk)
def BufEnd (B b : Nat) (v : Value) (l : List UInt8) (s : ByteArray) (w : World) (e : Ending) (w' : World) : Prop :=
  ∃ v', e = .returned (.tuple #[.int .i64 s.size, .nilIface]) ∧ Buf w' B b v' (l ++ s.data.toList) ∧ Fr (bufOwn b v) w.heap.size w w' ∧ ∀ k, bufOwn b v' k → bufOwn b v k ∨ w.heap.size ≤ k
theorem u8_info : (Tryz.prog.info? 5).map (fun i => (i.zero, i.size, i.bytes)) = some (some (.int .u8 0), 1, 1) := by kernel_rfl
set_option maxHeartbeats 2000000 in
theorem buf_calls (B b : Nat) (v : Value) (l : List UInt8) (s : ByteArray) (w : World) (h : Buf w B b v l) (hlen : l.length + s.size ≤ 140737488355328) (hB : B ≤ w.heap.size) :
    Calls Tryz.prog 497 #[.pointer (some ⟨b, 0, none⟩), .string s] w (BufEnd B b v l s w) := by
  obtain ⟨i0, hi, hz0, hz1, hz2⟩ := info_parts u8_info
  have H := Lib.hid h
  have hne := h.ne
  have hbl := h.lt b (.inl rfl)
  have hrow := h.row
  have HROW := Lib.hid hrow
  have c0 : w.cell? ⟨b, 0, none⟩ = some v := by rw [block_cell h.blk]; rfl
  obtain ⟨ao0, n0, cap0, hv0⟩ : ∃ ao n' cap, v = .slice ao n' cap := by
    rcases hrow.2 with ⟨hv, _⟩ | ⟨g, cap, cur, hv, _⟩
    · exact ⟨_, _, _, hv⟩
    · exact ⟨_, _, _, hv⟩
  have HV0 := Lib.hid hv0
  clear h hrow hv0
  go_enter Tryz.func497, Tryz.ntmps497
  go_wp2_with (at_builtin; refine wpList_append_string_at rfl _ _ 510 9 rfl B 5 i0 Tryz.underlying510 Tryz.underlying9 hi hz0 hz1 hz2 _ _ _ rfl HROW.out s rfl ?c3 ?c4 ?c5 ?_)
  case c3 => unfold maxLen; omega
  case c4 => omega
  case c5 => omega
  intro v' w2 hown' hgrow hat
  obtain ⟨ao, n', cap, rfl⟩ : ∃ ao n' cap, v' = .slice ao n' cap := by
    rcases hown'.2 with ⟨hv, _⟩ | ⟨g, cap, cur, hv, _⟩
    · exact ⟨_, _, _, hv⟩
    · exact ⟨_, _, _, hv⟩
  generalize hv' : Value.slice ao n' cap = v' at hown' hat ⊢
  have hb2 : w2.heap[b]? = some (.cells #[v] 510 (0, 0)) := (hgrow.block b (by omega) (fun e => hne e.symm)).trans H.out.blk
  have d0 : w2.cell? ⟨b, 0, none⟩ = some v := by rw [block_cell hb2]; rfl
  have f1 : w2.frozen? ⟨b, 0, none⟩ = false := Lib.frozen_of_heap hb2 0
  have HO := Lib.hid hown'
  have HG := Lib.hid hgrow
  have HA := Lib.hid hat
  have HB2 := Lib.hid hb2
  clear hown' hgrow hat hb2 c0
  subst hv'
  go_wp2_with fail
  go_ret2
  generalize hv' : Value.slice ao n' cap = v' at HO HA ⊢
  have hs2 := HG.out.size
  have hset : (w2.setCell ⟨b, 0, none⟩ v').heap[b]? = some (.cells #[v'] 510 (0, 0)) := heap_setCell_same w2 b 0 _ _ v' HB2.out
  have hne' : v'.ownBlock ≠ some b := by
    rcases HA.out with e | e
    · rw [e]; exact hne
    · rw [e]; intro e2; injection e2 with e2; omega
  refine ⟨v', rfl, ⟨hset, ?_, hne'⟩, ?_, ?_⟩
  · have e1 : Lib.byteCells (l ++ s.data.toList) = Lib.byteCells l ++ Lib.strCells s := by simp [Lib.byteCells, Lib.strCells]
    have e2 : (l ++ s.data.toList).length = l.length + s.size := by rw [List.length_append]; rfl
    rw [e1, e2]
    refine ⟨HO.out.1, ?_⟩
    rcases HO.out.2 with h2 | ⟨g, cap, cur, h1, h5, h6, h7⟩
    · exact .inl h2
    · exact .inr ⟨g, cap, cur, h1, h5, setCell_old h6 (fun e => hne' (by rw [h1]; exact congrArg some e)) _, h7⟩
  · refine (((Fr.refl (bufOwn b v) w.heap.size w).grown HG.out (Nat.le_refl _) fun k hk => .inr (.inr hk)).setCell (.inr (.inl rfl)) _)
  · rintro k (rfl | hk)
    · exact .inl (.inl rfl)
    · rcases HA.out with e | e
      · exact .inl (.inr (e.symm.trans hk))
      · rw [e] at hk; injection hk with hk; right; omega
end Go.Proofs.YtioaigedcoapcaaGreatDoor.Gr
