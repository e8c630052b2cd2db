/- strings' generic replacer: a key is added at its root. -/
import Derived.Test.YtioaigedcoapcaaGreatDoorTrie
import Derived.Deep.QuietTactic
import Derived.BigQuiet
import Derived.Test.YtioaigedcoapcaaGreatDoorKr
namespace Go.Proofs.YtioaigedcoapcaaGreatDoor.Gr
open Go Go.RowKit Go.Proofs.YtioaigedcoapcaaGreatDoor.Tr
set_option linter.unusedVariables false
set_option maxRecDepth 100000
theorem mixed : Tryz.prog.follows .mixedOrders = true := by kernel_rfl

/-- The replacer's cells: its root has a table. -/
def gcells (tb : Value) (ts : Int) (M : List Int) : Array Value := #[.string ⟨#[]⟩, .int .i64 0, .string ⟨#[]⟩, .pointer none, tb, .int .i64 ts] ++ (M.map (Value.int .u8)).toArray
theorem gcells_head {tb : Value} {ts : Int} {M : List Int} : (gcells tb ts M)[0]? = some (.string ⟨#[]⟩) ∧ (gcells tb ts M)[1]? = some (.int .i64 0) ∧ (gcells tb ts M)[2]? = some (.string ⟨#[]⟩) ∧ (gcells tb ts M)[3]? = some (.pointer none) ∧ (gcells tb ts M)[4]? = some tb ∧ (gcells tb ts M)[5]? = some (.int .i64 ts) := by
  unfold gcells
  refine ⟨?_, ?_, ?_, ?_, ?_, ?_⟩ <;> rw [Array.getElem?_append_left (by simp)] <;> rfl
theorem gcells_map {tb : Value} {ts : Int} {M : List Int} (i : Nat) : (gcells tb ts M)[6 + i]? = (M[i]?).map (Value.int .u8) := by
  unfold gcells
  rw [Array.getElem?_append_right (by simp)]
  simp
structure Gen (w : World) (g : Nat) (tb : Value) (ts : Int) (M : List Int) : Prop where
  blk : w.heap[g]? = some (.cells (gcells tb ts M) 453 (0, 0))
  len : M.length = 256
theorem Gen.cells {w : World} {g : Nat} {tb : Value} {ts : Int} {M : List Int} (h : Gen w g tb ts M) :
    w.cell? ⟨g, 0, none⟩ = some (.string ⟨#[]⟩) ∧ w.cell? ⟨g, 1, none⟩ = some (.int .i64 0) ∧ w.cell? ⟨g, 2, none⟩ = some (.string ⟨#[]⟩) ∧ w.cell? ⟨g, 3, none⟩ = some (.pointer none) ∧ w.cell? ⟨g, 4, none⟩ = some tb ∧ w.cell? ⟨g, 5, none⟩ = some (.int .i64 ts) := by
  obtain ⟨h0, h1, h2, h3, h4, h5⟩ := gcells_head (tb := tb) (ts := ts) (M := M)
  exact ⟨by rw [block_cell h.blk, h0], by rw [block_cell h.blk, h1], by rw [block_cell h.blk, h2], by rw [block_cell h.blk, h3], by rw [block_cell h.blk, h4], by rw [block_cell h.blk, h5]⟩
theorem Gen.at {w : World} {g : Nat} {tb : Value} {ts : Int} {M : List Int} (h : Gen w g tb ts M) (i : Nat) {m : Int} (hm : M[i]? = some m) : w.cell? ⟨g, 6 + i, none⟩ = some (.int .u8 m) := by
  rw [block_cell h.blk, gcells_map, hm]; rfl
theorem Gen.free {w : World} {g : Nat} {tb : Value} {ts : Int} {M : List Int} (h : Gen w g tb ts M) (i : Nat) : w.frozen? ⟨g, i, none⟩ = false := frozen_of_row w g i _ _ h.blk
theorem Gen.old {w w' : World} {g : Nat} {tb : Value} {ts : Int} {M : List Int} (h : Gen w g tb ts M) (hk : w'.heap[g]? = w.heap[g]?) : Gen w' g tb ts M := ⟨hk.trans h.blk, h.len⟩
/-- The root's table. -/
structure Tabl (w : World) (tb : Nat) (Tb : List Value) : Prop where
  blk : w.heap[tb]? = some (.cells Tb.toArray 448 (0, 0))
theorem Tabl.at {w : World} {tb : Nat} {Tb : List Value} (h : Tabl w tb Tb) (i : Nat) : w.cell? ⟨tb, i, none⟩ = Tb[i]? := by
  rw [block_cell h.blk]; simp
theorem Tabl.free {w : World} {tb : Nat} {Tb : List Value} (h : Tabl w tb Tb) (i : Nat) : w.frozen? ⟨tb, i, none⟩ = false := frozen_of_row w tb i _ _ h.blk
theorem Tabl.set {w : World} {tb : Nat} {Tb : List Value} (h : Tabl w tb Tb) (i : Nat) (x : Value) : Tabl (w.setCell ⟨tb, i, none⟩ x) tb (Tb.set i x) :=
  ⟨by rw [heap_setCell_same w tb i _ _ x h.blk]; simp⟩
/-- What adding a key at the root leaves. -/
def RootEnd (w : World) (tb : Nat) (Tb : List Value) (m : Nat) (rest v : ByteArray) (p : Int) (e : Ending) (w' : World) : Prop :=
  e = .returned (.tuple #[]) ∧ ∃ nb, w.heap.size ≤ nb ∧ Tabl w' tb (Tb.set m (.pointer (some ⟨nb, 0, none⟩))) ∧ Sub w' nb rest v p ∧ Fr (· = tb) w.heap.size w w'
theorem root_add (g tb n : Nat) (M : List Int) (Tb : List Value) (key v : ByteArray) (p : Int) (c m : Nat) (w : World)
    (hg : Gen w g (.slice (some ⟨tb, 0, none⟩) n n) n M) (ht : Tabl w tb Tb) (hl : Tb.length = n) (hn : n ≤ 256) (hne : g ≠ tb) (hk : 0 < key.size) (hk2 : key.size ≤ 1000) (hc : key[0].toNat = c) (hm : M[c]? = some (m : Int)) (hmn : m < n) (hT : Tb[m]? = some (.pointer none)) :
    Calls Tryz.prog 419 #[.pointer (some ⟨g, 0, none⟩), .string key, .string v, .int .i64 p, .pointer (some ⟨g, 0, none⟩)] w (RootEnd w tb Tb m (key.extract 1 key.size) v p) := by
  obtain ⟨c0, c1, c2, c3, c4, c5⟩ := hg.cells
  have hcb : c < 256 := by have := key[0].toNat_lt; omega
  have hb0 : (0 : Int) ≤ (c : Int) := by omega
  have hb1 : (c : Int) < 256 := by omega
  have cm := hg.at c hm
  have ct : w.cell? ⟨tb, m, none⟩ = some (.pointer none) := (ht.at m).trans hT
  have ft := ht.free m
  have hb2 : (0 : Int) ≤ (m : Int) := by omega
  have hb3 : (m : Int) < (n : Int) := by omega
  have hkl : key.toList = [] ↔ False := ⟨fun e => by rw [ByteArray.toList_eq] at e; have := congrArg List.length e; have h' : key.size = key.data.toList.length := rfl; rw [h', e] at hk; exact absurd hk (by decide), False.elim⟩
  have hk3 : key.toList.isEmpty = false := by rw [List.isEmpty_eq_false_iff]; exact fun e => hkl.1 e
  have htl := lt_of_block ht.blk
  have G := Lib.hid hg
  have T := Lib.hid ht
  have hs : (.slice (some ⟨tb, 0, none⟩) n n : Value) ≠ .slice none 0 0 := by simp
  have hgl := lt_of_block hg.blk
  have H0 := Lib.hid hT
  clear hg ht hm hT hkl
  go_enter Tryz.func419, Tryz.ntmps419
  go_wp2_with fail
  go_quiet (fail)
  have hF : Fr (· = tb) w.heap.size w (w.drewN nq) := (Fr.refl _ _ _).drewN nq
  have hh : (w.drewN nq).heap = w.heap := rfl
  generalize w.drewN nq = w1 at hF hh ⊢
  have G1 : Hid (Gen w1 g (.slice (some ⟨tb, 0, none⟩) n n) n M) := Lib.hid (G.out.old (by rw [hh]))
  have T1 : Hid (Tabl w1 tb Tb) := Lib.hid ⟨by rw [hh]; exact T.out.blk⟩
  clear c0 c1 c2 c3 c4 c5 cm ct ft
  obtain ⟨c0, c1, c2, c3, c4, c5⟩ := G1.out.cells
  have ct : w1.cell? ⟨tb, m, none⟩ = some (.pointer none) := (T1.out.at m).trans H0.out
  have ft := T1.out.free m
  have hs1 : w1.heap.size = w.heap.size := by rw [hh]
  have HS := Lib.hid hs1
  have F1 := Lib.hid hF
  have htl1 : tb < w1.heap.size := by omega
  have hgl1 : g < w1.heap.size := by omega
  clear hF hh hs1 hgl
  go_wp2_with fail
  have F2 : Fr (· = tb) w.heap.size w ((w1.setCell ⟨tb, m, none⟩ (.pointer (some ⟨w1.heap.size, 0, none⟩))).alloc (.cells #[.string ⟨#[]⟩, .int .i64 0, .string ⟨#[]⟩, .pointer none, .slice none 0 0] 451)) :=
    (F1.out.setCell (p := ⟨tb, m, none⟩) (.inr rfl) _).alloc (by simp [HS.out]) _
  have G2 : Gen ((w1.setCell ⟨tb, m, none⟩ (.pointer (some ⟨w1.heap.size, 0, none⟩))).alloc (.cells #[.string ⟨#[]⟩, .int .i64 0, .string ⟨#[]⟩, .pointer none, .slice none 0 0] 451)) g (.slice (some ⟨tb, 0, none⟩) n n) n M :=
    ⟨alloc_old (setCell_old G1.out.blk hne _) _, G1.out.len⟩
  have T2 : Tabl ((w1.setCell ⟨tb, m, none⟩ (.pointer (some ⟨w1.heap.size, 0, none⟩))).alloc (.cells #[.string ⟨#[]⟩, .int .i64 0, .string ⟨#[]⟩, .pointer none, .slice none 0 0] 451)) tb (Tb.set m (.pointer (some ⟨w1.heap.size, 0, none⟩))) :=
    ⟨alloc_old (T1.out.set m _).blk _⟩
  have N2 : Fresh ((w1.setCell ⟨tb, m, none⟩ (.pointer (some ⟨w1.heap.size, 0, none⟩))).alloc (.cells #[.string ⟨#[]⟩, .int .i64 0, .string ⟨#[]⟩, .pointer none, .slice none 0 0] 451)) w1.heap.size :=
    alloc_at (by simp) _
  generalize (w1.setCell ⟨tb, m, none⟩ (.pointer (some ⟨w1.heap.size, 0, none⟩))).alloc (.cells #[.string ⟨#[]⟩, .int .i64 0, .string ⟨#[]⟩, .pointer none, .slice none 0 0] 451) = w2 at F2 G2 T2 N2 ⊢
  clear c0 c1 c2 c3 c4 c5 ct ft
  have hgs2 := lt_of_block G2.blk
  have hts2 := lt_of_block T2.blk
  have hns2 := N2.lt
  generalize hnb : w1.heap.size = nb at T2 N2 hns2 ⊢
  have hnb1 : w.heap.size ≤ nb := by rw [← hnb]; exact F1.out.size
  clear hnb HS
  have F3 : Fr (· = tb) w.heap.size w w2.drew := F2.drew
  obtain ⟨w3, hw3⟩ : ∃ w3, w3 = w2.drew := ⟨_, rfl⟩
  have hh3 : w3.heap = w2.heap := by rw [hw3]; rfl
  have G3 : Gen w3 g (.slice (some ⟨tb, 0, none⟩) n n) n M := G2.old (by rw [hh3])
  have T3 : Tabl w3 tb (Tb.set m (.pointer (some ⟨nb, 0, none⟩))) := ⟨by rw [hh3]; exact T2.blk⟩
  have N3 : Fresh w3 nb := N2.old (by rw [hh3])
  rw [← hw3] at F3
  rw [← hh3] at hgs2 hts2 hns2
  obtain ⟨c0, c1, c2, c3, c4, c5⟩ := G3.cells
  have ct : w3.cell? ⟨tb, m, none⟩ = some (.pointer (some ⟨nb, 0, none⟩)) := (T3.at m).trans (by rw [List.getElem?_set_self (by omega)])
  have r4 := cell_regrown c4
  have rt := cell_regrown ct
  have F3' := Lib.hid F3
  have T3' := Lib.hid T3
  have N3' := Lib.hid N3
  clear F2 G2 T2 N2 F3 G3 T3 N3 c0 c1 c2 c3 c5 c4 ct hh3
  refine Kr.wp_region_T 12 [12] []
    (by simp only [List.take_succ_cons, List.take_zero] <;> rfl) (by simp only [Kr.takeI, List.getElem?_cons_succ, List.getElem?_cons_zero] <;> rfl) mixed (by kernel_rfl) ?_
  rw [← hw3]
  clear hw3
  repeat (refine Kr.wpR_one rfl rfl ?_; go_big_quiet_step (fail); refine wpQuiet_nil ?_)
  refine Kr.wpR_nil ?_
  intro w4 hb4 hH
  clear hH r4 rt
  have F4 : Fr (· = tb) w.heap.size w w4 := F3'.out.trans ((Fr.of_below hb4).mono F3'.out.size (fun k _ hk => hk))
  have T4 : Tabl w4 tb (Tb.set m (.pointer (some ⟨nb, 0, none⟩))) := ⟨(hb4.block _ hts2).trans T3'.out.blk⟩
  have N4 : Hid (Fresh w4 nb) := Lib.hid (N3'.out.old (hb4.block _ hns2))
  have ht4 := lt_of_block T4.blk
  have F4' := Lib.hid F4
  have T4' := Lib.hid T4
  clear F4 T4 hb4 hns2 hts2 hgs2
  go_wp2_with fail
  refine (fresh_add nb _ v p _ _ N4.out).mono ?_
  rintro e w5 ⟨rfl, hS, hF⟩
  go_wp2_with fail
  go_end0
  refine ⟨rfl, nb, hnb1, ⟨(hF.block tb ?_ ?_).trans T4'.out.blk⟩, hS, F4'.out.trans (hF.mono F4'.out.size fun k hk e => ?_)⟩
  · exact ht4
  · exact fun e : tb = nb => by omega
  · exact absurd (show k = nb from e) (by omega)
end Go.Proofs.YtioaigedcoapcaaGreatDoor.Gr
