/- The law SerialRuns: for every input the call returns true, and each argument reads behind the call as it read before. Its row lists unicode.White_Space and strings.asciiSpace, tied to the program's text by the given tie. No other condition. -/
import Derived.Test.YtbjcahhijfommaaDoorJnP
import Derived.Test.YtbjcahhijfommaaDoorRescS
import Derived.Test.YtbjcahhijfommaaDoorSay
import Derived.IntWalk
import Derived.Test.YtbjcahhijfommaaDoorNextS
import Derived.Test.YtbjcahhijfommaaDoorSerT
import Derived.Test.YtbjcahhijfommaaDoorPk
import Derived.Test.YtbjcahhijfommaaDoorJnW
import Derived.WalkLawsBesides
import Derived.WalkSpells
import Derived.Lib.LaidTab
import Derived.Lib.LaidU8
import Derived.Test.YtbjcahhijfommaaDoorStk
import Derived.Test.YtbjcahhijfommaaDoorRows
import Derived.Test.YtbjcahhijfommaaDoorTie
import Derived.Test.YtbjcahhijfommaaDoorCards
import Derived.WalkKit
import Derived.ProofKit
import Derived.OpenShut
import Derived.ShutString
import Derived.ChangeOld
import Derived.Below
import Derived.Lib.LaidIn
import Derived.Lib.LaidU8T
import Derived.PinnedBridge
import Derived.Deep.DeepHandedRow
import Derived.Deep.DeepWitnessRowRef
import Derived.SizedLaws
import Derived.SevenTiedAt
namespace Go.Proofs.YtbjcahhijfommaaDoor.Tr
open Go Go.RowKit
set_option linter.unusedVariables false

def ltrs (s : ByteArray) : Prop := ∀ (i : Nat) (h : i < s.size), 97 ≤ (s[i]).toNat ∧ (s[i]).toNat ≤ 102
theorem ltrs_app {a b : ByteArray} (ha : ltrs a) (hb : ltrs b) : ltrs (a ++ b) := by
  intro i hi
  rw [ByteArray.size_append] at hi
  rcases Nat.lt_or_ge i a.size with h | h
  · rw [ByteArray.getElem_append_left h]; exact ha i h
  · rw [ByteArray.getElem_append_right h]; exact hb _ (by omega)
theorem ext_succ (s : ByteArray) (i : Nat) (hi : i < s.size) : s.extract 0 i ++ s.extract i (i + 1) = s.extract 0 (i + 1) := by
  rw [ByteArray.extract_append_extract]; simp
theorem esc_ltrs {s : ByteArray} (h : ltrs s) : Gr.escB false s = s := by
  have key : ∀ i, i ≤ s.size → Ch.RepI false s (s.extract 0 i) i := by
    intro i
    induction i with
    | zero => intro _; rw [show s.extract 0 0 = ⟨#[]⟩ by simp; rfl]; exact Ch.repI_start false s
    | succ i ih =>
      intro hi
      have hl := h i (by omega)
      have := (ih (by omega)).skip (by omega) (Ch.h_none (by omega) (by omega) (by omega) (by omega) (fun e => by cases e) (fun e => by omega))
      rwa [ext_succ s i (by omega)] at this
  have := (key s.size (Nat.le_refl _)).done
  rw [← this]
  simp
def tx (s : ByteArray) : Nd := .mk 3 ⟨#[]⟩ s [] []
def elB : Nd := .mk 2 ⟨#[98]⟩ ⟨#[]⟩ [] []
theorem joinT_tx (s : ByteArray) : joinT (tx s) = tx s := by unfold tx; simp [joinT, joinL]
theorem joinT_el : joinT elB = elB := by unfold elB; simp [joinT, joinL]
theorem say_tx {s : ByteArray} (h : ltrs s) : sayT false (tx s) = s.data.toList := by
  unfold tx; simp [sayT, esc_ltrs h]
theorem ltrs_nil : ltrs ⟨#[]⟩ := fun i h => absurd h (Nat.not_lt_zero _)
def nice (m : Nat) (x : Nd) : Prop := x = elB ∨ ∃ s, x = tx s ∧ ltrs s ∧ s.size ≤ m
theorem nice.mono {m m' : Nat} {x : Nd} (h : nice m x) (hm : m ≤ m') : nice m' x := by
  rcases h with h | ⟨s, h1, h2, h3⟩
  · exact .inl h
  · exact .inr ⟨s, h1, h2, by omega⟩
structure RInv (kids : List Nd) (want : List ByteArray) (run : Bool) : Prop where
  eq : (joinL kids []).map (·.text) = want
  last : run = true ↔ ∃ init s, joinL kids [] = init ++ [tx s]
  nc : ∀ x ∈ joinL kids [], nice kids.length x
  kn : ∀ x ∈ kids, nice 1 x
  say : sayL false (joinL kids []) = sayL false kids
theorem joinL_snoc (kids : List Nd) (u : Nd) : joinL (kids ++ [u]) [] = joinAt (joinL kids []) u (joinT u) := by
  rw [joinL_append]; simp only [joinL]
theorem rinv_nil : RInv [] [] false := by
  refine ⟨by simp [joinL], ?_, by simp [joinL], by simp, by simp [joinL]⟩
  constructor
  · intro h; cases h
  · rintro ⟨i, s, h⟩; simp [joinL] at h
theorem el_ne_tx {i j : List Nd} {s : ByteArray} : i ++ [elB] ≠ j ++ [tx s] := by
  intro h
  have := (List.append_inj' h rfl).2
  unfold elB tx at this
  simp at this
theorem rinv_el {kids : List Nd} {want : List ByteArray} {run : Bool} (h : RInv kids want run) : RInv (kids ++ [elB]) (want ++ [⟨#[]⟩]) false := by
  have e : joinL (kids ++ [elB]) [] = joinL kids [] ++ [elB] := by rw [joinL_snoc, joinT_el]; exact joinAt_other (by unfold elB; decide)
  refine ⟨by rw [e, List.map_append, h.eq]; rfl, ?_, ?_, ?_, by rw [e, sayL_append, sayL_append, h.say]⟩
  · constructor
    · intro h; cases h
    · rintro ⟨i, s, hi⟩; rw [e] at hi; exact absurd hi el_ne_tx
  · intro x hx
    rw [e] at hx
    rcases List.mem_append.1 hx with hx | hx
    · exact (h.nc x hx).mono (by simp)
    · simp at hx; exact .inl hx
  · intro x hx
    rcases List.mem_append.1 hx with hx | hx
    · exact h.kn x hx
    · simp at hx; exact .inl hx
theorem rinv_no {kids : List Nd} {want : List ByteArray} {run : Bool} (h : RInv kids want run) : RInv (kids ++ [tx ⟨#[]⟩]) want run := by
  have e : joinL (kids ++ [tx ⟨#[]⟩]) [] = joinL kids [] := by rw [joinL_snoc]; exact joinAt_none rfl rfl
  refine ⟨by rw [e]; exact h.eq, by rw [e]; exact h.last, ?_, ?_, by rw [e, sayL_append, h.say]; simp [sayL, say_tx ltrs_nil]⟩
  · intro x hx
    rw [e] at hx
    exact (h.nc x hx).mono (by simp)
  · intro x hx
    rcases List.mem_append.1 hx with hx | hx
    · exact h.kn x hx
    · simp at hx; exact .inr ⟨_, hx, ltrs_nil, Nat.zero_le _⟩
theorem size_one_ne {s : ByteArray} (h : s.size = 1) : s ≠ ⟨#[]⟩ := by rintro rfl; cases h
theorem rinv_new {kids : List Nd} {want : List ByteArray} (h : RInv kids want false) {s : ByteArray} (hl : ltrs s) (hs : s.size = 1) : RInv (kids ++ [tx s]) (want ++ [s]) true := by
  have e : joinL (kids ++ [tx s]) [] = joinL kids [] ++ [tx s] := by
    rw [joinL_snoc, joinT_tx]
    rcases nil_or_snoc (joinL kids []) with hj | ⟨init, x, hj⟩
    · rw [hj]; exact joinAt_first rfl (size_one_ne hs)
    · rw [hj]
      refine joinAt_off rfl (size_one_ne hs) ?_
      unfold fitsOn
      refine decide_eq_false ?_
      rintro ⟨hk, _⟩
      rcases h.nc x (by rw [hj]; simp) with rfl | ⟨s', rfl, _⟩
      · unfold elB at hk; exact absurd hk (by decide)
      · have := h.last.2 ⟨init, s', hj⟩
        cases this
  refine ⟨by rw [e, List.map_append, h.eq]; rfl, ⟨fun _ => ⟨_, s, e⟩, fun _ => rfl⟩, ?_, ?_, by rw [e, sayL_append, sayL_append, h.say]⟩
  · intro x hx
    rw [e] at hx
    rcases List.mem_append.1 hx with hx | hx
    · exact (h.nc x hx).mono (by simp)
    · simp at hx; exact .inr ⟨s, hx, hl, by simp; omega⟩
  · intro x hx
    rcases List.mem_append.1 hx with hx | hx
    · exact h.kn x hx
    · simp at hx; exact .inr ⟨s, hx, hl, by omega⟩
theorem rinv_last {kids : List Nd} {want : List ByteArray} (h : RInv kids want true) : ∃ (init : List Nd) (a : ByteArray), joinL kids [] = init ++ [tx a] ∧ want = init.map (·.text) ++ [a] ∧ ltrs a ∧ a.size ≤ kids.length := by
  obtain ⟨init, a, hj⟩ := h.last.1 rfl
  refine ⟨init, a, hj, by rw [← h.eq, hj, List.map_append]; rfl, ?_⟩
  rcases h.nc (tx a) (by rw [hj]; simp) with he | ⟨s', he, h1, h2⟩
  · unfold tx elB at he; simp at he
  · unfold tx at he; simp at he; subst he; exact ⟨h1, h2⟩
theorem rinv_on {kids : List Nd} {w0 : List ByteArray} {a : ByteArray} (h : RInv kids (w0 ++ [a]) true) (hk : kids.length ≤ 40) {s : ByteArray} (hl : ltrs s) (hs : s.size = 1) : RInv (kids ++ [tx s]) (w0 ++ [a ++ s]) true := by
  obtain ⟨init, a', hj, hw, ha, hz⟩ := rinv_last h
  obtain ⟨hw1, hw2⟩ := List.append_inj' hw rfl
  simp at hw2
  subst hw2
  have e : joinL (kids ++ [tx s]) [] = init ++ [tx (a ++ s)] := by
    rw [joinL_snoc, hj]
    exact joinAt_on rfl (size_one_ne hs) (by unfold fitsOn; exact decide_eq_true ⟨rfl, by show a.size + s.size ≤ 4096; omega⟩)
  have hn := h.nc
  have hsay := h.say
  rw [hj] at hn hsay
  refine ⟨by rw [e, List.map_append, hw1]; rfl, ⟨fun _ => ⟨init, _, e⟩, fun _ => rfl⟩, ?_, ?_, ?_⟩
  · intro x hx
    rw [e] at hx
    rcases List.mem_append.1 hx with hx | hx
    · exact (hn x (List.mem_append_left _ hx)).mono (by simp)
    · simp at hx; exact .inr ⟨a ++ s, hx, ltrs_app ha hl, by rw [ByteArray.size_append]; simp; omega⟩
  · intro x hx
    rcases List.mem_append.1 hx with hx | hx
    · exact h.kn x hx
    · simp at hx; exact .inr ⟨s, hx, hl, by omega⟩
  · rw [e, sayL_append, sayL_append, ← hsay, sayL_append]
    simp [sayL, say_tx (ltrs_app ha hl), say_tx ha, say_tx hl]
end Go.Proofs.YtbjcahhijfommaaDoor.Tr
namespace Go.Proofs.YtbjcahhijfommaaDoor.Tr
open Go Go.RowKit
set_option linter.unusedVariables false

theorem string_info : (Tryd.prog.info? 9).map (fun i => (i.zero, i.size, i.bytes)) = some (some (.string ByteArray.empty), 1, 16) := by kernel_rfl
/-- A number as one below n. -/
def placeI (v n : Int) : Nat := (if v.tmod n < 0 then v.tmod n + n else v.tmod n).toNat
theorem placeI_lt {v n : Int} (h0 : 0 < n) : (placeI v n : Int) < n := by
  have b1 := Int.tmod_lt_of_pos v h0
  have b0 : -n < v.tmod n := by have := Int.lt_tmod_of_pos v h0; omega
  unfold placeI
  split <;> omega
theorem place_is (v n : Int) (h0 : 0 < n) (h1 : n ≤ 4611686018427387904) (w : World) :
    Calls Tryd.prog 12 #[.int .i64 v, .int .i64 n] w fun e w' => e = .returned (.int .i64 (placeI v n : Nat)) ∧ w = w' := by
  have b1 := Int.tmod_lt_of_pos v h0
  have b0 : -n < v.tmod n := by have := Int.lt_tmod_of_pos v h0; omega
  have hn : ¬ n = 0 := by omega
  have hn1 : (n == 0) = false := by rw [beq_eq_false_iff_ne]; omega
  unfold placeI
  rcases Int.lt_or_le (v.tmod n) 0 with h | h
  · go_enter Tryd.func12, Tryd.ntmps12
    go_wp2
    go_ret
    exact ⟨congrArg (fun x => Ending.returned (.int .i64 x)) (by omega), rfl⟩
  · go_enter Tryd.func12, Tryd.ntmps12
    go_wp2
    go_ret
    exact ⟨congrArg (fun x => Ending.returned (.int .i64 x)) (by omega), rfl⟩
attribute [irreducible] placeI
/-- A letter. -/
def ltr (p : Nat) : ByteArray := (⟨#[97, 98, 99, 100, 101, 102]⟩ : ByteArray).extract p (p + 1)
theorem ltrs_one {s : ByteArray} (c : UInt8) (h : s = ⟨#[c]⟩) (hc : 97 ≤ c.toNat ∧ c.toNat ≤ 102) : ltrs s := by
  subst h
  intro i hi
  have hi' : i < 1 := hi
  obtain rfl : i = 0 := by omega
  exact hc
theorem ltr_ok (p : Nat) (h : (p : Int) < 6) : ltrs (ltr p) ∧ (ltr p).size = 1 := by
  have h : p = 0 ∨ p = 1 ∨ p = 2 ∨ p = 3 ∨ p = 4 ∨ p = 5 := by omega
  rcases h with rfl | rfl | rfl | rfl | rfl | rfl
  · exact ⟨ltrs_one 97 (by decide) (by decide), by decide⟩
  · exact ⟨ltrs_one 98 (by decide) (by decide), by decide⟩
  · exact ⟨ltrs_one 99 (by decide) (by decide), by decide⟩
  · exact ⟨ltrs_one 100 (by decide) (by decide), by decide⟩
  · exact ⟨ltrs_one 101 (by decide) (by decide), by decide⟩
  · exact ⟨ltrs_one 102 (by decide) (by decide), by decide⟩
structure RRel (b3 : Nat) (kids : List Nd) (want : List ByteArray) (kv wv : Value) (xs : List Value) (w wr : World) : Prop where
  blk : wr.heap[b3]? = some (.cells #[.int .i64 2, .string ⟨#[112]⟩, .string ⟨#[]⟩, .slice none 0 0, kv] 25 (0, 0))
  krow : wr.ownsRow (b3 + 1) 25 5 kv kids.length xs
  kids : KidRow wr (fun _ => False) kids xs
  wrow : wr.ownsRow (b3 + 1) 9 1 wv want.length (want.map .string)
  dj : ∀ g, kv.ownBlock = some g → wv.ownBlock ≠ some g
  hb : w.heap.size ≤ b3
  bel : Below w.heap.size w wr
theorem rr_skip {b3 : Nat} {kids : List Nd} {want : List ByteArray} {kv wv : Value} {xs : List Value} {w wr w3 : World} (h : RRel b3 kids want kv wv xs w wr) (hb3 : Below wr.heap.size wr w3) : RRel b3 kids want kv wv xs w w3 :=
  ⟨(hb3.block _ (lt_of_block h.blk)).trans h.blk, row_of_heap h.krow fun g hg => hb3.block g (h.krow.lt g hg).2, h.kids.keep fun c hc => hc.elim, row_of_heap h.wrow fun g hg => hb3.block g (h.wrow.lt g hg).2, h.dj, h.hb, h.bel.trans (hb3.mono h.bel.size)⟩
theorem rr_kid {b3 : Nat} {kids : List Nd} {want : List ByteArray} {kv wv v' : Value} {xs : List Value} {w wr w5 : World} {u : Nd} {x0 x1 x2 x3 x4 : Value} (h : RRel b3 kids want kv wv xs w wr)
    (hu : TreeIn wr (fun _ => False) u x0 x1 x2 x3 x4) (hrow : w5.ownsRow (b3 + 1) 25 5 v' (kids.length + 1) (xs ++ [x0, x1, x2, x3, x4])) (hg : wr.grownBy w5 kv.ownBlock) (hat : v'.ownBlock = kv.ownBlock ∨ v'.ownBlock = some wr.heap.size) :
    RRel b3 (kids ++ [u]) want v' wv (xs ++ [x0, x1, x2, x3, x4]) w (w5.setCell ⟨b3, 4, none⟩ v') := by
  have hbl := lt_of_block h.blk
  have hs := hg.size
  have hkb : kv.ownBlock ≠ some b3 := fun e => by have := (h.krow.lt b3 e).1; omega
  have hvb : v'.ownBlock ≠ some b3 := fun e => by have := (hrow.lt b3 e).1; omega
  have h5 : w5.heap[b3]? = _ := (hg.block b3 hbl (fun e => hkb e.symm)).trans h.blk
  refine ⟨?_, by rw [List.length_append]; exact row_of_heap hrow fun g hg' => Below.heap_setCell _ _ _ g (fun e => hvb (by rw [hg', e])), (h.kids.keep fun c hc => hc.elim).push (by rw [h.krow.1]) (hu.keep fun c hc => hc.elim), row_of_heap h.wrow fun g hg' => ?_, fun g hg' => ?_, h.hb, ?_⟩
  · simp only [World.setCell, Array.getElem?_modify, ↓reduceIte, h5, Option.map_some]
    rfl
  · have hl := h.wrow.lt g hg'
    exact (Below.heap_setCell _ _ _ g (by show g ≠ b3; omega)).trans (hg.block g hl.2 fun e => h.dj g e.symm hg')
  · rcases hat with e | e <;> rw [e] at hg'
    · exact h.dj g hg'
    · injection hg' with hg'
      intro e2
      have := (h.wrow.lt g e2).2
      omega
  · have h5 := h.bel.grown hg h.bel.size fun k hk => by have := (h.krow.lt k hk).1; have := h.hb; omega
    exact h5.setCell (by show _ ≤ b3; exact h.hb) _
theorem rr_want {b3 : Nat} {kids : List Nd} {want : List ByteArray} {kv wv v' : Value} {xs : List Value} {w wr w5 : World} {s : ByteArray} (h : RRel b3 kids want kv wv xs w wr)
    (hrow : w5.ownsRow (b3 + 1) 9 1 v' (want.length + 1) (want.map .string ++ [.string s])) (hg : wr.grownBy w5 wv.ownBlock) (hat : v'.ownBlock = wv.ownBlock ∨ v'.ownBlock = some wr.heap.size) :
    RRel b3 kids (want ++ [s]) kv v' xs w w5 := by
  have hwb : wv.ownBlock ≠ some b3 := fun e => by have := (h.wrow.lt b3 e).1; omega
  refine ⟨(hg.block b3 (lt_of_block h.blk) (fun e => hwb e.symm)).trans h.blk, row_of_heap h.krow fun g hg' => hg.block g (h.krow.lt g hg').2 fun e => h.dj g hg' e.symm, h.kids.keep fun c hc => hc.elim, by rw [List.length_append, List.map_append]; exact hrow, fun g hg' => ?_, h.hb, h.bel.grown hg h.bel.size fun k hk => by have := (h.wrow.lt k hk).1; have := h.hb; omega⟩
  rcases hat with e | e <;> rw [e]
  · exact h.dj g hg'
  · intro e2
    injection e2 with e2
    have := (h.krow.lt g hg').2
    omega
theorem rr_set {b3 g cap : Nat} {kids : List Nd} {w0 : List ByteArray} {a : ByteArray} {kv : Value} {xs : List Value} {w wr : World} (s : ByteArray) (h : RRel b3 kids (w0 ++ [a]) kv (.slice (some ⟨g, 0, none⟩) (w0.length + 1) cap) xs w wr) :
    RRel b3 kids (w0 ++ [a ++ s]) kv (.slice (some ⟨g, 0, none⟩) (w0.length + 1) cap) xs w (wr.setCell ⟨g, w0.length, none⟩ (.string (a ++ s))) := by
  have hr := h.wrow
  rw [show (w0 ++ [a]).length = w0.length + 1 by simp] at hr
  obtain ⟨h1, h2⟩ := hr.stored w0.length (.string (a ++ s))
  have e : ((w0 ++ [a]).map Value.string).set w0.length (.string (a ++ s)) = (w0 ++ [a ++ s]).map .string := by
    rw [List.map_append, List.map_append, List.set_append_right _ _ (by simp)]; simp
  rw [e] at h1
  have hgb := hr.lt g rfl
  refine ⟨(h2.block b3 (lt_of_block h.blk) (fun e => by injection e with e; omega)).trans h.blk, row_of_heap h.krow fun g' hg' => h2.block g' (h.krow.lt g' hg').2 fun e => h.dj g' hg' e.symm, h.kids.keep fun c hc => hc.elim, by rw [show (w0 ++ [a ++ s]).length = w0.length + 1 by simp]; exact h1, h.dj, h.hb, h.bel.grown h2 h.bel.size fun k hk => by injection hk with hk; have := h.hb; omega⟩
/-- The last wanted text, where it lies. -/
theorem rr_last {b3 : Nat} {kids : List Nd} {w0 : List ByteArray} {a : ByteArray} {kv wv : Value} {xs : List Value} {w wr : World} (h : RRel b3 kids (w0 ++ [a]) kv wv xs w wr) :
    ∃ g cap, wv = .slice (some ⟨g, 0, none⟩) (w0.length + 1) cap ∧ wr.cell? ⟨g, w0.length, none⟩ = some (.string a) ∧ wr.frozen? ⟨g, w0.length, none⟩ = false := by
  have hr := h.wrow
  rw [show (w0 ++ [a]).length = w0.length + 1 by simp] at hr
  obtain ⟨g, cap, rfl⟩ := row_form hr (by omega)
  exact ⟨g, cap, rfl, by rw [hr.cellAt _ (by omega)]; simp, hr.frozenAt _⟩
theorem slice_of_row {w : World} {base size n : Nat} {e : TypeId} {v : Value} {xs : List Value} (h : w.ownsRow base e size v n xs) : ∃ ao cp, v = .slice ao n cp := by
  rcases h.2 with ⟨h1, h2⟩ | ⟨g, cap, cur, h1, _⟩
  · exact ⟨none, 0, by rw [h2]; exact h1⟩
  · exact ⟨_, _, h1⟩
theorem tx_in {w : World} {S : Nat → Prop} {s : ByteArray} (hs : s.size ≤ maxLen) : TreeIn w S (tx s) (.int .i64 3) (.string ⟨#[]⟩) (.string s) (.slice none 0 0) (.slice none 0 0) := by
  unfold tx TreeIn
  exact ⟨rfl, rfl, rfl, by decide, by decide, hs, none, 0, none, 0, rfl, rfl, ⟨Nat.le_refl _, by unfold maxLen; omega, by simp, fun h => absurd rfl h⟩, Nat.le_refl _, by unfold maxLen; omega, fun h => absurd rfl h⟩
theorem el_in {w : World} {S : Nat → Prop} : TreeIn w S elB (.int .i64 2) (.string ⟨#[98]⟩) (.string ⟨#[]⟩) (.slice none 0 0) (.slice none 0 0) := by
  unfold elB TreeIn
  exact ⟨rfl, rfl, rfl, by decide, by decide, by decide, none, 0, none, 0, rfl, rfl, ⟨Nat.le_refl _, by unfold maxLen; omega, by simp, fun h => absurd rfl h⟩, Nat.le_refl _, by unfold maxLen; omega, fun h => absurd rfl h⟩
theorem fit_nice {m : Nat} (hm : m ≤ 6000) : ∀ {l : List Nd}, (∀ x ∈ l, nice m x) → fitL l
  | [], _ => by unfold fitL; trivial
  | x :: l, h => by
    unfold fitL
    refine ⟨?_, fit_nice hm fun y hy => h y (List.mem_cons_of_mem _ hy)⟩
    rcases h x (List.mem_cons_self ..) with rfl | ⟨s, rfl, _, hs⟩
    · unfold elB fitT; exact ⟨by simp, by decide, by decide, by simp, by unfold fitL; trivial⟩
    · unfold tx fitT; exact ⟨by simp, by decide, by omega, by simp, by unfold fitL; trivial⟩
theorem cnt_nice {m : Nat} : ∀ {l : List Nd}, (∀ x ∈ l, nice m x) → cntL l = l.length
  | [], _ => by unfold cntL; rfl
  | x :: l, h => by
    unfold cntL
    rw [cnt_nice fun y hy => h y (List.mem_cons_of_mem _ hy), List.length_cons]
    rcases h x (List.mem_cons_self ..) with rfl | ⟨s, rfl, _⟩
    · unfold elB cntT cntL; omega
    · unfold tx cntT cntL; omega
/-- The element with its kids. -/
def pT (ks : List Nd) : Nd := .mk 2 ⟨#[112]⟩ ⟨#[]⟩ [] ks
theorem pT_fit {m : Nat} (hm : m ≤ 6000) {l : List Nd} (h : ∀ x ∈ l, nice m x) : fitT (pT l) := by
  unfold pT fitT; exact ⟨by simp, by decide, by decide, by simp, fit_nice hm h⟩
theorem pT_cnt {m : Nat} {l : List Nd} (h : ∀ x ∈ l, nice m x) : cntT (pT l) = l.length + 1 := by unfold pT cntT; rw [cnt_nice h]
theorem pT_say {a b : List Nd} (h : sayL false a = sayL false b) : sayT false (pT a) = sayT false (pT b) := by
  have hr : rawB ⟨#[112]⟩ = false := by decide +kernel
  unfold pT sayT
  rw [hr, h]
theorem pT_join (ks : List Nd) : joinT (pT ks) = pT (joinL ks []) := by unfold pT joinT; rfl
end Go.Proofs.YtbjcahhijfommaaDoor.Tr
namespace Go.Proofs.YtbjcahhijfommaaDoor.Wk
open Go Go.RowKit Go.Proofs.YtbjcahhijfommaaDoor.Tr Go.Proofs.YtbjcahhijfommaaDoor.Gn
set_option linter.unusedVariables false
/-- A row of numbers that came in. -/
def IsRow (k : IntKind) (w : World) (a : Option Addr) (len cap : Nat) (zs : List Int) : Prop :=
  (a = none ∧ len = 0 ∧ cap = 0 ∧ zs = []) ∨
    ∃ x, a = some x ∧ len ≤ cap ∧ cap ≤ maxLen ∧ zs.length = cap ∧ (∀ i, i < zs.length → w.cell? (x.add i) = some (.int k (zs.getD i 0))) ∧ ∀ n ∈ zs, (Lit.int k n).wf = true
theorem cell_flat {w : World} {a : Addr} {v : Value} (h : w.cell? a = some v) : a.spot = none := by
  unfold World.cell? at h
  cases hb : w.heap[a.block]? with
  | none => rw [hb] at h; cases h
  | some o => rw [hb] at h; cases o <;> simp at h; exact h.1
theorem lrow_of {w : World} {a : Option Addr} {len cap : Nat} {zs : List Int} (h : IsRow .i64 w a len cap zs) : LRow w w.heap.size a len := by
  rcases h with ⟨rfl, rfl, rfl, rfl⟩ | ⟨x, rfl, h1, h2, h3, h4, _⟩
  · exact ⟨Nat.zero_le _, fun i hi => absurd hi (Nat.not_lt_zero _)⟩
  · refine ⟨Nat.le_trans h1 h2, fun i hi => ?_⟩
    have hc := h4 i (by omega)
    have hs : x.spot = none := by
      have hc0 := h4 0 (by omega)
      have e : x.add 0 = x := by unfold Addr.add; rw [if_pos rfl]
      rw [e] at hc0
      exact cell_flat hc0
    obtain ⟨b, off, sp⟩ := x
    simp only at hs
    subst hs
    rw [add_flat] at hc
    exact ⟨b, off, _, rfl, (cell_lt hc).1, hc⟩
end Go.Proofs.YtbjcahhijfommaaDoor.Wk
namespace Go.Proofs.YtbjcahhijfommaaDoor.Tr
open Go Go.RowKit
set_option linter.unusedVariables false
def brT : Nd := .mk 2 ⟨#[98, 114]⟩ ⟨#[]⟩ [] []
def ltT : Nd := .mk 3 ⟨#[]⟩ ⟨#[60]⟩ [] []
theorem br_say : (⟨(sayT false brT).toArray⟩ : ByteArray) = ⟨#[60, 98, 114, 62]⟩ := by kernel_rfl
theorem lt_say : (⟨(sayT false ltT).toArray⟩ : ByteArray) = ⟨#[38, 108, 116, 59]⟩ := by kernel_rfl
theorem br_fit : fitT brT := by unfold brT fitT; simp [fitL]; decide
theorem lt_fit : fitT ltT := by unfold ltT fitT; simp [fitL]; decide
/-- serial.Text, wherever the table of blanks lies below. -/
theorem textB (t : Nd) (hf : fitT t) (hc : cntT t ≤ 1000000) (v0 v1 v2 v3 v4 : Value) (w W : World) (hT : SpTab w) (hb : Below w.heap.size w W) (h : IsTree W W.heap.size t v0 v1 v2 v3 v4) :
    Calls Tryd.prog 10 #[.agg #[v0, v1, v2, v3, v4]] W fun e w' => e = .returned (.string ⟨(sayT false t).toArray⟩) ∧ Below W.heap.size W w' :=
  text_calls t hf hc _ _ _ _ _ W (Nat.lt_of_lt_of_le hT.lt hb.size) (hT.below hb hT.lt) h
theorem awake16 (w : World) (hT : SpTab w) : Calls Tryd.prog 8 #[] w fun e w' => e = .returned (.bool true) ∧ Below w.heap.size w w' := by
  have H1 : Hid (∀ W, Below w.heap.size w W → Calls Tryd.prog 10 #[.agg #[.int .i64 2, .string ⟨#[98, 114]⟩, .string ⟨#[]⟩, .slice none 0 0, .slice none 0 0]] W fun e w' => e = .returned (.string ⟨#[60, 98, 114, 62]⟩) ∧ Below W.heap.size W w') := Lib.hid fun W hb => by
    have := textB brT br_fit (by decide) _ _ _ _ _ w W hT hb (isTree_leaf (by decide) (by decide) (by decide))
    rwa [br_say] at this
  have H2 : Hid (∀ W, Below w.heap.size w W → Calls Tryd.prog 10 #[.agg #[.int .i64 3, .string ⟨#[]⟩, .string ⟨#[60]⟩, .slice none 0 0, .slice none 0 0]] W fun e w' => e = .returned (.string ⟨#[38, 108, 116, 59]⟩) ∧ Below W.heap.size W w') := Lib.hid fun W hb => by
    have := textB ltT lt_fit (by decide) _ _ _ _ _ w W hT hb (isTree_leaf (by decide) (by decide) (by decide))
    rwa [lt_say] at this
  clear hT
  go_enter Tryd.func8, Tryd.ntmps8
  go_wp2_with fail
  refine (H1.out w (Below.refl _ _)).mono ?_
  rintro e w2 ⟨rfl, hb2⟩
  have HB2 := Lib.hid hb2
  clear hb2
  go_wp2_with fail
  refine (H2.out w2 HB2.out).mono ?_
  rintro e w3 ⟨rfl, hb3⟩
  have HB3 := Lib.hid (HB2.out.trans (hb3.mono HB2.out.size))
  clear hb3
  go_wp2_with fail
  go_ret
  exact ⟨rfl, HB3.out⟩
end Go.Proofs.YtbjcahhijfommaaDoor.Tr
namespace Go.Proofs.YtbjcahhijfommaaDoor.Wk
open Go Go.RowKit Go.Proofs.YtbjcahhijfommaaDoor.Tr Go.Proofs.YtbjcahhijfommaaDoor.Gn
set_option linter.unusedVariables false
set_option maxHeartbeats 8000000 in
set_option maxRecDepth 100000 in
theorem serialRuns0 (A : Option Addr) (len cap : Nat) (w : World) (hl : LRow w w.heap.size A len) (hT : SpTab w) :
    Calls Tryd.prog 6 #[.slice A len cap] w fun e w' => e = .returned (.bool true) ∧ Below w.heap.size w w' := by
  have HTB : Hid (∀ W', Below w.heap.size w W' → SpTab W') := Lib.hid fun W' hh => hT.below hh hT.lt
  have HL := Lib.hid hl
  have hlen : len ≤ 9223372036854775807 := by have := hl.1; unfold maxLen at this; omega
  have HW2 : Hid (RRel w.heap.size [] [] (.slice none 0 0) (.slice none 0 0) [] w (w.alloc (.cells #[.int .i64 2, .string ⟨#[112]⟩, .string ⟨#[]⟩, .slice none 0 0, .slice none 0 0] 25))) :=
    Lib.hid ⟨alloc_new w _, World.ownsRow_nil _ _ _ _, (fun i t hi => by simp at hi), World.ownsRow_nil _ _ _ _, (fun g h => by simp [Value.ownBlock] at h), Nat.le_refl _, (Below.refl _ w).alloc (Nat.le_refl _) _⟩
  clear hT hl
  go_enter Tryd.func6, Tryd.ntmps6
  go_wp2_with fail
  generalize w.alloc (.cells #[.int .i64 2, .string ⟨#[112]⟩, .string ⟨#[]⟩, .slice none 0 0, .slice none 0 0] 25) = w2 at HW2 ⊢
  go_loopw [4, 5, 6] (fun wv rn iv wr => ∃ (i : Nat) (run : Bool) (kids : List Nd) (want : List ByteArray) (kv : Value) (xs : List Value), i ≤ len ∧ i ≤ 40 ∧ kids.length ≤ i ∧ want.length ≤ i ∧ iv = .int .i64 (i : Int) ∧ rn = .bool run ∧ RInv kids want run ∧ RRel w.heap.size kids want kv wv xs w wr) (fun _ _ iv _ => 40 - (intOf iv).toNat)
  case atStart => exact ⟨0, false, [], [], _, _, Nat.zero_le _, by omega, Nat.zero_le _, Nat.zero_le _, rfl, rfl, rinv_nil, HW2.out⟩
  case round =>
    obtain ⟨i, run, kids, want, kv, xs, hi1, hi2, hk, hw, rfl, rfl, hI, hR⟩ := hrel
    have HI := Lib.hid hI
    have HR := Lib.hid hR
    obtain ⟨aw, cw, rfl⟩ := slice_of_row hR.wrow
    clear hI hR
    by_cases hgo : i < len ∧ i < 40
    · obtain ⟨hg1, hg2⟩ := hgo
      have hi3 : (i : Int) < (len : Int) := by omega
      have hi4 : (i : Int) < 40 := by omega
      obtain ⟨ab, ao, z, rfl, hab, hz⟩ := HL.out.2 i hg1
      have hzr : wr.cell? ⟨ab, ao + i, none⟩ = some (.int .i64 z) := (HR.out.bel.cell hab).trans hz
      have hp4 := placeI_lt (v := z) (n := 4) (by decide)
      have HP4 : Hid (∀ W : World, Calls Tryd.prog 12 #[.int .i64 z, .int .i64 4] W fun e w' => e = .returned (.int .i64 (placeI z 4 : Nat)) ∧ W = w') := Lib.hid fun W => place_is z 4 (by decide) (by decide) W
      generalize placeI z 4 = p4 at *
      go_wp2_with fail
      refine (HP4.out _).mono ?_
      rintro e wx ⟨rfl, rfl⟩
      obtain ⟨i0, ii, hz0, hz1, hz2⟩ := info_parts tree_info
      by_cases h0 : p4 = 0
      · subst h0
        clear HP4
        have HI2 := Lib.hid (rinv_el HI.out)
        have q4 := (box5 HR.out.blk).2.2.2.2
        have HB3 : Hid (Below wr.heap.size wr (wr.alloc (.cells #[.int .i64 2, .string ⟨#[98]⟩, .string ⟨#[]⟩, .slice none 0 0, .slice none 0 0] 25))) := Lib.hid ((Below.refl _ wr).alloc (Nat.le_refl _) _)
        have HG1 := Lib.hid (alloc_new wr (.cells #[.int .i64 2, .string ⟨#[98]⟩, .string ⟨#[]⟩, .slice none 0 0, .slice none 0 0] 25))
        have HR3 := Lib.hid (rr_skip HR.out HB3.out)
        have HNEWS : Hid (∀ (i : Nat) v, [Value.int .i64 2, .string ⟨#[98]⟩, .string ⟨#[]⟩, .slice none 0 0, .slice none 0 0][i]? = some v → (wr.alloc (.cells #[.int .i64 2, .string ⟨#[98]⟩, .string ⟨#[]⟩, .slice none 0 0, .slice none 0 0] 25)).cell? ((⟨wr.heap.size, 0, none⟩ : Addr).add i) = some v) := Lib.hid fun i v hi => by
          rw [add_flat, Nat.zero_add, block_cell HG1.out]; rw [← List.getElem?_toArray] at hi; exact hi
        have HONE : Hid (∀ v ∈ [Value.int .i64 2, .string ⟨#[98]⟩, .string ⟨#[]⟩, .slice none 0 0, .slice none 0 0], v.oneCell' = true) := Lib.hid (by simp [Value.oneCell'])
        have HBSZ : Hid (w.heap.size + 1 ≤ (wr.alloc (.cells #[.int .i64 2, .string ⟨#[98]⟩, .string ⟨#[]⟩, .slice none 0 0, .slice none 0 0] 25)).heap.size) := Lib.hid (by have := lt_of_block HR3.out.blk; omega)
        go_wp2_with (at_builtin; refine wpList_append_own_at _ rfl (.tmp 68) (.tmp 70) 23 rfl (w.heap.size + 1) 25 i0 _ 5 88 Tryd.underlying23 ii hz0 hz1 hz2 rfl (by decide) _ _ xs rfl HR3.out.krow ⟨wr.heap.size, 0, none⟩ 1 1 _ rfl rfl HNEWS.out HONE.out (by unfold maxLen; omega) (by omega) HBSZ.out ?_)
        intro v' w5 h1 h2 h3 h4
        obtain ⟨gv, cv, rfl⟩ := row_form h1 (by omega)
        have HST := Lib.hid (rr_kid (u := elB) HR3.out el_in h1 h2 (by rw [World.size_alloc]; exact h4))
        have HK5 : Hid (w5.heap[w.heap.size]? = _) := Lib.hid ((h2.block _ (lt_of_block HR3.out.blk) (fun e => by have := (HR3.out.krow.lt _ e.symm).1; omega)).trans HR3.out.blk)
        have q5 := (box5 HK5.out).2.2.2.2
        have f5 : w5.frozen? ⟨w.heap.size, 4, none⟩ = false := Lib.frozen_of_heap HK5.out 4
        clear h1 h2 h3 h4 q4 HNEWS HONE HBSZ HB3 HG1 HR3
        go_upto_region 16 with (fail)
        generalize w5.setCell ⟨w.heap.size, 4, none⟩ (.slice (some ⟨gv, 0, none⟩) (kids.length + 1) cv) = w6 at HST ⊢
        clear q5 f5 HK5 HR
        obtain ⟨j0, jj, hy0, hy1, hy2⟩ := info_parts string_info
        have HB7 : Hid (Below w6.heap.size w6 (w6.alloc (.cells #[.string ⟨#[]⟩] 9))) := Lib.hid ((Below.refl _ w6).alloc (Nat.le_refl _) _)
        have HG7 := Lib.hid (alloc_new w6 (.cells #[.string ⟨#[]⟩] 9))
        have HR7 := Lib.hid (rr_skip HST.out HB7.out)
        have HNEWS : Hid (∀ (i : Nat) v, [Value.string ⟨#[]⟩][i]? = some v → (w6.alloc (.cells #[.string ⟨#[]⟩] 9)).cell? ((⟨w6.heap.size, 0, none⟩ : Addr).add i) = some v) := Lib.hid fun i v hi => by
          rw [add_flat, Nat.zero_add, block_cell HG7.out]; rw [← List.getElem?_toArray] at hi; exact hi
        have HONE : Hid (∀ v ∈ [Value.string ⟨#[]⟩], v.oneCell' = true) := Lib.hid (by simp [Value.oneCell'])
        have HBSZ : Hid (w.heap.size + 1 ≤ (w6.alloc (.cells #[.string ⟨#[]⟩] 9)).heap.size) := Lib.hid (by have := lt_of_block HR7.out.blk; omega)
        go_wp2_with (at_builtin; refine wpList_append_own_at _ rfl (.tmp 73) (.tmp 74) 42 rfl (w.heap.size + 1) 9 j0 _ 1 16 Tryd.underlying42 jj hy0 hy1 hy2 rfl (by decide) _ _ _ rfl HR7.out.wrow ⟨w6.heap.size, 0, none⟩ 1 1 _ rfl rfl HNEWS.out HONE.out (by unfold maxLen; omega) (by omega) HBSZ.out ?_)
        intro v'' w8 h1 h2 h3 h4
        obtain ⟨gw, cw2, rfl⟩ := row_form h1 (by omega)
        have HS8 := Lib.hid (rr_want HR7.out h1 h2 (by rw [World.size_alloc]; exact h4))
        clear h1 h2 h3 h4 HNEWS HONE HBSZ HB7 HG7 HR7 HST
        go_wp2_with fail
        go_roundw
        case rel => exact ⟨i + 1, _, _, _, _, _, by omega, by omega, by simp; omega, by first | (simp; omega) | omega, by go_num, rfl, HI2.out, HS8.out⟩
        case measure => simp [intOf]; omega
      · have e0 : ((p4 : Int) == 0) = false := by rw [beq_eq_false_iff_ne]; omega
        by_cases h1 : p4 = 1
        · subst h1
          clear HP4
          have HI2 := Lib.hid (rinv_no HI.out)
          have q4 := (box5 HR.out.blk).2.2.2.2
          have HB3 : Hid (Below wr.heap.size wr (wr.alloc (.cells #[.int .i64 3, .string ⟨#[]⟩, .string ⟨#[]⟩, .slice none 0 0, .slice none 0 0] 25))) := Lib.hid ((Below.refl _ wr).alloc (Nat.le_refl _) _)
          have HG1 := Lib.hid (alloc_new wr (.cells #[.int .i64 3, .string ⟨#[]⟩, .string ⟨#[]⟩, .slice none 0 0, .slice none 0 0] 25))
          have HR3 := Lib.hid (rr_skip HR.out HB3.out)
          have HNEWS : Hid (∀ (i : Nat) v, [Value.int .i64 3, .string ⟨#[]⟩, .string ⟨#[]⟩, .slice none 0 0, .slice none 0 0][i]? = some v → (wr.alloc (.cells #[.int .i64 3, .string ⟨#[]⟩, .string ⟨#[]⟩, .slice none 0 0, .slice none 0 0] 25)).cell? ((⟨wr.heap.size, 0, none⟩ : Addr).add i) = some v) := Lib.hid fun i v hi => by
            rw [add_flat, Nat.zero_add, block_cell HG1.out]; rw [← List.getElem?_toArray] at hi; exact hi
          have HONE : Hid (∀ v ∈ [Value.int .i64 3, .string ⟨#[]⟩, .string ⟨#[]⟩, .slice none 0 0, .slice none 0 0], v.oneCell' = true) := Lib.hid (by simp [Value.oneCell'])
          have HBSZ : Hid (w.heap.size + 1 ≤ (wr.alloc (.cells #[.int .i64 3, .string ⟨#[]⟩, .string ⟨#[]⟩, .slice none 0 0, .slice none 0 0] 25)).heap.size) := Lib.hid (by have := lt_of_block HR3.out.blk; omega)
          go_wp2_with (at_builtin; refine wpList_append_own_at _ rfl (.tmp 79) (.tmp 81) 23 rfl (w.heap.size + 1) 25 i0 _ 5 88 Tryd.underlying23 ii hz0 hz1 hz2 rfl (by decide) _ _ xs rfl HR3.out.krow ⟨wr.heap.size, 0, none⟩ 1 1 _ rfl rfl HNEWS.out HONE.out (by unfold maxLen; omega) (by omega) HBSZ.out ?_)
          intro v' w5 h1 h2 h3 h4
          obtain ⟨gv, cv, rfl⟩ := row_form h1 (by omega)
          have HST := Lib.hid (rr_kid (u := tx ⟨#[]⟩) HR3.out (tx_in (by decide)) h1 h2 (by rw [World.size_alloc]; exact h4))
          have HK5 : Hid (w5.heap[w.heap.size]? = _) := Lib.hid ((h2.block _ (lt_of_block HR3.out.blk) (fun e => by have := (HR3.out.krow.lt _ e.symm).1; omega)).trans HR3.out.blk)
          have q5 := (box5 HK5.out).2.2.2.2
          have f5 : w5.frozen? ⟨w.heap.size, 4, none⟩ = false := Lib.frozen_of_heap HK5.out 4
          clear h1 h2 h3 h4 q4 HNEWS HONE HBSZ HB3 HG1 HR3
          go_wp2_with fail
          generalize w5.setCell ⟨w.heap.size, 4, none⟩ (.slice (some ⟨gv, 0, none⟩) (kids.length + 1) cv) = w6 at HST ⊢
          clear q5 f5 HK5 HR
          go_roundw
          case rel => exact ⟨i + 1, _, _, _, _, _, by omega, by omega, by simp; omega, by first | (simp; omega) | omega, by go_num, rfl, HI2.out, HST.out⟩
          case measure => simp [intOf]; omega
        · have e1 : ((p4 : Int) == 1) = false := by rw [beq_eq_false_iff_ne]; omega
          clear HP4
          go_upto_region 8 with (fail)
          have r0 := cell_regrown hzr
          have HP6 : Hid (∀ W : World, Calls Tryd.prog 12 #[.int .i64 (wrap64 (z.tdiv 4)), .int .i64 6] W fun e w' => e = .returned (.int .i64 (placeI (wrap64 (z.tdiv 4)) 6 : Nat)) ∧ W = w') := Lib.hid fun W => place_is _ 6 (by decide) (by decide) W
          have hp6 := placeI_lt (v := wrap64 (z.tdiv 4)) (n := 6) (by decide)
          generalize placeI (wrap64 (z.tdiv 4)) 6 = p6 at *
          have hw6 : IntKind.i64.wrap ((p6 : Int) + 1) = (p6 : Int) + 1 := IntWalk.i64_in _ (by omega)
          have hp7 : (p6 : Int) + 1 ≤ 6 := by omega
          have LOK := Lib.hid (ltr_ok p6 hp6)
          refine Kr.wp_region_R [(5, fun v _ => v = .int .i64 (p6 : Int)), (11, fun v _ => v = .int .i64 (p6 : Int))] mixed2 (by kernel_rfl) ?_
          repeat (refine Kr.wpR_one rfl rfl ?_; go_big_quiet_step (fail); refine wpQuiet_nil ?_)
          refine Kr.wpR_call _ rfl rfl rfl ?_ ?_
          · intro W hW hk
            go_simp
            refine Kr.upMany_enter ((HP6.out W).mono ?_)
            rintro e w' ⟨rfl, rfl⟩
            exact ⟨_, rfl, rfl, Below.refl _ _⟩
          rintro v ⟨_, _, _, _, hS, _⟩
          obtain rfl := hS
          go_frame
          repeat (refine Kr.wpR_one rfl rfl ?_; go_big_quiet_step (fail); refine wpQuiet_nil ?_)
          refine Kr.wpR_call _ rfl rfl rfl ?_ ?_
          · intro W hW hk
            go_simp
            refine Kr.upMany_enter ((HP6.out W).mono ?_)
            rintro e w' ⟨rfl, rfl⟩
            exact ⟨_, rfl, rfl, Below.refl _ _⟩
          rintro v ⟨_, _, _, _, hS, _⟩
          obtain rfl := hS
          go_frame
          repeat (refine Kr.wpR_one rfl rfl ?_; go_big_quiet_step (fail); refine wpQuiet_nil ?_)
          refine Kr.wpR_nil ?_
          intro wz hbz _
          rw [show (⟨#[97, 98, 99, 100, 101, 102]⟩ : ByteArray).extract p6 (p6 + 1) = ltr p6 from rfl]
          obtain ⟨L1, L2⟩ := LOK.out
          have L1H := Lib.hid L1
          have L2H := Lib.hid L2
          have L3 : (ltr p6).size ≤ 6 := by omega
          clear L1 L2 LOK
          generalize ltr p6 = sl at *
          replace HR := Lib.hid (rr_skip HR.out hbz)
          clear hbz r0 hzr HP6 hp6 hw6 hp7
          have q4 := (box5 HR.out.blk).2.2.2.2
          have HB3 : Hid (Below wz.heap.size wz (wz.alloc (.cells #[.int .i64 3, .string ⟨#[]⟩, .string sl, .slice none 0 0, .slice none 0 0] 25))) := Lib.hid ((Below.refl _ wz).alloc (Nat.le_refl _) _)
          have HG1 := Lib.hid (alloc_new wz (.cells #[.int .i64 3, .string ⟨#[]⟩, .string sl, .slice none 0 0, .slice none 0 0] 25))
          have HR3 := Lib.hid (rr_skip HR.out HB3.out)
          have HNEWS : Hid (∀ (i : Nat) v, [Value.int .i64 3, .string ⟨#[]⟩, .string sl, .slice none 0 0, .slice none 0 0][i]? = some v → (wz.alloc (.cells #[.int .i64 3, .string ⟨#[]⟩, .string sl, .slice none 0 0, .slice none 0 0] 25)).cell? ((⟨wz.heap.size, 0, none⟩ : Addr).add i) = some v) := Lib.hid fun i v hi => by
            rw [add_flat, Nat.zero_add, block_cell HG1.out]; rw [← List.getElem?_toArray] at hi; exact hi
          have HONE : Hid (∀ v ∈ [Value.int .i64 3, .string ⟨#[]⟩, .string sl, .slice none 0 0, .slice none 0 0], v.oneCell' = true) := Lib.hid (by simp [Value.oneCell'])
          have HBSZ : Hid (w.heap.size + 1 ≤ (wz.alloc (.cells #[.int .i64 3, .string ⟨#[]⟩, .string sl, .slice none 0 0, .slice none 0 0] 25)).heap.size) := Lib.hid (by have := lt_of_block HR3.out.blk; omega)
          go_wp2_with (at_builtin; refine wpList_append_own_at _ rfl (.tmp 41) (.tmp 44) 23 rfl (w.heap.size + 1) 25 i0 _ 5 88 Tryd.underlying23 ii hz0 hz1 hz2 rfl (by decide) _ _ xs rfl HR3.out.krow ⟨wz.heap.size, 0, none⟩ 1 1 _ rfl rfl HNEWS.out HONE.out (by unfold maxLen; omega) (by omega) HBSZ.out ?_)
          intro v' w5 h1 h2 h3 h4
          obtain ⟨gv, cv, rfl⟩ := row_form h1 (by omega)
          have HST := Lib.hid (rr_kid (u := tx sl) HR3.out (tx_in (Nat.le_trans L3 (by decide))) h1 h2 (by rw [World.size_alloc]; exact h4))
          have HK5 : Hid (w5.heap[w.heap.size]? = _) := Lib.hid ((h2.block _ (lt_of_block HR3.out.blk) (fun e => by have := (HR3.out.krow.lt _ e.symm).1; omega)).trans HR3.out.blk)
          have q5 := (box5 HK5.out).2.2.2.2
          have f5 : w5.frozen? ⟨w.heap.size, 4, none⟩ = false := Lib.frozen_of_heap HK5.out 4
          clear h1 h2 h3 h4 q4 HNEWS HONE HBSZ HB3 HG1 HR3
          go_upto_region 10 with (fail)
          generalize w5.setCell ⟨w.heap.size, 4, none⟩ (.slice (some ⟨gv, 0, none⟩) (kids.length + 1) cv) = w6 at HST ⊢
          clear q5 f5 HK5 HR
          cases run with
          | true =>
            obtain ⟨init, a, hj, hwnt, ha, hz'⟩ := rinv_last HI.out
            generalize init.map (·.text) = w0 at hwnt
            subst hwnt
            have HI2 := Lib.hid (rinv_on HI.out (by omega) L1H.out L2H.out)
            obtain ⟨g, cap, hwv, l1, lf⟩ := rr_last HST.out
            injection hwv with g1 g2 g3
            subst g1
            subst g3
            rw [g2] at HST ⊢
            have HS8 := Lib.hid (rr_set sl HST.out)
            have hz2 : a.size ≤ 40 := by omega
            have hwl : w0.length + 1 ≤ i := by simpa using hw
            have hw40 : w0.length + 1 ≤ 40 := by omega
            clear hj ha hz' HST g2
            go_wp2_with fail
            generalize w6.setCell ⟨g, w0.length, none⟩ (.string (a ++ sl)) = w8 at HS8 ⊢
            go_roundw
            case rel => exact ⟨i + 1, _, _, _, _, _, by omega, by omega, by simp; omega, by first | (simp; omega) | omega, by go_num, rfl, HI2.out, HS8.out⟩
            case measure => simp [intOf]; omega
          | false =>
            have HI2 := Lib.hid (rinv_new HI.out L1H.out L2H.out)
            obtain ⟨j0, jj, hy0, hy1, hy2⟩ := info_parts string_info
            have HB7 : Hid (Below w6.heap.size w6 (w6.alloc (.cells #[.string sl] 9))) := Lib.hid ((Below.refl _ w6).alloc (Nat.le_refl _) _)
            have HG7 := Lib.hid (alloc_new w6 (.cells #[.string sl] 9))
            have HR7 := Lib.hid (rr_skip HST.out HB7.out)
            have HNEWS : Hid (∀ (i : Nat) v, [Value.string sl][i]? = some v → (w6.alloc (.cells #[.string sl] 9)).cell? ((⟨w6.heap.size, 0, none⟩ : Addr).add i) = some v) := Lib.hid fun i v hi => by
              rw [add_flat, Nat.zero_add, block_cell HG7.out]; rw [← List.getElem?_toArray] at hi; exact hi
            have HONE : Hid (∀ v ∈ [Value.string sl], v.oneCell' = true) := Lib.hid (by simp [Value.oneCell'])
            have HBSZ : Hid (w.heap.size + 1 ≤ (w6.alloc (.cells #[.string sl] 9)).heap.size) := Lib.hid (by have := lt_of_block HR7.out.blk; omega)
            go_wp2_with (at_builtin; refine wpList_append_own_at _ rfl (.tmp 61) (.tmp 63) 42 rfl (w.heap.size + 1) 9 j0 _ 1 16 Tryd.underlying42 jj hy0 hy1 hy2 rfl (by decide) _ _ _ rfl HR7.out.wrow ⟨w6.heap.size, 0, none⟩ 1 1 _ rfl rfl HNEWS.out HONE.out (by unfold maxLen; omega) (by omega) HBSZ.out ?_)
            intro v'' w8 h1 h2 h3 h4
            obtain ⟨gw, cw2, rfl⟩ := row_form h1 (by omega)
            have HS8 := Lib.hid (rr_want HR7.out h1 h2 (by rw [World.size_alloc]; exact h4))
            clear h1 h2 h3 h4 HNEWS HONE HBSZ HB7 HG7 HR7 HST
            go_wp2_with fail
            go_roundw
            case rel => exact ⟨i + 1, _, _, _, _, _, by omega, by omega, by simp; omega, by first | (simp; omega) | omega, by go_num, rfl, HI2.out, HS8.out⟩
            case measure => simp [intOf]; omega
    · rcases Nat.lt_or_ge i len with hil | hil
      · have hi3 : (i : Int) < (len : Int) := by omega
        have hi4 : ¬ ((i : Int) < 40) := by omega
        obtain ⟨wa, hwa⟩ : ∃ wa, wa = wr := ⟨_, rfl⟩
        subst hwa
        clear hgo
        go_upto_region 20 with (fail)
        have hblk := HR.out.blk
        obtain ⟨K, kc, rfl, m1, m2, m3⟩ := kids_of_row (S' := fun c => c < wa.heap.size) HR.out.krow HR.out.kids (fun c hc => hc.elim) (fun g hg => (HR.out.krow.lt g hg).2)
        have HIT : Hid (IsTree wa wa.heap.size (pT kids) (.int .i64 2) (.string ⟨#[112]⟩) (.string ⟨#[]⟩) (.slice none 0 0) (.slice K kids.length kc)) := Lib.hid (by
          have ht : TreeIn wa (fun c => c < wa.heap.size) (pT kids) (.int .i64 2) (.string ⟨#[112]⟩) (.string ⟨#[]⟩) (.slice none 0 0) (.slice K kids.length kc) := by
            unfold pT TreeIn
            exact ⟨rfl, rfl, rfl, by decide, by decide, by decide, none, 0, K, kc, rfl, rfl, ⟨Nat.le_refl _, by unfold maxLen; omega, by simp, fun h => absurd rfl h⟩, m1, m2, m3⟩
          exact ht.is fun c h => h)
        have HBW := Lib.hid HR.out.bel
        have HBLK := Lib.hid hblk
        obtain ⟨x0, x1, x2, x3, x4⟩ := box5 hblk
        have hcn : kids.length ≤ 40 := by omega
        have HJC := Lib.hid (join_calls 1000000 (by omega) (pT kids) _ _ _ _ _ wa.heap.size wa (by rw [pT_cnt HI.out.kn]; omega) HIT.out (Nat.le_refl _))
        clear m3 hblk
        go_wp2_with fail
        refine HJC.out.mono ?_
        rintro e w3 ⟨y0, y1, y2, y3, y4, rfl, hti, hb3⟩
        rw [pT_join] at hti
        have HEQ := Lib.hid HI.out.eq
        have HSAY := Lib.hid (congrArg (fun l : List UInt8 => (⟨l.toArray⟩ : ByteArray)) (pT_say HI.out.say))
        have HNC : Hid (∀ x ∈ joinL kids [], nice 40 x) := Lib.hid fun x hx => (HI.out.nc x hx).mono hcn
        have HKN := Lib.hid HI.out.kn
        generalize joinL kids [] = J at *
        have hwl : want.length = J.length := by rw [← HEQ.out, List.length_map]
        have HJT := Lib.hid (hti.is (B := w3.heap.size) fun c h => h.2)
        have HB3 := Lib.hid hb3
        unfold pT TreeIn at hti
        obtain ⟨rfl, rfl, rfl, _, _, _, A2, ac2, K2, kc2, rfl, rfl, _, n1, n2, n3⟩ := hti
        have HKA : Hid (KidsAt w3 w3.heap.size K2 J) := Lib.hid (by
          have := HJT.out
          unfold pT IsTree at this
          obtain ⟨_, _, _, _, _, _, A3, ac3, K3, kc3, _, e4, _, _, _, h3⟩ := this
          injection e4 with e5 e6 e7
          subst e5
          exact kidsAt_of h3)
        have HB4 : Hid (Below wa.heap.size wa (w3.alloc (.cells #[.int .i64 2, .string ⟨#[112]⟩, .string ⟨#[]⟩, .slice A2 0 ac2, .slice K2 J.length kc2] 25))) := Lib.hid (hb3.alloc hb3.size _)
        have HG4 := Lib.hid (alloc_new w3 (.cells #[.int .i64 2, .string ⟨#[112]⟩, .string ⟨#[]⟩, .slice A2 0 ac2, .slice K2 J.length kc2] 25))
        have HB34 : Hid (Below w3.heap.size w3 (w3.alloc (.cells #[.int .i64 2, .string ⟨#[112]⟩, .string ⟨#[]⟩, .slice A2 0 ac2, .slice K2 J.length kc2] 25))) := Lib.hid ((Below.refl _ w3).alloc (Nat.le_refl _) _)
        have hw3 := hb3.size
        clear hb3 n3 x0 x1 x2 x3 x4 HJC
        go_upto_region 21 with (fail)
        obtain ⟨w4, hw4⟩ : ∃ w4, w3.alloc (.cells #[.int .i64 2, .string ⟨#[112]⟩, .string ⟨#[]⟩, .slice A2 0 ac2, .slice K2 J.length kc2] 25) = w4 := ⟨_, rfl⟩
        rw [hw4] at HB4 HG4 HB34 ⊢
        clear hw4
        have d4 := (box5 HG4.out).2.2.2.2
        go_wp2_with fail
        clear d4
        go_loopw [9] (fun jv wr => ∃ j : Nat, j ≤ J.length ∧ jv = .int .i64 (j : Int) ∧ Below w4.heap.size w4 wr) (fun jv _ => J.length - (intOf jv).toNat)
        case atStart => exact ⟨0, Nat.zero_le _, rfl, Below.refl _ _⟩
        case round =>
          obtain ⟨j, hj, rfl, hbq⟩ := hrel
          have HBQ := Lib.hid hbq
          have HQ8 := Lib.hid ((hbq.block _ (lt_of_block HG4.out)).trans HG4.out)
          have HQW := Lib.hid (HB4.out.trans (hbq.mono HB4.out.size))
          have HQ3 := Lib.hid (HB34.out.trans (hbq.mono HB34.out.size))
          clear hbq
          by_cases hjl : j < J.length
          · obtain ⟨x, hx⟩ : ∃ x, J[j]? = some x := ⟨_, List.getElem?_eq_getElem hjl⟩
            have hjz : (j : Int) < (J.length : Int) := by omega
            obtain ⟨kb, ko, rfl, hkb, v0, v1, v2, v3, v4, c0, c1, c2, c3, c4, htr⟩ := HKA.out.below HQ3.out j x hx
            have hwr := HR.out.wrow
            obtain ⟨g, cap', ew⟩ := row_form hwr (by omega)
            injection ew with ea eb ec
            subst ea
            subst ec
            have l1 := hwr.cellAt j (by omega)
            have hwj : (want.map Value.string)[j]? = some (.string x.text) := by rw [List.getElem?_map, ← HEQ.out, List.getElem?_map, hx]; rfl
            rw [hwj] at l1
            have l2 := cell_regrown ((HQW.out.cell (cell_lt l1).1).trans l1)
            have ev : v2 = .string x.text := by
              cases x
              unfold IsTree at htr
              exact htr.2.2.1
            subst ev
            have l3 := cell_regrown c2
            have l4 := cell_regrown (box5 HQ8.out).2.2.2.2
            clear hwr eb l1 hwj htr c0 c1 c2 c3 c4 hx
            generalize x.text = xt at *
            have hxx : (xt.toList == xt.toList) = true := beq_self_eq_true _
            go_upto_region 26 with (fail)
            refine wp_region_quiet_below mixed2 (by kernel_rfl) ?_
            repeat (go_big_quiet_step (fail))
            refine wpQuiet_nil ?_
            rintro w9 ⟨g9, hg9⟩
            have HB9 := Lib.hid (HBQ.out.trans ((hg9 ▸ below_regrown wr g9.d g9.os : Below wr.heap.size wr w9).mono HBQ.out.size))
            clear hg9 l2 l3 l4
            go_wp2_with fail
            go_roundw
            case rel => exact ⟨j + 1, by omega, by go_num, HB9.out⟩
            case measure => simp [intOf]; omega
          · obtain rfl : j = J.length := by omega
            have hjz : ¬ ((J.length : Int) < (J.length : Int)) := by omega
            obtain ⟨st, hst⟩ : ∃ st : ByteArray, (⟨(sayT false (pT kids)).toArray⟩ : ByteArray) = st := ⟨_, rfl⟩
            have hsj : (⟨(sayT false (pT J)).toArray⟩ : ByteArray) = st := HSAY.out.trans hst
            have HQZ := Lib.hid (HBW.out.trans (HQW.out.mono HBW.out.size))
            have HTJ : Hid (∀ W, Below wr.heap.size wr W → Calls Tryd.prog 10 #[.agg #[.int .i64 2, .string ⟨#[112]⟩, .string ⟨#[]⟩, .slice A2 0 ac2, .slice K2 J.length kc2]] W fun e w' => e = .returned (.string st) ∧ Below W.heap.size W w') := Lib.hid fun W hb => by
              have hbb := HQ3.out.trans (hb.mono HQ3.out.size)
              have := textB (pT J) (pT_fit (by omega) HNC.out) (by rw [pT_cnt HNC.out]; omega) _ _ _ _ _ w W (HTB.out _ (Below.refl _ _)) (HQZ.out.trans (hb.mono HQZ.out.size)) (HJT.out.keep (fun p hp => hbb.cell hp) hbb.size)
              rwa [hsj] at this
            have HTT : Hid (∀ W, Below wr.heap.size wr W → Calls Tryd.prog 10 #[.agg #[.int .i64 2, .string ⟨#[112]⟩, .string ⟨#[]⟩, .slice none 0 0, .slice K kids.length kc]] W fun e w' => e = .returned (.string st) ∧ Below W.heap.size W w') := Lib.hid fun W hb => by
              have hbb := HQW.out.trans (hb.mono HQW.out.size)
              have := textB (pT kids) (pT_fit (by omega) HKN.out) (by rw [pT_cnt HKN.out]; omega) _ _ _ _ _ w W (HTB.out _ (Below.refl _ _)) (HQZ.out.trans (hb.mono HQZ.out.size)) (HIT.out.keep (fun p hp => hbb.cell hp) hbb.size)
              rwa [hst] at this
            have HAW : Hid (∀ W, Below wr.heap.size wr W → Calls Tryd.prog 8 #[] W fun e w' => e = .returned (.bool true) ∧ Below W.heap.size W w') := Lib.hid fun W hb => awake16 W (HTB.out _ (HQZ.out.trans (hb.mono HQZ.out.size)))
            have HQ3B := Lib.hid ((HQW.out.block _ (lt_of_block HBLK.out)).trans HBLK.out)
            obtain ⟨a0, a1, a2, a3, a4⟩ := box5 HQ8.out
            obtain ⟨b0, b1, b2, b3, b4⟩ := box5 HQ3B.out
            replace a0 := cell_regrown a0
            replace a1 := cell_regrown a1
            replace a2 := cell_regrown a2
            replace a3 := cell_regrown a3
            replace a4 := cell_regrown a4
            replace b0 := cell_regrown b0
            replace b1 := cell_regrown b1
            replace b2 := cell_regrown b2
            replace b3 := cell_regrown b3
            replace b4 := cell_regrown b4
            clear hst hsj
            have hqq : (st.toList == st.toList) = true := beq_self_eq_true _
            go_upto_region 28 with (fail)
            refine Kr.wp_region_R [(1, fun v _ => v = .string st), (3, fun v _ => v = .string st), (6, fun v _ => v = .bool true)] mixed2 (by kernel_rfl) ?_
            repeat (refine Kr.wpR_one rfl rfl ?_; go_big_quiet_step (fail); refine wpQuiet_nil ?_)
            refine Kr.wpR_call _ rfl rfl rfl ?_ ?_
            · intro W hW hk
              go_simp
              refine Kr.upMany_enter ((HTJ.out W (Kr.later_iff.1 hW)).mono ?_)
              rintro e w' ⟨rfl, hbb⟩
              exact ⟨_, rfl, rfl, hbb⟩
            rintro v ⟨_, _, _, _, hS, _⟩
            obtain rfl := hS
            go_frame
            repeat (refine Kr.wpR_one rfl rfl ?_; go_big_quiet_step (fail); refine wpQuiet_nil ?_)
            refine Kr.wpR_call _ rfl rfl rfl ?_ ?_
            · intro W hW hk
              go_simp
              refine Kr.upMany_enter ((HTT.out W (Kr.later_iff.1 hW)).mono ?_)
              rintro e w' ⟨rfl, hbb⟩
              exact ⟨_, rfl, rfl, hbb⟩
            rintro v ⟨_, _, _, _, hS, _⟩
            obtain rfl := hS
            go_frame
            repeat (refine Kr.wpR_one rfl rfl ?_; go_big_quiet_step (fail); refine wpQuiet_nil ?_)
            refine Kr.wpR_call _ rfl rfl rfl ?_ ?_
            · intro W hW hk
              go_simp
              refine Kr.upMany_enter ((HAW.out W (Kr.later_iff.1 hW)).mono ?_)
              rintro e w' ⟨rfl, hbb⟩
              exact ⟨_, rfl, rfl, hbb⟩
            rintro v ⟨_, _, _, _, hS, _⟩
            obtain rfl := hS
            go_frame
            repeat (refine Kr.wpR_one rfl rfl ?_; go_big_quiet_step (fail); refine wpQuiet_nil ?_)
            refine Kr.wpR_nil ?_
            intro w' hb _
            have HBZ9 : Hid (Below w.heap.size w w') := Lib.hid (HQZ.out.trans (hb.mono HQZ.out.size))
            clear hb
            go_wp2_with fail
            go_ret
            exact ⟨rfl, HBZ9.out⟩
      · have hi3 : ¬ ((i : Int) < (len : Int)) := by omega
        obtain ⟨wa, hwa⟩ : ∃ wa, wa = wr := ⟨_, rfl⟩
        subst hwa
        clear hgo
        go_upto_region 20 with (fail)
        have hblk := HR.out.blk
        obtain ⟨K, kc, rfl, m1, m2, m3⟩ := kids_of_row (S' := fun c => c < wa.heap.size) HR.out.krow HR.out.kids (fun c hc => hc.elim) (fun g hg => (HR.out.krow.lt g hg).2)
        have HIT : Hid (IsTree wa wa.heap.size (pT kids) (.int .i64 2) (.string ⟨#[112]⟩) (.string ⟨#[]⟩) (.slice none 0 0) (.slice K kids.length kc)) := Lib.hid (by
          have ht : TreeIn wa (fun c => c < wa.heap.size) (pT kids) (.int .i64 2) (.string ⟨#[112]⟩) (.string ⟨#[]⟩) (.slice none 0 0) (.slice K kids.length kc) := by
            unfold pT TreeIn
            exact ⟨rfl, rfl, rfl, by decide, by decide, by decide, none, 0, K, kc, rfl, rfl, ⟨Nat.le_refl _, by unfold maxLen; omega, by simp, fun h => absurd rfl h⟩, m1, m2, m3⟩
          exact ht.is fun c h => h)
        have HBW := Lib.hid HR.out.bel
        have HBLK := Lib.hid hblk
        obtain ⟨x0, x1, x2, x3, x4⟩ := box5 hblk
        have hcn : kids.length ≤ 40 := by omega
        have HJC := Lib.hid (join_calls 1000000 (by omega) (pT kids) _ _ _ _ _ wa.heap.size wa (by rw [pT_cnt HI.out.kn]; omega) HIT.out (Nat.le_refl _))
        clear m3 hblk
        go_wp2_with fail
        refine HJC.out.mono ?_
        rintro e w3 ⟨y0, y1, y2, y3, y4, rfl, hti, hb3⟩
        rw [pT_join] at hti
        have HEQ := Lib.hid HI.out.eq
        have HSAY := Lib.hid (congrArg (fun l : List UInt8 => (⟨l.toArray⟩ : ByteArray)) (pT_say HI.out.say))
        have HNC : Hid (∀ x ∈ joinL kids [], nice 40 x) := Lib.hid fun x hx => (HI.out.nc x hx).mono hcn
        have HKN := Lib.hid HI.out.kn
        generalize joinL kids [] = J at *
        have hwl : want.length = J.length := by rw [← HEQ.out, List.length_map]
        have HJT := Lib.hid (hti.is (B := w3.heap.size) fun c h => h.2)
        have HB3 := Lib.hid hb3
        unfold pT TreeIn at hti
        obtain ⟨rfl, rfl, rfl, _, _, _, A2, ac2, K2, kc2, rfl, rfl, _, n1, n2, n3⟩ := hti
        have HKA : Hid (KidsAt w3 w3.heap.size K2 J) := Lib.hid (by
          have := HJT.out
          unfold pT IsTree at this
          obtain ⟨_, _, _, _, _, _, A3, ac3, K3, kc3, _, e4, _, _, _, h3⟩ := this
          injection e4 with e5 e6 e7
          subst e5
          exact kidsAt_of h3)
        have HB4 : Hid (Below wa.heap.size wa (w3.alloc (.cells #[.int .i64 2, .string ⟨#[112]⟩, .string ⟨#[]⟩, .slice A2 0 ac2, .slice K2 J.length kc2] 25))) := Lib.hid (hb3.alloc hb3.size _)
        have HG4 := Lib.hid (alloc_new w3 (.cells #[.int .i64 2, .string ⟨#[112]⟩, .string ⟨#[]⟩, .slice A2 0 ac2, .slice K2 J.length kc2] 25))
        have HB34 : Hid (Below w3.heap.size w3 (w3.alloc (.cells #[.int .i64 2, .string ⟨#[112]⟩, .string ⟨#[]⟩, .slice A2 0 ac2, .slice K2 J.length kc2] 25))) := Lib.hid ((Below.refl _ w3).alloc (Nat.le_refl _) _)
        have hw3 := hb3.size
        clear hb3 n3 x0 x1 x2 x3 x4 HJC
        go_upto_region 21 with (fail)
        obtain ⟨w4, hw4⟩ : ∃ w4, w3.alloc (.cells #[.int .i64 2, .string ⟨#[112]⟩, .string ⟨#[]⟩, .slice A2 0 ac2, .slice K2 J.length kc2] 25) = w4 := ⟨_, rfl⟩
        rw [hw4] at HB4 HG4 HB34 ⊢
        clear hw4
        have d4 := (box5 HG4.out).2.2.2.2
        go_wp2_with fail
        clear d4
        go_loopw [9] (fun jv wr => ∃ j : Nat, j ≤ J.length ∧ jv = .int .i64 (j : Int) ∧ Below w4.heap.size w4 wr) (fun jv _ => J.length - (intOf jv).toNat)
        case atStart => exact ⟨0, Nat.zero_le _, rfl, Below.refl _ _⟩
        case round =>
          obtain ⟨j, hj, rfl, hbq⟩ := hrel
          have HBQ := Lib.hid hbq
          have HQ8 := Lib.hid ((hbq.block _ (lt_of_block HG4.out)).trans HG4.out)
          have HQW := Lib.hid (HB4.out.trans (hbq.mono HB4.out.size))
          have HQ3 := Lib.hid (HB34.out.trans (hbq.mono HB34.out.size))
          clear hbq
          by_cases hjl : j < J.length
          · obtain ⟨x, hx⟩ : ∃ x, J[j]? = some x := ⟨_, List.getElem?_eq_getElem hjl⟩
            have hjz : (j : Int) < (J.length : Int) := by omega
            obtain ⟨kb, ko, rfl, hkb, v0, v1, v2, v3, v4, c0, c1, c2, c3, c4, htr⟩ := HKA.out.below HQ3.out j x hx
            have hwr := HR.out.wrow
            obtain ⟨g, cap', ew⟩ := row_form hwr (by omega)
            injection ew with ea eb ec
            subst ea
            subst ec
            have l1 := hwr.cellAt j (by omega)
            have hwj : (want.map Value.string)[j]? = some (.string x.text) := by rw [List.getElem?_map, ← HEQ.out, List.getElem?_map, hx]; rfl
            rw [hwj] at l1
            have l2 := cell_regrown ((HQW.out.cell (cell_lt l1).1).trans l1)
            have ev : v2 = .string x.text := by
              cases x
              unfold IsTree at htr
              exact htr.2.2.1
            subst ev
            have l3 := cell_regrown c2
            have l4 := cell_regrown (box5 HQ8.out).2.2.2.2
            clear hwr eb l1 hwj htr c0 c1 c2 c3 c4 hx
            generalize x.text = xt at *
            have hxx : (xt.toList == xt.toList) = true := beq_self_eq_true _
            go_upto_region 26 with (fail)
            refine wp_region_quiet_below mixed2 (by kernel_rfl) ?_
            repeat (go_big_quiet_step (fail))
            refine wpQuiet_nil ?_
            rintro w9 ⟨g9, hg9⟩
            have HB9 := Lib.hid (HBQ.out.trans ((hg9 ▸ below_regrown wr g9.d g9.os : Below wr.heap.size wr w9).mono HBQ.out.size))
            clear hg9 l2 l3 l4
            go_wp2_with fail
            go_roundw
            case rel => exact ⟨j + 1, by omega, by go_num, HB9.out⟩
            case measure => simp [intOf]; omega
          · obtain rfl : j = J.length := by omega
            have hjz : ¬ ((J.length : Int) < (J.length : Int)) := by omega
            obtain ⟨st, hst⟩ : ∃ st : ByteArray, (⟨(sayT false (pT kids)).toArray⟩ : ByteArray) = st := ⟨_, rfl⟩
            have hsj : (⟨(sayT false (pT J)).toArray⟩ : ByteArray) = st := HSAY.out.trans hst
            have HQZ := Lib.hid (HBW.out.trans (HQW.out.mono HBW.out.size))
            have HTJ : Hid (∀ W, Below wr.heap.size wr W → Calls Tryd.prog 10 #[.agg #[.int .i64 2, .string ⟨#[112]⟩, .string ⟨#[]⟩, .slice A2 0 ac2, .slice K2 J.length kc2]] W fun e w' => e = .returned (.string st) ∧ Below W.heap.size W w') := Lib.hid fun W hb => by
              have hbb := HQ3.out.trans (hb.mono HQ3.out.size)
              have := textB (pT J) (pT_fit (by omega) HNC.out) (by rw [pT_cnt HNC.out]; omega) _ _ _ _ _ w W (HTB.out _ (Below.refl _ _)) (HQZ.out.trans (hb.mono HQZ.out.size)) (HJT.out.keep (fun p hp => hbb.cell hp) hbb.size)
              rwa [hsj] at this
            have HTT : Hid (∀ W, Below wr.heap.size wr W → Calls Tryd.prog 10 #[.agg #[.int .i64 2, .string ⟨#[112]⟩, .string ⟨#[]⟩, .slice none 0 0, .slice K kids.length kc]] W fun e w' => e = .returned (.string st) ∧ Below W.heap.size W w') := Lib.hid fun W hb => by
              have hbb := HQW.out.trans (hb.mono HQW.out.size)
              have := textB (pT kids) (pT_fit (by omega) HKN.out) (by rw [pT_cnt HKN.out]; omega) _ _ _ _ _ w W (HTB.out _ (Below.refl _ _)) (HQZ.out.trans (hb.mono HQZ.out.size)) (HIT.out.keep (fun p hp => hbb.cell hp) hbb.size)
              rwa [hst] at this
            have HAW : Hid (∀ W, Below wr.heap.size wr W → Calls Tryd.prog 8 #[] W fun e w' => e = .returned (.bool true) ∧ Below W.heap.size W w') := Lib.hid fun W hb => awake16 W (HTB.out _ (HQZ.out.trans (hb.mono HQZ.out.size)))
            have HQ3B := Lib.hid ((HQW.out.block _ (lt_of_block HBLK.out)).trans HBLK.out)
            obtain ⟨a0, a1, a2, a3, a4⟩ := box5 HQ8.out
            obtain ⟨b0, b1, b2, b3, b4⟩ := box5 HQ3B.out
            replace a0 := cell_regrown a0
            replace a1 := cell_regrown a1
            replace a2 := cell_regrown a2
            replace a3 := cell_regrown a3
            replace a4 := cell_regrown a4
            replace b0 := cell_regrown b0
            replace b1 := cell_regrown b1
            replace b2 := cell_regrown b2
            replace b3 := cell_regrown b3
            replace b4 := cell_regrown b4
            clear hst hsj
            have hqq : (st.toList == st.toList) = true := beq_self_eq_true _
            go_upto_region 28 with (fail)
            refine Kr.wp_region_R [(1, fun v _ => v = .string st), (3, fun v _ => v = .string st), (6, fun v _ => v = .bool true)] mixed2 (by kernel_rfl) ?_
            repeat (refine Kr.wpR_one rfl rfl ?_; go_big_quiet_step (fail); refine wpQuiet_nil ?_)
            refine Kr.wpR_call _ rfl rfl rfl ?_ ?_
            · intro W hW hk
              go_simp
              refine Kr.upMany_enter ((HTJ.out W (Kr.later_iff.1 hW)).mono ?_)
              rintro e w' ⟨rfl, hbb⟩
              exact ⟨_, rfl, rfl, hbb⟩
            rintro v ⟨_, _, _, _, hS, _⟩
            obtain rfl := hS
            go_frame
            repeat (refine Kr.wpR_one rfl rfl ?_; go_big_quiet_step (fail); refine wpQuiet_nil ?_)
            refine Kr.wpR_call _ rfl rfl rfl ?_ ?_
            · intro W hW hk
              go_simp
              refine Kr.upMany_enter ((HTT.out W (Kr.later_iff.1 hW)).mono ?_)
              rintro e w' ⟨rfl, hbb⟩
              exact ⟨_, rfl, rfl, hbb⟩
            rintro v ⟨_, _, _, _, hS, _⟩
            obtain rfl := hS
            go_frame
            repeat (refine Kr.wpR_one rfl rfl ?_; go_big_quiet_step (fail); refine wpQuiet_nil ?_)
            refine Kr.wpR_call _ rfl rfl rfl ?_ ?_
            · intro W hW hk
              go_simp
              refine Kr.upMany_enter ((HAW.out W (Kr.later_iff.1 hW)).mono ?_)
              rintro e w' ⟨rfl, hbb⟩
              exact ⟨_, rfl, rfl, hbb⟩
            rintro v ⟨_, _, _, _, hS, _⟩
            obtain rfl := hS
            go_frame
            repeat (refine Kr.wpR_one rfl rfl ?_; go_big_quiet_step (fail); refine wpQuiet_nil ?_)
            refine Kr.wpR_nil ?_
            intro w' hb _
            have HBZ9 : Hid (Below w.heap.size w w') := Lib.hid (HQZ.out.trans (hb.mono HQZ.out.size))
            clear hb
            go_wp2_with fail
            go_ret
            exact ⟨rfl, HBZ9.out⟩
theorem serialRuns (A : Option Addr) (len cap : Nat) (zs : List Int) (w : World) (h : IsRow .i64 w A len cap zs) (hT : SpTab w) :
    Calls Tryd.prog 6 #[.slice A len cap] w fun e w' => e = .returned (.bool true) ∧ Below w.heap.size w w' := serialRuns0 A len cap w (lrow_of h) hT
end Go.Proofs.YtbjcahhijfommaaDoor.Wk
namespace Go.Proofs.YtbjcahhijfommaaDoor.Tr
open Go Go.RowKit
set_option maxRecDepth 100000
theorem spTab_of {W : World} (h : Lib.VarReads Tryd.prog W "strings.asciiSpace" (Lib.tabData .u8 Lib.asciiSpaceTab)) : SpTab W := by
  obtain ⟨g, t, cs, fuel, p, h1, h2, h3, h4⟩ := h
  have hg : Tryd.prog.globalNamed "strings.asciiSpace" = some 0 := by kernel_rfl
  obtain rfl := Option.some.inj (hg.symm.trans h1)
  have ht : (Tryd.prog.globals[0]?).map (·.type) = some 105 := by kernel_rfl
  obtain rfl := Option.some.inj (ht.symm.trans h2)
  have ti : Lib.TabIs Tryd.prog W "strings.asciiSpace" .u8 Lib.asciiSpaceTab := by
    unfold Lib.TabIs
    rw [h3, ← Lib.cells_of_tab Tryd.underlying105 Tryd.underlying5 (by kernel_rfl) (by kernel_rfl) h4]
  intro c hc
  have := ti.cell hg c (by rw [Lib.asciiSpaceTab_length]; exact hc)
  rwa [Lib.asciiSpaceTab_at c hc] at this
end Go.Proofs.YtbjcahhijfommaaDoor.Tr
namespace Go.Proofs.YtbjcahhijfommaaDoor.serialRuns
open Go Go.Shelf Go.ChangeShapes Go.WideShapes Go.ChangeAt Go.RowKit Go.Lib
open Go.ChangeMaps (open_string shut_string)
set_option linter.unusedVariables false

theorem own : ownKnob Tryd.prog.godebug = none := by kernel_rfl
theorem laidOut : laidOutB Tryd.prog = true := by kernel_rfl
/-- The witness: the settled world, the two variables holding what their initialisers lay. -/
noncomputable def laidWorld (os : Os) : World :=
  let N := (World.settled Tryd.prog os).heap.size
  let w0 := World.holding Tryd.prog os ⟨#[.cells (Lib.whiteT.map fun (z : Nat) => Value.int .u16 (z : Int)).toArray 149, .cells #[.slice (some ⟨N, 0, none⟩) 7 7, .slice none 0 0, .int .i64 2] 146], #[], []⟩
  let put (h : Array Obj) (g : Nat) (cs : Array Value) : Array Obj := h.modify g fun
    | .cells _ t frozen => .cells cs t frozen
    | o => o
  let h1 := put w0.heap 0 (Lib.asciiSpaceTab.map fun z => Value.int .u8 z).toArray
  let h2 := put h1 1 #[.pointer (some ⟨N + 1, 0, none⟩)]
  { w0 with heap := h2 }
theorem laid_met (os : Os) (args : Array Value) : laidMet Tryd.prog Rows.serialRunsRow.laid ((laidWorld os).forCall (fun _ _ => 0) ⟨#[], args, []⟩).memory :=
  (LaidIn.of_run (l := [("unicode.White_Space", Rows.laid_unicode_White_Space), ("strings.asciiSpace", Rows.laid_strings_asciiSpace)]) [1, 0, (World.settled Tryd.prog default).heap.size, (World.settled Tryd.prog default).heap.size + 1] 10 (by kernel_rfl) (by kernel_rfl) (by kernel_rfl) (by kernel_rfl)).met

theorem witness_row (os : Os) {H : Type} (enc : TypeId × Value → H) :
    (OpenSpec.ofChange Rows.serialRunsSpec).preRow enc Tryd.prog Tryd.f6 Rows.serialRunsRow.domain false Rows.serialRunsRow.laid ((laidWorld os).forCall (fun _ _ => 0) ⟨#[], #[.slice none 0 0], []⟩).memory #[.slice none 0 0] := by
  have hw : (DataW.whole enc Tryd.prog ((laidWorld os).forCall (fun _ _ => 0) ⟨#[], #[.slice none 0 0], []⟩).memory Tryd.f6.params.toList (OpenSpec.ofChange Rows.serialRunsSpec).vars false (#[.slice none 0 0] : Array Value).toList 8).map (fun x => (x.1, x.2.1)) =
      some ([.nil], []) := by kernel_rfl
  obtain ⟨⟨x1, x2, x3⟩, hx, hx1⟩ := Option.map_eq_some_iff.1 hw
  simp only [Prod.mk.injEq] at hx1
  obtain ⟨rfl, rfl⟩ := hx1
  exact OpenSpec.preRow_of_cond 8 hx (by kernel_rfl) (fun k hk => by cases hk) (by kernel_rfl) (laid_met os _)

set_option maxRecDepth 100000 in
set_option maxHeartbeats 2000000 in
theorem lifted (os : Os) (started : os.Started) (H : Type) (enc : TypeId × Value → H) (F : Stop.Interp) :
    ReturnsInHanded {} Tryd.checked os 6 .any ((OpenSpec.ofChange Rows.serialRunsSpec).preRow enc Tryd.prog Tryd.f6 Rows.serialRunsRow.domain false Rows.serialRunsRow.laid) (((OpenSpec.ofChange Rows.serialRunsSpec).at F).post enc Tryd.prog Tryd.f6 false true false false) := by
  refine returnsInHanded_of_row (C := Tryd.checked) (s := OpenSpec.ofChange Rows.serialRunsSpec) own started (by kernel_rfl) Tryd.func6
    (witness_row_atRef (enc := enc) (C := Tryd.checked) false (laidWorld os) #[.slice none 0 0] rfl (by kernel_rfl) (by kernel_rfl) (by kernel_rfl) (witness_row os enc)) ?_
  intro W base args ds gs before hval0 hW _ _ _ hL _ _
  have hval : ∀ (j : Nat) t v, Tryd.f6.params[j]? = some t → args[j]? = some v → Value.okWide Tryd.prog W .any base t v := hval0
  have hW' := hW
  obtain ⟨p, q, hA0, hV, rfl, _, _⟩ := hW
  have hA : DataW.TrodAll enc Tryd.prog W 0 (fun _ => true) true Tryd.f6.params.toList args.toList ds p := hA0
  rw [Tryd.params6] at hA hval
  obtain ⟨v0, vs0, d0, ds0, p0, q0, hargs, rfl, rfl, h0, r0⟩ := trodAll_cons hA
  obtain ⟨rfl, rfl, rfl⟩ := trodAll_nil r0
  obtain rfl : args = #[v0] := by cases args; simp_all
  obtain ⟨rfl, rfl⟩ := trodVars_none hV
  obtain ⟨a0, len0, cap0, rfl⟩ := okWide_slice Tryd.underlying35 (hval 0 35 v0 rfl rfl)
  have k0 := h0
  have lt0 : ∀ x ∈ p0, x.block < W.heap.size := by obtain ⟨m, hm⟩ := k0; exact DataW.trod_lt m _ _ _ hm
  obtain ⟨z0, w0⟩ : ∃ zs, Wk.IsRow .i64 W a0 len0 cap0 zs := by
    obtain ⟨fuel, hf⟩ := h0
    rcases open_ints Tryd.underlying35 Tryd.underlying3 (by kernel_rfl) hf with ⟨hcs, _⟩ | ⟨x, l, c, zs, hcs, _, hl, hm, hz, _, hcell, hwz⟩
    · simp [Value.cells] at hcs
      obtain ⟨rfl, rfl, rfl⟩ := hcs
      exact ⟨[], .inl ⟨rfl, rfl, rfl, rfl⟩⟩
    · simp [Value.cells] at hcs
      obtain ⟨rfl, rfl, rfl⟩ := hcs
      exact ⟨zs, .inr ⟨_, rfl, hl, hm, by simpa using hz, hcell, hwz⟩⟩
  clear hA0 hval0
  have hasc := Lib.laidMet.reads hL (.tail _ (.head _))
  have htab : Tr.SpTab W := Tr.spTab_of hasc
  refine (Wk.serialRuns a0 len0 cap0 z0 W w0 htab).mono fun e W' ⟨he, bel⟩ => ?_
  subst he
  exact ⟨_, rfl, _, _, _, [], _, [], hW', trodAll_mk1 (shut_bool Tryd.underlying4 _), (trodAll_cons_mk (Below.trod laidOut (by kernel_rfl) (of_decide_eq_true (by kernel_rfl)) k0 bel lt0) trodAll_mk0), rfl, bel.frame _, fun h => by cases h⟩

theorem over : Rows.serialRunsRow.holds Tryd.pinned (OpenSpec.ofChange Rows.serialRunsSpec) :=
  OpenClaim.holds_of_cond 6 Tryd.f6 rfl rfl rfl rfl rfl rfl rfl ⟨rfl, rfl, rfl, rfl, rfl⟩ rfl rfl rfl rfl rfl (by kernel_rfl) Tryd.func6 (by kernel_rfl)
    (of_decide_eq_true (by kernel_rfl)) (by unfold Func.isWrapper; first | (rw [if_pos (by decide +kernel)]; kernel_rfl) | (rw [if_neg (by decide +kernel)]; exact ⟨rfl, rfl⟩))
    (fun os started H enc _ F0 => by rw [OpenClaim.pre_eq_preRow]; exact lifted os started H enc F0)

/-- The statement: the tied card. -/
theorem proved : Rows.SerialRunsCardSaid :=
  Claim7.holds_tied_plain_at .later [] [.listed, .data] true (true, "52c361231bdaa7ad325eee02c74076a7a2dce633ac7df8937aeb38b00aa885ad") true
    over (fun _ h => by cases h) (by kernel_rfl) (fun _ h => by cases h) serialRuns_row_tie rfl ⟨rfl, rfl⟩ (by kernel_rfl) rfl
    (fun f fn hf hfn => by
      obtain rfl : f = 6 := Option.some.inj ((show Tryd.prog.funcNamed "topiary/topiarylaw16.SerialRuns" = some 6 by kernel_rfl).symm.trans hf) |>.symm
      obtain rfl : fn = Tryd.f6 := (Option.some.inj (Tryd.func6.symm.trans hfn)).symm
      refine ⟨by kernel_rfl, fun j t ht => ?_⟩
      rw [Tryd.params6] at ht
      rcases j with _ | j
      · obtain rfl : t = 35 := by simpa using ht.symm
        exact (show Tryd.prog.wantsStandIn 35 = false by kernel_rfl)
      · simp at ht)
    (by kernel_rfl)
#print axioms proved
end Go.Proofs.YtbjcahhijfommaaDoor.serialRuns
