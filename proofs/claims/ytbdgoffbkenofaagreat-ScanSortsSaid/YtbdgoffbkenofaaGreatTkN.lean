/- token.Next: for any source, from any place in it, in any raw element: the piece. The source has 900000 bytes at most. -/
import Derived.Test.YtbdgoffbkenofaaGreatTkG
import Derived.Test.YtbdgoffbkenofaaGreatTkPb
import Derived.Test.YtbdgoffbkenofaaGreatTkPg
namespace Go.Proofs.YtbdgoffbkenofaaGreat.Tk
open Go Go.RowKit Go.Proofs.YtbdgoffbkenofaaGreat.Tr
set_option linter.unusedVariables false
set_option maxRecDepth 100000

theorem nx_boxes (s : ByteArray) (w : World) : Below w.heap.size w ((w.alloc (.cells #[.string s] 9)).alloc (.cells #[.int .i64 0, .string ⟨#[]⟩, .string ⟨#[]⟩, .slice none 0 0, .bool false] 27)) ∧
    ((w.alloc (.cells #[.string s] 9)).alloc (.cells #[.int .i64 0, .string ⟨#[]⟩, .string ⟨#[]⟩, .slice none 0 0, .bool false] 27)).heap[w.heap.size]? = some (.cells #[.string s] 9 (0, 0)) ∧
    ((w.alloc (.cells #[.string s] 9)).alloc (.cells #[.int .i64 0, .string ⟨#[]⟩, .string ⟨#[]⟩, .slice none 0 0, .bool false] 27)).heap[w.heap.size + 1]? = some (.cells #[.int .i64 0, .string ⟨#[]⟩, .string ⟨#[]⟩, .slice none 0 0, .bool false] 27 (0, 0)) :=
  ⟨((Below.refl _ w).alloc (Nat.le_refl _) _).alloc (by simp) _, alloc_old (alloc_new w _) _, by have := alloc_new (w.alloc (.cells #[.string s] 9)) (.cells #[.int .i64 0, .string ⟨#[]⟩, .string ⟨#[]⟩, .slice none 0 0, .bool false] 27); simpa using this⟩
/-- What is known: the source's box, the result's. -/
structure NxI (s : ByteArray) (b : Nat) (w0 wr : World) : Prop where
  box : wr.heap[b]? = some (.cells #[.string s] 9 (0, 0))
  res : wr.heap[b + 1]? = some (.cells #[.int .i64 0, .string ⟨#[]⟩, .string ⟨#[]⟩, .slice none 0 0, .bool false] 27 (0, 0))
  bel : Below b w0 wr
theorem NxI.keep {s : ByteArray} {b : Nat} {w0 wr w' : World} (h : NxI s b w0 wr) (hb : Below wr.heap.size wr w') : NxI s b w0 w' :=
  ⟨(hb.block _ (lt_of_block h.box)).trans h.box, (hb.block _ (lt_of_block h.res)).trans h.res, h.bel.trans (hb.mono (by have := lt_of_block h.box; omega))⟩
theorem NxI.end_ {s : ByteArray} {b : Nat} {w0 wr : World} (h : NxI s b w0 wr) (v0 v1 v2 v3 v4 : Value) : Below b w0 (((((wr.setCell ⟨b + 1, 0, none⟩ v0).setCell ⟨b + 1, 1, none⟩ v1).setCell ⟨b + 1, 2, none⟩ v2).setCell ⟨b + 1, 3, none⟩ v3).setCell ⟨b + 1, 4, none⟩ v4) :=
  h.bel.trans (set5_below (by omega) _ _ _ _ _)
theorem NxI.cell {s : ByteArray} {b : Nat} {w0 wr : World} (h : NxI s b w0 wr) : wr.cell? ⟨b, 0, none⟩ = some (.string s) := by rw [block_cell h.box]; rfl
theorem NxI.grow {s : ByteArray} {b : Nat} {w0 wr : World} (h : NxI s b w0 wr) (v : Array Value) (T : TypeId) : NxI s b w0 (wr.alloc (.cells v T)) := h.keep ((Below.refl _ wr).alloc (Nat.le_refl _) _)
theorem NxI.set {s : ByteArray} {b : Nat} {w0 wr : World} (h : NxI s b w0 wr) {p : Addr} (v : Value) (hp : b + 1 < p.block) : NxI s b w0 (wr.setCell p v) :=
  ⟨(Below.heap_setCell _ _ _ b (by omega)).trans h.box, (Below.heap_setCell _ _ _ (b + 1) (by omega)).trans h.res, h.bel.setCell (by omega) v⟩
theorem NxI.far {s : ByteArray} {b : Nat} {w0 wr : World} (h : NxI s b w0 wr) {A : Option Addr} (hA : ∀ p, A = some p → wr.heap.size ≤ p.block) : ∀ p, A = some p → b + 2 ≤ p.block := fun p hp => by
  have := hA p hp; have := lt_of_block h.res; omega
theorem nextP_raw {s raw x : ByteArray} {a e : Nat} (h : ¬ s.size ≤ a) (he : rawEndP s a raw = e) (h2 : raw ≠ ⟨#[]⟩ ∧ a < e) (hx : (if rawP (lowS raw) = 1 then Ch.decB (s.extract a e) false else s.extract a e) = x) : nextP s a raw = (textTok x true, e, true) := by
  subst he; subst hx; unfold nextP; exact (if_neg h).trans (if_pos h2)
theorem nextP_rest {s raw : ByteArray} {a : Nat} (h : ¬ s.size ≤ a) (h2 : ¬ (raw ≠ ⟨#[]⟩ ∧ a < rawEndP s a raw)) : nextP s a raw = nextP s a ⟨#[]⟩ := by
  unfold nextP; exact ((if_neg h).trans (if_neg h2)).trans ((if_neg h).trans (if_neg (fun x => x.1 rfl))).symm
theorem empty_toList {raw : ByteArray} (h : raw ≠ ⟨#[]⟩) : (!raw.toList.isEmpty) = true := by
  cases hl : raw.toList with
  | nil =>
    refine absurd (Sr.bytes_eq.1 ?_) h
    rw [← ByteArray.toList_eq, hl]
  | cons x xs => rfl
theorem text_upTo (s : ByteArray) (hs : s.size ≤ 1000000) (bl : Bool) (b a e : Nat) (ha : a ≤ 2000000) (he : upT (fun c => decide (c = 60) || (blankN c != bl)) s a = e) (W : World) (hW : W.heap[b]? = some (.cells #[.bool bl] 4 (0, 0))) :
    Calls Tryz.prog 60 #[.string s, .int .i64 (a : Int), .func (.func 61) #[] #[.pointer (some ⟨b, 0, none⟩)]] W fun e' w' => e' = .returned (.int .i64 (e : Int)) ∧ Below W.heap.size W w' :=
  he ▸ upTo_calls 61 #[.pointer (some ⟨b, 0, none⟩)] (enters_of Tryz.func61 (by kernel_rfl) rfl) _ s (by omega) a (by omega) W (next1 bl b W hW)
theorem letter_w (s : ByteArray) (hs : s.size ≤ 1000000) (i : Nat) (n : Int) (hn : (i : Int) = n) (hi : i ≤ 2000000) (b : Nat) (w : World) (hb : w.heap[b]? = some (.cells #[.string s] 9 (0, 0))) :
    Calls Tryz.prog 62 #[.int .i64 n, .pointer (some ⟨b, 0, none⟩)] w fun e w' => e = .returned (.bool (letterAt s i)) ∧ w = w' := hn ▸ next2 s hs i hi b w hb
theorem tag_w (hsort : SortsAttrs) (s : ByteArray) (hs : s.size ≤ 1000000) (i : Nat) (n : Int) (hn : (i : Int) = n) (hi : i ≤ s.size) (start : Bool) (m : Int) (hm : kindOf start = m) (w : World) :
    Calls Tryz.prog 64 #[.string s, .int .i64 n, .int .i64 m] w (TokEnd (tagP s i start) w) := hn ▸ hm ▸ tag_calls s hs i hi start hsort w
theorem comment_w (s : ByteArray) (hs : s.size ≤ 1000000) (i : Nat) (n : Int) (hn : (i : Int) = n) (hi : i ≤ s.size) (w : World) :
    Calls Tryz.prog 66 #[.string s, .int .i64 n] w (TokEnd (commentP s i) w) := hn ▸ comment_calls s hs i hi w
theorem doctype_w (s : ByteArray) (hs : s.size ≤ 1000000) (i : Nat) (n : Int) (hn : (i : Int) = n) (hi : i ≤ s.size) (w : World) :
    Calls Tryz.prog 67 #[.string s, .int .i64 n] w (TokEnd (doctypeP s i) w) := hn ▸ doctype_calls s hs i hi w
theorem bogus_w (s : ByteArray) (hs : s.size ≤ 1000000) (i : Nat) (n : Int) (hn : (i : Int) = n) (hi : i ≤ s.size) (w : World) :
    Calls Tryz.prog 68 #[.string s, .int .i64 n] w (TokEnd (bogusP s i) w) := hn ▸ bogus_calls s hs i hi w
end Go.Proofs.YtbdgoffbkenofaaGreat.Tk
