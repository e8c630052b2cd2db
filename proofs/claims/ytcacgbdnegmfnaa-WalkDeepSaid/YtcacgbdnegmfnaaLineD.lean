/- A tree that is very deep, or very wide. -/
import Derived.Test.YtcacgbdnegmfnaaCopyT
import Derived.Test.YtcacgbdnegmfnaaPath
import Derived.Test.YtcacgbdnegmfnaaPlace
namespace Go.Proofs.Ytcacgbdnegmfnaa.Dp
open Go Go.RowKit Go.Proofs.Ytcacgbdnegmfnaa.Tr Go.Proofs.Ytcacgbdnegmfnaa.Wk
set_option linter.unusedVariables false
def leafX : Nd := .mk 3 ⟨#[]⟩ ⟨#[98]⟩ [] []
def lineX (b : Nat) : Nd := .mk 2 ⟨#[97]⟩ ⟨#[]⟩ [] (List.replicate b leafX)
def wrapX (b : Nat) : Nat → Nd
  | 0 => lineX b
  | i + 1 => .mk 2 ⟨#[97]⟩ ⟨#[]⟩ [] [wrapX b i]
theorem cntL_rep : ∀ b, cntL (List.replicate b leafX) = b
  | 0 => rfl
  | b + 1 => by rw [List.replicate_succ, cntL, cntL_rep b]; show cntT leafX + b = b + 1; rw [show cntT leafX = 1 from by decide]; omega
theorem hL_rep : ∀ b, hL (List.replicate b leafX) = min b 1
  | 0 => by decide
  | b + 1 => by rw [List.replicate_succ, hL, hL_rep b, show hT leafX = 1 from by decide]; omega
theorem okL_rep (d : Nat) (hd : d ≤ 70) : ∀ b, okL d (List.replicate b leafX)
  | 0 => by unfold okL; trivial
  | b + 1 => by
    rw [List.replicate_succ, okL]
    refine ⟨?_, okL_rep d hd b⟩
    unfold leafX okT okL
    exact ⟨hd, by decide, by decide, by decide, by simp, trivial⟩
theorem cnt_wrapX (b : Nat) : ∀ i, cntT (wrapX b i) = i + b + 1
  | 0 => by unfold wrapX lineX cntT; rw [cntL_rep]; omega
  | i + 1 => by unfold wrapX cntT cntL cntL; rw [cnt_wrapX b i]; omega
theorem h_wrapX (b : Nat) : ∀ i, hT (wrapX b i) = i + (min b 1 + 1)
  | 0 => by unfold wrapX lineX hT; rw [hL_rep]; omega
  | i + 1 => by unfold wrapX hT hL hL; rw [h_wrapX b i]; omega
theorem ok_wrapX (b : Nat) : ∀ i d, d + i + 1 ≤ 70 → okT d (wrapX b i)
  | 0, d, h => by
    unfold wrapX lineX okT
    exact ⟨by omega, by decide, by decide, by decide, by simp, okL_rep _ (by omega) b⟩
  | i + 1, d, h => by
    unfold wrapX okT okL okL
    exact ⟨by omega, by decide, by decide, by decide, by simp, ok_wrapX b i (d + 1) (by omega), trivial⟩
theorem rep_get {b j : Nat} (h : j < b) : (List.replicate b leafX)[j]? = some leafX := by
  rw [List.getElem?_replicate, if_pos h]
theorem treeIn_leafX {w : World} {S : Nat → Prop} : TreeIn w S leafX (.int .i64 3) (.string ⟨#[]⟩) (.string ⟨#[98]⟩) (.slice none 0 0) (.slice none 0 0) := by
  unfold leafX TreeIn
  exact ⟨rfl, rfl, rfl, by decide, by decide, by decide, none, 0, none, 0, rfl, rfl, ⟨Nat.le_refl _, by unfold maxLen; omega, by simp, fun h => absurd rfl h⟩, Nat.le_refl _, by unfold maxLen; omega, fun h => absurd rfl h⟩
/-- The tree in block b, wrapped i times. -/
structure WrRel (n i B b : Nat) (K : Option Addr) (lk kc : Nat) (w1 wr : World) : Prop where
  blk : wr.heap[b]? = some (.cells #[.int .i64 2, .string ⟨#[97]⟩, .string ⟨#[]⟩, .slice none 0 0, .slice K lk kc] 25 (0, 0))
  tree : TreeIn wr (fun c => B ≤ c ∧ c < wr.heap.size ∧ c ≠ b) (wrapX n i) (.int .i64 2) (.string ⟨#[97]⟩) (.string ⟨#[]⟩) (.slice none 0 0) (.slice K lk kc)
  bB : B ≤ b
  BW : B = w1.heap.size
  bel : Below w1.heap.size w1 wr
theorem wrap_step {n i B b : Nat} {K : Option Addr} {lk kc : Nat} {w1 wr w6 : World} (h : WrRel n i B b K lk kc w1 wr)
    (hS : Set5 wr b 25 (.int .i64 2) (.string ⟨#[97]⟩) (.string ⟨#[]⟩) (.slice none 0 0) (.slice (some ⟨wr.heap.size, 0, none⟩) 1 1) w6) :
    WrRel n (i + 1) B b (some ⟨wr.heap.size, 0, none⟩) 1 1 w1 (w6.alloc (.cells #[.int .i64 2, .string ⟨#[97]⟩, .string ⟨#[]⟩, .slice none 0 0, .slice K lk kc] 25)) := by
  have hbl := lt_of_block h.blk
  have hs6 : w6.heap.size = wr.heap.size := hS.size
  have hsz : (w6.alloc (.cells #[.int .i64 2, .string ⟨#[97]⟩, .string ⟨#[]⟩, .slice none 0 0, .slice K lk kc] 25)).heap.size = wr.heap.size + 1 := by simp [hs6]
  have hB : B ≤ wr.heap.size := by rw [h.BW]; exact h.bel.size
  have hnew : (w6.alloc (.cells #[.int .i64 2, .string ⟨#[97]⟩, .string ⟨#[]⟩, .slice none 0 0, .slice K lk kc] 25)).heap[wr.heap.size]? = some (.cells #[.int .i64 2, .string ⟨#[97]⟩, .string ⟨#[]⟩, .slice none 0 0, .slice K lk kc] 25 (0, 0)) := by
    rw [← hs6]; exact alloc_new w6 _
  have hold : ∀ c, c < wr.heap.size → c ≠ b → (w6.alloc (.cells #[.int .i64 2, .string ⟨#[97]⟩, .string ⟨#[]⟩, .slice none 0 0, .slice K lk kc] 25)).heap[c]? = wr.heap[c]? := fun c hc hcb => (Below.heap_alloc w6 _ c (by omega)).trans (hS.other c hcb)
  refine ⟨alloc_old hS.blk _, ?_, h.bB, h.BW, ?_⟩
  · unfold wrapX TreeIn
    refine ⟨rfl, rfl, rfl, by decide, by decide, by decide, none, 0, some ⟨wr.heap.size, 0, none⟩, 1, rfl, rfl, ⟨Nat.le_refl _, by unfold maxLen; omega, by simp, fun h => absurd rfl h⟩, Nat.le_refl _, by unfold maxLen; omega, fun _ => ⟨wr.heap.size, 0, rfl, ⟨hB, by omega, by omega⟩, ?_⟩⟩
    unfold KidsIn KidsIn
    refine ⟨⟨_, _, _, _, _, ?_, ?_, ?_, ?_, ?_, h.tree.keep fun c ⟨h1, h2, h3⟩ => ⟨⟨h1, by omega, h3⟩, fun o => cell_of_heap (hold c h2 h3) o⟩⟩, trivial⟩ <;> (rw [block_cell hnew]; rfl)
  · exact (h.bel.trans (hS.fr.below (fun c hc e => by have := h.bB; have := h.BW; omega) h.bel.size)).alloc (by rw [hs6]; exact h.bel.size) _
/-- The texts are all there: what the tree is. -/
theorem line_of {b n : Nat} {kv : Value} {xs : List Value} {w1 wr : World} (h : CpRel (List.replicate n leafX) [] (.int .i64 2) (.string ⟨#[97]⟩) (.string ⟨#[]⟩) none 0 w1.heap.size b n kv xs w1 wr) :
    ∃ K kc, kv = .slice K n kc ∧ WrRel n 0 w1.heap.size b K n kc w1 wr := by
  have hk := h.kids
  rw [show (List.replicate n leafX).take n = List.replicate n leafX from List.take_of_length_le (by rw [List.length_replicate]; exact Nat.le_refl _)] at hk
  have hrow := h.row
  obtain ⟨K, kc, rfl, m1, m2, m3⟩ := kids_of_row (ks := List.replicate n leafX) (S' := fun c => w1.heap.size ≤ c ∧ c < wr.heap.size ∧ c ≠ b) (by rw [List.length_replicate]; exact hrow) hk (fun c ⟨h1, h2, h3, _⟩ => ⟨h1, h2, h3⟩) (fun g hg => by have := hrow.lt g hg; exact ⟨this.1, this.2, fun e => h.ne (by rw [hg, e])⟩)
  rw [List.length_replicate] at m1
  refine ⟨K, kc, by rw [List.length_replicate], ?_⟩
  have hb := h.blk
  rw [List.length_replicate] at hb
  refine ⟨hb, ?_, h.bB, rfl, h.bel⟩
  unfold wrapX lineX TreeIn
  exact ⟨rfl, rfl, rfl, by decide, by decide, by decide, none, 0, K, kc, rfl, by rw [List.length_replicate], ⟨Nat.le_refl _, by unfold maxLen; omega, by simp, fun h => absurd rfl h⟩, by rw [List.length_replicate]; exact m1, m2, m3⟩
/-! ### What its lists are -/
theorem att_rep : ∀ b, attL (List.replicate b leafX)
  | 0 => by unfold attL; trivial
  | b + 1 => by rw [List.replicate_succ, attL]; exact ⟨by unfold leafX attT attL; exact ⟨by decide, trivial⟩, att_rep b⟩
theorem att_wrapX (b : Nat) : ∀ i, attT (wrapX b i)
  | 0 => by unfold wrapX lineX attT; exact ⟨by decide, att_rep b⟩
  | i + 1 => by unfold wrapX attT attL attL; exact ⟨by decide, att_wrapX b i, trivial⟩
theorem deep_last : ∀ (n id : Nat) (par dep pl : Int), ∃ x, (preT id par dep pl (wrapX 0 n))[n]? = some x ∧ x.dep = dep + (n : Nat) ∧ x.t = wrapX 0 0
  | 0, id, par, dep, pl => ⟨⟨wrapX 0 0, par, dep, pl⟩, by unfold wrapX lineX preT; rfl, by simp, rfl⟩
  | n + 1, id, par, dep, pl => by
    obtain ⟨x, h1, h2, h3⟩ := deep_last n (id + 1) id (dep + 1) 0
    refine ⟨x, ?_, by rw [h2]; omega, h3⟩
    unfold wrapX preT preL preL
    rw [List.getElem?_cons_succ, List.append_nil]
    exact h1
theorem wide_at : ∀ (b id : Nat) (par dep pl : Int) (i : Nat), i < b → (preL id par dep pl (List.replicate b leafX))[i]? = some ⟨leafX, par, dep, pl + (i : Nat)⟩
  | 0, _, _, _, _, i, h => by omega
  | b + 1, id, par, dep, pl, i, h => by
    have e : preT id par dep pl leafX = [⟨leafX, par, dep, pl⟩] := by unfold leafX preT preL; rfl
    rw [List.replicate_succ, preL, e]
    cases i with
    | zero => simp
    | succ i =>
      rw [List.singleton_append, List.getElem?_cons_succ, wide_at b _ _ _ _ i (by omega)]
      rw [show pl + 1 + (i : Int) = pl + ((i + 1 : Nat) : Int) by omega]
theorem wide_node {b i : Nat} (h : i < b) : (allP (wrapX b 0))[i + 1]? = some ⟨leafX, 0, 1, (i : Nat)⟩ := by
  have := wide_at b 1 0 1 0 i h
  unfold allP wrapX lineX preT
  rw [List.getElem?_cons_succ]
  rw [show (0 : Int) + (i : Int) = (i : Int) by omega] at this
  exact this
theorem post_first_deep : ∀ (n id : Nat), (postT id (wrapX 0 n))[0]? = some (id + n)
  | 0, id => by unfold wrapX lineX postT; simp [postL]
  | n + 1, id => by
    have ih := post_first_deep n (id + 1)
    unfold wrapX postT postL postL
    rw [List.append_nil, List.getElem?_append_left (by rw [postT_length]; exact cntT_pos _), ih]
    rw [show id + 1 + n = id + (n + 1) by omega]
theorem post_last (id : Nat) (t : Nd) : (postT id t)[cntT t - 1]? = some id := by
  cases t with
  | mk k n s al ks =>
    rw [postT, show cntT (.mk k n s al ks) = cntL ks + 1 from by rw [cntT], List.getElem?_append_right (by rw [postL_length]; omega), postL_length]
    simp
theorem post_first_wide (b : Nat) (h : 0 < b) : (postT 0 (wrapX b 0))[0]? = some 1 := by
  unfold wrapX lineX postT
  cases b with
  | zero => omega
  | succ b =>
    rw [List.replicate_succ, postL, show postT (0 + 1) leafX = [1] from by decide]
    rfl
end Go.Proofs.Ytcacgbdnegmfnaa.Dp
