/- strings' generic replacer: a text replaced. -/
import Derived.Test.YtbdgoffbkenofaaGreatGws
import Derived.Laws.IdiomStrings
import Derived.Test.YtbdgoffbkenofaaGreatBuild
namespace Go.Proofs.YtbdgoffbkenofaaGreat.Gr
open Go Go.RowKit Go.Proofs.YtbdgoffbkenofaaGreat.Tr Go.Proofs.YtbdgoffbkenofaaGreat.Sr
set_option linter.unusedVariables false
set_option maxRecDepth 100000

theorem buf_text {w : World} {B b : Nat} {v : Value} {l : List UInt8} (h : Buf w B b v l) : (convert 215 9 v).run Tryz.prog w = .ok (.string ⟨l.toArray⟩) w := by
  have hr := h.row
  rcases hr.2 with ⟨hv, h0⟩ | ⟨g, cap, cur, hv, h5, h6, h7⟩
  · obtain rfl : l = [] := List.eq_nil_of_length_eq_zero h0
    rw [hv]
    exact run_convert_bytes_nil w _ 5 Tryz.underlying215 Tryz.underlying5 0 0 _ Tryz.underlying9
  · rw [hv]
    refine run_convert_bytes_back w _ _ 5 ⟨g, 0, none⟩ cap l Tryz.underlying215 Tryz.underlying5 Tryz.underlying9 fun j hj => ?_
    have hc := hr.cells (g := g) (by rw [hv]; rfl)
    exact hc j _ (by unfold Lib.byteCells; rw [List.getElem?_map, List.getElem?_eq_getElem hj]; rfl)
def zcells (n : Nat) : Array Value := madeCells (Value.int .u8 0).cells (n * 1)
theorem run_mkb (n : Nat) (hn : n ≤ 1000000000) (w : World) :
    (Instr.makeSlice 215 (.int .i64 0) (.int .i64 n)).run Tryz.prog w = .ok (.slice (some ⟨w.heap.size, 0, none⟩) 0 n) (w.alloc (.cells (zcells n) 5)) := by
  obtain ⟨i, hi, hz0, hz, hb⟩ := info_parts u8_info
  rw [run_make (w := w) 215 5 i (.int .u8 0) Tryz.underlying215 hi hz0 .i64 .i64 0 n (by omega) (by omega) (by rw [hb]; omega) (by omega)]
  rw [hz]
  rfl
theorem zcells_size (n : Nat) : (zcells n).size = n * 1 := by simp [zcells, madeCells, Value.cells]
attribute [irreducible] zcells
def RplEnd (K : Prs) (s : ByteArray) (w : World) (e : Ending) (w' : World) : Prop := ∃ out, e = .returned (.string ⟨out.toArray⟩) ∧ Rep K s.data.toList out ∧ Below w.heap.size w w'
theorem greplace_calls {K : Prs} {n N : Nat} {M : List Int} (hG : GoodK K n M N) (g tb : Nat) (s : ByteArray) (w : World) (hB : Built w g tb n M N K) (hs : s.size ≤ 1000000) :
    Calls Tryz.prog 193 #[.pointer (some ⟨g, 0, none⟩), .string s] w (RplEnd K s w) := by
  have HG := Lib.hid hG
  have HB := Lib.hid hB
  have hmk := run_mkb s.size (by omega)
  clear hG hB
  go_enter Tryz.func193, Tryz.ntmps193
  go_wp2_with fail
  have hbf : Buf ((w.alloc (.cells (zcells s.size) 5)).alloc (.cells #[.slice (some ⟨w.heap.size, 0, none⟩) 0 s.size] 215)) w.heap.size (w.heap.size + 1) (.slice (some ⟨w.heap.size, 0, none⟩) 0 s.size) [] :=
    ⟨alloc_at (by simp) _, (World.ownsRow_made w _ _ (Nat.le_refl _) (by unfold maxLen; omega) (zcells_size _)).alloc _, by simp [Value.ownBlock]⟩
  have hbl : Below w.heap.size w ((w.alloc (.cells (zcells s.size) 5)).alloc (.cells #[.slice (some ⟨w.heap.size, 0, none⟩) 0 s.size] 215)) :=
    ((Below.refl _ _).alloc (Nat.le_refl _) _).alloc (by simp) _
  refine (gws_calls HG.out g tb (w.heap.size + 1) _ s w _ HB.out hbl hbf (by omega) hs).mono ?_
  rintro e w2 ⟨v', out, nn, rfl, hx⟩
  have c0 : w2.cell? ⟨w.heap.size + 1, 0, none⟩ = some v' := by rw [block_cell hx.buf.blk]; rfl
  have hcv := buf_text hx.buf
  have HX := Lib.hid hx
  clear hbf hbl hmk hx
  go_wp2_with fail
  go_ret
  exact ⟨out, rfl, HX.out.rep, HX.out.bel⟩
end Go.Proofs.YtbdgoffbkenofaaGreat.Gr
namespace Go.Proofs.YtbdgoffbkenofaaGreat.Gr
open Go Go.RowKit Go.Proofs.YtbdgoffbkenofaaGreat.Tr Go.Proofs.YtbdgoffbkenofaaGreat.On
set_option linter.unusedVariables false
set_option maxRecDepth 100000

def OnceP (n : Nat) (M : List Int) (N : Nat) (K : Prs) (r : Nat) (sm : Value) (g tb : Nat) (w w' : World) : Prop :=
  w'.heap[r]? = some (.cells #[.int .u32 0, .int .i32 1, sm, .iface 161 (.pointer (some ⟨g, 0, none⟩)), .slice none 0 0] 134 (0, 0)) ∧ Built w' g tb n M N K ∧ w.heap.size ≤ g ∧ Fr (· = r) w.heap.size w w'
def OnceEnd (n : Nat) (M : List Int) (N : Nat) (K : Prs) (r : Nat) (sm : Value) (w : World) (e : Ending) (w' : World) : Prop := e = .returned (.tuple #[]) ∧ ∃ g tb, OnceP n M N K r sm g tb w w'
theorem built_setCell {w : World} {g tb n N : Nat} {M : List Int} {K : Prs} (h : Built w g tb n M N K) {p : Addr} (hp : p.block < g) (x : Value) : Built (w.setCell p x) g tb n M N K := by
  obtain ⟨hg, ⟨Tb, h1, h2, h3, h4⟩, h5⟩ := h
  refine ⟨hg.old (heap_setCell_other _ _ _ _ (by omega)), ⟨Tb, h1, ⟨(heap_setCell_other _ _ _ _ (by omega)).trans h2.blk⟩, fun k q hq => ?_, h4⟩, h5⟩
  obtain ⟨nb, m, q1, q2, q3, q4, q5⟩ := h3 k q hq
  refine ⟨nb, m, q1, q2, q3, q4, ?_⟩
  rcases q5 with ⟨u1, u2⟩ | ⟨u1, b2, u2, u3, u4⟩
  · exact .inl ⟨u1, u2.old (heap_setCell_other _ _ _ _ (by omega))⟩
  · exact .inr ⟨u1, b2, u2.old (heap_setCell_other _ _ _ _ (by omega)), u3.old (heap_setCell_other _ _ _ _ (by omega)), u4⟩
theorem once_calls {K : Prs} {n N : Nat} {M : List Int} (hG : GoodK K n M N) (r sb cap : Nat) (sm : Value) (w : World) (hK : Olds w sb K)
    (hr : w.heap[r]? = some (.cells #[.int .u32 0, .int .i32 1, sm, .nilIface, .slice (some ⟨sb, 0, none⟩) N cap] 134 (0, 0))) :
    Calls Tryz.prog 124 #[.pointer (some ⟨r, 0, none⟩)] w (OnceEnd n M N K r sm w) := by
  have C := Lib.hid (build_calls hG r sb cap _ _ _ _ w hK hr)
  have HR := Lib.hid hr
  have hrl := lt_of_block hr
  clear hK hr hG
  go_enter Tryz.func124, Tryz.ntmps124
  go_wp2_with fail
  refine C.out.mono ?_
  rintro e w1 ⟨g, tb, rfl, h1, h2, h3⟩
  have hb := (h3.block _ hrl).trans HR.out
  have c3 : w1.cell? ⟨r, 3, none⟩ = some .nilIface := by rw [block_cell hb]; rfl
  have c4 : w1.cell? ⟨r, 4, none⟩ = some (.slice (some ⟨sb, 0, none⟩) N cap) := by rw [block_cell hb]; rfl
  have f3 : w1.frozen? ⟨r, 3, none⟩ = false := frozen_of_row w1 r 3 _ _ hb
  have f4 : w1.frozen? ⟨r, 4, none⟩ = false := frozen_of_row w1 r 4 _ _ hb
  have HB := Lib.hid hb
  have H2 := Lib.hid h2
  have H3 := Lib.hid h3
  clear hb h2 h3
  go_wp2_with fail
  go_end0
  have b1 := heap_setCell_same w1 r 3 _ _ (.iface 161 (.pointer (some ⟨g, 0, none⟩))) HB.out
  have b2 := heap_setCell_same _ r 4 _ _ (.slice none 0 0) b1
  exact ⟨rfl, g, tb, b2, built_setCell (built_setCell H2.out (p := ⟨r, 3, none⟩) (by show r < g; omega) _) (p := ⟨r, 4, none⟩) (by show r < g; omega) _, h1, ((Fr.of_below (R := (· = r)) H3.out).setCell (p := ⟨r, 3, none⟩) (.inr rfl) _).setCell (p := ⟨r, 4, none⟩) (.inr rfl) _⟩
end Go.Proofs.YtbdgoffbkenofaaGreat.Gr
namespace Go.Proofs.YtbdgoffbkenofaaGreat.Gr
open Go Go.RowKit Go.Proofs.YtbdgoffbkenofaaGreat.Tr Go.Proofs.YtbdgoffbkenofaaGreat.Sr Go.Proofs.YtbdgoffbkenofaaGreat.On
set_option linter.unusedVariables false
set_option maxRecDepth 100000

theorem Olds.setCell {w : World} {sb : Nat} {K : Prs} (h : Olds w sb K) {p : Addr} (hp : sb ≠ p.block) (x : Value) : Olds (w.setCell p x) sb K :=
  ⟨fun k q hq => by rw [World.cell?_setCell_other _ p ⟨sb, 2 * k, none⟩ _ (fun e => hp (by rw [e]))]; exact h.key k q hq, fun k q hq => by rw [World.cell?_setCell_other _ p ⟨sb, 2 * k + 1, none⟩ _ (fun e => hp (by rw [e]))]; exact h.val k q hq, by simpa using h.lt⟩
def RpcEnd (K : Prs) (r : Nat) (s : ByteArray) (w : World) (e : Ending) (w' : World) : Prop := ∃ out, e = .returned (.string ⟨out.toArray⟩) ∧ Rep K s.data.toList out ∧ Fr (· = r) w.heap.size w w'
theorem replace_calls {K : Prs} {n N : Nat} {M : List Int} (hG : GoodK K n M N) (r sb cap : Nat) (sm : Value) (s : ByteArray) (w : World) (hK : Olds w sb K) (hne : sb ≠ r)
    (hr : w.heap[r]? = some (.cells #[.int .u32 0, .int .i32 0, sm, .nilIface, .slice (some ⟨sb, 0, none⟩) N cap] 134 (0, 0))) (hs : s.size ≤ 1000000) :
    Calls Tryz.prog 106 #[.pointer (some ⟨r, 0, none⟩), .string s] w (RpcEnd K r s w) := by
  have hr1 := heap_setCell_same w r 1 _ _ (.int .i32 1) hr
  have hO := once_calls hG r sb cap sm (w.setCell ⟨r, 1, none⟩ (.int .i32 1)) (hK.setCell hne _) hr1
  have D := Lib.hid (do_first r sm .nilIface (.slice (some ⟨sb, 0, none⟩) N cap) w hr (fun w2 => ∃ g tb, OnceP n M N K r sm g tb (w.setCell ⟨r, 1, none⟩ (.int .i32 1)) w2) (fun w2 ⟨g, tb, h⟩ => ⟨_, _, h.1⟩) hO)
  have HG := Lib.hid hG
  have hrl := lt_of_block hr
  clear hr1 hO hK hr hG
  have hmf : ∀ (fn : Fn) (first cap : Array Value) (w : World), (Instr.makeFunc fn first cap).run Tryz.prog w = .ok (.func fn first cap) w := fun _ _ _ _ => rfl
  go_enter Tryz.func106, Tryz.ntmps106
  go_wp2_with fail
  refine D.out.mono ?_
  rintro e w1 ⟨rfl, w2, ⟨g, tb, h1, h2, h3, h4⟩, hw1⟩
  have b1 := heap_setCell_same w2 r 0 _ _ (.int .u32 1) h1
  have b2 := heap_setCell_same (w2.setCell ⟨r, 0, none⟩ (.int .u32 1)).drew r 1 _ _ (.int .i32 0) b1
  have hgr : r < g := by
    have : (w.setCell ⟨r, 1, none⟩ (.int .i32 1)).heap.size = w.heap.size := by simp
    omega
  have hB1 : Built w1 g tb n M N K := by
    rw [hw1]
    exact built_setCell (p := ⟨r, 1, none⟩) ((built_setCell (p := ⟨r, 0, none⟩) h2 hgr _).keep (Below.refl _ _).drew) hgr _
  have hF1 : Fr (· = r) w.heap.size w w1 := by
    rw [hw1]
    have h4' : Fr (· = r) w.heap.size w w2 := ((Fr.refl (· = r) w.heap.size w).setCell (p := ⟨r, 1, none⟩) (.inr rfl) _).trans (by simpa using h4)
    exact ((h4'.setCell (p := ⟨r, 0, none⟩) (.inr rfl) _).drew).setCell (p := ⟨r, 1, none⟩) (.inr rfl) _
  have c3 : w1.cell? ⟨r, 3, none⟩ = some (.iface 161 (.pointer (some ⟨g, 0, none⟩))) := by
    rw [hw1, block_cell b2]; rfl
  have HB1 := Lib.hid hB1
  have HF1 := Lib.hid hF1
  clear b1 b2 h1 h2 h3 h4 hw1 hB1 hF1 D
  go_wp2_with fail
  refine (greplace_calls HG.out g tb s w1 HB1.out hs).mono ?_
  rintro e w3 ⟨out, rfl, ho, hb⟩
  have HO := Lib.hid ho
  have HB := Lib.hid hb
  clear ho hb c3
  go_wp2_with fail
  go_ret
  exact ⟨out, rfl, HO.out, HF1.out.trans ((Fr.of_below HB.out).mono HF1.out.size fun k _ hk => hk)⟩
end Go.Proofs.YtbdgoffbkenofaaGreat.Gr
namespace Go.Proofs.YtbdgoffbkenofaaGreat.Gr
open Go Go.RowKit Go.Proofs.YtbdgoffbkenofaaGreat.Tr Go.Proofs.YtbdgoffbkenofaaGreat.Sr Go.Proofs.YtbdgoffbkenofaaGreat.On
set_option linter.unusedVariables false
set_option maxRecDepth 100000

/-- The texts in a row. -/
def strs (K : Prs) : List Value := K.flatMap fun p => [.string p.1, .string p.2]
theorem strs_len (K : Prs) : (strs K).length = 2 * K.length := by
  unfold strs
  induction K with
  | nil => rfl
  | cons p r ih => rw [List.flatMap_cons, List.length_append, ih, List.length_cons]; simp; omega
theorem strs_at : ∀ (K : Prs) (k : Nat) (p : ByteArray × ByteArray), K[k]? = some p → (strs K)[2 * k]? = some (.string p.1) ∧ (strs K)[2 * k + 1]? = some (.string p.2)
  | [], k, p, h => by simp at h
  | q :: r, 0, p, h => by
    have h' : q = p := by simpa using h
    subst h'; exact ⟨rfl, rfl⟩
  | q :: r, k + 1, p, h => by
    have ih := strs_at r k p (by simpa using h)
    have e : strs (q :: r) = .string q.1 :: .string q.2 :: strs r := rfl
    rw [e, show 2 * (k + 1) = 2 * k + 1 + 1 by omega, show 2 * k + 1 + 1 + 1 = (2 * k + 1) + 1 + 1 by omega]
    exact ⟨by simpa using ih.1, by simpa using ih.2⟩
theorem strs_one (K : Prs) : ∀ u ∈ strs K, u.oneCell' = true := by
  intro u hu
  unfold strs at hu
  obtain ⟨p, _, h⟩ := List.mem_flatMap.1 hu
  rcases List.mem_cons.1 h with rfl | h
  · rfl
  · rcases List.mem_cons.1 h with rfl | h
    · rfl
    · cases h
theorem str_info : (Tryz.prog.info? 9).map (fun i => (i.zero, i.size, i.bytes)) = some (some (.string ⟨#[]⟩), 1, 16) := by kernel_rfl
def NrpEnd (K : Prs) (N : Nat) (w : World) (e : Ending) (w' : World) : Prop := ∃ r sb cap sm, e = .returned (.pointer (some ⟨r, 0, none⟩)) ∧ w'.heap[r]? = some (.cells #[.int .u32 0, .int .i32 0, sm, .nilIface, .slice (some ⟨sb, 0, none⟩) N cap] 134 (0, 0)) ∧ Olds w' sb K ∧ sb ≠ r ∧ w.heap.size ≤ r ∧ Below w.heap.size w w'
theorem new_calls (K : Prs) (N : Nat) (hN : N = 2 * K.length) (h2 : N ≤ 1000) (h0 : 0 < N) (ad : Addr) (c : Nat) (w : World) (hc : ∀ j u, (strs K)[j]? = some u → w.cell? (ad.add j) = some u) :
    Calls Tryz.prog 105 #[.slice (some ad) N c] w (NrpEnd K N w) := by
  obtain ⟨i0, hi, hz0, hz1, hz2⟩ := info_parts str_info
  have HC := Lib.hid hc
  have HN := Lib.hid hN
  have hev : ((N : Int) % 2 == 1) = false := by rw [beq_eq_false_iff_ne]; omega
  have hev2 : ((N : Int).tmod 2 == 1) = false := by rw [beq_eq_false_iff_ne, Int.tmod_eq_emod_of_nonneg (by omega)]; omega
  have h00 : (0 : Int) ≤ (N : Int) := by omega
  clear hc hN
  go_enter Tryz.func105, Tryz.ntmps105
  go_wp2_with (at_builtin; refine wpList_append_own _ rfl _ _ 94 rfl w.heap.size 9 i0 (.string ⟨#[]⟩) 1 16 Tryz.underlying94 hi hz0 hz1 hz2 rfl (by decide) _ _ _ rfl (World.ownsRow_nil w w.heap.size 9 1) ad N c (strs K) rfl ?c1 HC.out (strs_one K) ?c3 ?c4 (Nat.le_refl _) ?_)
  case c1 => rw [strs_len]; have := HN.out; omega
  case c3 => unfold maxLen; omega
  case c4 => omega
  intro v' w2 hown' hgrow hiff
  obtain ⟨sb, cap, rfl⟩ : ∃ g cap, v' = .slice (some ⟨g, 0, none⟩) N cap := by
    rcases hown'.2 with ⟨_, h⟩ | ⟨g, cap, cur, hv, _⟩
    · omega
    · exact ⟨g, cap, hv⟩
  have hsl := hown'.lt sb rfl
  have hO : Olds w2 sb K := by
    have hcl := hown'.cells (g := sb) rfl
    have ha : ∀ j, (⟨sb, 0, none⟩ : Addr).add j = ⟨sb, j, none⟩ := fun j => by unfold Addr.add; split <;> simp_all
    exact ⟨fun k p hp => ha (2 * k) ▸ hcl _ _ (strs_at K k p hp).1, fun k p hp => ha (2 * k + 1) ▸ hcl _ _ (strs_at K k p hp).2, hsl.2⟩
  have hB : Below w.heap.size w w2 := (Below.refl _ _).grown hgrow (Nat.le_refl _) (fun k hk => by cases hk)
  have HO := Lib.hid hO
  have HB := Lib.hid hB
  clear hown' hgrow hiff hO hB
  go_wp2_with fail
  go_ret
  have hO2 : ∀ o, Olds (w2.alloc o) sb K := fun o => HO.out.below ((Below.refl w2.heap.size w2).alloc (Nat.le_refl _) o) HO.out.lt
  exact ⟨_, sb, cap, _, rfl, alloc_new w2 _, hO2 _, by have := HO.out.lt; omega, HB.out.size, HB.out.alloc HB.out.size _⟩
end Go.Proofs.YtbdgoffbkenofaaGreat.Gr
