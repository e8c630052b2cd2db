/- token: starts, rawEnd, closed, bogus, doctype. -/
import Derived.Test.YtbdgoffbkenofaaGreatTkU
import Derived.Test.YtbdgoffbkenofaaGreatFrTr
import Derived.Laws.ResultCell
import Derived.Laws.Rows
namespace Go.Proofs.YtbdgoffbkenofaaGreat.Tk
open Go Go.RowKit Go.Proofs.YtbdgoffbkenofaaGreat.Tr
set_option linter.unusedVariables false
set_option maxRecDepth 100000

theorem tlower (s : ByteArray) (hs : s.size ≤ 1000000000) (w : World) : Calls Tryz.prog 57 #[.string s] w fun e w' => e = .returned (.string (lowS s)) ∧ Below w.heap.size w w' :=
  Ru.lower_calls s w (Nat.le_trans hs (by decide))
theorem ext_size (s : ByteArray) (a b : Nat) : (s.extract a b).size ≤ s.size := by rw [ByteArray.size_extract]; omega
theorem starts_calls (s t : ByteArray) (hs : s.size ≤ 1000000) (ht : t.size ≤ 1000000) (a : Nat) (ha : a ≤ s.size) (w : World) :
    Calls Tryz.prog 65 #[.string s, .int .i64 (a : Int), .string t] w fun e w' => e = .returned (.bool (startsP s a t)) ∧ Below w.heap.size w w' := by
  have HL1 := Lib.hid (tlower (s.extract a (a + t.size)) (by have := ext_size s a (a + t.size); omega))
  have HL2 := Lib.hid (tlower t (by omega))
  have q := Sr.str_eq (lowS (s.extract a (a + t.size))) (lowS t)
  have hw1 : IntKind.i64.wrap ((s.size : Int) - (a : Int)) = (s.size : Int) - (a : Int) := IntWalk.i64_in _ (by omega)
  have hw2 : IntKind.i64.wrap ((a : Int) + (t.size : Int)) = (a : Int) + (t.size : Int) := IntWalk.i64_in _ (by omega)
  by_cases h : a + t.size ≤ s.size
  · have HV := Lib.hid (show startsP s a t = decide (lowS (s.extract a (a + t.size)) = lowS t) by unfold startsP; rw [decide_eq_true h]; rfl)
    have h1 : (t.size : Int) ≤ (s.size : Int) - (a : Int) := by omega
    have h2 : (a : Int) + (t.size : Int) ≤ (s.size : Int) := by omega
    have h3 : (a : Int) ≤ (a : Int) + (t.size : Int) := by omega
    generalize lowS (s.extract a (a + t.size)) = l1 at *
    generalize lowS t = l2 at *
    clear h
    go_enter Tryz.func65, Tryz.ntmps65
    go_wp2_with fail
    refine (HL1.out _).mono ?_
    rintro e w2 ⟨rfl, hb2⟩
    have HB2 := Lib.hid hb2
    clear hb2
    go_wp2_with fail
    refine (HL2.out _).mono ?_
    rintro e w3 ⟨rfl, hb3⟩
    have HB3 := Lib.hid (HB2.out.trans (hb3.mono HB2.out.size))
    clear hb3
    go_wp2_with fail
    go_ret
    exact ⟨by rw [HV.out]; rfl, HB3.out⟩
  · have HV := Lib.hid (show startsP s a t = false by unfold startsP; rw [decide_eq_false h]; rfl)
    have h1 : ¬ ((t.size : Int) ≤ (s.size : Int) - (a : Int)) := by omega
    clear h q HL1 HL2
    go_enter Tryz.func65, Tryz.ntmps65
    go_wp2_with fail
    go_ret
    exact ⟨by rw [HV.out]; rfl, Below.refl _ _⟩
theorem closed_calls (s : ByteArray) (hs : s.size ≤ 1000000) (a : Nat) (ha : a ≤ s.size) (w : World) :
    Calls Tryz.prog 97 #[.string s, .int .i64 (a : Int)] w fun e w' => e = .returned (.tuple #[.string (s.extract a (closedEnd s a)), .int .i64 (min (closedEnd s a + 1) s.size : Nat)]) ∧ Below w.heap.size w w' := by
  have HU := Lib.hid (upTo_calls 116 #[] (enters_of Tryz.func116 (by kernel_rfl) rfl) _ s (by omega) a (by omega) w (closed1 w))
  have h1 : a ≤ closedEnd s a := upT_ge _ _ _
  have h2 : closedEnd s a ≤ s.size := upT_le _ ha
  change Hid (Calls Tryz.prog 60 #[.string s, .int .i64 (a : Int), .func (.func 116) #[] #[]] w fun e w' => e = .returned (.int .i64 (closedEnd s a : Nat)) ∧ Below w.heap.size w w') at HU
  generalize closedEnd s a = c at *
  have hw : IntKind.i64.wrap ((c : Int) + 1) = (c : Int) + 1 := IntWalk.i64_in _ (by omega)
  have h3 : (a : Int) ≤ (c : Int) := by omega
  have h4 : (c : Int) ≤ (s.size : Int) := by omega
  have HM := Lib.hid (show ((min (c + 1) s.size : Nat) : Int) = min ((c : Int) + 1) (s.size : Int) by omega)
  clear h1 h2
  go_enter Tryz.func97, Tryz.ntmps97
  go_wp2_with fail
  refine HU.out.mono ?_
  rintro e w2 ⟨rfl, hb⟩
  have HB := Lib.hid hb
  clear hb
  go_wp2_with fail
  go_ret2
  exact ⟨by rw [HM.out]; rfl, HB.out⟩
theorem results_tok {fn : Func} {p u v : Tmp} {ty : TypeId} (h : fn.results = #[.cell p ty, .tmp u, .tmp v]) (tmps : Array Value) (P : Program) (w : World) :
    (results fn tmps).run P w = ((asAddr (tmps.getD p undef)).run P w).andThen fun a w₁ => ((loadVar ty a).run P w₁).andThen fun x w₂ => .ok (.tuple #[x, tmps.getD u undef, tmps.getD v undef]) w₂ := by
  simp only [results, h]
  simp [Sem.run_bind, Result.andThen]
/-- A piece, handed back. -/
def TokEnd (o : Out) (w : World) (e : Ending) (w' : World) : Prop :=
  ∃ A ac, e = .returned (.tuple #[.agg #[.int .i64 o.1.kind, .string o.1.name, .string o.1.text, .slice A o.1.attrs.length ac, .bool o.1.raw], .int .i64 (o.2.1 : Int), .bool o.2.2]) ∧ IsAttrs w' w'.heap.size o.1.attrs A ac ∧ Below w.heap.size w w' ∧ ∀ p, A = some p → w.heap.size ≤ p.block
theorem isAttrs_nil (w : World) (B : Nat) : IsAttrs w B [] none 0 := ⟨Nat.le_refl _, by unfold maxLen; omega, fun a h => by simp at h, fun h => absurd rfl h⟩
section
variable {w w' : World} {b : Nat} {c0 c1 c2 c3 c4 : Value} {T : TypeId}
theorem set5_blk (h : w.heap[b]? = some (.cells #[c0, c1, c2, c3, c4] T (0, 0))) (v0 v1 v2 v3 v4 : Value) :
    (((((w.setCell ⟨b, 0, none⟩ v0).setCell ⟨b, 1, none⟩ v1).setCell ⟨b, 2, none⟩ v2).setCell ⟨b, 3, none⟩ v3).setCell ⟨b, 4, none⟩ v4).heap[b]? = some (.cells #[v0, v1, v2, v3, v4] T (0, 0)) := by
  simp only [World.setCell, Array.getElem?_modify, ↓reduceIte, h, Option.map_some]
  rfl
theorem set5_below {B : Nat} (hB : B ≤ b) (v0 v1 v2 v3 v4 : Value) : Below B w (((((w.setCell ⟨b, 0, none⟩ v0).setCell ⟨b, 1, none⟩ v1).setCell ⟨b, 2, none⟩ v2).setCell ⟨b, 3, none⟩ v3).setCell ⟨b, 4, none⟩ v4) :=
  (((((Below.refl B w).setCell (p := ⟨b, 0, none⟩) hB v0).setCell (p := ⟨b, 1, none⟩) hB v1).setCell (p := ⟨b, 2, none⟩) hB v2).setCell (p := ⟨b, 3, none⟩) hB v3).setCell (p := ⟨b, 4, none⟩) hB v4
theorem set5_other {k : Nat} (hk : k ≠ b) (v0 v1 v2 v3 v4 : Value) :
    (((((w.setCell ⟨b, 0, none⟩ v0).setCell ⟨b, 1, none⟩ v1).setCell ⟨b, 2, none⟩ v2).setCell ⟨b, 3, none⟩ v3).setCell ⟨b, 4, none⟩ v4).heap[k]? = w.heap[k]? := by
  rw [Below.heap_setCell _ _ _ k hk, Below.heap_setCell _ _ _ k hk, Below.heap_setCell _ _ _ k hk, Below.heap_setCell _ _ _ k hk, Below.heap_setCell _ _ _ k hk]
theorem tbox5 {v0 v1 v2 v3 v4 : Value} (h : w.heap[b]? = some (.cells #[v0, v1, v2, v3, v4] T (0, 0))) : w.cell? ⟨b, 0, none⟩ = some v0 ∧ w.cell? ⟨b, 1, none⟩ = some v1 ∧ w.cell? ⟨b, 2, none⟩ = some v2 ∧ w.cell? ⟨b, 3, none⟩ = some v3 ∧ w.cell? ⟨b, 4, none⟩ = some v4 := by
  refine ⟨?_, ?_, ?_, ?_, ?_⟩ <;> rw [block_cell h] <;> rfl
theorem tfrz5 {v0 v1 v2 v3 v4 : Value} (h : w.heap[b]? = some (.cells #[v0, v1, v2, v3, v4] T (0, 0))) : w.frozen? ⟨b, 0, none⟩ = false ∧ w.frozen? ⟨b, 1, none⟩ = false ∧ w.frozen? ⟨b, 2, none⟩ = false ∧ w.frozen? ⟨b, 3, none⟩ = false ∧ w.frozen? ⟨b, 4, none⟩ = false :=
  ⟨Lib.frozen_of_heap h 0, Lib.frozen_of_heap h 1, Lib.frozen_of_heap h 2, Lib.frozen_of_heap h 3, Lib.frozen_of_heap h 4⟩
end
theorem tok_post {fn : Func} {tmps : Array Value} (o : Out) (w : World) {wq : World} (p u v : Nat) (b : Nat) (A : Option Addr) (ac : Nat) (hres : fn.results = #[.cell p 27, .tmp u, .tmp v])
    (hp : tmps.getD p undef = .pointer (some ⟨b, 0, none⟩)) (hu : tmps.getD u undef = .int .i64 (o.2.1 : Int)) (hv : tmps.getD v undef = .bool o.2.2)
    (hblk : wq.heap[b]? = some (.cells #[.int .i64 o.1.kind, .string o.1.name, .string o.1.text, .slice A o.1.attrs.length ac, .bool o.1.raw] 27 (0, 0))) (ha : IsAttrs wq wq.heap.size o.1.attrs A ac) (hb : Below w.heap.size w wq) (hA : ∀ p, A = some p → w.heap.size ≤ p.block) :
    bodyPost Tryz.prog fn (TokEnd o w) Exit.ret { tmps := tmps, defers := [] } wq := by
  have hld := run_loadVar_row (P := Tryz.prog) wq b 27 27 _ _ _ hblk Tryz.underlying27 rfl (by kernel_rfl)
  refine bodyPost_ret (v := .tuple #[.agg #[.int .i64 o.1.kind, .string o.1.name, .string o.1.text, .slice A o.1.attrs.length ac, .bool o.1.raw], .int .i64 (o.2.1 : Int), .bool o.2.2]) ?_ rfl ⟨A, ac, rfl, ha, hb, hA⟩
  rw [results_tok hres, hp, hu, hv]
  simp [asAddr, Result.andThen, hld]
theorem mixedT : Tryz.prog.follows .mixedOrders = true := by kernel_rfl
def zeroTok : Array Value := #[.int .i64 0, .string ⟨#[]⟩, .string ⟨#[]⟩, .slice none 0 0, .bool false]
set_option maxHeartbeats 2000000 in
theorem bogus_calls (s : ByteArray) (hs : s.size ≤ 1000000) (a : Nat) (ha : a ≤ s.size) (w : World) :
    Calls Tryz.prog 68 #[.string s, .int .i64 (a : Int)] w (TokEnd (bogusP s a) w) := by
  have HC := Lib.hid (closed_calls s hs a ha)
  unfold bogusP
  generalize s.extract a (closedEnd s a) = x at *
  generalize min (closedEnd s a + 1) s.size = n at *
  have HB1 : Hid (Below w.heap.size w (w.alloc (.cells zeroTok 27))) := Lib.hid ((Below.refl _ w).alloc (Nat.le_refl _) _)
  have HL1 := Lib.hid (alloc_new w (.cells zeroTok 27))
  unfold zeroTok at HB1 HL1
  go_enter Tryz.func68, Tryz.ntmps68
  go_wp2_with fail
  refine (HC.out _).mono ?_
  rintro e w2 ⟨rfl, hb2⟩
  have HB2 := Lib.hid (HB1.out.trans (hb2.mono HB1.out.size))
  have hl2 := (hb2.block _ (lt_of_block HL1.out)).trans HL1.out
  have HL2 := Lib.hid hl2
  obtain ⟨b0, b1, b2, b3, b4⟩ := tbox5 hl2
  obtain ⟨f0, f1, f2, f3, f4⟩ := tfrz5 hl2
  clear hb2 hl2
  go_wp2_with fail
  exact tok_post (commTok x, n, true) w 4 5 6 w.heap.size none 0 rfl rfl rfl rfl (set5_blk HL2.out _ _ _ _ _) (isAttrs_nil _ _) (HB2.out.trans (set5_below (Nat.le_refl _) _ _ _ _ _)) (fun _ h => nomatch h)
theorem doctype1 (w : World) : PredC 96 #[] (fun c => blankN c || decide (c = 62)) w := by
  intro c W hc hb
  show Calls Tryz.prog 96 #[.int .u8 (c : Int)] W fun e w' => e = .returned (.bool (blankN c || decide (c = 62))) ∧ Below W.heap.size W w'
  have q2 : ((c : Int) == 62) = decide (c = 62) := eq_nat c 62
  have HB := Lib.hid (tblank c)
  generalize blankN c = b0 at *
  generalize decide (c = 62) = b2 at *
  go_enter Tryz.func96, Tryz.ntmps96
  cases b0 <;> cases b2 <;> (
    go_wp2_with fail
    refine (HB.out _).mono ?_
    rintro e w2 ⟨rfl, rfl⟩
    go_wp2_with fail
    go_ret
    exact ⟨rfl, Below.refl _ _⟩)
set_option maxHeartbeats 4000000 in
theorem doctype_calls (s : ByteArray) (hs : s.size ≤ 1000000) (a : Nat) (ha : a ≤ s.size) (w : World) :
    Calls Tryz.prog 67 #[.string s, .int .i64 (a : Int)] w (TokEnd (doctypeP s a) w) := by
  have HP := Lib.hid (past_calls s (by omega) a (by omega))
  have hb0 : a ≤ pastP s a := upT_ge _ _ _
  have hb1 : pastP s a ≤ s.size := upT_le _ ha
  have HU := Lib.hid (fun W => upTo_calls 96 #[] (enters_of Tryz.func96 (by kernel_rfl) rfl) _ s (by omega) (pastP s a) (by omega) W (doctype1 W))
  have he0 : pastP s a ≤ upT (fun c => blankN c || decide (c = 62)) s (pastP s a) := upT_ge _ _ _
  have he1 : upT (fun c => blankN c || decide (c = 62)) s (pastP s a) ≤ s.size := upT_le _ hb1
  unfold doctypeP
  dsimp only
  generalize pastP s a = b at *
  generalize upT (fun c => blankN c || decide (c = 62)) s b = e at *
  have HC := Lib.hid (closed_calls s hs e he1)
  have HLW := Lib.hid (tlower (s.extract b e) (by have := ext_size s b e; omega))
  generalize lowS (s.extract b e) = x at *
  generalize min (closedEnd s e + 1) s.size = n at *
  have h3 : (b : Int) ≤ (e : Int) := by omega
  have h4 : (e : Int) ≤ (s.size : Int) := by omega
  have HB1 : Hid (Below w.heap.size w (w.alloc (.cells zeroTok 27))) := Lib.hid ((Below.refl _ w).alloc (Nat.le_refl _) _)
  have HL1 := Lib.hid (alloc_new w (.cells zeroTok 27))
  unfold zeroTok at HB1 HL1
  clear hb0 hb1 he0 he1
  go_enter Tryz.func67, Tryz.ntmps67
  go_wp2_with fail
  refine (HP.out _).mono ?_
  rintro e w2 ⟨rfl, hb2⟩
  have HB2 := Lib.hid (HB1.out.trans (hb2.mono HB1.out.size))
  have HL2 := Lib.hid ((hb2.block _ (lt_of_block HL1.out)).trans HL1.out)
  clear hb2
  go_wp2_with fail
  refine (HU.out _).mono ?_
  rintro e w3 ⟨rfl, hb3⟩
  have HB3 := Lib.hid (HB2.out.trans (hb3.mono HB2.out.size))
  have HL3 := Lib.hid ((hb3.block _ (lt_of_block HL2.out)).trans HL2.out)
  clear hb3
  go_wp2_with fail
  refine (HC.out _).mono ?_
  rintro e w4 ⟨rfl, hb4⟩
  have HB4 := Lib.hid (HB3.out.trans (hb4.mono HB3.out.size))
  have HL4 := Lib.hid ((hb4.block _ (lt_of_block HL3.out)).trans HL3.out)
  clear hb4
  go_wp2_with fail
  refine (HLW.out _).mono ?_
  rintro e w5 ⟨rfl, hb5⟩
  have HB5 := Lib.hid (HB4.out.trans (hb5.mono HB4.out.size))
  have hl5 := (hb5.block _ (lt_of_block HL4.out)).trans HL4.out
  have HL5 := Lib.hid hl5
  obtain ⟨b0, b1, b2, b3, b4⟩ := tbox5 hl5
  obtain ⟨f0, f1, f2, f3, f4⟩ := tfrz5 hl5
  clear hb5 hl5
  go_wp2_with fail
  exact tok_post (⟨5, x, ⟨#[]⟩, [], false⟩, n, true) w 4 5 6 w.heap.size none 0 rfl rfl rfl rfl (set5_blk HL5.out _ _ _ _ _) (isAttrs_nil _ _) (HB5.out.trans (set5_below (Nat.le_refl _) _ _ _ _ _)) (fun _ h => nomatch h)
end Go.Proofs.YtbdgoffbkenofaaGreat.Tk
