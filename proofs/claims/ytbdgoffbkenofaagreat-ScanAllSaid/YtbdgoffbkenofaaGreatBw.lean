/- A builder that the call has made: written to, and what else it keeps. -/
import Derived.Test.YtbdgoffbkenofaaGreatLays
import Derived.Test.YtbdgoffbkenofaaGreatFrTr
import Derived.WalkKit
import Derived.BigCall
import Derived.Lib.FrozenHead
import Derived.OwnWalk
namespace Go.Proofs.YtbdgoffbkenofaaGreat.Tr
open Go Go.RowKit Go.Proofs
set_option linter.unusedVariables false

section
variable {P : Program} {w : World}
/-- append of a string's bytes to a row that the call owns: and where it lies then. -/
theorem run_append_string_at (base : Nat) (t u ty e : TypeId) (i : TypeInfo) (ht : P.underlying t = some (.slice e)) (hu : P.underlying u = some .string) (hi : P.info? e = some i) (hz : i.zero = some (.int .u8 0))
    (hsize : i.size = 1) (hby : i.bytes = 1) (v : Value) (n : Nat) (xs : List Value) (hown : w.ownsRow base e 1 v n xs) (s : ByteArray)
    (h63 : n + s.size ≤ maxLen) (hbytes : n + s.size ≤ 140737488355328) (hbase : base ≤ w.heap.size) :
    ∃ v' w', (Builtin.append_ #[t, u] ty #[v, .string s]).run P w = .ok v' w' ∧ w'.ownsRow base e 1 v' (n + s.size) (xs ++ Lib.strCells s) ∧ w.grownBy w' v.ownBlock ∧ (v'.ownBlock = v.ownBlock ∨ v'.ownBlock = some w.heap.size) := by
  obtain ⟨v', w', h1, h2, h3, h4⟩ := Lib.run_append_own_string (P := P) w base t u ty e i ht hu hi hz hsize hby v n xs hown s h63 hbytes hbase
  refine ⟨v', w', h1, h2, h3, ?_⟩
  have hsm : n + s.size ≤ 9223372036854775807 := by unfold maxLen at h63; omega
  rcases hown.2 with ⟨rfl, rfl⟩ | ⟨g, cap, cur, rfl, hbg, hg, hnc, hcm, hcs, htake⟩
  · by_cases hm : s.size = 0
    · have := h4.2 ⟨rfl, hm⟩
      subst this; exact .inl rfl
    · have hr := run_append_nil_string (P := P) w t u ty e i (.int .u8 0) ht hu hi hz s (by omega) (by omega) (by rw [hby]; omega)
      rw [hr] at h1
      injection h1 with h1 _
      subst h1; exact .inr rfl
  · by_cases hroom : n + s.size ≤ cap
    · have hr := Lib.run_append_room_string (P := P) w t u ty e i ht hu hi hsize g n cap cur hg s hroom (by rw [hcs]; omega)
      rw [hr] at h1
      injection h1 with h1 _
      subst h1; exact .inl rfl
    · have hxl : xs.length = n := by simpa using hown.1
      have hr := Lib.run_append_grow_string (P := P) w t u ty e i (.int .u8 0) ht hu hi hz ⟨g, 0, none⟩ n cap xs (by rw [hsize]; simpa using hxl) (hown.cells (g := g) rfl) s (by omega) (by omega) (by rw [hby]; exact growslice_fits (by omega) (by omega))
      rw [hr] at h1
      injection h1 with h1 _
      subst h1; exact .inr rfl
theorem wpList_append_string_at {ops : Array Oper} {rest : List Oper} {o : Oper} {a : Act} {Q : Exit → Act → World → Prop} (hgd : o.guard = none) (sl x : Operand) (t u : TypeId)
    (ho : o.op = .call { callee := .builtin .append, args := #[sl, x], argTypes := #[t, u] })
    (base : Nat) (e : TypeId) (i : TypeInfo) (ht : P.underlying t = some (.slice e)) (hu : P.underlying u = some .string) (hi : P.info? e = some i) (hz : i.zero = some (.int .u8 0))
    (hsize : i.size = 1) (hby : i.bytes = 1) (v : Value) (n : Nat) (xs : List Value) (hs : a.eval sl = v) (hown : w.ownsRow base e 1 v n xs) (s : ByteArray) (hx : a.eval x = .string s)
    (h63 : n + s.size ≤ maxLen) (hbytes : n + s.size ≤ 140737488355328) (hbase : base ≤ w.heap.size)
    (h : ∀ v' w', w'.ownsRow base e 1 v' (n + s.size) (xs ++ Lib.strCells s) → w.grownBy w' v.ownBlock → (v'.ownBlock = v.ownBlock ∨ v'.ownBlock = some w.heap.size) → wpList P ops Q rest (a.put o.dst v') w') : wpList P ops Q (o :: rest) a w := by
  refine wpList_plain hgd fun K hK => ?_
  obtain ⟨v', w', hr, h2, h3, h4⟩ := run_append_string_at (P := P) (w := w) base t u o.type e i ht hu hi hz hsize hby v n xs hown s h63 hbytes hbase
  unfold Oper.wp execOp
  simp only [ho, resolve, invoke, builtin, Sem.run_bind, Sem.run_pure, Result.andThen_ok, List.map_toArray, List.map_cons, List.map_nil, hs, hx, hr]
  exact hK _ _ (h v' w' h2 h3 h4)
end

/-- A builder in block b, its row's value v. -/
structure Bld (w : World) (B b : Nat) (v : Value) (l : List UInt8) : Prop where
  blk : ∃ p, (p = .pointer none ∨ p = .pointer (some ⟨b, 0, none⟩)) ∧ w.heap[b]? = some (.cells #[p, v] 66 (0, 0))
  row : w.ownsRow B 5 1 v l.length (Lib.byteCells l)
  ne : v.ownBlock ≠ some b
def bOwn (b : Nat) (v : Value) (k : Nat) : Prop := k = b ∨ v.ownBlock = some k
theorem Bld.keep {w w' : World} {B b : Nat} {v : Value} {l : List UInt8} (h : Bld w B b v l) (hk : ∀ k, bOwn b v k → w'.heap[k]? = w.heap[k]?) : Bld w' B b v l := by
  obtain ⟨p, hp, hb⟩ := h.blk
  refine ⟨⟨p, hp, (hk b (.inl rfl)).trans hb⟩, ⟨h.row.1, ?_⟩, h.ne⟩
  rcases h.row.2 with h2 | ⟨g, cap, cur, h1, h5, h6, h7⟩
  · exact .inl h2
  · exact .inr ⟨g, cap, cur, h1, h5, (hk g (.inr (by rw [h1]; rfl))).trans h6, h7⟩
theorem Bld.lt {w : World} {B b : Nat} {v : Value} {l : List UInt8} (h : Bld w B b v l) : ∀ k, bOwn b v k → k < w.heap.size := by
  rintro k (rfl | hk)
  · obtain ⟨p, hp, hb⟩ := h.blk; exact lt_of_block hb
  · exact (h.row.lt k hk).2
theorem Bld.is {w : World} {B b : Nat} {v : Value} {l : List UInt8} (h : Bld w B b v l) (hB : B ≤ b) : Lib.IsBuilderF 66 5 B b (Lib.byteCells l) w := by
  obtain ⟨p, hp, hb⟩ := h.blk
  have hrow : w.ownsRow B 5 1 v (Lib.byteCells l).length (Lib.byteCells l) := by rw [Lib.byteCells_length]; exact h.row
  refine Lib.IsBuilderF.of ?_
  rcases hp with rfl | rfl
  · exact .inl ⟨hB, v, hb, hrow, h.ne⟩
  · exact .inr ⟨hB, v, hb, hrow, h.ne⟩
theorem bld_new (w : World) : Bld (w.alloc (.cells #[.pointer none, .slice none 0 0] 66)) w.heap.size w.heap.size (.slice none 0 0) [] :=
  ⟨⟨_, .inl rfl, alloc_new w _⟩, World.ownsRow_nil _ _ _ _, by simp [Value.ownBlock]⟩

theorem u8_info : (Tryz.prog.info? 5).map (fun i => (i.zero, i.size, i.bytes)) = some (some (.int .u8 0), 1, 1) := by kernel_rfl
theorem copyCheck_calls (B b : Nat) (v : Value) (l : List UInt8) (w : World) (h : Bld w B b v l) :
    Calls Tryz.prog 69 #[.pointer (some ⟨b, 0, none⟩)] w fun e w' => e = .returned (.tuple #[]) ∧ w'.heap[b]? = some (.cells #[.pointer (some ⟨b, 0, none⟩), v] 66 (0, 0)) ∧ w'.ownsRow B 5 1 v l.length (Lib.byteCells l) ∧ Fr (· = b) w.heap.size w w' := by
  obtain ⟨p, rfl | rfl, hb⟩ := h.blk
  · have c0 : w.cell? ⟨b, 0, none⟩ = some (.pointer none) := by rw [block_cell hb]; rfl
    refine (Any.Builder_copyCheck_fresh lays240 builderExtra.toX72 b w c0 ?_ ?_).mono ?_
    · unfold World.shape?; rw [hb]; rfl
    · exact Lib.frozen_of_heap hb 0
    rintro e w' ⟨rfl, rfl⟩
    have hset : (w.setCell ⟨b, 0, none⟩ (.pointer (some ⟨b, 0, none⟩))).heap[b]? = some (.cells #[.pointer (some ⟨b, 0, none⟩), v] 66 (0, 0)) := by
      simp only [World.setCell, Array.getElem?_modify, ↓reduceIte, hb, Option.map_some]
      rfl
    refine ⟨rfl, hset, ?_, (Fr.refl (· = b) _ w).setCell (p := ⟨b, 0, none⟩) (.inr rfl) _⟩
    refine (show w.ownsRow B 5 1 v l.length (Lib.byteCells l) → _ from fun hr => ⟨hr.1, ?_⟩) h.row
    rcases hr.2 with h2 | ⟨g, cap, cur, h1, h5, h6, h7⟩
    · exact .inl h2
    · exact .inr ⟨g, cap, cur, h1, h5, setCell_old h6 (fun e => h.ne (by rw [h1]; exact congrArg some e)) _, h7⟩
  · have c0 : w.cell? ⟨b, 0, none⟩ = some (.pointer (some ⟨b, 0, none⟩)) := by rw [block_cell hb]; rfl
    refine (Any.Builder_copyCheck_used lays240 builderExtra.toX72 b w c0).mono ?_
    rintro e w' ⟨rfl, rfl⟩
    exact ⟨rfl, hb, h.row, Fr.refl _ _ _⟩

def WsEnd (B b : Nat) (v : Value) (l : List UInt8) (s : ByteArray) (w : World) (e : Ending) (w' : World) : Prop :=
  ∃ v', e = .returned (.tuple #[.int .i64 s.size, .nilIface]) ∧ Bld w' B b v' (l ++ s.data.toList) ∧ Fr (bOwn b v) w.heap.size w w' ∧ ∀ k, bOwn b v' k → bOwn b v k ∨ w.heap.size ≤ k
set_option maxHeartbeats 2000000 in
set_option maxRecDepth 100000 in
theorem writeString_calls (B b : Nat) (v : Value) (l : List UInt8) (s : ByteArray) (w : World) (h : Bld w B b v l) (hlen : l.length + s.size ≤ 140737488355328) (hB : B ≤ w.heap.size) :
    Calls Tryz.prog 86 #[.pointer (some ⟨b, 0, none⟩), .string s] w (WsEnd B b v l s w) := by
  obtain ⟨i0, hi, hz0, hz1, hz2⟩ := info_parts u8_info
  have H := Lib.hid h
  have hne := h.ne
  have hbl := h.lt b (.inl rfl)
  clear h
  go_enter Tryz.func86, Tryz.ntmps86
  go_wp2_with fail
  refine (copyCheck_calls B b v l _ H.out).mono ?_
  rintro e w1 ⟨rfl, hbk, hrow, hfr⟩
  have c0 : w1.cell? ⟨b, 0, none⟩ = some (.pointer (some ⟨b, 0, none⟩)) := by rw [block_cell hbk]; rfl
  have c1 : w1.cell? ⟨b, 1, none⟩ = some v := by rw [block_cell hbk]; rfl
  have HBK := Lib.hid hbk
  have HF := Lib.hid hfr
  have HROW := Lib.hid hrow
  have hs1 := hfr.size
  clear hbk hfr hrow
  go_wp2_with (at_builtin; refine wpList_append_string_at rfl _ _ 49 9 rfl B 5 i0 Tryz.underlying49 Tryz.underlying9 hi hz0 hz1 hz2 _ _ _ rfl HROW.out s rfl ?c3 ?c4 ?c5 ?_)
  case c3 => unfold maxLen; omega
  case c4 => omega
  case c5 => omega
  intro v' w2 hown' hgrow hat
  obtain ⟨ao, n', cap, rfl⟩ : ∃ ao n' cap, v' = .slice ao n' cap := by
    rcases hown'.2 with ⟨hv, _⟩ | ⟨g, cap, cur, hv, _⟩
    · exact ⟨_, _, _, hv⟩
    · exact ⟨_, _, _, hv⟩
  generalize hv' : Value.slice ao n' cap = v' at hown' hat ⊢
  have hb2 : w2.heap[b]? = some (.cells #[.pointer (some ⟨b, 0, none⟩), v] 66 (0, 0)) := (hgrow.block b (by omega) (fun e => hne e.symm)).trans HBK.out
  have d0 : w2.cell? ⟨b, 0, none⟩ = some (.pointer (some ⟨b, 0, none⟩)) := by rw [block_cell hb2]; rfl
  have d1 : w2.cell? ⟨b, 1, none⟩ = some v := by rw [block_cell hb2]; rfl
  have f1 : w2.frozen? ⟨b, 1, none⟩ = false := Lib.frozen_of_heap hb2 1
  have HO := Lib.hid hown'
  have HG := Lib.hid hgrow
  have HA := Lib.hid hat
  have HB2 := Lib.hid hb2
  clear hown' hgrow hat hb2 c0 c1
  subst hv'
  go_wp2_with fail
  go_ret2
  generalize hv' : Value.slice ao n' cap = v' at HO HA ⊢
  have hs2 := HG.out.size
  have hset : (w2.setCell ⟨b, 1, none⟩ v').heap[b]? = some (.cells #[.pointer (some ⟨b, 0, none⟩), v'] 66 (0, 0)) := by
    simp only [World.setCell, Array.getElem?_modify, ↓reduceIte, HB2.out, Option.map_some]
    rfl
  have hne' : v'.ownBlock ≠ some b := by
    rcases HA.out with e | e
    · rw [e]; exact hne
    · rw [e]; intro e2; injection e2 with e2; omega
  refine ⟨v', rfl, ⟨⟨_, .inr rfl, hset⟩, ?_, hne'⟩, ?_, ?_⟩
  · have e1 : Lib.byteCells (l ++ s.data.toList) = Lib.byteCells l ++ Lib.strCells s := by simp [Lib.byteCells, Lib.strCells]
    have e2 : (l ++ s.data.toList).length = l.length + s.size := by rw [List.length_append, ← Lib.size_eq]
    rw [e1, e2]
    refine ⟨HO.out.1, ?_⟩
    rcases HO.out.2 with h2 | ⟨g, cap, cur, h1, h5, h6, h7⟩
    · exact .inl h2
    · exact .inr ⟨g, cap, cur, h1, h5, setCell_old h6 (fun e => hne' (by rw [h1]; exact congrArg some e)) _, h7⟩
  · refine (((HF.out.mono (R' := bOwn b v) (Nat.le_refl _) fun k _ hk => .inl hk).grown HG.out hs1 fun k hk => .inr (.inr hk)).setCell (.inr (.inl rfl)) _)
  · rintro k (rfl | hk)
    · exact .inl (.inl rfl)
    · rcases HA.out with e | e
      · exact .inl (.inr (e.symm.trans hk))
      · rw [e] at hk; injection hk with hk; right; omega
end Go.Proofs.YtbdgoffbkenofaaGreat.Tr
