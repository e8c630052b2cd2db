/- The document's token: tag (by gen_rnh.py). -/
import Derived.Test.YtbdgoffbkenofaaGreatRnC
import Derived.Test.YtbdgoffbkenofaaGreatRnE
namespace Go.Proofs.YtbdgoffbkenofaaGreat.Rn
open Go Go.RowKit Go.Proofs.YtbdgoffbkenofaaGreat.Tk Go.Proofs.YtbdgoffbkenofaaGreat.Tr
set_option linter.unusedVariables false
set_option maxRecDepth 100000

def attrR (s : ByteArray) (a : Nat) : Option (ByteArray × ByteArray × Nat) :=
  if pastP s (upR ⟨#[47, 62, 61]⟩ s (a + 1)) < s.size ∧ bAt s (pastP s (upR ⟨#[47, 62, 61]⟩ s (a + 1))) = 61 then
    if s.size < (valueR s (pastP s (pastP s (upR ⟨#[47, 62, 61]⟩ s (a + 1)) + 1))).2 then none
    else some (namedP (s.extract a (upR ⟨#[47, 62, 61]⟩ s (a + 1))), valueR s (pastP s (pastP s (upR ⟨#[47, 62, 61]⟩ s (a + 1)) + 1)))
  else some (namedP (s.extract a (upR ⟨#[47, 62, 61]⟩ s (a + 1))), ⟨#[]⟩, pastP s (upR ⟨#[47, 62, 61]⟩ s (a + 1)))
def attrsR (s : ByteArray) : Nat → Nat → List (ByteArray × ByteArray) → Option (List (ByteArray × ByteArray) × Nat)
  | 0, _, _ => none
  | n + 1, k, acc =>
    if s.size ≤ upT gapC s k then none
    else if bAt s (upT gapC s k) = 62 then some (acc, upT gapC s k)
    else match attrR s (upT gapC s k) with
      | none => none
      | some (nm, v, k2) => attrsR s n k2 (if hasName acc nm then acc else withP acc nm v)
def tagR (s : ByteArray) (a : Nat) (start : Bool) : Out :=
  match attrsR s (s.size + 1 - upR ⟨#[47, 62]⟩ s a) (upR ⟨#[47, 62]⟩ s a) [] with
  | none => (tok0, s.size, false)
  | some (l, e) => (⟨kindOf start, namedP (s.extract a (upR ⟨#[47, 62]⟩ s a)), ⟨#[]⟩, if start then l else [], false⟩, e + 1, true)
theorem valueR_bd {s : ByteArray} {a : Nat} (ha : a ≤ s.size) : a ≤ (valueR s a).2 ∧ (valueR s a).1.size ≤ 4 * s.size := by
  have hd : ∀ i j, (Ch.decB (s.extract i j) true).size ≤ 4 * s.size := fun i j => Nat.le_trans (decB_size _ _) (by have := ext_size s i j; omega)
  unfold valueR
  split
  · split
    · exact ⟨by show a ≤ s.size + 1; omega, Nat.zero_le _⟩
    · have := findR_ge s (s.extract a (a + 1)) (a + 1)
      exact ⟨by show a ≤ _ + 1; omega, hd _ _⟩
  · exact ⟨show a ≤ upR ⟨#[62]⟩ s a from upT_ge _ _ _, hd _ _⟩
theorem attrR_bd {s : ByteArray} {a : Nat} {n v : ByteArray} {k : Nat} (ha : a < s.size) (h : attrR s a = some (n, v, k)) : a < k ∧ k ≤ s.size ∧ n.size ≤ s.size ∧ v.size ≤ 4 * s.size := by
  have h1 : a + 1 ≤ upR ⟨#[47, 62, 61]⟩ s (a + 1) := upT_ge _ _ _
  have h2 : upR ⟨#[47, 62, 61]⟩ s (a + 1) ≤ s.size := upT_le _ (by omega)
  have hn : (namedP (s.extract a (upR ⟨#[47, 62, 61]⟩ s (a + 1)))).size ≤ s.size := by rw [namedP_size]; exact ext_size _ _ _
  unfold attrR at h
  generalize upR ⟨#[47, 62, 61]⟩ s (a + 1) = e at *
  have h3 : e ≤ pastP s e := upT_ge _ _ _
  have h4 : pastP s e ≤ s.size := upT_le _ h2
  generalize pastP s e = n1 at *
  split at h
  · rename_i c
    have h5 : n1 + 1 ≤ pastP s (n1 + 1) := upT_ge _ _ _
    have h6 : pastP s (n1 + 1) ≤ s.size := upT_le _ (by omega)
    obtain ⟨h7, h8⟩ := valueR_bd h6
    split at h
    · cases h
    · rename_i c2
      generalize valueR s (pastP s (n1 + 1)) = r at *
      obtain ⟨r1, r2⟩ := r
      injection h with h; injection h with e1 h; injection h with e2 e3
      subst e1; subst e2; subst e3
      have h7' : pastP s (n1 + 1) ≤ r2 := h7
      have c2' : ¬ s.size < r2 := c2
      exact ⟨by omega, by omega, hn, h8⟩
  · injection h with h; injection h with e1 h; injection h with e2 e3
    subst e1; subst e2; subst e3
    exact ⟨by omega, h4, hn, Nat.zero_le _⟩
theorem withP_len (l : List (ByteArray × ByteArray)) (n v : ByteArray) : (withP l n v).length ≤ l.length + 1 := by
  have st : ∀ (l : List (ByteArray × ByteArray)) (r : List (ByteArray × ByteArray) × Bool), (l.foldl (wStep n v) r).1.length + (if (l.foldl (wStep n v) r).2 then 0 else 1) ≤ r.1.length + l.length + (if r.2 then 0 else 1) := by
    intro l
    induction l with
    | nil => intro r; simp only [List.foldl_nil, List.length_nil, Nat.add_zero]; exact Nat.le_refl _
    | cons x xs ih =>
      intro r
      refine Nat.le_trans (ih _) ?_
      obtain ⟨m, d⟩ := r
      unfold wStep
      dsimp only
      cases d <;> cases geB x.1 n <;> by_cases c : x.1 = n <;> simp [c] <;> omega
  have := st l ([], false)
  unfold withP
  dsimp only
  cases h : (l.foldl (wStep n v) ([], false)).2
  · rw [h] at this; simp at this ⊢; omega
  · rw [h] at this; simp at this ⊢; omega
section
variable {s : ByteArray}
theorem attrsR_1 {n e e1 : Nat} {acc : List (ByteArray × ByteArray)} (h1 : upT gapC s e = e1) (h : s.size ≤ e1) : attrsR s (n + 1) e acc = none := by
  subst h1; unfold attrsR; exact if_pos h
theorem attrsR_2 {n e e1 : Nat} {acc : List (ByteArray × ByteArray)} (h1 : upT gapC s e = e1) (h : ¬ s.size ≤ e1) (h2 : bAt s e1 = 62) : attrsR s (n + 1) e acc = some (acc, e1) := by
  subst h1; unfold attrsR; exact (if_neg h).trans (if_pos h2)
theorem attrsR_3 {n e e1 : Nat} {acc : List (ByteArray × ByteArray)} (h1 : upT gapC s e = e1) (h : ¬ s.size ≤ e1) (h2 : ¬ bAt s e1 = 62) (h3 : attrR s e1 = none) : attrsR s (n + 1) e acc = none := by
  subst h1; unfold attrsR; rw [if_neg h, if_neg h2, h3]
theorem attrsR_4 {n e e1 k : Nat} {nm v : ByteArray} {acc : List (ByteArray × ByteArray)} (h1 : upT gapC s e = e1) (h : ¬ s.size ≤ e1) (h2 : ¬ bAt s e1 = 62) (h3 : attrR s e1 = some (nm, v, k)) : attrsR s (n + 1) e acc = attrsR s n k (if hasName acc nm then acc else withP acc nm v) := by
  subst h1
  conv => lhs; unfold attrsR
  rw [if_neg h, if_neg h2, h3]
theorem attrsR_enough : ∀ (n m e : Nat) (acc : List (ByteArray × ByteArray)), e ≤ s.size → s.size + 1 - e ≤ n → s.size + 1 - e ≤ m → attrsR s n e acc = attrsR s m e acc
  | 0, m, e, acc, h0, h1, h2 => by omega
  | n + 1, 0, e, acc, h0, h1, h2 => by omega
  | n + 1, m + 1, e, acc, h0, h1, h2 => by
    by_cases c1 : s.size ≤ upT gapC s e
    · rw [attrsR_1 rfl c1, attrsR_1 rfl c1]
    · by_cases c2 : bAt s (upT gapC s e) = 62
      · rw [attrsR_2 rfl c1 c2, attrsR_2 rfl c1 c2]
      · cases h : attrR s (upT gapC s e) with
        | none => rw [attrsR_3 rfl c1 c2 h, attrsR_3 rfl c1 c2 h]
        | some r =>
          obtain ⟨nm, v, k⟩ := r
          rw [attrsR_4 rfl c1 c2 h, attrsR_4 rfl c1 c2 h]
          have hb := attrR_bd (by omega) h
          have hg : e ≤ upT gapC s e := upT_ge _ _ _
          exact attrsR_enough n m k _ hb.2.1 (by omega) (by omega)
def attrsRK (s : ByteArray) (e : Nat) (acc : List (ByteArray × ByteArray)) : Option (List (ByteArray × ByteArray) × Nat) := attrsR s (s.size + 1 - e) e acc
theorem attrsRK_1 {e e1 : Nat} {acc : List (ByteArray × ByteArray)} (he : e ≤ s.size) (h1 : upT gapC s e = e1) (h : s.size ≤ e1) : attrsRK s e acc = none := by
  unfold attrsRK; rw [show s.size + 1 - e = (s.size - e) + 1 by omega]; exact attrsR_1 h1 h
theorem attrsRK_2 {e e1 : Nat} {acc : List (ByteArray × ByteArray)} (he : e ≤ s.size) (h1 : upT gapC s e = e1) (h : e1 < s.size) (h2 : bAt s e1 = 62) : attrsRK s e acc = some (acc, e1) := by
  unfold attrsRK; rw [show s.size + 1 - e = (s.size - e) + 1 by omega]; exact attrsR_2 h1 (by omega) h2
theorem attrsRK_3 {e e1 : Nat} {acc : List (ByteArray × ByteArray)} (he : e ≤ s.size) (h1 : upT gapC s e = e1) (h : e1 < s.size) (h2 : ¬ bAt s e1 = 62) (h3 : attrR s e1 = none) : attrsRK s e acc = none := by
  unfold attrsRK; rw [show s.size + 1 - e = (s.size - e) + 1 by omega]; exact attrsR_3 h1 (by omega) h2 h3
theorem attrsRK_4 {e e1 k : Nat} {nm v : ByteArray} {acc : List (ByteArray × ByteArray)} (he : e ≤ s.size) (h1 : upT gapC s e = e1) (h : e1 < s.size) (h2 : ¬ bAt s e1 = 62) (h3 : attrR s e1 = some (nm, v, k)) : attrsRK s e acc = attrsRK s k (if hasName acc nm then acc else withP acc nm v) := by
  have hb := attrR_bd h h3
  have hg : e ≤ e1 := by subst h1; exact upT_ge _ _ _
  unfold attrsRK
  conv => lhs; rw [show s.size + 1 - e = (s.size - e) + 1 by omega]
  rw [attrsR_4 h1 (by omega) h2 h3]
  exact attrsR_enough _ _ k _ hb.2.1 (by omega) (by omega)
end
theorem tagR_none {s : ByteArray} {a e : Nat} {start : Bool} (he : upR ⟨#[47, 62]⟩ s a = e) (h : attrsRK s e [] = none) : tagR s a start = (tok0, s.size, false) := by
  subst he; unfold tagR; unfold attrsRK at h; rw [h]
theorem tagR_some {s : ByteArray} {a e e2 : Nat} {start : Bool} {nm : ByteArray} {l : List (ByteArray × ByteArray)} (he : upR ⟨#[47, 62]⟩ s a = e) (hn : namedP (s.extract a e) = nm) (h : attrsRK s e [] = some (l, e2)) : tagR s a start = (⟨kindOf start, nm, ⟨#[]⟩, if start then l else [], false⟩, e2 + 1, true) := by
  subst he; subst hn; unfold tagR; unfold attrsRK at h; rw [h]
theorem attrR_no {s : ByteArray} {a e n1 : Nat} {nm : ByteArray} (he : upR ⟨#[47, 62, 61]⟩ s (a + 1) = e) (hn : namedP (s.extract a e) = nm) (hp : pastP s e = n1) (h : ¬ (n1 < s.size ∧ bAt s n1 = 61)) : attrR s a = some (nm, ⟨#[]⟩, n1) := by
  subst he; subst hn; subst hp; unfold attrR; exact if_neg h
theorem attrR_yes {s : ByteArray} {a e n1 n2 k : Nat} {nm v : ByteArray} (he : upR ⟨#[47, 62, 61]⟩ s (a + 1) = e) (hn : namedP (s.extract a e) = nm) (hp : pastP s e = n1) (h : n1 < s.size ∧ bAt s n1 = 61) (hq : pastP s (n1 + 1) = n2) (hv : valueR s n2 = (v, k)) (hk : ¬ s.size < k) : attrR s a = some (nm, v, k) := by
  subst he; subst hn; subst hp; subst hq; unfold attrR; rw [if_pos h, hv, if_neg hk]
theorem attrR_end {s : ByteArray} {a e n1 n2 k : Nat} {v : ByteArray} (he : upR ⟨#[47, 62, 61]⟩ s (a + 1) = e) (hp : pastP s e = n1) (h : n1 < s.size ∧ bAt s n1 = 61) (hq : pastP s (n1 + 1) = n2) (hv : valueR s n2 = (v, k)) (hk : s.size < k) : attrR s a = none := by
  subst he; subst hp; subst hq; unfold attrR; rw [if_pos h, hv, if_pos hk]
/-- What is known at the loop's head. -/
structure TgI (B tb : Nat) (kind : Int) (nm : ByteArray) (acc : List (ByteArray × ByteArray)) (A : Option Addr) (ac : Nat) (w0 wr : World) : Prop where
  res : wr.heap[B]? = some (.cells #[.int .i64 0, .string ⟨#[]⟩, .string ⟨#[]⟩, .slice none 0 0, .bool false] 27 (0, 0))
  tok : wr.heap[tb]? = some (.cells #[.int .i64 kind, .string nm, .string ⟨#[]⟩, .slice A acc.length ac, .bool false] 27 (0, 0))
  att : IsAttrs wr wr.heap.size acc A ac
  far : ∀ p, A = some p → tb < p.block ∧ p.block < wr.heap.size
  bel : Below B w0 wr
  ord : B < tb
section
variable {B tb : Nat} {kind : Int} {nm : ByteArray} {acc : List (ByteArray × ByteArray)} {A : Option Addr} {ac : Nat} {w0 wr w' : World}
theorem TgI.keep (h : TgI B tb kind nm acc A ac w0 wr) (hb : Below wr.heap.size wr w') : TgI B tb kind nm acc A ac w0 w' :=
  ⟨(hb.block _ (lt_of_block h.res)).trans h.res, (hb.block _ (lt_of_block h.tok)).trans h.tok, isAttrs_below h.att hb, fun p hp => ⟨(h.far p hp).1, Nat.lt_of_lt_of_le (h.far p hp).2 hb.size⟩, h.bel.trans (hb.mono (by have := lt_of_block h.res; omega)), h.ord⟩
theorem TgI.new {w w2 : World} (hl : w2.heap[B]? = some (.cells #[.int .i64 0, .string ⟨#[]⟩, .string ⟨#[]⟩, .slice none 0 0, .bool false] 27 (0, 0))) (hb : Below B w w2) :
    TgI B w2.heap.size kind nm [] none 0 w (w2.alloc (.cells #[.int .i64 kind, .string nm, .string ⟨#[]⟩, .slice none 0 0, .bool false] 27)) :=
  ⟨alloc_old hl _, alloc_new w2 _, isAttrs_nil _ _, fun p hp => (by cases hp), hb.alloc (by have := lt_of_block hl; omega) _, lt_of_block hl⟩
/-- And an attribute in its box. -/
structure TgX (B tb : Nat) (kind : Int) (nm : ByteArray) (acc : List (ByteArray × ByteArray)) (A : Option Addr) (ac : Nat) (xb : Nat) (an av : ByteArray) (w0 wr : World) : Prop where
  i : TgI B tb kind nm acc A ac w0 wr
  x : wr.heap[xb]? = some (.cells #[.string an, .string av] 30 (0, 0))
  far : ∀ p, A = some p → p.block ≠ xb
  ord : tb < xb
variable {xb : Nat} {an av : ByteArray}
theorem TgX.keep (h : TgX B tb kind nm acc A ac xb an av w0 wr) (hb : Below wr.heap.size wr w') : TgX B tb kind nm acc A ac xb an av w0 w' :=
  ⟨h.i.keep hb, (hb.block _ (lt_of_block h.x)).trans h.x, h.far, h.ord⟩
theorem TgX.new (h : TgI B tb kind nm acc A ac w0 wr) (an av : ByteArray) : TgX B tb kind nm acc A ac wr.heap.size an av w0 (wr.alloc (.cells #[.string an, .string av] 30)) := by
  refine ⟨h.keep ((Below.refl _ wr).alloc (Nat.le_refl _) _), alloc_new wr _, fun p hp e => ?_, lt_of_block h.tok⟩
  have := (h.far p hp).2
  omega
theorem TgX.setv (h : TgX B tb kind nm acc A ac xb an av w0 wr) (v : ByteArray) : TgX B tb kind nm acc A ac xb an v w0 (wr.setCell ⟨xb, 1, none⟩ (.string v)) := by
  have o1 := h.ord
  have o2 := h.i.ord
  refine ⟨⟨(Below.heap_setCell _ _ _ B (by show B ≠ xb; omega)).trans h.i.res, (Below.heap_setCell _ _ _ tb (by show tb ≠ xb; omega)).trans h.i.tok, isAttrs_move h.i.att (by simp [World.setCell]) (fun p hp => Below.heap_setCell _ _ _ _ (h.far p hp)), fun p hp => ⟨(h.i.far p hp).1, by simpa [World.setCell] using (h.i.far p hp).2⟩, h.i.bel.setCell (p := ⟨xb, 1, none⟩) (by show B ≤ xb; omega) _, o2⟩, ?_, h.far, o1⟩
  simp only [World.setCell, Array.getElem?_modify, ↓reduceIte, h.x, Option.map_some]
  rfl
theorem TgI.put {al : List (ByteArray × ByteArray)} {A2 : Option Addr} {ac2 : Nat} (h : TgI B tb kind nm acc A ac w0 wr) (ha : IsAttrs wr wr.heap.size al A2 ac2) (hf : ∀ p, A2 = some p → tb < p.block ∧ p.block < wr.heap.size) : TgI B tb kind nm al A2 ac2 w0 (wr.setCell ⟨tb, 3, none⟩ (.slice A2 al.length ac2)) := by
  have o2 := h.ord
  refine ⟨(Below.heap_setCell _ _ _ B (by show B ≠ tb; omega)).trans h.res, ?_, isAttrs_move ha (by simp [World.setCell]) (fun p hp => Below.heap_setCell _ _ _ _ (by have := hf p hp; show p.block ≠ tb; omega)), fun p hp => ⟨(hf p hp).1, by simpa [World.setCell] using (hf p hp).2⟩, h.bel.setCell (p := ⟨tb, 3, none⟩) (by show B ≤ tb; omega) _, o2⟩
  simp only [World.setCell, Array.getElem?_modify, ↓reduceIte, h.tok, Option.map_some]
  rfl
theorem tbox2 {w : World} {b : Nat} {v0 v1 : Value} {T : TypeId} (h : w.heap[b]? = some (.cells #[v0, v1] T (0, 0))) : w.cell? ⟨b, 0, none⟩ = some v0 ∧ w.cell? ⟨b, 1, none⟩ = some v1 ∧ w.frozen? ⟨b, 0, none⟩ = false ∧ w.frozen? ⟨b, 1, none⟩ = false := by
  refine ⟨?_, ?_, Lib.frozen_of_heap h 0, Lib.frozen_of_heap h 1⟩ <;> rw [block_cell h] <;> rfl
end
set_option maxHeartbeats 16000000 in
theorem rtag_calls (s : ByteArray) (hs : s.size ≤ 900000) (a : Nat) (ha : a ≤ s.size) (start : Bool) (w : World) :
    Calls Tryz.prog 49 #[.string s, .int .i64 (a : Int), .int .i64 (kindOf start)] w (TokEnd (tagR s a start) w) := by
  have HU1 := Lib.hid (upto_calls s ⟨#[47, 62]⟩ (by omega) (by decide) a (by omega))
  have h1 : a ≤ upR ⟨#[47, 62]⟩ s a := upT_ge _ _ _
  have h2 : upR ⟨#[47, 62]⟩ s a ≤ s.size := upT_le _ ha
  generalize he : upR ⟨#[47, 62]⟩ s a = e at *
  have HNM := Lib.hid (name_calls (s.extract a e) (Nat.le_trans (ext_size s a e) (by omega)))
  generalize hnm : namedP (s.extract a e) = nm at *
  have hae : (a : Int) ≤ (e : Int) := by omega
  have hes : (e : Int) ≤ (s.size : Int) := by omega
  have HS := Lib.hid hs
  have HB0 := Lib.hid ((Below.refl w.heap.size w).alloc (Nat.le_refl _) (.cells #[.int .i64 0, .string ⟨#[]⟩, .string ⟨#[]⟩, .slice none 0 0, .bool false] 27))
  have HL0 := Lib.hid (alloc_new w (.cells #[.int .i64 0, .string ⟨#[]⟩, .string ⟨#[]⟩, .slice none 0 0, .bool false] 27))
  clear hs
  go_enter Tryz.func49, Tryz.ntmps49
  go_wp2_with fail
  generalize w.alloc (.cells #[.int .i64 0, .string ⟨#[]⟩, .string ⟨#[]⟩, .slice none 0 0, .bool false] 27) = w0 at *
  refine (HU1.out _).mono ?_
  rintro e' w1 ⟨rfl, hb1⟩
  have HL1 := Lib.hid ((hb1.block _ (lt_of_block HL0.out)).trans HL0.out)
  have HB1 := Lib.hid (HB0.out.trans (hb1.mono HB0.out.size))
  clear hb1 HL0 HB0
  go_wp2_with fail
  refine (HNM.out _).mono ?_
  rintro e' w2 ⟨rfl, hb2⟩
  have HL2 := Lib.hid ((hb2.block _ (lt_of_block HL1.out)).trans HL1.out)
  have HB2 := Lib.hid (HB1.out.trans (hb2.mono HB1.out.size))
  clear hb2 HL1 HB1
  go_wp2_with fail
  have HI := Lib.hid (TgI.new (kind := kindOf start) (nm := nm) HL2.out HB2.out)
  have HTN := Lib.hid (tagR_none (start := start) he)
  have HTS := Lib.hid (fun e2 l => tagR_some (start := start) (e2 := e2) (l := l) he hnm)
  generalize w2.alloc (.cells #[.int .i64 (kindOf start), .string nm, .string ⟨#[]⟩, .slice none 0 0, .bool false] 27) = w3 at *
  obtain ⟨tb, htb⟩ : ∃ tb, w2.heap.size = tb := ⟨_, rfl⟩
  rw [htb] at HI ⊢
  have HE := Lib.hid h2
  clear HL2 HB2 htb HU1 HNM hae hes h1 h2 he hnm ha
  go_loopw [9] (fun t wr => ∃ (k : Nat) (acc : List (ByteArray × ByteArray)) (A : Option Addr) (ac : Nat), Hid (k ≤ s.size) ∧ t = .int .i64 (k : Int) ∧ Hid (attrsRK s e [] = attrsRK s k acc) ∧ Hid (TgI w.heap.size tb (kindOf start) nm acc A ac w wr) ∧ Hid (acc.length ≤ k)) (fun t _ => s.size - (intOf t).toNat)
  case atStart => exact ⟨e, [], none, 0, HE, rfl, Lib.hid rfl, HI, Lib.hid (Nat.zero_le _)⟩
  case round =>
    clear HI
    obtain ⟨k, acc, A, ac, HK, rfl, HEQ, HI, HA⟩ := hrel
    obtain ⟨wk, hwk⟩ : ∃ wk, wk = wr := ⟨_, rfl⟩
    subst hwk
    go_wp2_with fail
    go_loopw [9] (fun t wr => ∃ k1 : Nat, Hid (k ≤ k1) ∧ Hid (k1 ≤ s.size) ∧ t = .int .i64 (k1 : Int) ∧ Hid (upT gapC s k = upT gapC s k1) ∧ Hid (wk = wr)) (fun t _ => s.size - (intOf t).toNat)
    case atStart => exact ⟨k, Lib.hid (Nat.le_refl _), HK, rfl, Lib.hid rfl, Lib.hid rfl⟩
    case round =>
      obtain ⟨e1, HK1, HK2, rfl, HG, HWW⟩ := hrel
      have hww := HWW.out
      subst hww
      by_cases hlt : e1 < s.size
      · have hz : (e1 : Int) < (s.size : Int) := by omega
        have hz2 : ¬ (s.size : Int) ≤ (e1 : Int) := by omega
        have hbk := bAt_in hlt
        have HLT := Lib.hid hlt
        have HX := Lib.hid (rblank (bAt s e1) wk)
        have hw1 : IntKind.i64.wrap ((e1 : Int) + 1) = (e1 : Int) + 1 := IntWalk.i64_in _ (by have := HS.out; omega)
        have HKC : Hid (k ≤ e1 + 1) := Lib.hid (by have := HK1.out; omega)
        cases hpc : blankN (bAt s e1) with
        | true =>
          have HR := Lib.hid (HG.out.trans (upT_next (p := gapC) hlt (by unfold gapC; rw [hpc]; rfl)))
          rw [hpc, hbk] at HX
          clear hpc hbk
          go_wp2_with fail
          refine HX.out.mono ?_
          rintro e' wq ⟨rfl, rfl⟩
          go_wp2_with fail
          go_roundw
          case rel => exact ⟨e1 + 1, HKC, Lib.hid HLT.out, by go_num, HR, Lib.hid (by first | rfl | trivial)⟩
          case measure => simp [intOf]; have := HLT.out; omega
        | false =>
          by_cases c47 : bAt s e1 = 47
          · have HR := Lib.hid (HG.out.trans (upT_next (p := gapC) hlt (by unfold gapC; rw [hpc, c47]; rfl)))
            have q1 : (((s[e1]'hlt).toNat : Int) == 47) = true := by rw [← hbk, c47]; rfl
            rw [hpc, hbk] at HX
            clear hpc hbk c47
            go_wp2_with fail
            refine HX.out.mono ?_
            rintro e' wq ⟨rfl, rfl⟩
            go_wp2_with fail
            go_roundw
            case rel => exact ⟨e1 + 1, HKC, Lib.hid HLT.out, by go_num, HR, Lib.hid (by first | rfl | trivial)⟩
            case measure => simp [intOf]; have := HLT.out; omega
          · have HR := Lib.hid (HG.out.trans (upT_here (p := gapC) hlt (by unfold gapC; rw [hpc, decide_eq_false c47]; rfl)))
            have q1 : (((s[e1]'hlt).toNat : Int) == 47) = false := by rw [← hbk, beq_eq_false_iff_ne]; omega
            rw [hpc, hbk] at HX
            clear hpc HG HKC
            by_cases c62 : bAt s e1 = 62
            · have q2 : (((s[e1]'hlt).toNat : Int) == 62) = true := by rw [← hbk, c62]; rfl
              have HV := Lib.hid (HTS.out e1 acc (HEQ.out.trans (attrsRK_2 HK.out HR.out hlt c62)))
              obtain ⟨d0, d1, d2, d3, d4⟩ := tbox5 HI.out.tok
              obtain ⟨g0, g1, g2, g3, g4⟩ := tfrz5 HI.out.tok
              clear c62 c47 hbk
              cases start with
              | true =>
                rw [if_pos rfl] at HV
                obtain ⟨b0, b1, b2, b3, b4⟩ := tbox5 HI.out.res
                obtain ⟨f0, f1, f2, f3, f4⟩ := tfrz5 HI.out.res
                have hko : kindOf true = 1 := rfl
                rw [hko] at HI d0 HV ⊢
                go_wp2_with fail
                refine HX.out.mono ?_
                rintro e' wq ⟨rfl, rfl⟩
                go_wp2_with fail
                rw [HV.out]
                refine tok_post (⟨1, nm, ⟨#[]⟩, acc, false⟩, e1 + 1, true) w 6 7 8 w.heap.size A ac rfl rfl rfl rfl (set5_blk HI.out.res _ _ _ _ _) (isAttrs_move HI.out.att (set5_below (B := 0) (Nat.zero_le _) _ _ _ _ _).size fun p hp => set5_other ?_ _ _ _ _ _) (HI.out.bel.trans (set5_below (Nat.le_refl _) _ _ _ _ _)) (fun p hp => by have := HI.out.far p hp; have := HI.out.ord; omega)
                have := HI.out.far p hp
                have := HI.out.ord
                omega
              | false =>
                rw [if_neg Bool.false_ne_true] at HV
                have hko : kindOf false = 2 := rfl
                rw [hko] at HI d0 HV ⊢
                have HI2 := Lib.hid (HI.out.put (al := []) (A2 := none) (ac2 := 0) (isAttrs_nil _ _) (fun p hp => by cases hp))
                obtain ⟨b0, b1, b2, b3, b4⟩ := tbox5 HI2.out.res
                obtain ⟨f0, f1, f2, f3, f4⟩ := tfrz5 HI2.out.res
                obtain ⟨j0, j1, j2, j3, j4⟩ := tbox5 HI2.out.tok
                rw [List.length_nil] at HI2 b0 b1 b2 b3 b4 f0 f1 f2 f3 f4 j0 j1 j2 j3 j4
                go_wp2_with fail
                refine HX.out.mono ?_
                rintro e' wq ⟨rfl, rfl⟩
                go_wp2_with fail
                rw [HV.out]
                exact tok_post (⟨2, nm, ⟨#[]⟩, [], false⟩, e1 + 1, true) w 6 7 8 w.heap.size none 0 rfl rfl rfl rfl (set5_blk HI2.out.res _ _ _ _ _) (isAttrs_nil _ _) (HI2.out.bel.trans (set5_below (Nat.le_refl _) _ _ _ _ _)) (fun _ h => nomatch h)
            · have q2 : (((s[e1]'hlt).toNat : Int) == 62) = false := by rw [← hbk, beq_eq_false_iff_ne]; omega
              have HU := Lib.hid (upto_calls s ⟨#[47, 62, 61]⟩ (by have := HS.out; omega) (by decide) (e1 + 1) (by have := HS.out; omega))
              have h1 : e1 + 1 ≤ upR ⟨#[47, 62, 61]⟩ s (e1 + 1) := upT_ge _ _ _
              have h2 : upR ⟨#[47, 62, 61]⟩ s (e1 + 1) ≤ s.size := upT_le _ (by omega)
              obtain ⟨n0, hn0⟩ : ∃ n0, upR ⟨#[47, 62, 61]⟩ s (e1 + 1) = n0 := ⟨_, rfl⟩
              rw [hn0] at HU h1 h2
              have HN2 := Lib.hid (name_calls (s.extract e1 n0) (Nat.le_trans (ext_size s e1 n0) (by have := HS.out; omega)))
              obtain ⟨an, han⟩ : ∃ an, namedP (s.extract e1 n0) = an := ⟨_, rfl⟩
              rw [han] at HN2
              have HP := Lib.hid (blanks_calls s (by have := HS.out; omega) n0 (by have := HS.out; omega))
              have h3 : n0 ≤ pastP s n0 := upT_ge _ _ _
              have h4 : pastP s n0 ≤ s.size := upT_le _ h2
              obtain ⟨n1, hn1⟩ : ∃ n1, pastP s n0 = n1 := ⟨_, rfl⟩
              rw [hn1] at HP h3 h4
              have hs1 : (e1 : Int) ≤ (n0 : Int) := by omega
              have hs2 : (n0 : Int) ≤ (s.size : Int) := by omega
              have HATN := Lib.hid (attrsRK_3 (acc := acc) HK.out HR.out hlt c62)
              have HATS := Lib.hid (fun nm v k2 => attrsRK_4 (acc := acc) (nm := nm) (v := v) (k := k2) HK.out HR.out hlt c62)
              have HBD := Lib.hid (fun nm v k2 => attrR_bd (n := nm) (v := v) (k := k2) hlt)
              have HN0 := Lib.hid hn0
              have HAN := Lib.hid han
              have HN1 := Lib.hid hn1
              have HH := Lib.hid (And.intro h1 (And.intro h3 h4))
              clear c47 c62 hbk hn0 han hn1 h1 h2 h3 h4
              go_wp2_with fail
              refine HX.out.mono ?_
              rintro e' wq ⟨rfl, rfl⟩
              go_wp2_with fail
              refine (HU.out _).mono ?_
              rintro e' w4 ⟨rfl, hb4⟩
              have HI4 := Lib.hid (HI.out.keep hb4)
              clear hb4 HU HX
              go_wp2_with fail
              refine (HN2.out _).mono ?_
              rintro e' w5 ⟨rfl, hb5⟩
              have HI5 := Lib.hid (HI4.out.keep hb5)
              have HX5 := Lib.hid (TgX.new HI5.out an ⟨#[]⟩)
              clear hb5 HN2 HI4 HI5
              go_wp2_with fail
              obtain ⟨xb, hxb⟩ : ∃ xb, w5.heap.size = xb := ⟨_, rfl⟩
              rw [hxb] at HX5 ⊢
              clear hxb
              generalize w5.alloc (.cells #[.string an, .string ⟨#[]⟩] 30) = w6 at *
              refine (HP.out _).mono ?_
              rintro e' w7 ⟨rfl, hw7⟩
              have hw7' := hw7
              subst hw7'
              clear HP hw7
              by_cases hlt1 : n1 < s.size
              · have hz3 : (n1 : Int) < (s.size : Int) := by omega
                have hbk1 := bAt_in hlt1
                by_cases c61 : bAt s n1 = 61
                · have q3 : (((s[n1]'hlt1).toNat : Int) == 61) = true := by rw [← hbk1, c61]; rfl
                  have hw2 : IntKind.i64.wrap ((n1 : Int) + 1) = (n1 : Int) + 1 := IntWalk.i64_in _ (by have := HS.out; omega)
                  have HP2 := Lib.hid (blanks_calls s (by have := HS.out; omega) (n1 + 1) (by have := HS.out; omega))
                  have h5 : n1 + 1 ≤ pastP s (n1 + 1) := upT_ge _ _ _
                  have h6 : pastP s (n1 + 1) ≤ s.size := upT_le _ (by omega)
                  obtain ⟨n2, hn2⟩ : ∃ n2, pastP s (n1 + 1) = n2 := ⟨_, rfl⟩
                  rw [hn2] at HP2 h5 h6
                  have HVC := Lib.hid (value_calls s (by have := HS.out; omega) n2 h6)
                  obtain ⟨v, k3, hv⟩ : ∃ v k3, valueR s n2 = (v, k3) := ⟨_, _, rfl⟩
                  rw [hv] at HVC
                  unfold ValEnd at HVC
                  have HYES := Lib.hid (attrR_yes HN0.out HAN.out HN1.out ⟨hlt1, c61⟩ hn2 hv)
                  have HEND := Lib.hid (attrR_end HN0.out HN1.out ⟨hlt1, c61⟩ hn2 hv)
                  clear hbk1 c61 h5 h6 hn2 hv
                  go_wp2_with fail
                  refine (HP2.out _).mono ?_
                  rintro e' wq ⟨rfl, rfl⟩
                  go_wp2_with fail
                  refine (HVC.out _).mono ?_
                  rintro e' w8 ⟨rfl, hb8⟩
                  have HX8 := Lib.hid (HX5.out.keep hb8)
                  have HX9 := Lib.hid (HX8.out.setv v)
                  obtain ⟨x0, x1, y0, y1⟩ := tbox2 HX8.out.x
                  clear hb8 HP2 HVC HX5
                  by_cases hk3 : s.size < k3
                  · have hz4 : (s.size : Int) < (k3 : Int) := by omega
                    have HV := Lib.hid (HTN.out (HEQ.out.trans (HATN.out (HEND.out hk3))))
                    clear hk3
                    obtain ⟨b0, b1, b2, b3, b4⟩ := tbox5 HX9.out.i.res
                    obtain ⟨f0, f1, f2, f3, f4⟩ := tfrz5 HX9.out.i.res
                    go_wp2_with fail
                    rw [HV.out]
                    exact tok_post (tok0, s.size, false) w 6 7 8 w.heap.size none 0 rfl rfl rfl rfl (set5_blk HX9.out.i.res _ _ _ _ _) (isAttrs_nil _ _) (HX9.out.i.bel.trans (set5_below (Nat.le_refl _) _ _ _ _ _)) (fun _ h => nomatch h)
                  · have hz4 : ¬ (s.size : Int) < (k3 : Int) := by omega
                    have HYS := Lib.hid (HYES.out hk3)
                    obtain ⟨w9', hw9'⟩ : ∃ w9', w8.setCell ⟨xb, 1, none⟩ (.string v) = w9' := ⟨_, rfl⟩
                    rw [hw9'] at HX9
                    have HBK := Lib.hid (HBD.out an v k3 HYS.out)
                    have HATT := Lib.hid (HEQ.out.trans (HATS.out an v k3 HYS.out))
                    have HIN := Lib.hid (in_calls acc A ac an w9' HX9.out.i.att (by have := HA.out; have := HK.out; have := HS.out; omega))
                    obtain ⟨x0', x1', y0', y1'⟩ := tbox2 HX9.out.x
                    have d3 := (tbox5 HX9.out.i.tok).2.2.2.1
                    have HLE : Hid (k < k3) := Lib.hid (by have := HBK.out; have := HK1.out; omega)
                    clear hk3
                    go_wp2_with fail
                    clear hw9' x0 x1 y0 y1
                    refine HIN.out.mono ?_
                    rintro e' w9 ⟨rfl, hb9⟩
                    have HJ := Lib.hid (HX9.out.keep hb9)
                    clear hb9 x0' x1' y0' y1' d3 HIN
                    cases hin : hasName acc an with
                    | true =>
                      rw [hin, if_pos rfl] at HATT
                      have HI9 := Lib.hid HJ.out.i
                      clear hin
                      go_wp2_with fail
                      go_roundw
                      case rel => exact ⟨k3, acc, A, ac, Lib.hid HBK.out.2.1, rfl, HATT, HI9, Lib.hid (by have := HA.out; have := HLE.out; omega)⟩
                      case measure => simp [intOf]; have := HLE.out; have := HBK.out; omega
                    | false =>
                      rw [hin, if_neg Bool.false_ne_true] at HATT
                      have HW := Lib.hid (with_calls acc A ac an v w9 HJ.out.i.att (by have := HA.out; have := HK.out; have := HS.out; omega) (small4 (by have := HBK.out; have := HS.out; omega)) (small4 (by have := HBK.out; have := HS.out; omega)))
                      have HWL := Lib.hid (withP_len acc an v)
                      generalize withP acc an v = acc2 at *
                      obtain ⟨x0, x1, y0, y1⟩ := tbox2 HJ.out.x
                      have d3 := (tbox5 HJ.out.i.tok).2.2.2.1
                      clear hin
                      go_wp2_with fail
                      refine HW.out.mono ?_
                      rintro e' w10 ⟨A2, ac2, rfl, hat2, hb10, hf10⟩
                      have HI10 := Lib.hid (HJ.out.i.keep hb10)
                      have HF2 : Hid (∀ p, A2 = some p → tb < p.block ∧ p.block < w10.heap.size) := Lib.hid (fun p hp => by have := hf10 p hp; have := lt_of_block HJ.out.i.tok; omega)
                      have HI11 := Lib.hid (HI10.out.put hat2 HF2.out)
                      obtain ⟨d0, d1, d2, d3, d4⟩ := tbox5 HI10.out.tok
                      obtain ⟨g0, g1, g2, g3, g4⟩ := tfrz5 HI10.out.tok
                      clear hat2 hb10 hf10 HW x0 x1 y0 y1
                      go_wp2_with fail
                      go_roundw
                      case rel => exact ⟨k3, acc2, A2, ac2, Lib.hid HBK.out.2.1, rfl, HATT, HI11, Lib.hid (by have := HA.out; have := HLE.out; have := HWL.out; omega)⟩
                      case measure => simp [intOf]; have := HLE.out; have := HBK.out; omega
                · have q3 : (((s[n1]'hlt1).toNat : Int) == 61) = false := by rw [← hbk1, beq_eq_false_iff_ne]; omega
                  have HNO := Lib.hid (attrR_no HN0.out HAN.out HN1.out (fun h => c61 h.2))
                  have HBK := Lib.hid (HBD.out an ⟨#[]⟩ n1 HNO.out)
                  have HATT := Lib.hid (HEQ.out.trans (HATS.out an ⟨#[]⟩ n1 HNO.out))
                  have HIN := Lib.hid (in_calls acc A ac an w6 HX5.out.i.att (by have := HA.out; have := HK.out; have := HS.out; omega))
                  obtain ⟨x0, x1, y0, y1⟩ := tbox2 HX5.out.x
                  have d3 := (tbox5 HX5.out.i.tok).2.2.2.1
                  have HLE : Hid (k < n1) := Lib.hid (by have := HBK.out; have := HK1.out; omega)
                  clear hbk1 c61
                  go_wp2_with fail
                  refine HIN.out.mono ?_
                  rintro e' w9 ⟨rfl, hb9⟩
                  have HJ := Lib.hid (HX5.out.keep hb9)
                  clear hb9 x0 x1 y0 y1 d3 HIN
                  cases hin : hasName acc an with
                  | true =>
                    rw [hin, if_pos rfl] at HATT
                    have HI9 := Lib.hid HJ.out.i
                    clear hin
                    go_wp2_with fail
                    go_roundw
                    case rel => exact ⟨n1, acc, A, ac, Lib.hid HBK.out.2.1, rfl, HATT, HI9, Lib.hid (by have := HA.out; have := HLE.out; omega)⟩
                    case measure => simp [intOf]; have := HLE.out; have := HBK.out; omega
                  | false =>
                    rw [hin, if_neg Bool.false_ne_true] at HATT
                    have HW := Lib.hid (with_calls acc A ac an ⟨#[]⟩ w9 HJ.out.i.att (by have := HA.out; have := HK.out; have := HS.out; omega) (small4 (by have := HBK.out; have := HS.out; omega)) (small4 (by have := HBK.out; have := HS.out; omega)))
                    have HWL := Lib.hid (withP_len acc an ⟨#[]⟩)
                    generalize withP acc an ⟨#[]⟩ = acc2 at *
                    obtain ⟨x0, x1, y0, y1⟩ := tbox2 HJ.out.x
                    have d3 := (tbox5 HJ.out.i.tok).2.2.2.1
                    clear hin
                    go_wp2_with fail
                    refine HW.out.mono ?_
                    rintro e' w10 ⟨A2, ac2, rfl, hat2, hb10, hf10⟩
                    have HI10 := Lib.hid (HJ.out.i.keep hb10)
                    have HF2 : Hid (∀ p, A2 = some p → tb < p.block ∧ p.block < w10.heap.size) := Lib.hid (fun p hp => by have := hf10 p hp; have := lt_of_block HJ.out.i.tok; omega)
                    have HI11 := Lib.hid (HI10.out.put hat2 HF2.out)
                    obtain ⟨d0, d1, d2, d3, d4⟩ := tbox5 HI10.out.tok
                    obtain ⟨g0, g1, g2, g3, g4⟩ := tfrz5 HI10.out.tok
                    clear hat2 hb10 hf10 HW x0 x1 y0 y1
                    go_wp2_with fail
                    go_roundw
                    case rel => exact ⟨n1, acc2, A2, ac2, Lib.hid HBK.out.2.1, rfl, HATT, HI11, Lib.hid (by have := HA.out; have := HLE.out; have := HWL.out; omega)⟩
                    case measure => simp [intOf]; have := HLE.out; have := HBK.out; omega
              · have hz3 : decide (n1 < s.size) = false := decide_eq_false hlt1
                have HNO := Lib.hid (attrR_no HN0.out HAN.out HN1.out (fun h => hlt1 h.1))
                have HBK := Lib.hid (HBD.out an ⟨#[]⟩ n1 HNO.out)
                have HATT := Lib.hid (HEQ.out.trans (HATS.out an ⟨#[]⟩ n1 HNO.out))
                have HIN := Lib.hid (in_calls acc A ac an w6 HX5.out.i.att (by have := HA.out; have := HK.out; have := HS.out; omega))
                obtain ⟨x0, x1, y0, y1⟩ := tbox2 HX5.out.x
                have d3 := (tbox5 HX5.out.i.tok).2.2.2.1
                have HLE : Hid (k < n1) := Lib.hid (by have := HBK.out; have := HK1.out; omega)
                clear hlt1
                go_wp2_with fail
                refine HIN.out.mono ?_
                rintro e' w9 ⟨rfl, hb9⟩
                have HJ := Lib.hid (HX5.out.keep hb9)
                clear hb9 x0 x1 y0 y1 d3 HIN
                cases hin : hasName acc an with
                | true =>
                  rw [hin, if_pos rfl] at HATT
                  have HI9 := Lib.hid HJ.out.i
                  clear hin
                  go_wp2_with fail
                  go_roundw
                  case rel => exact ⟨n1, acc, A, ac, Lib.hid HBK.out.2.1, rfl, HATT, HI9, Lib.hid (by have := HA.out; have := HLE.out; omega)⟩
                  case measure => simp [intOf]; have := HLE.out; have := HBK.out; omega
                | false =>
                  rw [hin, if_neg Bool.false_ne_true] at HATT
                  have HW := Lib.hid (with_calls acc A ac an ⟨#[]⟩ w9 HJ.out.i.att (by have := HA.out; have := HK.out; have := HS.out; omega) (small4 (by have := HBK.out; have := HS.out; omega)) (small4 (by have := HBK.out; have := HS.out; omega)))
                  have HWL := Lib.hid (withP_len acc an ⟨#[]⟩)
                  generalize withP acc an ⟨#[]⟩ = acc2 at *
                  obtain ⟨x0, x1, y0, y1⟩ := tbox2 HJ.out.x
                  have d3 := (tbox5 HJ.out.i.tok).2.2.2.1
                  clear hin
                  go_wp2_with fail
                  refine HW.out.mono ?_
                  rintro e' w10 ⟨A2, ac2, rfl, hat2, hb10, hf10⟩
                  have HI10 := Lib.hid (HJ.out.i.keep hb10)
                  have HF2 : Hid (∀ p, A2 = some p → tb < p.block ∧ p.block < w10.heap.size) := Lib.hid (fun p hp => by have := hf10 p hp; have := lt_of_block HJ.out.i.tok; omega)
                  have HI11 := Lib.hid (HI10.out.put hat2 HF2.out)
                  obtain ⟨d0, d1, d2, d3, d4⟩ := tbox5 HI10.out.tok
                  obtain ⟨g0, g1, g2, g3, g4⟩ := tfrz5 HI10.out.tok
                  clear hat2 hb10 hf10 HW x0 x1 y0 y1
                  go_wp2_with fail
                  go_roundw
                  case rel => exact ⟨n1, acc2, A2, ac2, Lib.hid HBK.out.2.1, rfl, HATT, HI11, Lib.hid (by have := HA.out; have := HLE.out; have := HWL.out; omega)⟩
                  case measure => simp [intOf]; have := HLE.out; have := HBK.out; omega
      · have hz : decide (e1 < s.size) = false := decide_eq_false hlt
        have hz2 : (s.size : Int) ≤ (e1 : Int) := by omega
        have HR := Lib.hid (HG.out.trans (upT_end (p := gapC) (by omega)))
        have HV := Lib.hid (HTN.out (HEQ.out.trans (attrsRK_1 HK.out HR.out (by omega))))
        clear hlt
        obtain ⟨b0, b1, b2, b3, b4⟩ := tbox5 HI.out.res
        obtain ⟨f0, f1, f2, f3, f4⟩ := tfrz5 HI.out.res
        go_wp2_with fail
        rw [HV.out]
        exact tok_post (tok0, s.size, false) w 6 7 8 w.heap.size none 0 rfl rfl rfl rfl (set5_blk HI.out.res _ _ _ _ _) (isAttrs_nil _ _) (HI.out.bel.trans (set5_below (Nat.le_refl _) _ _ _ _ _)) (fun _ h => nomatch h)
end Go.Proofs.YtbdgoffbkenofaaGreat.Rn
