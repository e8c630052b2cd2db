/- Rows of elements: read, written, laid. -/
import Derived.Test.YtioaigedcoapcaaGreatDoorAxGa
import Derived.ChangeKeysEq
namespace Go.Ax
open Go
variable {P : Program}

/-- Lists of cells, each of one length. -/
structure VEls (φ : Phi) (es : Nat) (ls : List (List AV)) (vs : List Value) : Prop where
  v : VL φ ls.flatten vs
  len : ∀ l ∈ ls, l.length = es
  cells : ∀ l ∈ ls, areCells l
theorem flatten_length {α : Type} {es : Nat} : ∀ {ls : List (List α)}, (∀ l ∈ ls, l.length = es) → ls.flatten.length = ls.length * es
  | [], _ => by simp
  | l :: ls, h => by
    have := flatten_length (ls := ls) fun x hx => h x (by simp [hx])
    simp only [List.flatten_cons, List.length_append, List.length_cons, this, h l (by simp), Nat.add_mul]
    omega
theorem VEls.length {φ : Phi} {es : Nat} {ls : List (List AV)} {vs : List Value} (h : VEls φ es ls vs) : vs.length = ls.length * es := by rw [← h.v.length, flatten_length h.len]
theorem VEls.nil {φ : Phi} {es : Nat} : VEls φ es [] [] := ⟨rfl, (fun _ h => by cases h), fun _ h => by cases h⟩
theorem VEls.cons {φ : Phi} {es : Nat} {l : List AV} {vs : List Value} {ls : List (List AV)} {us : List Value} (h1 : VL φ l vs) (h2 : l.length = es) (h3 : areCells l) (h : VEls φ es ls us) : VEls φ es (l :: ls) (vs ++ us) :=
  ⟨VL.append h1 h.v, fun x hx => (List.mem_cons.1 hx).elim (fun e => e ▸ h2) (h.len x), fun x hx => (List.mem_cons.1 hx).elim (fun e => e ▸ h3) (h.cells x)⟩
theorem VEls.append {φ : Phi} {es : Nat} {ls ms : List (List AV)} {vs us : List Value} (h : VEls φ es ls vs) (k : VEls φ es ms us) : VEls φ es (ls ++ ms) (vs ++ us) :=
  ⟨by rw [List.flatten_append]; exact VL.append h.v k.v, fun x hx => (List.mem_append.1 hx).elim (h.len x) (k.len x), fun x hx => (List.mem_append.1 hx).elim (h.cells x) (k.cells x)⟩
theorem VEls.mono {φ ψ : Phi} {es : Nat} {ls : List (List AV)} {vs : List Value} (h : VEls φ es ls vs) (hl : φ.le ψ) : VEls ψ es ls vs := ⟨VL.mono hl _ _ h.v, h.len, h.cells⟩
theorem VEls.allCells {φ : Phi} {es : Nat} {ls : List (List AV)} {vs : List Value} (h : VEls φ es ls vs) : areCells ls.flatten := fun a ha => by
  obtain ⟨l, hl, ha⟩ := List.mem_flatten.1 ha
  exact h.cells l hl a ha
theorem VEls.get {φ : Phi} {es : Nat} : ∀ {ls : List (List AV)} {vs : List Value} (q : Nat), VEls φ es ls vs → q < ls.length → ∃ l, ls[q]? = some l ∧ l.length = es ∧ areCells l ∧ VL φ l ((vs.drop (q * es)).take es)
  | [], _, _, _, hq => by cases hq
  | l :: ls, vs, q, h, hq => by
    have hv : VL φ (l ++ ls.flatten) vs := h.v
    have hl : l.length = es := h.len l (by simp)
    have h1 : VL φ l (vs.take es) := by
      have := VL.take es hv
      rw [List.take_append_of_le_length (by omega), List.take_of_length_le (by omega)] at this
      exact this
    have h2 : VL φ ls.flatten (vs.drop es) := by
      have := VL.drop es hv
      rw [List.drop_append_of_le_length (by omega), List.drop_of_length_le (by omega), List.nil_append] at this
      exact this
    cases q with
    | zero => exact ⟨l, rfl, hl, h.cells l (by simp), by simpa using h1⟩
    | succ q =>
      obtain ⟨m, h3, h4, h5, h6⟩ := VEls.get q ⟨h2, fun x hx => h.len x (by simp [hx]), fun x hx => h.cells x (by simp [hx])⟩ (by simpa using hq)
      refine ⟨m, by simpa using h3, h4, h5, ?_⟩
      rw [List.drop_drop] at h6
      rw [Nat.add_mul, Nat.one_mul, Nat.add_comm (q * es)]
      exact h6
theorem elems_eq (b : Blk) (es o n : Nat) : elems b es o (n + 1) = @Option.rec _ (fun _ => Option (List (List AV))) none (fun l => @Option.rec _ (fun _ => Option (List (List AV))) none (fun r => some (l :: r)) (elems b es (o + es) n)) (loadN b o es) := rfl
theorem elems_row {φ : Phi} {w : World} {b : Blk} {p : Pl} {es : Nat} (hes : 0 < es) (hb : BRel φ w b p) : ∀ {n o : Nat} {ls : List (List AV)}, elems b es o n = some ls → 0 < n →
    ∃ c ty fr, w.heap[p.b]? = some (.cells c ty fr) ∧ VEls φ es ls ((c.toList.drop (p.base + o)).take (n * es)) ∧ ls.length = n
  | 0, _, _, _, hn => by cases hn
  | n + 1, o, ls, h, _ => by
    rw [elems_eq] at h
    obtain ⟨l, h1, h2⟩ := opt_some h
    obtain ⟨r, h3, h4⟩ := opt_some h2
    cases h4
    obtain ⟨c, ty, fr, hw, hv, hl, hc⟩ := loadN_row hb h1
    have hv : VL φ l ((c.toList.drop (p.base + o)).take es) := hv.resolve_left (by omega)
    refine ⟨c, ty, fr, hw, ?_⟩
    cases n with
    | zero =>
      have : elems b es (o + es) 0 = some [] := rfl
      rw [this] at h3
      cases h3
      have := VEls.cons hv hl hc (VEls.nil (φ := φ) (es := es))
      simp only [List.append_nil] at this
      exact ⟨by simpa using this, rfl⟩
    | succ n =>
      obtain ⟨c', ty', fr', hw', hv', hl'⟩ := elems_row hes hb h3 (by omega)
      rw [hw] at hw'
      cases hw'
      have := VEls.cons hv hl hc hv'
      refine ⟨?_, by simp [hl']⟩
      have e : (c.toList.drop (p.base + o)).take es ++ (c.toList.drop (p.base + (o + es))).take ((n + 1) * es) = (c.toList.drop (p.base + o)).take ((n + 1 + 1) * es) := by
        rw [show (n + 1 + 1) * es = es + (n + 1) * es by rw [Nat.add_mul (n + 1), Nat.one_mul, Nat.add_comm], List.take_add, List.drop_drop, show p.base + o + es = p.base + (o + es) by omega]
      rwa [e] at this
theorem elems_len {b : Blk} {es : Nat} : ∀ {n o : Nat} {ls : List (List AV)}, elems b es o n = some ls → ls.length = n
  | 0, _, _, h => by cases h; rfl
  | n + 1, o, ls, h => by
    rw [elems_eq] at h
    obtain ⟨l, h1, h2⟩ := opt_some h
    obtain ⟨r, h3, h4⟩ := opt_some h2
    cases h4
    simp [elems_len h3]
theorem elems_ok {φ : Phi} {w : World} {b : Blk} {p : Pl} {es n o : Nat} {ls : List (List AV)} (hes : 0 < es) (hb : BRel φ w b p) (h : elems b es o n = some ls) :
    ∃ vs, (loadCells (p.at o) (n * es)).run P w = .ok vs.toArray w ∧ VEls φ es ls vs ∧ ls.length = n := by
  cases n with
  | zero =>
    cases h
    exact ⟨[], by rw [Nat.zero_mul]; rfl, VEls.nil, rfl⟩
  | succ n =>
    obtain ⟨c, ty, fr, hw, hv, hl⟩ := elems_row hes hb h (by omega)
    have hlen : ((c.toList.drop (p.base + o)).take ((n + 1) * es)).length = (n + 1) * es := by rw [hv.length, hl]
    exact ⟨_, run_loadCells_row hw hlen rfl, hv, hl⟩
theorem storeCells_append (a : Addr) : ∀ (vs us : List Value) (i : Nat) (w w' : World), (storeCells a vs i).run P w = .ok () w' → (storeCells a (vs ++ us) i).run P w = (storeCells a us (i + vs.length)).run P w'
  | [], us, i, w, w', h => by
    have e : (storeCells a [] i).run P w = .ok () w := rfl
    rw [e] at h
    cases h
    rfl
  | v :: vs, us, i, w, w', h => by
    simp only [List.cons_append, storeCells, Sem.run_bind] at h ⊢
    cases hs : (store (a.add i) v).run P w with
    | halt x y => rw [hs] at h; cases h
    | ok x y =>
      rw [hs] at h
      simp only [Result.andThen] at h ⊢
      rw [storeCells_append a vs us (i + 1) y w' h]
      congr 2
      simp only [List.length_cons]
      omega
theorem storeCells_shift (p : Pl) (o : Nat) : ∀ (vs : List Value) (i : Nat), storeCells (p.at o) vs i = storeCells (p.at (o + i)) vs 0
  | vs, i => by
    suffices h : ∀ (vs : List Value) (i j : Nat), storeCells (p.at o) vs (i + j) = storeCells (p.at (o + i)) vs j by
      have := h vs i 0
      simpa using this
    intro vs
    induction vs with
    | nil => intro i j; rfl
    | cons v vs ih =>
      intro i j
      simp only [storeCells]
      rw [Pl.at_add, Pl.at_add, show o + i + j = o + (i + j) by omega]
      congr 1
      funext _
      exact ih i (j + 1)
theorem storeEls_eq (b : Blk) (es o : Nat) (l : List AV) (ls : List (List AV)) : storeEls b es o (l :: ls) = @Option.rec _ (fun _ => Option Blk) none (fun b' => storeEls b' es (o + es) ls) (storeN b o es l) := rfl
theorem storeEls_ok {φ : Phi} {p : Pl} {es : Nat} (hes : 0 < es) : ∀ {ls : List (List AV)} {vs : List Value} {w : World} {b b' : Blk} {o : Nat}, BRel φ w b p → isRw b = true → storeEls b es o ls = some b' → VEls φ es ls vs →
    ∃ w', (storeCells (p.at o) vs).run P w = .ok () w' ∧ Wrote w w' p.b ∧ BRel φ w' b' p ∧ isRw b' = true
  | [], vs, w, b, b', o, hb, hr, h, hv => by
    cases h
    have : vs = [] := hv.v
    subst this
    obtain ⟨x, hx⟩ := hb.there (isRw_live hr)
    exact ⟨w, rfl, Wrote.refl hx, hb, hr⟩
  | l :: ls, vs, w, b, b', o, hb, hr, h, hv => by
    rw [storeEls_eq] at h
    obtain ⟨b1, h1, h2⟩ := opt_some h
    have hl : l.length = es := hv.len l (by simp)
    have hvv : VL φ (l ++ ls.flatten) vs := hv.v
    have hva : VL φ l (vs.take es) := by
      have := VL.take es hvv
      rw [List.take_append_of_le_length (by omega), List.take_of_length_le (by omega)] at this
      exact this
    have hvb : VL φ ls.flatten (vs.drop es) := by
      have := VL.drop es hvv
      rw [List.drop_append_of_le_length (by omega), List.drop_of_length_le (by omega), List.nil_append] at this
      exact this
    obtain ⟨w1, h3, h4, h5, _, h6⟩ := storeN_ok (P := P) hb h1 hva (hv.cells l (by simp)) hl hes
    obtain ⟨w2, h7, h8, h9, h10⟩ := storeEls_ok hes h5 h6 h2 ⟨hvb, fun x hx => hv.len x (by simp [hx]), fun x hx => hv.cells x (by simp [hx])⟩
    refine ⟨w2, ?_, h4.trans h8, h9, h10⟩
    have e : vs = vs.take es ++ vs.drop es := (List.take_append_drop es vs).symm
    rw [e, storeCells_append _ _ _ _ _ _ h3, storeCells_shift]
    rw [← hva.length, hl]
    rw [Nat.zero_add]
    exact h7
theorem fillFrom_get : ∀ (ls : List (List AV)) (q : Nat) (t : Els) (r : Nat), q + ls.length ≤ 256 → r < 256 → el2 r (fillFrom q ls t) = if q ≤ r ∧ r < q + ls.length then ls.getD (r - q) [] else el2 r t
  | [], q, t, r, _, _ => by
    rw [if_neg (by simp only [List.length_nil]; omega)]
    rfl
  | l :: ls, q, t, r, h, hr => by
    simp only [List.length_cons] at h
    have e : fillFrom q (l :: ls) t = fillFrom (q + 1) ls (pl2 q l t) := rfl
    rw [e, fillFrom_get ls (q + 1) _ r (by omega) hr, el2_pl2 _ _ hr (by omega)]
    simp only [List.length_cons]
    by_cases h1 : r = q
    · subst h1
      rw [if_neg (by omega), if_pos rfl, if_pos (by omega), Nat.sub_self]
      rfl
    · rw [if_neg h1]
      by_cases h2 : q + 1 ≤ r ∧ r < q + 1 + ls.length
      · rw [if_pos h2, if_pos (by omega), show r - q = (r - (q + 1)) + 1 by omega]
        rfl
      · rw [if_neg h2, if_neg (by omega)]
/-- A new row: its elements ahead, zeros behind. -/
theorem BRel.row {φ : Phi} {w : World} {ty es n : Nat} {d : Bool} {ls : List (List AV)} {vs rest : List Value} {p : Pl} {fr : Nat × Nat} (hes : 0 < es) (hn : ls.length = n) (h256 : n ≤ 256) (hv : VEls φ es ls vs)
    (hw : w.heap[p.b]? = some (.cells (vs ++ rest).toArray ty fr)) (hb : p.base = 0) (hpe : p.es = es) (hlim : p.lim = n * es + rest.length) (hfz : noFz fr (n * es + rest.length)) :
    BRel φ w (.arr ty es n d (fillFrom 0 ls els0)) p := by
  have hvl : vs.length = n * es := by rw [hv.length, hn]
  refine ⟨_, fr, hw, hes, hpe, by omega, by simp; omega, by simpa [hvl] using hfz, h256, fun q hq => ?_⟩
  rw [fillFrom_get _ _ _ _ (by omega) (by omega), if_pos (by omega), Nat.sub_zero]
  obtain ⟨l, h1, h2, h3, h4⟩ := hv.get q (by omega)
  have e : ls.getD q [] = l := by rw [List.getD_eq_getElem?_getD, h1]; rfl
  rw [e]
  refine ⟨h2, ?_, h3⟩
  rw [hb, Nat.zero_add]
  have hq1 : (q + 1) * es ≤ n * es := Nat.mul_le_mul_right _ hq
  rw [Nat.add_mul, Nat.one_mul] at hq1
  have e2 : (((vs ++ rest).toArray.toList.drop (q * es)).take es) = (vs.drop (q * es)).take es := by
    rw [List.drop_append_of_le_length (by omega), List.take_append_of_le_length (by simp; omega)]
  rw [e2]
  exact h4
end Go.Ax
namespace Go.Ax
open Go
variable {P : Program}

/-! ### types -/
theorem infoAt_ok {t : Nat} {i : TypeInfo} (h : infoAt P t = some i) : P.info? t = some i := by
  unfold infoAt at h
  rw [lnth_eq] at h
  have h : P.types[t]? = some i := by simpa using h
  have hlt : t < P.types.size := (Array.getElem?_eq_some_iff.1 h).1
  show Tables.info? _ t = _
  unfold Tables.info?
  rw [if_pos hlt]
  exact h
theorem undl_info {t : Nat} {d : TypeDesc} (h : undl P t = d) (hd : d ≠ .invalid) : ∃ i, infoAt P t = some i ∧ P.underlying t = some d := by
  unfold undl at h
  cases hi : infoAt P t with
  | none => rw [hi] at h; exact absurd h.symm hd
  | some i =>
    rw [hi] at h
    refine ⟨i, rfl, ?_⟩
    have hI := infoAt_ok hi
    obtain ⟨desc, a1, a2, a3, a4, a5⟩ := i
    dsimp only at h
    unfold Program.underlying
    rw [hI]
    cases desc <;> first | (subst h; rfl) | skip
    dsimp only at h
    rename_i u
    cases hu : infoAt P u with
    | none => rw [hu] at h; exact absurd h.symm hd
    | some j =>
      rw [hu] at h
      dsimp only at h
      show (P.info? u).map (·.desc) = _
      rw [infoAt_ok hu, ← h]
      rfl
theorem undl_ok {t : Nat} {d : TypeDesc} (h : undl P t = d) (hd : d ≠ .invalid) : P.underlying t = some d := (undl_info h hd).elim fun _ h => h.2
theorem undl_run {t : Nat} {d : TypeDesc} (h : undl P t = d) (hd : d ≠ .invalid) (w : World) : (underlying t).run P w = .ok d w := run_underlying (undl_ok h hd) w
theorem knownB_ok {t : Nat} (h : knownB P t = true) : undl P t ≠ .invalid := by
  unfold knownB at h
  intro e
  rw [e] at h
  cases h
theorem szOf_info {t : Nat} {i : TypeInfo} (h : infoAt P t = some i) : szOf P t = i.size := by unfold szOf; rw [h]
theorem cellsOf_info {t : Nat} {i : TypeInfo} (h : infoAt P t = some i) : P.cellsOf t = szOf P t := by
  rw [szOf_info h]; unfold Program.cellsOf; rw [infoAt_ok h]; rfl
theorem sizeOf_run {t : Nat} {i : TypeInfo} (h : infoAt P t = some i) (w : World) : (sizeOf t).run P w = .ok (szOf P t) w := by
  rw [run_sizeOf w (infoAt_ok h), cellsOf_info h]
theorem sizeOf_undl {t : Nat} (h : undl P t ≠ .invalid) (w : World) : (sizeOf t).run P w = .ok (szOf P t) w := by
  obtain ⟨i, hi, _⟩ := undl_info (P := P) (t := t) rfl h
  exact sizeOf_run hi w
theorem szOf_pos {t : Nat} (h : Nat.beq (szOf P t) 0 = false) : ∃ i, infoAt P t = some i := by
  cases hi : infoAt P t with
  | some i => exact ⟨i, rfl⟩
  | none => unfold szOf at h; rw [hi] at h; cases h
theorem isAgg_run {t : Nat} (h : undl P t ≠ .invalid) (w : World) : (isAgg t).run P w = .ok (isAggB P t) w := by
  have := undl_run (P := P) (t := t) rfl h w
  unfold isAgg isAggB isAggD
  cases hd : undl P t <;> simp [hd, this] at * <;> simp [*]
theorem isAggB_known {t : Nat} (h : isAggB P t = true) : undl P t ≠ .invalid := by
  intro e; unfold isAggB at h; rw [e] at h; cases h

/-! ### constants -/
theorem cellB_eq (a : AV) : cellB a = isCell a := by cases a <;> rfl
mutual
theorem ofV_ok (φ : Phi) : ∀ (v : Value) (a : AV), ofV v = some a → V φ a v
  | .bool b, a, h => by cases h; rfl
  | .int k n, a, h => by cases h; rfl
  | .string s, a, h => by cases h; rfl
  | .pointer none, a, h => by cases h; rfl
  | .slice none 0 0, a, h => by cases h; rfl
  | .map none, a, h => by cases h; rfl
  | .nilFunc, a, h => by cases h; rfl
  | .nilIface, a, h => by cases h; rfl
  | .agg l, a, h => by
    unfold ofV at h
    cases hl : ofVs l.toList with
    | none => rw [hl] at h; cases h
    | some r =>
      rw [hl] at h
      dsimp only at h
      cases hc : r.all cellB with
      | false => rw [hc] at h; cases h
      | true =>
        rw [hc] at h
        cases h
        exact ⟨l, rfl, ofVs_ok φ l.toList r hl, fun x hx => (cellB_eq x) ▸ List.all_eq_true.1 hc x hx⟩
  | .tuple l, a, h => by
    unfold ofV at h
    cases hl : ofVs l.toList with
    | none => rw [hl] at h; cases h
    | some r =>
      rw [hl] at h
      cases h
      exact ⟨l, rfl, ofVs_ok φ l.toList r hl⟩
  | .float _ _, a, h => by cases h
  | .complex _ _ _, a, h => by cases h
  | .pointer (some _), a, h => by cases h
  | .slice (some _) _ _, a, h => by cases h
  | .slice none (_ + 1) _, a, h => by cases h
  | .slice none 0 (_ + 1), a, h => by cases h
  | .map (some _), a, h => by cases h
  | .chan _, a, h => by cases h
  | .func _ _ _, a, h => by cases h
  | .iface _ _, a, h => by cases h
theorem ofVs_ok (φ : Phi) : ∀ (l : List Value) (r : List AV), ofVs l = some r → VL φ r l
  | [], r, h => by cases h; rfl
  | v :: l, r, h => by
    unfold ofVs at h
    cases h1 : ofV v with
    | none => rw [h1] at h; cases h
    | some a =>
      cases h2 : ofVs l with
      | none => rw [h1, h2] at h; cases h
      | some s =>
        rw [h1, h2] at h
        cases h
        exact VL.cons (ofV_ok φ v a h1) (ofVs_ok φ l s h2)
end
end Go.Ax
namespace Go.Ax
open Go
variable {P : Program}

/-! ### cells -/
theorem AV.onAgg_some {α : Type} {x : AV} {f : List AV → Option α} {r : α} (h : AV.onAgg x none f = some r) : ∃ l, x = .agg l ∧ f l = some r := by
  cases x with
  | agg l => exact ⟨l, rfl, h⟩
  | _ => cases h
theorem AV.onInt_some {α : Type} {x : AV} {f : IntKind → Int → Option α} {r : α} (h : AV.onInt x none f = some r) : ∃ k n, x = .int k n ∧ f k n = some r := by
  cases x with
  | int k n => exact ⟨k, n, rfl, h⟩
  | _ => cases h
theorem AV.onStr_some {α : Type} {x : AV} {f : List UInt8 → Option α} {r : α} (h : AV.onStr x none f = some r) : ∃ l, x = .str l ∧ f l = some r := by
  cases x with
  | str l => exact ⟨l, rfl, h⟩
  | _ => cases h
theorem AV.onBool_some {α : Type} {x : AV} {f : Bool → Option α} {r : α} (h : AV.onBool x none f = some r) : ∃ l, x = .bool l ∧ f l = some r := by
  cases x with
  | bool l => exact ⟨l, rfl, h⟩
  | _ => cases h
theorem AV.onTup_some {α : Type} {x : AV} {f : List AV → Option α} {r : α} (h : AV.onTup x none f = some r) : ∃ l, x = .tup l ∧ f l = some r := by
  cases x with
  | tup l => exact ⟨l, rfl, h⟩
  | _ => cases h
theorem AV.onPtr_some {α : Type} {x : AV} {d : Option α} {f : Id → Nat → Option α} {r : α} (h : AV.onPtr x d f = some r) : (∃ i o, x = .ptr i o ∧ f i o = some r) ∨ ((∀ i o, x ≠ .ptr i o) ∧ d = some r) := by
  cases x with
  | ptr i o => exact .inl ⟨i, o, rfl, h⟩
  | _ => exact .inr ⟨(fun _ _ e => by cases e), h⟩
theorem AV.onSl_some {α : Type} {x : AV} {d : Option α} {f : Id → Nat → Nat → Option Nat → Option α} {r : α} (h : AV.onSl x d f = some r) :
    (∃ i o n c, x = .sl i o n c ∧ f i o n c = some r) ∨ ((∀ i o n c, x ≠ .sl i o n c) ∧ d = some r) := by
  cases x with
  | sl i o n c => exact .inl ⟨i, o, n, c, rfl, h⟩
  | _ => exact .inr ⟨(fun _ _ _ _ e => by cases e), h⟩
theorem AV.onMp_some {α : Type} {x : AV} {d : Option α} {f : Id → Option α} {r : α} (h : AV.onMp x d f = some r) : (∃ i, x = .mp i ∧ f i = some r) ∨ ((∀ i, x ≠ .mp i) ∧ d = some r) := by
  cases x with
  | mp i => exact .inl ⟨i, rfl, h⟩
  | _ => exact .inr ⟨(fun _ e => by cases e), h⟩
theorem AV.onIS_some {α : Type} {x : AV} {d : Option α} {f : IntKind → Int → Option α} {g : List UInt8 → Option α} {r : α} (h : AV.onIS x d f g = some r) :
    (∃ k n, x = .int k n ∧ f k n = some r) ∨ (∃ l, x = .str l ∧ g l = some r) ∨ ((∀ k n, x ≠ .int k n) ∧ (∀ l, x ≠ .str l) ∧ d = some r) := by
  cases x with
  | int k n => exact .inl ⟨k, n, rfl, h⟩
  | str l => exact .inr (.inl ⟨l, rfl, h⟩)
  | _ => exact .inr (.inr ⟨(fun _ _ e => by cases e), (fun _ e => by cases e), h⟩)
theorem V.cells_one {φ : Phi} {a : AV} {v : Value} (h : V φ a v) (hc : isCell a = true) : v.cells = #[v] := by
  have := h.oneCell hc
  cases v <;> first | rfl | (cases this)
theorem cellsO_ok {φ : Phi} {a : AV} {v : Value} {l : List AV} (h : cellsO a = some l) (hv : V φ a v) : VL φ l v.cells.toList ∧ areCells l := by
  have one : ∀ b : AV, isCell b = true → V φ b v → VL φ [b] v.cells.toList ∧ areCells [b] := fun b hb hv => by
    rw [hv.cells_one hb]
    exact ⟨VL.mk1 hv, fun x hx => by rw [List.mem_singleton.1 hx]; exact hb⟩
  cases a with
  | agg x => cases h; obtain ⟨vs, rfl, h1, h2⟩ := hv; exact ⟨h1, h2⟩
  | tup x => cases h
  | _ => cases h; exact one _ rfl hv
theorem zeroA_ok {t : Nat} {a : AV} (h : zeroA P t = some a) (φ : Phi) : ∃ z i, infoAt P t = some i ∧ V φ a z ∧ ∀ w, (zeroValue t).run P w = .ok z w := by
  unfold zeroA at h
  cases hi : infoAt P t with
  | none => rw [hi] at h; cases h
  | some i =>
    rw [hi] at h
    dsimp only at h
    cases hz : i.zero with
    | none => rw [hz] at h; cases h
    | some v =>
      rw [hz] at h
      dsimp only at h
      refine ⟨v, i, rfl, ofV_ok φ v a h, fun w => ?_⟩
      simp [zeroValue, run_typeInfo w (infoAt_ok hi), hz]
theorem zeroCs_ok {t : Nat} {l : List AV} (h : zeroCs P t = some l) (φ : Phi) : ∃ z i, infoAt P t = some i ∧ VL φ l z.cells.toList ∧ areCells l ∧ ∀ w, (zeroValue t).run P w = .ok z w := by
  have h : (match zeroA P t with | some v => cellsO v | none => none) = some l := h
  cases hz : zeroA P t with
  | none => rw [hz] at h; cases h
  | some a =>
    rw [hz] at h
    obtain ⟨z, i, h1, h2, h3⟩ := zeroA_ok hz φ
    obtain ⟨h4, h5⟩ := cellsO_ok h h2
    exact ⟨z, i, h1, h4, h5, h3⟩

/-! ### operands -/
theorem cOpd_tmp (N t : Nat) : cOpd N (.tmp t) = @Bool.rec (fun _ => Opd) ⟨fun _ => undef⟩ (rgGet t) (Nat.ble (t + 1) N) := by
  show (match Nat.ble (t + 1) N with | true => rgGet t | false => (⟨fun _ => undef⟩ : Opd)) = _
  cases Nat.ble (t + 1) N <;> rfl
theorem tmp_ok {φ : Phi} {N : Nat} {tm : TM} {ts : Array Value} (h : TRel φ N tm ts) (t : Nat) : V φ ((cOpd N (.tmp t)).get tm) (ts.getD t Go.undef) := by
  rw [cOpd_tmp]
  cases hb : Nat.ble (t + 1) N with
  | true => exact h.at_ t (nat_ble hb)
  | false =>
    have := nat_nble hb
    have e : ts.getD t Go.undef = Go.undef := by
      rw [Array.getD_eq_getD_getElem?, Array.getElem?_eq_none (by rw [h.size]; omega)]
      rfl
    rw [e]
    exact ⟨#[], rfl, rfl⟩
theorem opd_ok {φ : Phi} {N : Nat} {tm : TM} {a : Act} (h : TRel φ N tm a.tmps) (hg : GRel φ) {x : Operand} (hx : okOpd x = true) : V φ ((cOpd N x).get tm) (a.eval x) := by
  cases x with
  | tmp t => exact tmp_ok h t
  | const v =>
    have hx : (ofV v).isSome = true := hx
    obtain ⟨b, hb⟩ := Option.isSome_iff_exists.1 hx
    have e : cOpd N (.const v) = ⟨fun _ => b⟩ := by
      show (match ofV v with | some a => (⟨fun _ => a⟩ : Opd) | none => ⟨fun _ => undef⟩) = _
      rw [hb]
    rw [e]
    exact ofV_ok φ v b hb
  | global g => exact ⟨_, hg g (nat_ble hx), rfl⟩
  | func f => exact ⟨#[], #[], rfl, rfl, rfl⟩
theorem opds_ok {φ : Phi} {N : Nat} {tm : TM} {a : Act} (h : TRel φ N tm a.tmps) (hg : GRel φ) : ∀ {l : List Operand}, l.all okOpd = true → VL φ (l.map fun x => (cOpd N x).get tm) (l.map a.eval)
  | [], _ => rfl
  | x :: l, hl => by
    rw [List.all_cons, Bool.and_eq_true] at hl
    exact VL.cons (opd_ok h hg hl.1) (opds_ok h hg hl.2)
theorem cEvs_get : ∀ (l : List Opd) (tm : TM), (cEvs l).get tm = l.map fun x => x.get tm
  | [], _ => rfl
  | ⟨g⟩ :: l, tm => by
    have e : (cEvs (⟨g⟩ :: l)).get tm = g tm :: (cEvs l).get tm := rfl
    rw [e, cEvs_get l tm]
    rfl
theorem TRel.put {φ : Phi} {N : Nat} {tm : TM} {ts : Array Value} (h : TRel φ N tm ts) {d : Nat} {a : AV} {v : Value} (hd : d < N) (hv : V φ a v) : TRel φ N ((rgPut d).put a tm) (ts.setIfInBounds d v) := by
  refine ⟨by simp [h.size], h.le, fun t ht => ?_⟩
  have := h.le
  rw [rg_get_put t d (by omega) (by omega)]
  by_cases e : t = d
  · subst e
    rw [if_pos rfl, Array.getD_eq_getD_getElem?, Array.getElem?_setIfInBounds_self_of_lt (by rw [h.size]; exact ht)]
    exact hv
  · rw [if_neg e, Array.getD_eq_getD_getElem?, Array.getElem?_setIfInBounds_ne (by omega), ← Array.getD_eq_getD_getElem?]
    exact h.at_ t ht
theorem dst_ok {φ : Phi} {N : Nat} {tm : TM} {a : Act} (h : TRel φ N tm a.tmps) {d : Option Nat} (hd : okDst N d = true) {x : AV} {v : Value} (hv : V φ x v) : TRel φ N ((cDst d).put x tm) (a.put d v).tmps := by
  cases d with
  | none => exact h
  | some d => exact h.put (nat_ble hd) hv
end Go.Ax
namespace Go.Ax
open Go
variable {P : Program}

def Pur (P : Program) (o : Oper) (f : List AV → Option AV) : Prop :=
  ∀ (φ : Phi) (w : World) (ρ : Operand → Value) (xs : List AV) (r : AV), f xs = some r → VL φ xs ((opsOf o.op).map ρ) → ∃ v, V φ r v ∧ (execOp ρ o).run P w = .ok (.value v) w
def Red (P : Program) (o : Oper) (f : List AV → Hp → Option AV) : Prop :=
  ∀ (φ : Phi) (h : Hp) (w : World) (ρ : Operand → Value) (xs : List AV) (r : AV), RelF φ h.get w → f xs h = some r → VL φ xs ((opsOf o.op).map ρ) → ∃ v, V φ r v ∧ (execOp ρ o).run P w = .ok (.value v) w
/-- A new block, and nothing else. -/
structure Made (φ : Phi) (w w' : World) (b : Blk) (g : Id → AV) (v : Value) (p : Pl) : Prop where
  heap : ∃ o, w'.heap = w.heap.push o
  os : w'.os = w.os
  tape : w'.tape = w.tape
  output : w'.output = w.output
  place : p.b = w.heap.size
  val : ∀ (ψ : Phi) (i : Id), φ.le ψ → ψ i = some p → V ψ (g i) v
  blk : ∀ ψ : Phi, φ.le ψ → BRel ψ w' b p
  there : b ≠ .none
def Nw (P : Program) (o : Oper) (f : List AV → NewR) : Prop :=
  ∀ (φ : Phi) (w : World) (ρ : Operand → Value) (xs : List AV) (b : Blk) (g : Id → AV), f xs = .ok b g → VL φ xs ((opsOf o.op).map ρ) →
    ∃ v w' p, (execOp ρ o).run P w = .ok (.value v) w' ∧ Made φ w w' b g v p
def on0 {α : Type} (bad : α) (f : α) : List AV → α
  | [] => f
  | _ => bad
def on1 {α : Type} (bad : α) (f : AV → α) : List AV → α
  | [x] => f x
  | _ => bad
def on2 {α : Type} (bad : α) (f : AV → AV → α) : List AV → α
  | [x, y] => f x y
  | _ => bad
theorem run_v {s : Sem Value} {v : Value} {w w' : World} (h : s.run P w = .ok v w') : (do pure (Next.value (← s)) : Sem Next).run P w = .ok (.value v) w' := by
  rw [Sem.run_bind, h]; rfl
theorem Pur.of1 {o : Oper} {x : Operand} {f : AV → Option AV} (ho : opsOf o.op = [x])
    (h : ∀ (φ : Phi) (w : World) (ρ : Operand → Value) (a r : AV), f a = some r → V φ a (ρ x) → ∃ v, V φ r v ∧ (execOp ρ o).run P w = .ok (.value v) w) : Pur P o (on1 none f) := by
  intro φ w ρ xs r hr hv
  rw [ho] at hv
  match xs, hv, hr with
  | [a], hv, hr =>
    obtain ⟨v, hv, hv2⟩ := hv.one
    cases hv
    exact h φ w ρ a r hr hv2
  | [], _, hr => cases hr
  | _ :: _ :: _, _, hr => cases hr
theorem Pur.of2 {o : Oper} {x y : Operand} {f : AV → AV → Option AV} (ho : opsOf o.op = [x, y])
    (h : ∀ (φ : Phi) (w : World) (ρ : Operand → Value) (a b r : AV), f a b = some r → V φ a (ρ x) → V φ b (ρ y) → ∃ v, V φ r v ∧ (execOp ρ o).run P w = .ok (.value v) w) : Pur P o (on2 none f) := by
  intro φ w ρ xs r hr hv
  rw [ho] at hv
  match xs, hv, hr with
  | [a, b], hv, hr =>
    obtain ⟨v, u, hv, hv2, hv3⟩ := hv.two
    cases hv
    exact h φ w ρ a b r hr hv2 hv3
  | [], _, hr => cases hr
  | [_], _, hr => cases hr
  | _ :: _ :: _ :: _, _, hr => cases hr
theorem Red.of1 {o : Oper} {x : Operand} {f : AV → Hp → Option AV} (ho : opsOf o.op = [x])
    (h : ∀ (φ : Phi) (h : Hp) (w : World) (ρ : Operand → Value) (a r : AV), RelF φ h.get w → f a h = some r → V φ a (ρ x) → ∃ v, V φ r v ∧ (execOp ρ o).run P w = .ok (.value v) w) : Red P o fun xs h => on1 none (fun a => f a h) xs := by
  intro φ hp w ρ xs r hR hr hv
  rw [ho] at hv
  match xs, hv, hr with
  | [a], hv, hr =>
    obtain ⟨v, hv, hv2⟩ := hv.one
    cases hv
    exact h φ hp w ρ a r hR hr hv2
  | [], _, hr => cases hr
  | _ :: _ :: _, _, hr => cases hr
theorem Red.of2 {o : Oper} {x y : Operand} {f : AV → AV → Hp → Option AV} (ho : opsOf o.op = [x, y])
    (h : ∀ (φ : Phi) (h : Hp) (w : World) (ρ : Operand → Value) (a b r : AV), RelF φ h.get w → f a b h = some r → V φ a (ρ x) → V φ b (ρ y) → ∃ v, V φ r v ∧ (execOp ρ o).run P w = .ok (.value v) w) :
    Red P o fun xs h => on2 none (fun a b => f a b h) xs := by
  intro φ hp w ρ xs r hR hr hv
  rw [ho] at hv
  match xs, hv, hr with
  | [a, b], hv, hr =>
    obtain ⟨v, u, hv, hv2, hv3⟩ := hv.two
    cases hv
    exact h φ hp w ρ a b r hR hr hv2 hv3
  | [], _, hr => cases hr
  | [_], _, hr => cases hr
  | _ :: _ :: _ :: _, _, hr => cases hr
/-- One block with these cells. -/
theorem Made.one {φ : Phi} {w : World} {ty : Nat} {l : List AV} {z : Value} (hl : VL φ l z.cells.toList) (hc : areCells l) :
    Made φ w { w with heap := w.heap.push (.cells z.cells ty) } (.one ty (len l) l false) (fun i => .ptr i 0) (.pointer (some ⟨w.heap.size, 0, none⟩)) ⟨w.heap.size, 0, 0, 0⟩ where
  heap := ⟨_, rfl⟩
  os := rfl
  tape := rfl
  output := rfl
  place := rfl
  val := fun ψ i _ hi => ⟨_, hi, rfl⟩
  blk := fun ψ hle => ⟨z.cells, (0, 0), ty, by simp, rfl, len_eq _, VL.mono hle _ _ hl, hc, fun _ => ⟨rfl, rfl⟩⟩
  there := fun e => by cases e
theorem run_newVar (t : TypeId) (z : Value) (w : World) : (newVar t z).run P w = .ok ⟨w.heap.size, 0, none⟩ { w with heap := w.heap.push (.cells z.cells t) } := rfl
section
variable {dst : Option Tmp} {type : TypeId} {pos : String} {after : Array Edge} {guard : Option (Nat × Bool)}
theorem ok_move {x : Operand} : Pur P ⟨dst, .move x, type, pos, after, guard⟩ (on1 none some) :=
  Pur.of1 rfl fun _ w ρ a r h hv => by cases h; exact ⟨_, hv, rfl⟩
theorem ok_assign {x : Operand} : Pur P ⟨dst, .assign x, type, pos, after, guard⟩ (on1 none some) :=
  Pur.of1 rfl fun _ w ρ a r h hv => by cases h; exact ⟨_, hv, rfl⟩
theorem ok_alloc {e : TypeId} {z : List AV} (hz : zeroCs P e = some z) : Nw P ⟨dst, .alloc e, type, pos, after, guard⟩ (on0 NewR.bad (NewR.ok (mkOne e z) fun i => .ptr i 0)) := by
  intro φ w ρ xs b g hf hv
  cases xs with
  | cons x l => cases hf
  | nil =>
    cases hf
    obtain ⟨v, i, hi, h1, h2, h3⟩ := zeroCs_ok hz φ
    refine ⟨_, _, _, ?_, Made.one h1 h2⟩
    refine run_v ?_
    unfold Instr.alloc
    rw [Sem.run_bind, h3]
    rfl
theorem ok_box {e : TypeId} {x : Operand} : Nw P ⟨dst, .box e x, type, pos, after, guard⟩ (on1 NewR.bad fun v => @Option.rec _ (fun _ => NewR) NewR.bad (fun l => NewR.ok (.one e (len l) l false) fun i => .ptr i 0) (cellsO v)) := by
  intro φ w ρ xs b g hf hv
  match xs, hv, hf with
  | [a], hv, hf =>
    have hf : @Option.rec _ (fun _ => NewR) NewR.bad (fun l => NewR.ok (.one e (len l) l false) fun i => .ptr i 0) (cellsO a) = .ok b g := hf
    obtain ⟨v, hv, hv2⟩ := hv.one
    cases hv
    cases hl : cellsO a with
    | none => rw [hl] at hf; cases hf
    | some l =>
      rw [hl] at hf
      cases hf
      obtain ⟨h1, h2⟩ := cellsO_ok hl hv2
      exact ⟨_, _, _, run_v rfl, Made.one h1 h2⟩
  | [], _, hf => cases hf
  | _ :: _ :: _, _, hf => cases hf
theorem opt_some' {α β : Type} {o : Option α} {f : α → Option β} {r : β} (h : @Option.rec α (fun _ => Option β) none f o = some r) : ∃ x, o = some x ∧ f x = some r := opt_some h
theorem RelF.ptr {φ : Phi} {H : Id → Blk} {w : World} (r : RelF φ H w) {i : Id} {b : Blk} {o : Nat} {v : Value} (hb : b = H i) (hn : b ≠ .none) (hv : V φ (.ptr i o) v) : ∃ p, φ i = some p ∧ BRel φ w b p ∧ v = .pointer (some (p.at o)) := by
  subst hb
  obtain ⟨p, h1, h2⟩ := hv
  obtain ⟨q, h3, h4⟩ := r.live i hn
  rw [h1] at h3
  cases h3
  exact ⟨p, h1, h4, h2⟩
theorem loadN_ne {b : Blk} {o n : Nat} {l : List AV} (h : loadN b o n = some l) : b ≠ .none := fun e => by subst e; cases h
theorem load1_ne {b : Blk} {o : Nat} {l : AV} (h : load1 b o = some l) : b ≠ .none := fun e => by subst e; cases h
theorem ok_load_agg {t : TypeId} {x : Operand} (ha : isAggB P t = true) :
    Red P ⟨dst, .load t x, type, pos, after, guard⟩ fun xs h => on1 none (fun a => AV.onPtr a none fun i q => @Option.rec _ (fun _ => Option AV) none (fun l => some (.agg l)) (loadN (h.get i) q (szOf P t))) xs :=
  Red.of1 (f := fun a h => AV.onPtr a none fun i q => @Option.rec _ (fun _ => Option AV) none (fun l => some (.agg l)) (loadN (h.get i) q (szOf P t))) rfl fun φ h w ρ a r hR hf hv => by
    rcases AV.onPtr_some hf with ⟨i, q, rfl, h1⟩ | ⟨_, h1⟩
    · obtain ⟨l, h2, h3⟩ := opt_some h1
      cases h3
      obtain ⟨p, hp, hb, hx⟩ := hR.ptr rfl (loadN_ne h2) hv
      obtain ⟨vs, h4, h5, h6, h7, h8⟩ := loadN_ok (P := P) hb h2
      refine ⟨.agg vs.toArray, ⟨_, rfl, by simpa using h4, h7⟩, run_v ?_⟩
      have hk := isAggB_known ha
      rw [hx]
      simp only [Instr.loadAt, Instr.sureAddr, loadVar, pure_bind, Sem.run_bind, isAgg_run hk, ha, Result.andThen, if_true, sizeOf_undl hk, h8]
      rfl
    · cases h1
theorem ok_load_one {t : TypeId} {x : Operand} (hk : knownB P t = true) (ha : isAggB P t = false) :
    Red P ⟨dst, .load t x, type, pos, after, guard⟩ fun xs h => on1 none (fun a => AV.onPtr a none fun i q => load1 (h.get i) q) xs :=
  Red.of1 (f := fun a h => AV.onPtr a none fun i q => load1 (h.get i) q) rfl fun φ h w ρ a r hR hf hv => by
    rcases AV.onPtr_some hf with ⟨i, q, rfl, h2⟩ | ⟨_, h1⟩
    · obtain ⟨p, hp, hb, hx⟩ := hR.ptr rfl (load1_ne h2) hv
      obtain ⟨v, h4, h5, h8⟩ := load1_ok (P := P) hb h2
      refine ⟨v, h4, run_v ?_⟩
      have hk := knownB_ok hk
      rw [hx]
      simp only [Instr.loadAt, Instr.sureAddr, loadVar, pure_bind, Sem.run_bind, isAgg_run hk, ha, Result.andThen]
      simp [h8]
    · cases h1
end
end Go.Ax
namespace Go.Ax
open Go
variable {P : Program}

theorem toNat_ofNat' (n : Nat) : (Int.ofNat n).toNat = n := rfl
theorem part_ok {φ : Phi} {t : Nat} {l : List AV} {vs : Array Value} {o : Nat} {r : AV} (hk : undl P t ≠ .invalid) (h : partA (isAggB P t) l o (szOf P t) = some r) (hv : VL φ l vs.toList) (hc : areCells l) (w : World) :
    ∃ v, V φ r v ∧ (part t vs o).run P w = .ok v w := by
  unfold partA at h
  unfold part
  rw [Sem.run_bind, isAgg_run hk]
  cases ha : isAggB P t with
  | true =>
    rw [ha] at h
    dsimp only at h
    cases ht : takeX (dropA l o) (szOf P t) with
    | none => rw [ht] at h; cases h
    | some m =>
      rw [ht] at h
      cases h
      obtain ⟨h1, rfl⟩ := takeX_some _ _ _ ht
      rw [dropA_eq]
      refine ⟨.agg (vs.extract o (o + szOf P t)), ⟨_, rfl, ?_, areCells.take _ (areCells.drop _ hc)⟩, ?_⟩
      · have e : (vs.extract o (o + szOf P t)).toList = (vs.toList.drop o).take (szOf P t) := by simp
        rw [e]
        exact VL.take _ (VL.drop _ hv)
      · simp only [Result.andThen, if_true, Sem.run_bind, sizeOf_undl hk]
        rfl
  | false =>
    rw [ha] at h
    dsimp only at h
    rw [nth_eq] at h
    obtain ⟨v, h1, h2⟩ := hv.get h
    refine ⟨v, h2, ?_⟩
    have h1 : vs[o]? = some v := by simpa using h1
    simp [Result.andThen, h1]
theorem ixF_ok {φ : Phi} {lim es : Nat} {i : Id} {o : Nat} {y r : AV} {u : Value} (h : ixF lim es i o y = some r) (hu : V φ y u) :
    ∃ k n, u = .int k (Int.ofNat n) ∧ n < lim ∧ r = .ptr i (o + n * es) := by
  obtain ⟨k, b, rfl, h1⟩ := AV.onInt_some h
  cases b with
  | negSucc n => cases h1
  | ofNat n =>
    obtain ⟨h2, h3⟩ := bool_some h1
    cases h3
    exact ⟨k, n, hu, nat_ble h2, rfl⟩
section
variable {dst : Option Tmp} {type : TypeId} {pos : String} {after : Array Edge} {guard : Option (Nat × Bool)}
theorem ok_nilCheck {x : Operand} : Pur P ⟨dst, .nilCheck x, type, pos, after, guard⟩ (on1 none fun x => AV.onPtr x (match x with
      | .fn _ _ _ => some x
      | .yld _ => some x
      | _ => none) fun _ _ => some x) :=
  Pur.of1 rfl fun φ w ρ a r hf hv => by
    rcases AV.onPtr_some hf with ⟨i, q, rfl, h1⟩ | ⟨_, h1⟩
    · cases h1
      refine ⟨_, hv, ?_⟩
      obtain ⟨p, hp, hx⟩ := hv
      simp only [execOp, hx]
      rfl
    · split at h1
      · cases h1
        refine ⟨_, hv, ?_⟩
        obtain ⟨xs, ys, hx, _⟩ := hv
        simp only [execOp, hx]
        rfl
      · cases h1
        refine ⟨_, hv, ?_⟩
        obtain ⟨p, hp, hx⟩ := hv
        simp only [execOp, hx]
        rfl
      · cases h1
theorem ok_fieldAddr {t : TypeId} {x : Operand} {f : Nat} {fs : Array Field} {p : Nat × Nat} (ht : undl P t = .struct fs) (hp : placeOf P t f = some p) (hz : Nat.beq p.2 0 = false) :
    Pur P ⟨dst, .fieldAddr t x f, type, pos, after, guard⟩ (on1 none fun x => AV.onPtr x none fun i o => some (.ptr i (Nat.add o p.1))) :=
  Pur.of1 rfl fun φ w ρ a r hf hv => by
    rcases AV.onPtr_some hf with ⟨i, q, rfl, h1⟩ | ⟨_, h1⟩
    · cases h1
      obtain ⟨pl, hpl, hx⟩ := hv
      unfold placeOf at hp
      rw [ht] at hp
      dsimp only at hp
      cases hfd : fs[f]? with
      | none => rw [hfd] at hp; cases hp
      | some fd =>
        rw [hfd] at hp
        cases hp
        obtain ⟨i', hi'⟩ := szOf_pos hz
        have hsz : szOf P fd.type ≠ 0 := nat_nbeq hz
        refine ⟨.pointer (some (pl.at (q + fd.offset))), ⟨pl, hpl, rfl⟩, run_v ?_⟩
        rw [hx]
        have hu := undl_run ht (by intro e; cases e) w
        simp only [Instr.fieldAt, Sem.run_bind, hu, Result.andThen, hfd, Instr.sureAddr, Sem.run_pure, fieldPlace, sizeOf_run hi', if_neg hsz, Pl.at_add]
    · cases h1
theorem ok_field {t : TypeId} {x : Operand} {f : Nat} {fs : Array Field} {fd : Field} (ht : undl P t = .struct fs) (hfd : fs[f]? = some fd) (hk : knownB P fd.type = true) :
    Pur P ⟨dst, .field t x f, type, pos, after, guard⟩ (on1 none fun x => AV.onAgg x none fun l => partA (isAggB P fd.type) l fd.offset (szOf P fd.type)) :=
  Pur.of1 rfl fun φ w ρ a r hf hv => by
    obtain ⟨l, rfl, h1⟩ := AV.onAgg_some hf
    obtain ⟨vs, hx, h2, h3⟩ := hv
    obtain ⟨v, h4, h5⟩ := part_ok (knownB_ok hk) h1 h2 h3 w
    refine ⟨v, h4, run_v ?_⟩
    have hu := undl_run ht (by intro e; cases e) w
    rw [hx]
    simp only [Instr.field, Sem.run_bind, hu, Result.andThen, hfd, asAgg, Sem.run_pure, h5]
theorem ok_extract {x : Operand} {i : Nat} : Pur P ⟨dst, .extract x i, type, pos, after, guard⟩ (on1 none fun x => AV.onTup x none fun l => nth l i) :=
  Pur.of1 rfl fun φ w ρ a r hf hv => by
    obtain ⟨l, rfl, h1⟩ := AV.onTup_some hf
    obtain ⟨vs, hx, h2⟩ := hv
    rw [nth_eq] at h1
    obtain ⟨v, h3, h4⟩ := h2.get h1
    have h3 : vs[i]? = some v := by simpa using h3
    refine ⟨v, h4, run_v ?_⟩
    rw [hx]
    simp [Instr.extract, h3]
theorem ok_indexAddr_arr {t : TypeId} {x y : Operand} {an : Nat} {e : TypeId} (ht : undl P t = .array an e) (hz : Nat.beq (szOf P e) 0 = false) :
    Pur P ⟨dst, .indexAddr t x y, type, pos, after, guard⟩ (on2 none fun x y => AV.onPtr x none fun i o => ixF an (szOf P e) i o y) :=
  Pur.of2 rfl fun φ w ρ a b r hf hv hu => by
    rcases AV.onPtr_some hf with ⟨i, q, rfl, h1⟩ | ⟨_, h1⟩
    · obtain ⟨k, n, hn, hlt, rfl⟩ := ixF_ok h1 hu
      obtain ⟨pl, hpl, hx⟩ := hv
      obtain ⟨i', hi'⟩ := szOf_pos hz
      refine ⟨.pointer (some (pl.at (q + n * szOf P e))), ⟨pl, hpl, rfl⟩, run_v ?_⟩
      have hu := undl_run ht (by intro e; cases e) w
      rw [hx, hn]
      have h0 : (0 : Int) ≤ Int.ofNat n ∧ Int.ofNat n < (an : Int) := ⟨Int.natCast_nonneg n, by exact Int.ofNat_lt.2 hlt⟩
      simp only [Instr.indexAt, asIntOf, Sem.run_bind, Sem.run_pure, hu, Result.andThen, Instr.sureAddr, if_pos h0, sizeOf_run hi', Pl.at_add, toNat_ofNat']
    · cases h1
theorem ok_indexAddr_sl {t : TypeId} {x y : Operand} {e : TypeId} (ht : undl P t = .slice e) (hz : Nat.beq (szOf P e) 0 = false) :
    Pur P ⟨dst, .indexAddr t x y, type, pos, after, guard⟩ (on2 none fun x y => AV.onSl x none fun i o m _ => ixF m (szOf P e) i o y) :=
  Pur.of2 rfl fun φ w ρ a b r hf hv hu => by
    rcases AV.onSl_some hf with ⟨i, q, m, c, rfl, h1⟩ | ⟨_, h1⟩
    · obtain ⟨k, n, hn, hlt, rfl⟩ := ixF_ok h1 hu
      obtain ⟨i', hi'⟩ := szOf_pos hz
      have hs : ∃ pl c', φ i = some pl ∧ ρ x = .slice (some (pl.at q)) m c' := by
        cases c with
        | some c => obtain ⟨pl, h2, h3, _⟩ := hv; exact ⟨pl, _, h2, h3⟩
        | none => obtain ⟨pl, c', h2, h3, _⟩ := hv; exact ⟨pl, _, h2, h3⟩
      obtain ⟨pl, c', hpl, hx⟩ := hs
      refine ⟨.pointer (some (pl.at (q + n * szOf P e))), ⟨pl, hpl, rfl⟩, run_v ?_⟩
      have hu := undl_run ht (by intro e; cases e) w
      rw [hx, hn]
      have h0 : (0 : Int) ≤ Int.ofNat n ∧ Int.ofNat n < (m : Int) := ⟨Int.natCast_nonneg n, by exact Int.ofNat_lt.2 hlt⟩
      simp only [Instr.indexAt, asIntOf, Sem.run_bind, Sem.run_pure, hu, Result.andThen, if_pos h0, sizeOf_run hi', Pl.at_add, toNat_ofNat']
    · cases h1
end
end Go.Ax
namespace Go.Ax
open Go
variable {P : Program}

theorem iadd_eq (a b : Int) : iadd a b = a + b := by cases a <;> cases b <;> rfl
theorem isub_eq (a b : Int) : isub a b = a - b := by
  cases a with
  | ofNat m => cases b with
    | ofNat n =>
      have e : isub (.ofNat m) (.ofNat n) = @Bool.rec (fun _ => Int) (Int.subNatNat m n) (.ofNat (Nat.sub m n)) (Nat.ble n m) := rfl
      rw [e]
      cases hb : Nat.ble n m with
      | true =>
        have := nat_ble hb
        show ((m - n : Nat) : Int) = (m : Int) - n
        omega
      | false => show Int.subNatNat m n = (m : Int) - n; rw [Int.subNatNat_eq_coe]
    | negSucc n => show ((m + (n + 1) : Nat) : Int) = (m : Int) - Int.negSucc n; omega
  | negSucc m => cases b with
    | ofNat n => show Int.negSucc (m + n) = Int.negSucc m - (n : Int); omega
    | negSucc n => show Int.subNatNat n m = _; rw [Int.subNatNat_eq_coe]; omega
theorem imul_eq (a b : Int) : imul a b = a * b := by cases a <;> cases b <;> rfl
theorem wrap64 (n : Int) (h1 : -9223372036854775808 ≤ n) (h2 : n < 9223372036854775808) : IntKind.wrap .i64 n = n := by
  have e1 : (2 : Int) ^ IntKind.bits .i64 = 18446744073709551616 := by decide
  have e2 : (2 : Int) ^ (IntKind.bits .i64 - 1) = 9223372036854775808 := by decide
  have e3 : IntKind.signed .i64 = true := rfl
  unfold IntKind.wrap
  rw [e1, e2, e3]
  simp only [Bool.true_and]
  split
  · rename_i h; have := of_decide_eq_true h; omega
  · rename_i h; have : ¬ n % 18446744073709551616 ≥ 9223372036854775808 := fun hh => h (decide_eq_true hh); omega
theorem wrapI_eq (k : IntKind) (n : Int) : wrapI k n = k.wrap n := by
  cases k <;> try rfl
  · cases n with
    | ofNat m =>
      have e : wrapI .i64 (.ofNat m) = @Bool.rec (fun _ => Int) (.ofNat m) (wrapS .i64 (.ofNat m)) (Nat.ble 9223372036854775808 m) := rfl
      rw [e]
      cases hb : Nat.ble 9223372036854775808 m with
      | true => rfl
      | false =>
        have := nat_nble hb
        exact (wrap64 (m : Int) (by omega) (by omega)).symm
    | negSucc m =>
      have e : wrapI .i64 (.negSucc m) = @Bool.rec (fun _ => Int) (.negSucc m) (wrapS .i64 (.negSucc m)) (Nat.ble 9223372036854775808 m) := rfl
      rw [e]
      cases hb : Nat.ble 9223372036854775808 m with
      | true => rfl
      | false =>
        have := nat_nble hb
        exact (wrap64 (Int.negSucc m) (by omega) (by omega)).symm
  · cases n with
    | ofNat m => show ((m % 256 : Nat) : Int) = IntKind.wrap .u8 (m : Int); simp [IntKind.wrap, IntKind.bits, IntKind.signed]
    | negSucc m => rfl
  · cases n with
    | ofNat m => show ((m % 4294967296 : Nat) : Int) = IntKind.wrap .u32 (m : Int); simp [IntKind.wrap, IntKind.bits, IntKind.signed]
    | negSucc m => rfl
  · cases n with
    | ofNat m => show ((m % 18446744073709551616 : Nat) : Int) = IntKind.wrap .u64 (m : Int); simp [IntKind.wrap, IntKind.bits, IntKind.signed]
    | negSucc m => rfl
theorem iltB_eq (a b : Int) : iltB a b = decide (a < b) := by
  cases a with
  | ofNat m => cases b with
    | ofNat n =>
      show Nat.ble (m + 1) n = _
      cases hb : Nat.ble (m + 1) n with
      | true => have := nat_ble hb; exact (decide_eq_true (by show (m : Int) < n; omega)).symm
      | false => have := nat_nble hb; exact (decide_eq_false (by show ¬ (m : Int) < n; omega)).symm
    | negSucc n => exact (decide_eq_false (by show ¬ (m : Int) < _; omega)).symm
  | negSucc m => cases b with
    | ofNat n => exact (decide_eq_true (by show _ < (n : Int); omega)).symm
    | negSucc n =>
      show Nat.ble (n + 1) m = _
      cases hb : Nat.ble (n + 1) m with
      | true => have := nat_ble hb; exact (decide_eq_true (by omega)).symm
      | false => have := nat_nble hb; exact (decide_eq_false (by omega)).symm
theorem ieqB_eq (a b : Int) : ieqB a b = decide (a = b) := by
  cases a with
  | ofNat m => cases b with
    | ofNat n =>
      show Nat.beq m n = _
      cases hb : Nat.beq m n with
      | true => have := nat_beq hb; exact (decide_eq_true (by rw [this])).symm
      | false => have := nat_nbeq hb; exact (decide_eq_false (by show ¬ (m : Int) = n; omega)).symm
    | negSucc n => exact (decide_eq_false (by show ¬ (m : Int) = _; omega)).symm
  | negSucc m => cases b with
    | ofNat n => exact (decide_eq_false (by show ¬ _ = (n : Int); omega)).symm
    | negSucc n =>
      show Nat.beq m n = _
      cases hb : Nat.beq m n with
      | true => have := nat_beq hb; exact (decide_eq_true (by rw [this])).symm
      | false => have := nat_nbeq hb; exact (decide_eq_false (by omega)).symm
theorem notB_eq (b : Bool) : notB b = !b := by cases b <;> rfl
theorem boolEq_eq (a b : Bool) : boolEq a b = (a == b) := by cases a <;> cases b <;> rfl
theorem kindB_eq {a b : IntKind} (h : kindB a b = true) : a = b := by revert h; cases a <;> cases b <;> first | (intro _; rfl) | (intro h; cases h)
theorem bytesEq_nil (b : List UInt8) : bytesEq [] b = @List.rec UInt8 (fun _ => Bool) true (fun _ _ _ => false) b := rfl
theorem bytesEq_cons (x : UInt8) (a b : List UInt8) : bytesEq (x :: a) b = @List.rec UInt8 (fun _ => Bool) false (fun y r _ => @Bool.rec (fun _ => Bool) false (bytesEq a r) (Nat.beq x.toNat y.toNat)) b := rfl
theorem bytesEq_eq : ∀ a b : List UInt8, bytesEq a b = (a == b)
  | [], [] => rfl
  | [], _ :: _ => rfl
  | _ :: _, [] => rfl
  | x :: a, y :: b => by
    have e : bytesEq (x :: a) (y :: b) = @Bool.rec (fun _ => Bool) false (bytesEq a b) (Nat.beq x.toNat y.toNat) := rfl
    rw [e, bytesEq_eq a b]
    have hxy : Nat.beq x.toNat y.toNat = (x == y) := by
      cases hb : Nat.beq x.toNat y.toNat with
      | true => rw [UInt8.toNat_inj.1 (nat_beq hb)]; simp
      | false =>
        have := nat_nbeq hb
        exact (beq_eq_false_iff_ne.2 fun e => this (by rw [e])).symm
    rw [hxy, List.cons_beq_cons]
    cases (x == y) <;> rfl
theorem bytesLt_eq : ∀ a b : List UInt8, bytesLt a b = Op.bytesLess a b
  | [], [] => rfl
  | _ :: _, [] => rfl
  | [], _ :: _ => rfl
  | x :: a, y :: b => by
    have e : bytesLt (x :: a) (y :: b) = (match Nat.ble (x.toNat + 1) y.toNat with
      | true => true
      | false => match Nat.beq x.toNat y.toNat with
        | true => bytesLt a b
        | false => false) := rfl
    rw [e, bytesLt_eq a b, Op.bytesLess]
    cases hb : Nat.ble (x.toNat + 1) y.toNat with
    | true =>
      have : x < y := UInt8.lt_iff_toNat_lt.2 (nat_ble hb)
      simp [this]
    | false =>
      have h1 : ¬ x < y := fun h => by have := UInt8.lt_iff_toNat_lt.1 h; have := nat_nble hb; omega
      cases hb2 : Nat.beq x.toNat y.toNat with
      | true => rw [UInt8.toNat_inj.1 (nat_beq hb2)] at h1 ⊢; simp [h1]
      | false =>
        have := nat_nbeq hb2
        have h2 : (x == y) = false := beq_eq_false_iff_ne.2 fun e => this (by rw [e])
        simp [h1, h2]
end Go.Ax
namespace Go.Ax
open Go
variable {P : Program}

theorem limK_pow (k : IntKind) : ∃ j, limK k = 2 ^ j ∧ j ≤ k.bits := by
  cases k
  · exact ⟨7, rfl, by decide⟩
  · exact ⟨15, rfl, by decide⟩
  · exact ⟨31, rfl, by decide⟩
  · exact ⟨63, rfl, by decide⟩
  · exact ⟨8, rfl, by decide⟩
  · exact ⟨16, rfl, by decide⟩
  · exact ⟨32, rfl, by decide⟩
  · exact ⟨64, rfl, by decide⟩
theorem limK_le (k : IntKind) : limK k ≤ 2 ^ k.bits := by
  obtain ⟨j, h1, h2⟩ := limK_pow k
  rw [h1]
  exact Nat.pow_le_pow_right (by omega) h2
theorem limK_eq (k : IntKind) : limK k = if k.signed = true then 2 ^ (k.bits - 1) else 2 ^ k.bits := by cases k <;> decide
theorem wrap_lim (k : IntKind) {n : Nat} (h : n < limK k) : k.wrap (n : Int) = n := by
  have h1 : n < 2 ^ k.bits := Nat.lt_of_lt_of_le h (limK_le k)
  have h2 : ((n : Int) % (2 ^ k.bits : Int)) = n := Int.emod_eq_of_lt (Int.natCast_nonneg n) (by exact_mod_cast h1)
  unfold IntKind.wrap
  rw [h2]
  dsimp only
  rw [if_neg]
  intro hc
  rw [Bool.and_eq_true, decide_eq_true_eq] at hc
  rw [limK_eq, if_pos hc.1] at h
  have h3 : (n : Int) < (2 ^ (k.bits - 1) : Int) := by exact_mod_cast h
  omega
theorem bv_lim (k : IntKind) {n : Nat} (h : n < limK k) : (BitVec.ofInt k.bits (Int.ofNat n)).toNat = n := by
  have e : BitVec.ofInt k.bits (Int.ofNat n) = BitVec.ofNat k.bits n := BitVec.ofInt_natCast _ _
  rw [e, BitVec.toNat_ofNat]
  exact Nat.mod_eq_of_lt (Nat.lt_of_lt_of_le h (limK_le k))
theorem andNot_eq {m : Nat} (a b : BitVec m) : a &&& ~~~b = a ^^^ (a &&& b) := by
  ext i hi
  simp only [BitVec.getElem_and, BitVec.getElem_not, BitVec.getElem_xor]
  cases a[i] <;> cases b[i] <;> rfl
theorem eqGuard_int (op : BinOp) (t : TypeId) (x y : Operand) (k : IntKind) (n : Int) (v : Value) : eqGuard op t x y (.int k n) v = pure () := by cases op <;> rfl
theorem eqGuard_str (op : BinOp) (t : TypeId) (x y : Operand) (s : ByteArray) (v : Value) : eqGuard op t x y (.string s) v = pure () := by cases op <;> rfl
theorem le_lt (a b : Int) : decide (a ≤ b) = !decide (b < a) := by
  by_cases h : a ≤ b
  · rw [decide_eq_true h, decide_eq_false (by omega)]; rfl
  · rw [decide_eq_false h, decide_eq_true (by omega)]; rfl
/-- Two numbers that are not negative, bit by bit. -/
theorem bitop_ok {k : IntKind} {a b : Int} {g : Nat → Nat → Nat} {r : AV} (h : @Int.rec (fun _ => Option AV) (fun m => @Int.rec (fun _ => Option AV) (fun n => @Bool.rec (fun _ => Option AV) (@Bool.rec (fun _ => Option AV) (some (.int k (.ofNat (g m n)))) none (Nat.ble (limK k) n)) none (Nat.ble (limK k) m)) (fun _ => none) b) (fun _ => none) a = some r) :
    ∃ m n, a = Int.ofNat m ∧ b = Int.ofNat n ∧ m < limK k ∧ n < limK k ∧ r = .int k (.ofNat (g m n)) := by
  cases a with
  | negSucc m => cases h
  | ofNat m => cases b with
    | negSucc n => cases h
    | ofNat n =>
      rcases bool_rec h with ⟨h1, h⟩ | ⟨_, h⟩
      · rcases bool_rec h with ⟨h2, h⟩ | ⟨_, h⟩
        · cases h
          exact ⟨m, n, rfl, rfl, nat_nble h1, nat_nble h2, rfl⟩
        · cases h
      · cases h
theorem binI_ok {op : BinOp} {f : IntKind → Int → Int → Option AV} {k : IntKind} {a b : Int} {r : AV} (hf : binI op = some f) (h : f k a b = some r) (φ : Phi) (t : TypeId) (w : World) :
    ∃ v, V φ r v ∧ (binOp op t (.int k a) (.int k b)).run P w = .ok v w := by
  cases op
  all_goals first | (cases hf; done) | skip
  all_goals cases hf
  case add => cases h; exact ⟨_, rfl, by rw [iadd_eq, wrapI_eq, binOp_add]; rfl⟩
  case sub => cases h; exact ⟨_, rfl, by rw [isub_eq, wrapI_eq, binOp_sub]; rfl⟩
  case mul => cases h; exact ⟨_, rfl, by rw [imul_eq, wrapI_eq, binOp_mul]; rfl⟩
  case quo =>
    rcases bool_rec h with ⟨h0, h1⟩ | ⟨_, h1⟩
    · cases h1
      rw [ieqB_eq] at h0
      refine ⟨_, rfl, ?_⟩
      rw [wrapI_eq, binOp_quo, Op.intDiv, if_neg (of_decide_eq_false h0)]
      rfl
    · cases h1
  case rem =>
    rcases bool_rec h with ⟨h0, h1⟩ | ⟨_, h1⟩
    · cases h1
      rw [ieqB_eq] at h0
      refine ⟨_, rfl, ?_⟩
      rw [binOp_rem, Op.intDiv, if_neg (of_decide_eq_false h0)]
      rfl
    · cases h1
  case eql => cases h; exact ⟨_, rfl, by rw [ieqB_eq, binOp_eql]; rfl⟩
  case neq => cases h; exact ⟨_, rfl, by rw [ieqB_eq, notB_eq, binOp_neq]; rfl⟩
  case lss => cases h; exact ⟨_, rfl, by rw [iltB_eq, binOp_lss]; rfl⟩
  case leq => cases h; exact ⟨_, rfl, by rw [iltB_eq, notB_eq, binOp_leq, le_lt]; rfl⟩
  case gtr => cases h; exact ⟨_, rfl, by rw [iltB_eq, binOp_gtr]; rfl⟩
  case geq => cases h; exact ⟨_, rfl, by rw [iltB_eq, notB_eq, binOp_geq]; show (pure (Value.bool (decide (b ≤ a))) : Sem Value).run P w = _; rw [le_lt]; rfl⟩
  case and =>
    obtain ⟨m, n, rfl, rfl, hm, hn, rfl⟩ := bitop_ok (g := Nat.land) h
    refine ⟨_, rfl, ?_⟩
    obtain ⟨j, hj, _⟩ := limK_pow k
    rw [binOp_and, Op.intBits]
    dsimp only
    rw [BitVec.toNat_and, bv_lim k hm, bv_lim k hn, wrap_lim k (by rw [hj] at hm ⊢; exact Nat.and_lt_two_pow _ (by omega))]
    rfl
  case or =>
    obtain ⟨m, n, rfl, rfl, hm, hn, rfl⟩ := bitop_ok (g := Nat.lor) h
    refine ⟨_, rfl, ?_⟩
    obtain ⟨j, hj, _⟩ := limK_pow k
    rw [binOp_or, Op.intBits]
    dsimp only
    rw [BitVec.toNat_or, bv_lim k hm, bv_lim k hn, wrap_lim k (by rw [hj] at hm hn ⊢; exact Nat.or_lt_two_pow hm hn)]
    rfl
  case xor =>
    obtain ⟨m, n, rfl, rfl, hm, hn, rfl⟩ := bitop_ok (g := Nat.xor) h
    refine ⟨_, rfl, ?_⟩
    obtain ⟨j, hj, _⟩ := limK_pow k
    rw [binOp_xor, Op.intBits]
    dsimp only
    rw [BitVec.toNat_xor, bv_lim k hm, bv_lim k hn, wrap_lim k (by rw [hj] at hm hn ⊢; exact Nat.xor_lt_two_pow hm hn)]
    rfl
  case andNot =>
    obtain ⟨m, n, rfl, rfl, hm, hn, rfl⟩ := bitop_ok (g := fun m n => Nat.xor m (Nat.land m n)) h
    refine ⟨_, rfl, ?_⟩
    obtain ⟨j, hj, _⟩ := limK_pow k
    rw [binOp_andNot, Op.intBits]
    dsimp only
    rw [andNot_eq, BitVec.toNat_xor, BitVec.toNat_and, bv_lim k hm, bv_lim k hn, wrap_lim k (by rw [hj] at hm hn ⊢; exact Nat.xor_lt_two_pow hm (Nat.and_lt_two_pow _ hn))]
    rfl
theorem toList_mk (l : List UInt8) : (⟨⟨l⟩⟩ : ByteArray).toList = l := by
  rw [ByteArray.toList_eq]
theorem append_mk (a b : List UInt8) : (⟨⟨a⟩⟩ : ByteArray) ++ ⟨⟨b⟩⟩ = ⟨⟨a ++ b⟩⟩ := by
  apply ByteArray.ext
  simp
theorem less_other : ∀ a b : List UInt8, Op.bytesLess b a = !(Op.bytesLess a b || a == b)
  | [], [] => rfl
  | [], _ :: _ => rfl
  | _ :: _, [] => rfl
  | x :: a, y :: b => by
    rw [Op.bytesLess, Op.bytesLess, less_other a b, List.cons_beq_cons]
    by_cases h : x = y
    · subst h
      have : ¬ x < x := fun h => by have := UInt8.lt_iff_toNat_lt.1 h; omega
      simp [this]
    · have h1 : (x == y) = false := beq_eq_false_iff_ne.2 h
      have h2 : (y == x) = false := beq_eq_false_iff_ne.2 (Ne.symm h)
      have h3 : x.toNat ≠ y.toNat := fun e => h (UInt8.toNat_inj.1 e)
      have h4 : decide (y < x) = !decide (x < y) := by
        by_cases h5 : x < y
        · have := UInt8.lt_iff_toNat_lt.1 h5
          rw [decide_eq_true h5, decide_eq_false (fun h6 => by have := UInt8.lt_iff_toNat_lt.1 h6; omega)]; rfl
        · rw [decide_eq_false h5, decide_eq_true (UInt8.lt_iff_toNat_lt.2 (by have : ¬ x.toNat < y.toNat := fun h6 => h5 (UInt8.lt_iff_toNat_lt.2 h6); omega))]; rfl
      simp only [h1, h2, h4, Bool.false_and, Bool.or_false]
theorem binS_ok {op : BinOp} {a b : List UInt8} {r : AV} (h : binS op a b = some r) (φ : Phi) (t : TypeId) (w : World) :
    ∃ v, V φ r v ∧ (binOp op t (.string ⟨⟨a⟩⟩) (.string ⟨⟨b⟩⟩)).run P w = .ok v w := by
  have e : ∀ op', op' ≠ .shl → op' ≠ .shr → binOp op' t (.string ⟨⟨a⟩⟩) (.string ⟨⟨b⟩⟩) = Op.stringOp op' ⟨⟨a⟩⟩ ⟨⟨b⟩⟩ := by
    intro op' h1 h2
    cases op' <;> first | rfl | exact absurd rfl h1 | exact absurd rfl h2
  cases op
  all_goals first | (cases h; done) | skip
  case add =>
    unfold binS at h
    dsimp only at h
    cases hb : Nat.ble (len a + len b) 1000000 with
    | false => rw [hb] at h; cases h
    | true =>
      rw [hb] at h
      cases h
      refine ⟨_, rfl, ?_⟩
      rw [e _ (by decide) (by decide), Op.stringOp]
      have hle := nat_ble hb
      rw [len_eq, len_eq] at hle
      have h1 : (⟨⟨a⟩⟩ : ByteArray).size = a.length := rfl
      have h2 : (⟨⟨b⟩⟩ : ByteArray).size = b.length := rfl
      have h3 : IntKind.max .i64 = 9223372036854775807 := by decide
      rw [h1, h2, h3, if_neg (by omega), append_mk]
      rfl
  all_goals (cases h; refine ⟨_, rfl, ?_⟩; rw [e _ (by decide) (by decide), Op.stringOp]; simp only [toList_mk, bytesEq_eq, bytesLt_eq, notB_eq])
  all_goals first | rfl | skip
  all_goals (simp only [less_other a b, Bool.not_not]; rfl)
end Go.Ax
namespace Go.Ax
open Go
variable {P : Program}
section
variable {dst : Option Tmp} {type : TypeId} {pos : String} {after : Array Edge} {guard : Option (Nat × Bool)}
theorem run_binOp {op : BinOp} {t : TypeId} {x y : Operand} {a b v : Value} {w : World} (h1 : (eqGuard op t x y a b) = pure ()) (h2 : (binOp op t a b).run P w = .ok v w) :
    (do eqGuard op t x y a b; binOp op t a b : Sem Value).run P w = .ok v w := by
  rw [h1]; exact h2
theorem ok_bin {op : BinOp} {t : TypeId} {x y : Operand} {b : TypeId} {f : IntKind → Int → Int → Option AV} (hf : binI op = some f) : Pur P ⟨dst, .binOp op t x y b, type, pos, after, guard⟩ (on2 none (bin2 f op)) :=
  Pur.of2 rfl fun φ w ρ a c r h hv hu => by
    rcases AV.onIS_some h with ⟨k, n, rfl, h1⟩ | ⟨l, rfl, h1⟩ | ⟨_, _, h1⟩
    · obtain ⟨k', m, rfl, h2⟩ := AV.onInt_some h1
      obtain ⟨hk, h3⟩ := bool_some h2
      cases kindB_eq hk
      obtain ⟨v, h4, h5⟩ := binI_ok hf h3 φ t w
      have hx : ρ x = .int k n := hv
      have hy : ρ y = .int k m := hu
      refine ⟨v, h4, run_v ?_⟩
      rw [hx, hy]
      exact run_binOp (eqGuard_int _ _ _ _ _ _ _) h5
    · obtain ⟨l', rfl, h2⟩ := AV.onStr_some h1
      obtain ⟨v, h4, h5⟩ := binS_ok h2 φ t w
      have hx : ρ x = .string ⟨⟨l⟩⟩ := hv
      have hy : ρ y = .string ⟨⟨l'⟩⟩ := hu
      refine ⟨v, h4, run_v ?_⟩
      rw [hx, hy]
      exact run_binOp (eqGuard_str _ _ _ _ _ _) h5
    · cases h1
theorem ok_shl {t : TypeId} {x y : Operand} {b : TypeId} : Pur P ⟨dst, .binOp .shl t x y b, type, pos, after, guard⟩ (on2 none shl) :=
  Pur.of2 rfl fun φ w ρ a c r h hv hu => by
    obtain ⟨k, n, rfl, h1⟩ := AV.onInt_some h
    obtain ⟨k', m, rfl, h2⟩ := AV.onInt_some h1
    cases m with
    | negSucc m => cases h2
    | ofNat m =>
      cases h2
      have hx : ρ x = .int k n := hv
      have hy : ρ y = .int k' (Int.ofNat m) := hu
      refine ⟨_, rfl, run_v ?_⟩
      rw [hx, hy]
      refine run_binOp (eqGuard_int _ _ _ _ _ _ _) ?_
      rw [binOp_shl, Op.shift, if_neg (by show ¬ (m : Int) < 0; omega), wrapI_eq]
      rfl
theorem ok_shr {t : TypeId} {x y : Operand} {b : TypeId} : Pur P ⟨dst, .binOp .shr t x y b, type, pos, after, guard⟩ (on2 none shr) :=
  Pur.of2 rfl fun φ w ρ a c r h hv hu => by
    obtain ⟨k, n, rfl, h1⟩ := AV.onInt_some h
    obtain ⟨k', m, rfl, h2⟩ := AV.onInt_some h1
    cases m with
    | negSucc m => cases h2
    | ofNat m =>
      cases n with
      | negSucc n => cases h2
      | ofNat n =>
        cases h2
        have hx : ρ x = .int k (Int.ofNat n) := hv
        have hy : ρ y = .int k' (Int.ofNat m) := hu
        refine ⟨_, rfl, run_v ?_⟩
        rw [hx, hy]
        refine run_binOp (eqGuard_int _ _ _ _ _ _ _) ?_
        rw [binOp_shr, Op.shift, if_neg (by show ¬ (m : Int) < 0; omega)]
        have e : (Int.ofNat n).fdiv (2 ^ (min (Int.ofNat m).toNat k.bits)) = Int.ofNat (Nat.div n (2 ^ (min m k.bits))) := by
          have e1 : (2 : Int) ^ (min (Int.ofNat m).toNat k.bits) = ((2 ^ (min m k.bits) : Nat) : Int) := by
            rw [Int.natCast_pow]; rfl
          rw [e1, Int.fdiv_eq_ediv_of_nonneg _ (Int.natCast_nonneg _)]
          rfl
        show (pure (Value.int k ((Int.ofNat n).fdiv (2 ^ (min (Int.ofNat m).toNat k.bits)))) : Sem Value).run P w = _
        rw [e]
        rfl
theorem ok_un {op : UnOp} {t : TypeId} {x : Operand} : Pur P ⟨dst, .unOp op t x, type, pos, after, guard⟩ (on1 none (un op)) :=
  Pur.of1 rfl fun φ w ρ a r h hv => by
    unfold un at h
    split at h
    · cases h
      rename_i b
      have hx : ρ x = .bool b := hv
      refine ⟨_, rfl, run_v ?_⟩
      rw [hx, notB_eq]
      rfl
    · cases h
      rename_i k n
      have hx : ρ x = .int k n := hv
      refine ⟨_, rfl, run_v ?_⟩
      rw [hx, wrapI_eq, isub_eq]
      rfl
    · rename_i k m
      have hx : ρ x = .int k (Int.ofNat m) := hv
      split at h
      · rename_i hu hm
        cases h
        refine ⟨_, rfl, run_v ?_⟩
        rw [hx]
        have hm := nat_ble hm
        have hs : k.signed = false := by revert hu; cases k <;> intro hu <;> first | rfl | cases hu
        have hmax : k.max = Int.ofNat (limK k - 1) := by revert hu; cases k <;> intro hu <;> first | decide | cases hu
        have hlm : limK k - 1 < limK k := by omega
        show (Op.intBits .xor k (if k.signed then -1 else k.max) (Int.ofNat m)).run P w = _
        rw [hs, hmax, Op.intBits]
        obtain ⟨j, hj, _⟩ := limK_pow k
        have hl : Nat.xor (limK k - 1) m < limK k := by rw [hj] at hm hlm ⊢; exact Nat.xor_lt_two_pow hlm (by omega)
        show (pure (Value.int k (k.wrap ((BitVec.ofInt k.bits (Int.ofNat (limK k - 1)) ^^^ BitVec.ofInt k.bits (Int.ofNat m)).toNat : Int))) : Sem Value).run P w = _
        rw [BitVec.toNat_xor, bv_lim k hlm, bv_lim k (by omega)]
        have e := wrap_lim k hl
        show (pure (Value.int k (k.wrap ((Nat.xor (limK k - 1) m : Nat) : Int))) : Sem Value).run P w = _
        rw [e]
        rfl
      · cases h
    · cases h
theorem ok_pick {c x y : Operand} : Pur P ⟨dst, .pick c x y, type, pos, after, guard⟩ fun as => match as with | [.bool r, a, b] => some (@Bool.rec (fun _ => AV) b a r) | _ => none := by
  intro φ w ρ xs r h hv
  dsimp only at h
  split at h
  · rename_i b a d
    cases h
    obtain ⟨v1, r1, e1, h1, h2⟩ := hv
    obtain ⟨v2, v3, e2, h3, h4⟩ := VL.two h2
    subst e2
    have e1 : [ρ c, ρ x, ρ y] = [v1, v2, v3] := e1
    cases e1
    have hc : ρ c = .bool b := h1
    cases b with
    | true => exact ⟨_, h3, by simp only [execOp, hc]; rfl⟩
    | false => exact ⟨_, h4, by simp only [execOp, hc]; rfl⟩
  · cases h
theorem ok_makeFunc0 {g : FuncId} {xs b : Array Operand} (hb : b.size = 0) : Pur P ⟨dst, .makeFunc (.func g) xs b, type, pos, after, guard⟩ fun as => some (.fn g as []) := by
  intro φ w ρ as r h hv
  cases h
  have hb : b = #[] := Array.eq_empty_of_size_eq_zero hb
  subst hb
  have hv : VL φ as ((xs ++ #[]).toList.map ρ) := hv
  refine ⟨.func (.func g) (xs.map ρ) #[], ⟨_, _, rfl, by simpa using hv, rfl⟩, run_v ?_⟩
  rw [Array.map_empty]; rfl
theorem ok_makeFunc1 {g : FuncId} {xs b : Array Operand} (hb : xs.size = 0) : Pur P ⟨dst, .makeFunc (.func g) xs b, type, pos, after, guard⟩ fun as => some (.fn g [] as) := by
  intro φ w ρ as r h hv
  cases h
  have hb : xs = #[] := Array.eq_empty_of_size_eq_zero hb
  subst hb
  have hv : VL φ as ((#[] ++ b).toList.map ρ) := hv
  refine ⟨.func (.func g) #[] (b.map ρ), ⟨_, _, rfl, rfl, by simpa using hv⟩, run_v ?_⟩
  rw [Array.map_empty]; rfl
theorem nthB_eq : ∀ (l : List UInt8) (n : Nat), nthB l n = l[n]?
  | [], n => by cases n <;> rfl
  | _ :: _, 0 => rfl
  | _ :: l, n + 1 => nthB_eq l n
theorem ok_index_str {t : TypeId} {x y : Operand} (ht : undl P t = .string) :
    Pur P ⟨dst, .index t x y, type, pos, after, guard⟩ (on2 none fun x y => AV.onStr x none fun s => AV.onInt y none fun _ b => @Int.rec (fun _ => Option AV) (fun n => @Option.rec _ (fun _ => Option AV) none (fun b => some (byteAv b)) (nthB s n)) (fun _ => none) b) :=
  Pur.of2 rfl fun φ w ρ a c r h hv hu => by
    obtain ⟨s, rfl, h1⟩ := AV.onStr_some h
    obtain ⟨k, n, rfl, h2⟩ := AV.onInt_some h1
    cases n with
    | negSucc n => cases h2
    | ofNat n =>
      obtain ⟨b, h3, h4⟩ := opt_some h2
      cases h4
      have hx : ρ x = .string ⟨⟨s⟩⟩ := hv
      have hy : ρ y = .int k (Int.ofNat n) := hu
      rw [nthB_eq] at h3
      refine ⟨_, rfl, run_v ?_⟩
      rw [hx, hy]
      have hd := undl_run ht (by intro e; cases e) w
      have hb : (⟨⟨s⟩⟩ : ByteArray)[n]? = some b := by
        have hlt : n < s.length := (List.getElem?_eq_some_iff.1 h3).1
        have hs : (⟨⟨s⟩⟩ : ByteArray).size = s.length := rfl
        rw [getElem?_pos _ n (by rw [hs]; exact hlt)]
        have e : s[n] = b := by rw [List.getElem?_eq_getElem hlt] at h3; exact Option.some.inj h3
        rw [← e]
        rfl
      have h0 : (0 : Int) ≤ Int.ofNat n := Int.natCast_nonneg n
      simp only [Instr.index, asIntOf, Sem.run_bind, Sem.run_pure, hd, Result.andThen, if_pos h0, toNat_ofNat', hb]
      rfl
theorem ok_index_arr {t : TypeId} {x y : Operand} {an : Nat} {e : TypeId} (ht : undl P t = .array an e) (hk : knownB P e = true) :
    Pur P ⟨dst, .index t x y, type, pos, after, guard⟩ (on2 none fun x y => AV.onAgg x none fun l => AV.onInt y none fun _ b => @Int.rec (fun _ => Option AV) (fun n => @Bool.rec (fun _ => Option AV) none (partA (isAggB P e) l (Nat.mul n (szOf P e)) (szOf P e)) (Nat.ble (Nat.succ n) an)) (fun _ => none) b) :=
  Pur.of2 rfl fun φ w ρ a c r h hv hu => by
    obtain ⟨l, rfl, h1⟩ := AV.onAgg_some h
    obtain ⟨k, n, rfl, h2⟩ := AV.onInt_some h1
    cases n with
    | negSucc n => cases h2
    | ofNat n =>
      obtain ⟨hlt, h3⟩ := bool_some h2
      have hlt : n < an := nat_ble hlt
      obtain ⟨vs, hx, h4, h5⟩ := hv
      have hy : ρ y = .int k (Int.ofNat n) := hu
      obtain ⟨v, h6, h7⟩ := part_ok (knownB_ok hk) h3 h4 h5 w
      refine ⟨v, h6, run_v ?_⟩
      rw [hx, hy]
      have hd := undl_run ht (by intro e; cases e) w
      have h0 : (0 : Int) ≤ Int.ofNat n ∧ Int.ofNat n < (an : Int) := ⟨Int.natCast_nonneg n, by exact Int.ofNat_lt.2 hlt⟩
      have h7 : (part e vs (n * szOf P e)).run P w = .ok v w := h7
      simp only [Instr.index, asIntOf, Sem.run_bind, Sem.run_pure, hd, Result.andThen, if_pos h0, toNat_ofNat', sizeOf_undl (knownB_ok hk), h7]
end
end Go.Ax
