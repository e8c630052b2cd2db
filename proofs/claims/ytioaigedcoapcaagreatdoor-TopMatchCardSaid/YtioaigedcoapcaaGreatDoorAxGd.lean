/- Structs and arrays out of their parts; rows out of their elements. -/
import Derived.Test.YtioaigedcoapcaaGreatDoorAxGc
import Derived.ArgAppend
import Derived.ChangeKeysEq
namespace Go.Ax
open Go
variable {P : Program}
theorem fill_fold : ∀ (l : List Value) (j : Nat) (cells : Array Value) (o : Nat), o + j + l.length ≤ cells.size → (l.zipIdx j).foldl (fun cs (x : Value × Nat) => cs.setIfInBounds (o + x.2) x.1) cells = splA cells (o + j) l
  | [], _, cells, _, _ => (splA_nil cells _).symm
  | v :: l, j, cells, o, h => by
    rw [List.length_cons] at h
    rw [List.zipIdx_cons, List.foldl_cons]
    have h1 := fill_fold l (j + 1) (cells.setIfInBounds (o + j) v) o (by simp; omega)
    have e : o + (j + 1) = o + j + 1 := by omega
    rw [e] at h1
    show List.foldl _ (cells.setIfInBounds (o + j) v) (l.zipIdx (j + 1)) = _
    rw [h1]
    exact splA_cons cells (o + j) v l (by rw [List.length_cons]; omega)
theorem fill_step {place : Nat → Option (Nat × Nat)} {cells : Array Value} {i off size : Nat} {v : Value} {rest : List (Nat × Value)} (hp : place i = some (off, size)) (hs : v.cells.size = size) (hl : off + size ≤ cells.size) :
    Instr.fill place cells ((i, v) :: rest) = Instr.fill place (splA cells off v.cells.toList) rest := by
  rw [Instr.fill, hp]
  dsimp only
  have hc : (decide (v.cells.size ≠ size) || decide (off + v.cells.size > cells.size)) = false := by
    rw [Bool.or_eq_false_iff]
    exact ⟨decide_eq_false (fun h => h hs), decide_eq_false (by omega)⟩
  have e : v.cells.zipIdx.foldl (fun cs (x : Value × Nat) => cs.setIfInBounds (off + x.2) x.1) cells = splA cells off v.cells.toList := by
    have h1 := fill_fold v.cells.toList 0 cells off (by simp; omega)
    rw [Nat.add_zero] at h1
    rw [← h1, ← Array.foldl_toList, Array.toList_zipIdx]
  rw [hc]
  simp only [Bool.false_eq_true, if_false]
  rw [← e]
theorem VL.spl {φ : Phi} {l vs : List AV} {c : Array Value} {us : List Value} {o : Nat} (h1 : VL φ l c.toList) (h2 : VL φ vs us) : VL φ (l.take o ++ vs ++ l.drop (o + vs.length)) (splA c o us).toList := by
  rw [splA_toList, h2.length]
  exact ((h1.take o).append h2).append (h1.drop _)
theorem fillP_ok {φ : Phi} {place : Nat → Option (Nat × Nat)} {ρ : Operand → Value} : ∀ {ps : List (Nat × Operand)} {pl : List (Nat × Nat)} {as cs r : List AV} {cells : Array Value}, (∀ (k : Nat) x p, ps[k]? = some x → pl[k]? = some p → place x.1 = some p) → ps.length = pl.length →
    fillP cs pl as = some r → VL φ cs cells.toList → areCells cs → VL φ as (ps.map fun x => ρ x.2) → ∃ cells', Instr.fill place cells (ps.map fun x => (x.1, ρ x.2)) = some cells' ∧ VL φ r cells'.toList ∧ areCells r
  | [], [], as, cs, r, cells, _, _, h, hv, hc, ha => by
    cases as with
    | nil => cases h; exact ⟨cells, rfl, hv, hc⟩
    | cons a as => obtain ⟨v, r, e, _⟩ := ha; cases e
  | x :: ps, p :: pl, as, cs, r, cells, hp, hl, h, hv, hc, ha => by
    cases as with
    | nil => cases h
    | cons a as =>
      obtain ⟨v, us, e, hv1, hv2⟩ := ha
      rw [List.map_cons, List.cons.injEq] at e
      obtain ⟨e1, e2⟩ := e
      have h : @Option.rec _ (fun _ => Option (List AV)) none (fun l => @Bool.rec (fun _ => Option (List AV)) none (@Option.rec _ (fun _ => Option (List AV)) none (fun cs => fillP cs pl as) (splice cs p.1 l)) (Nat.beq (len l) p.2)) (cellsO a) = some r := h
      obtain ⟨l, h1, h2⟩ := opt_some h
      obtain ⟨h3, h4⟩ := bool_some h2
      obtain ⟨cs', h5, h6⟩ := opt_some h4
      obtain ⟨h7, h8⟩ := cellsO_ok h1 hv1
      obtain ⟨h9, rfl⟩ := splice_some _ _ _ _ h5
      have h3 := nat_beq h3
      rw [len_eq] at h3
      have hcl := hv.length
      have hll := h7.length
      have hpl := hp 0 x p rfl rfl
      obtain ⟨cells', g1, g2, g3⟩ := fillP_ok (place := place) (ρ := ρ) (ps := ps) (pl := pl) (fun k x p hx hp' => hp (k + 1) x p hx hp') (by simpa using hl) h6 (hv.spl h7 (o := p.1)) (((hc.take _).append h8).append (hc.drop _)) (e2 ▸ hv2)
      refine ⟨cells', ?_, g2, g3⟩
      rw [List.map_cons, e1, fill_step hpl (by rw [← h3, hll]; simp) (by rw [← h3]; simp at hcl; omega)]
      exact g1
theorem placesOf_get {t : Nat} : ∀ {ps : List (Nat × Operand)} {pl : List (Nat × Nat)}, placesOf P t ps = some pl → ps.length = pl.length ∧ ∀ (k : Nat) x p, ps[k]? = some x → pl[k]? = some p → placeOf P t x.1 = some p
  | [], pl, h => by
    cases h
    exact ⟨rfl, fun k x p hx => by simp at hx⟩
  | y :: ps, pl, h => by
    have h : (match placeOf P t y.1, placesOf P t ps with | some p, some r => some (p :: r) | _, _ => none) = some pl := h
    split at h
    · rename_i p r h1 h2
      cases h
      obtain ⟨h3, h4⟩ := placesOf_get h2
      refine ⟨by rw [List.length_cons, List.length_cons, h3], fun k x p' hx hp => ?_⟩
      cases k with
      | zero =>
        have hx : y = x := by simpa using hx
        have hp : p = p' := by simpa using hp
        subst hx; subst hp
        exact h1
      | succ k => exact h4 k x p' (by simpa using hx) (by simpa using hp)
    · cases h
theorem mapM_places {w : World} : ∀ {fs : List Field}, (∀ f ∈ fs, (infoAt P f.type).isSome = true) → (fs.mapM fun f => (do pure (f.offset, ← sizeOf f.type) : Sem (Nat × Nat))).run P w = .ok (fs.map fun f => (f.offset, szOf P f.type)) w
  | [], _ => rfl
  | f :: fs, h => by
    obtain ⟨i, hi⟩ := Option.isSome_iff_exists.1 (h f (List.mem_cons_self ..))
    rw [List.mapM_cons, Sem.run_bind]
    have e : (do pure (f.offset, ← sizeOf f.type) : Sem (Nat × Nat)).run P w = .ok (f.offset, szOf P f.type) w := by
      rw [Sem.run_bind, sizeOf_run hi]
      rfl
    rw [e]
    simp only [Result.andThen, Sem.run_bind, mapM_places fun f' hf' => h f' (List.mem_cons_of_mem _ hf')]
    rfl
section
variable {dst : Option Tmp} {type : TypeId} {pos : String} {after : Array Edge} {guard : Option (Nat × Bool)}
theorem ok_build {t : TypeId} {ps : Array (Nat × Operand)} {z : List AV} {pl : List (Nat × Nat)} (hs : sizesOk P t = true) (hz : zeroCs P t = some z) (hp : placesOf P t ps.toList = some pl) :
    Pur P ⟨dst, .build t ps, type, pos, after, guard⟩ fun as => @Option.rec _ (fun _ => Option AV) none (fun cs => some (.agg cs)) (fillP z pl as) := by
  intro φ w ρ xs r hf hv
  obtain ⟨cs, h1, h2⟩ := opt_some hf
  cases h2
  obtain ⟨zv, i, hi, hvz, hcz, hzr⟩ := zeroCs_ok hz φ
  obtain ⟨h3, h4⟩ := placesOf_get hp
  have hv : VL φ xs ((ps.toList.map (·.2)).map ρ) := hv
  rw [List.map_map] at hv
  have hpar : (ps.map fun (x : Nat × Operand) => (x.1, ρ x.2)).toList = ps.toList.map fun x => (x.1, ρ x.2) := by simp
  have key : ∀ place : Nat → Option (Nat × Nat), (∀ k, placeOf P t k ≠ none → place k = placeOf P t k) → ∃ cells', Instr.fill place zv.cells (ps.map fun (x : Nat × Operand) => (x.1, ρ x.2)).toList = some cells' ∧ VL φ cs cells'.toList ∧ areCells cs := by
    intro place hpl
    rw [hpar]
    exact fillP_ok (fun k x p hx hp => by rw [hpl x.1 (by rw [h4 k x p hx hp]; intro e; cases e)]; exact h4 k x p hx hp) h3 h1 hvz hcz hv
  unfold sizesOk at hs
  split at hs
  · rename_i fs hu
    have hd := undl_run hu (by intro e; cases e) w
    have hall := List.all_eq_true.1 hs
    have hm : (fs.mapM fun f => (do pure (f.offset, ← sizeOf f.type) : Sem (Nat × Nat))).run P w = .ok (fs.toList.map fun f => (f.offset, szOf P f.type)).toArray w := by
      rw [Array.mapM_eq_mapM_toList, ← bind_pure_comp, Sem.run_bind, mapM_places hall]
      rfl
    obtain ⟨cells', g1, g2, g3⟩ := key (fun k => (fs.toList.map fun f => (f.offset, szOf P f.type)).toArray[k]?) (fun k hk => by
      unfold placeOf at hk ⊢
      rw [hu] at hk ⊢
      dsimp only at hk ⊢
      rw [List.getElem?_toArray, List.getElem?_map, Array.getElem?_toList]
      cases hfk : fs[k]? with
      | none => rw [hfk] at hk; exact absurd rfl hk
      | some f => rfl)
    refine ⟨.agg cells', ⟨_, rfl, g2, g3⟩, run_v ?_⟩
    simp only [Instr.build, Sem.run_bind, hzr, Result.andThen, hd, hm, g1]
    rfl
  · rename_i n e hu
    have hd := undl_run hu (by intro e; cases e) w
    obtain ⟨i', hi'⟩ := Option.isSome_iff_exists.1 hs
    obtain ⟨cells', g1, g2, g3⟩ := key (fun k => some (k * szOf P e, szOf P e)) (fun k hk => by
      unfold placeOf
      rw [hu])
    refine ⟨.agg cells', ⟨_, rfl, g2, g3⟩, run_v ?_⟩
    simp only [Instr.build, Sem.run_bind, hzr, Result.andThen, hd, sizeOf_run hi', g1]
    rfl
  · cases hs
theorem flatten_set {n : Nat} {l : List AV} : ∀ {ls : List (List AV)} {i : Nat}, (∀ x ∈ ls, x.length = n) → i < ls.length → (ls.set i l).flatten = ls.flatten.take (i * n) ++ l ++ ls.flatten.drop (i * n + n)
  | [], i, _, h => by cases h
  | y :: ls, 0, h, _ => by
    have hy := h y (List.mem_cons_self ..)
    rw [List.set_cons_zero, List.flatten_cons, List.flatten_cons, Nat.zero_mul, List.take_zero, Nat.zero_add, ← hy, List.drop_left]
    rfl
  | y :: ls, i + 1, h, hi => by
    have hy := h y (List.mem_cons_self ..)
    have ih := flatten_set (l := l) (ls := ls) (i := i) (fun x hx => h x (List.mem_cons_of_mem _ hx)) (by simpa using hi)
    have e1 : (i + 1) * n = y.length + i * n := by rw [Nat.succ_mul, hy, Nat.add_comm]
    rw [List.set_cons_succ, List.flatten_cons, List.flatten_cons, ih, e1, List.take_length_add_append, Nat.add_assoc, List.drop_length_add_append]
    simp
theorem fillE_ok {φ : Phi} {n : Nat} {ρ : Operand → Value} : ∀ {ps : List (Nat × Operand)} {as : List AV} {ls r : List (List AV)} {cells : Array Value}, fillE ls n (ps.map (·.1)) as = some r → (∀ x ∈ ps, x.1 < ls.length) → VEls φ n ls cells.toList → VL φ as (ps.map fun x => ρ x.2) →
    ∃ cells', Instr.fill (fun i => some (i * n, n)) cells (ps.map fun x => (x.1, ρ x.2)) = some cells' ∧ VEls φ n r cells'.toList ∧ r.length = ls.length
  | [], as, ls, r, cells, h, _, hv, ha => by
    cases as with
    | nil => cases h; exact ⟨cells, rfl, hv, rfl⟩
    | cons a as => cases h
  | x :: ps, as, ls, r, cells, h, hlt, hv, ha => by
    cases as with
    | nil => cases h
    | cons a as =>
      obtain ⟨v, us, e, hv1, hv2⟩ := ha
      rw [List.map_cons, List.cons.injEq] at e
      obtain ⟨e1, e2⟩ := e
      have h : @Option.rec _ (fun _ => Option (List (List AV))) none (fun l => @Bool.rec (fun _ => Option (List (List AV))) none (fillE (ls.set x.1 l) n (ps.map (·.1)) as) (Nat.beq (len l) n)) (cellsO a) = some r := h
      obtain ⟨l, h1, h2⟩ := opt_some h
      obtain ⟨h3, h6⟩ := bool_some h2
      obtain ⟨h7, h8⟩ := cellsO_ok h1 hv1
      have h3 := nat_beq h3
      rw [len_eq] at h3
      have hll := h7.length
      have hx := hlt x (List.mem_cons_self ..)
      have hcl := hv.length
      have hin : (x.1 + 1) * n ≤ ls.length * n := Nat.mul_le_mul_right _ hx
      rw [Nat.succ_mul] at hin
      have hset : VEls φ n (ls.set x.1 l) (splA cells (x.1 * n) v.cells.toList).toList := by
        have hfl : (ls.set x.1 l).flatten = ls.flatten.take (x.1 * n) ++ l ++ ls.flatten.drop (x.1 * n + l.length) := by
          rw [h3]
          exact flatten_set hv.len hx
        refine ⟨?_, fun z hz => ?_, fun z hz => ?_⟩
        · rw [hfl]
          exact hv.v.spl h7 (o := x.1 * n)
        · rcases List.mem_or_eq_of_mem_set hz with hz | hz
          · exact hv.len z hz
          · rw [hz]; exact h3
        · rcases List.mem_or_eq_of_mem_set hz with hz | hz
          · exact hv.cells z hz
          · rw [hz]; exact h8
      obtain ⟨cells', g1, g2, g3⟩ := fillE_ok (ρ := ρ) (ps := ps) h6 (fun y hy => by rw [List.length_set]; exact hlt y (List.mem_cons_of_mem _ hy)) hset (e2 ▸ hv2)
      refine ⟨cells', ?_, g2, by rw [g3, List.length_set]⟩
      rw [List.map_cons, e1, fill_step rfl (by rw [← h3, hll]; simp) (by simp at hcl; omega)]
      exact g1
theorem ok_buildSlice {t : TypeId} {n : Nat} {ps : Array (Nat × Operand)} {e : TypeId} {z : List AV} (ht : undl P t = .slice e) (hz : zeroCs P e = some z) (h0 : Nat.beq (szOf P e) 0 = false) (hn0 : Nat.beq n 0 = false) (hn : Nat.ble n 256 = true) (hl : Nat.beq (len z) (szOf P e) = true)
    (hps : (ps.toList.all fun x => Nat.ble (x.1 + 1) n) = true) (hbig : Nat.ble (n * szOf P e) 16777216 = true) :
    Nw P ⟨dst, .buildSlice t n ps, type, pos, after, guard⟩ fun as => @Option.rec _ (fun _ => NewR) NewR.bad (fun ls => NewR.ok (.arr e (szOf P e) n false (fillFrom 0 ls els0)) fun i => .sl i 0 n (some n)) (fillE (rep n z) (szOf P e) (ps.toList.map (·.1)) as) := by
  intro φ w ρ xs b g hf hv
  have hf : @Option.rec _ (fun _ => NewR) NewR.bad (fun ls => NewR.ok (.arr e (szOf P e) n false (fillFrom 0 ls els0)) fun i => .sl i 0 n (some n)) (fillE (rep n z) (szOf P e) (ps.toList.map (·.1)) xs) = .ok b g := hf
  cases hfe : fillE (rep n z) (szOf P e) (ps.toList.map (·.1)) xs with
  | none => rw [hfe] at hf; cases hf
  | some ls =>
    rw [hfe] at hf
    cases hf
    obtain ⟨zv, i, hi, hvz, hcz, hzr⟩ := zeroCs_ok hz φ
    have hl := nat_beq hl
    rw [len_eq] at hl
    have h0 := nat_nbeq h0
    have hn0 := nat_nbeq hn0
    have hu := undl_run ht (by intro e; cases e) w
    have hzs : zv.cells.size = szOf P e := by rw [← hl, hvz.length]; simp
    have hrow : ((Array.range (n * szOf P e)).map (fun k => zv.cells[k % zv.cells.size]!)).toList = (List.replicate n zv.cells.toList).flatten := by
      rw [← zeros_list, Array.toList_map, Array.toList_range, hzs]
    have hVE : VEls φ (szOf P e) (rep n z) ((Array.range (n * szOf P e)).map (fun k => zv.cells[k % zv.cells.size]!)).toList := by
      rw [hrow]
      exact zeros_ok hvz hl hcz n
    have hv : VL φ xs ((ps.toList.map (·.2)).map ρ) := hv
    rw [List.map_map] at hv
    have hlr : (rep n z).length = n := by rw [rep_eq]; simp
    obtain ⟨cells', g1, g2, g3⟩ := fillE_ok (ρ := ρ) hfe (fun x hx => by rw [hlr]; exact nat_ble (List.all_eq_true.1 hps x hx)) hVE hv
    have hpar : (ps.map fun (x : Nat × Operand) => (x.1, ρ x.2)).toList = ps.toList.map fun x => (x.1, ρ x.2) := by simp
    rw [← hpar] at g1
    refine ⟨.slice (some ⟨w.heap.size, 0, none⟩) n n, { w with heap := w.heap.push (.cells cells' e) }, ⟨w.heap.size, 0, szOf P e, n * szOf P e⟩, run_v ?_, ⟨_, rfl⟩, rfl, rfl, rfl, rfl, fun ψ i _ hi => ⟨_, hi, rfl, Nat.le_refl _⟩, fun ψ hψ => ?_, fun e => by cases e⟩
    · have hb : ¬ (n * szOf P e > 2 ^ 24) := by have := nat_ble hbig; omega
      have hne : ¬ (n * szOf P e = 0) := fun h => by rcases Nat.mul_eq_zero.1 h with h | h <;> contradiction
      simp only [Instr.buildSlice, Sem.run_bind, hu, Result.andThen, sizeOf_run hi, if_neg hb, if_neg hne, hzr, Sem.run_pure, g1]
      rfl
    · have hvl := g2.length
      refine BRel.row (rest := []) (vs := cells'.toList) (fr := (0, 0)) (by omega) (by rw [g3, hlr]) (nat_ble hn) (g2.mono hψ) ?_ rfl rfl (by simp) (noFz_zero _)
      simp
end
end Go.Ax
namespace Go.Ax
open Go
variable {P : Program}
/-- A row goes on under a new name. -/
theorem Step.rename {φ : Phi} {h h' : Hp} {w w' : World} {b : Blk} {i : Id} {p : Pl} (r : Rel φ h w) (s : Step φ h w φ (h.put i .none) w') (hi : isRw (h.get i) = true) (hp : φ i = some p)
    (hget : ∀ j, h'.get j = if j = h.nx then b else (h.put i .none).get j) (hnx : h'.nx.num = h.nx.num + 1) (hb : BRel (upd φ h.nx p) w' b p) : Step φ h w (upd φ h.nx p) h' w' := by
  have hle := upd_le p r.nx_none
  have hine : i ≠ h.nx := fun e => by subst e; rw [r.nx_none] at hp; cases hp
  have hold : ∀ j, j ≠ h.nx → h'.get j = (h.put i .none).get j := fun j hj => by rw [hget, if_neg hj]
  have hsub : ∀ j, j ≠ h.nx → h'.get j ≠ .none → j ≠ i ∧ h'.get j = h.get j := fun j hj hl => by
    rw [hold j hj, Hp.get_put] at hl ⊢
    by_cases e : j = i
    · rw [if_pos e] at hl; exact absurd rfl hl
    · rw [if_neg e]; exact ⟨e, rfl⟩
  have hown : Own φ h.get p.b := ⟨i, p, hi, hp, rfl⟩
  refine ⟨hle, ⟨⟨fun j hj => ?_, fun x y q t hx hy hq ht e => ?_, fun g hg => hle _ _ (r.f.glob g hg)⟩, fun j q hq => ?_⟩, s.keep, fun k hk => ?_, by omega, fun j q hq => ?_, fun j hj hl => ?_⟩
  · by_cases e : j = h.nx
    · subst e
      rw [hget, if_pos rfl]
      exact ⟨p, upd_same _ _ _, hb⟩
    · have h1 := hold j e
      rw [h1] at hj ⊢
      obtain ⟨q, h2, h3⟩ := s.rel.f.live j hj
      exact ⟨q, hle _ _ h2, h3.mono hle (.inr rfl)⟩
  · by_cases e1 : x = h.nx
    · by_cases e2 : y = h.nx
      · rw [e1, e2]
      · obtain ⟨h1, h2⟩ := hsub y e2 hy
        rw [h2] at hy
        subst e1
        rw [upd_same] at hq
        cases hq
        rw [upd_ne φ p e2] at ht
        exact absurd (r.f.inj i y p t hi hy hp ht e).symm h1
    · have hxl := isRw_live hx
      obtain ⟨h1, h2⟩ := hsub x e1 hxl
      rw [h2] at hx
      rw [upd_ne φ p e1] at hq
      by_cases e2 : y = h.nx
      · subst e2
        rw [upd_same] at ht
        cases ht
        exact absurd (r.f.inj x i q p hx (isRw_live hi) hq hp e) h1
      · obtain ⟨_, h4⟩ := hsub y e2 hy
        rw [h4] at hy
        rw [upd_ne φ p e2] at ht
        exact r.f.inj x y q t hx hy hq ht e
  · by_cases e : j = h.nx
    · subst e
      rw [upd_same] at hq
      cases hq
      exact ⟨Nat.lt_of_lt_of_le (r.fresh i p hp).1 s.keep.size, by omega⟩
    · rw [upd_ne φ p e] at hq
      have := r.fresh j q hq
      exact ⟨Nat.lt_of_lt_of_le this.1 s.keep.size, by omega⟩
  · obtain ⟨j, q, hj, hq, e⟩ := hk
    by_cases e1 : j = h.nx
    · subst e1
      rw [upd_same] at hq
      cases hq
      exact .inl (e ▸ hown)
    · have hj : isRw (h'.get j) = true := hj
      obtain ⟨_, h2⟩ := hsub j e1 (isRw_live hj)
      rw [h2] at hj
      rw [upd_ne φ p e1] at hq
      exact .inl ⟨j, q, hj, hq, e⟩
  · by_cases e : j = h.nx
    · subst e
      rw [upd_same] at hq
      cases hq
      exact .inr ⟨Nat.le_refl _, .inr hown⟩
    · rw [upd_ne φ p e] at hq
      exact .inl hq
  · have e : j ≠ h.nx := fun e => by subst e; exact hj r.nx_none
    obtain ⟨_, h2⟩ := hsub j e hl
    rwa [h2] at hl
theorem okB_ok {ob : Option Blk} {h h' : Hp} {g : Id → AV} {r : AV} (he : okB ob h g = .ok r h') : ∃ b, ob = some b ∧ r = g h.nx ∧ (∀ i, h'.get i = if i = h.nx then b else h.get i) ∧ h'.nx.num = h.nx.num + 1 := by
  have he : @Option.rec _ (fun _ => RC) RC.bad (fun b => alloc b h RC.bad fun i h => RC.ok (g i) h) ob = .ok r h' := he
  obtain ⟨b, h1, h2⟩ := optC_ok he
  obtain ⟨h'', h3, h4, h5⟩ := alloc_eq h2 (by intro e; cases e)
  cases h3
  exact ⟨b, h1, rfl, h4, h5⟩
theorem mkArr_ok {ty es n : Nat} {d : Bool} {ls : List (List AV)} {b : Blk} (h : mkArr ty es n d ls = some b) : n ≤ 256 ∧ b = .arr ty es n d (fillFrom 0 ls els0) := by
  have h : @Bool.rec (fun _ => Option Blk) none (some (.arr ty es n d (fillFrom 0 ls els0))) (Nat.ble n 256) = some b := h
  obtain ⟨h1, h2⟩ := bool_some h
  cases h2
  exact ⟨nat_ble h1, rfl⟩
theorem boolC_ok {b : Bool} {x : RC} {r : AV} {h' : Hp} (h : @Bool.rec (fun _ => RC) RC.bad x b = .ok r h') : b = true ∧ x = .ok r h' := by
  cases b with
  | true => exact ⟨rfl, h⟩
  | false => cases h
/-- What append came to. -/
theorem appendF_ok {ty es : Nat} {s x : AV} {h h' : Hp} {r : AV} (hf : appendF ty es s x h = .ok r h') : ∃ n ls, lenS x = some n ∧ newEls es n x h = some ls ∧
    ((s = .nils ∧ n = 0 ∧ r = .nils ∧ h' = h) ∨ (s = .nils ∧ 0 < n ∧ okB (mkArr ty es n true ls) h (fun i => .sl i 0 n none) = .ok r h') ∨
      ∃ i o m cap ty' kn d t, s = .sl i o m cap ∧ h.get i = .arr ty' es kn d t ∧
        ((putB i h (.sl i o (m + n) cap) (storeEls (h.get i) es (o + m * es) ls) = .ok r h' ∧ ((∃ c, cap = some c ∧ m + n ≤ c) ∨ (cap = none ∧ o + (m + n) * es ≤ kn * es))) ∨
         (∃ c old, cap = some c ∧ c < m + n ∧ elems (h.get i) es o m = some old ∧ okB (mkArr ty es (m + n) true (old ++ ls)) h (fun i => .sl i 0 (m + n) none) = .ok r h') ∨
         (cap = none ∧ o = 0 ∧ kn * es < (m + n) * es ∧ ty' = ty ∧ m ≤ kn ∧ m + n ≤ 256 ∧ r = .sl h.nx 0 (m + n) none ∧ (∀ j, h'.get j = if j = h.nx then .arr ty es (m + n) true (fillFrom m ls t) else (h.put i .none).get j) ∧ h'.nx.num = h.nx.num + 1))) := by
  unfold appendF at hf
  obtain ⟨n, hn, hf⟩ := optC_ok hf
  obtain ⟨ls, hl, hf⟩ := optC_ok hf
  refine ⟨n, ls, hn, hl, ?_⟩
  cases s with
  | nils =>
    cases n with
    | zero => cases hf; exact .inl ⟨rfl, rfl, rfl, rfl⟩
    | succ n => exact .inr (.inl ⟨rfl, Nat.succ_pos n, hf⟩)
  | sl i o m cap =>
    refine .inr (.inr ⟨i, o, m, cap, ?_⟩)
    obtain ⟨b, hb⟩ : ∃ b, h.get i = b := ⟨_, rfl⟩
    have hf : Blk.onCells (h.get i) RC.bad (fun _ _ _ _ => RC.bad) _ = .ok r h' := hf
    rw [hb] at hf ⊢
    cases b with
    | arr ty' es' kn d t =>
      have hf : @Bool.rec (fun _ => RC) RC.bad (match (generalizing := false) cap with
        | some c => @Bool.rec (fun _ => RC) (@Option.rec _ (fun _ => RC) RC.bad (fun old => okB (mkArr ty es (Nat.add m n) true (old ++ ls)) h fun i => .sl i 0 (Nat.add m n) none) (elems (.arr ty' es' kn d t) es o m)) (putB i h (.sl i o (Nat.add m n) cap) (storeEls (.arr ty' es' kn d t) es (Nat.add o (Nat.mul m es)) ls)) (Nat.ble (Nat.add m n) c)
        | none => @Bool.rec (fun _ => RC) (match (generalizing := false) o with
             | 0 => @Bool.rec (fun _ => RC) RC.bad (@Bool.rec (fun _ => RC) RC.bad (alloc (.arr ty es (Nat.add m n) true (fillFrom m ls t)) (h.put i .none) RC.bad fun i h => RC.ok (.sl i 0 (Nat.add m n) none) h) (Nat.ble (Nat.add m n) 256)) (Nat.beq ty ty' && Nat.ble m kn)
             | _ => RC.bad) (putB i h (.sl i o (Nat.add m n) none) (storeEls (.arr ty' es' kn d t) es (Nat.add o (Nat.mul m es)) ls)) (Nat.ble (Nat.add o (Nat.mul (Nat.add m n) es)) (Nat.mul kn es))) (Nat.beq es' es) = .ok r h' := hf
      obtain ⟨he, hf⟩ := boolC_ok hf
      have he := nat_beq he
      subst he
      refine ⟨ty', kn, d, t, rfl, rfl, ?_⟩
      cases cap with
      | some c =>
        cases hle : Nat.ble (m + n) c with
        | true =>
          have hf : @Bool.rec (fun _ => RC) _ _ (Nat.ble (m + n) c) = .ok r h' := hf
          rw [hle] at hf
          exact .inl ⟨hf, .inl ⟨c, rfl, nat_ble hle⟩⟩
        | false =>
          have hf : @Bool.rec (fun _ => RC) _ _ (Nat.ble (m + n) c) = .ok r h' := hf
          rw [hle] at hf
          obtain ⟨old, h1, h2⟩ := optC_ok hf
          exact .inr (.inl ⟨c, old, rfl, nat_nble hle, h1, h2⟩)
      | none =>
        have hf : @Bool.rec (fun _ => RC) _ _ (Nat.ble (o + (m + n) * es') (kn * es')) = .ok r h' := hf
        cases hle : Nat.ble (o + (m + n) * es') (kn * es') with
        | true =>
          rw [hle] at hf
          exact .inl ⟨hf, .inr ⟨rfl, nat_ble hle⟩⟩
        | false =>
          rw [hle] at hf
          have hlt := nat_nble hle
          cases o with
          | succ o => cases hf
          | zero =>
            obtain ⟨h1, h2⟩ := boolC_ok hf
            obtain ⟨h3, h4⟩ := boolC_ok h2
            rw [Bool.and_eq_true] at h1
            obtain ⟨h5, h6, h7, h8⟩ := alloc_eq h4 (by intro e; cases e)
            cases h6
            rw [Hp.put_nx] at h7 h8
            refine .inr (.inr ⟨rfl, rfl, by omega, (nat_beq h1.1).symm, nat_ble h1.2, nat_ble h3, by rw [Hp.put_nx]; rfl, h7, h8⟩)
    | _ => cases hf
  | _ => cases hf
/-- The cells of a row's elements, some of them written. -/
theorem row_in (c : Array Value) (o : Nat) (vs : List Value) (k n : Nat) (hk : k + n ≤ vs.length) (ho : o + vs.length ≤ c.size) : ((splA c o vs).toList.drop (o + k)).take n = (vs.drop k).take n := by
  rw [splA_toList, List.append_assoc]
  have h1 : (c.toList.take o).length = o := by rw [List.length_take]; simp; omega
  have h2 : List.drop (o + k) (List.take o c.toList ++ (vs ++ List.drop (o + vs.length) c.toList)) = List.drop k (vs ++ List.drop (o + vs.length) c.toList) := by
    rw [List.drop_append, h1, List.drop_eq_nil_of_le (by omega), Nat.add_sub_cancel_left, List.nil_append]
  rw [h2, List.drop_append_of_le_length (by omega), List.take_append_of_le_length (by simp; omega)]
theorem BRel.grown {φ ψ : Phi} {w w' : World} {ty es kn m n : Nat} {d : Bool} {t : Els} {ls : List (List AV)} {news : List Value} {p : Pl} {c : Array Value} {fr : Nat × Nat} (hb : BRel φ w (.arr ty es kn d t) p) (hle : φ.le ψ) (hc : w.heap[p.b]? = some (.cells c ty fr))
    (hw : w'.heap[p.b]? = some (.cells (splA c (p.base + m * es) news) ty fr)) (hv : VEls ψ es ls news) (hln : ls.length = n) (hm : m ≤ kn) (h256 : m + n ≤ 256) (hlim : (m + n) * es ≤ p.lim) : BRel ψ w' (.arr ty es (m + n) true (fillFrom m ls t)) p := by
  obtain ⟨c', fr', h1, h2, h3, h4, h5, h6, h7, h8⟩ := hb
  rw [hc] at h1
  cases h1
  have hnl : news.length = n * es := by rw [hv.length, hln]
  have hsum : (m + n) * es = m * es + n * es := Nat.add_mul ..
  have hsz : (splA c (p.base + m * es) news).size = c.size := splA_size (by omega)
  refine ⟨_, fr, hw, h2, h3, hlim, by rw [hsz]; exact h5, by rw [hsz]; exact h6, h256, fun q hq => ?_⟩
  rw [fillFrom_get _ _ _ _ (by omega) (by omega), hln]
  by_cases hqm : q < m
  · rw [if_neg (by omega)]
    obtain ⟨g1, g2, g3⟩ := h8 q (by omega)
    have hqe : (q + 1) * es ≤ m * es := Nat.mul_le_mul_right _ hqm
    rw [Nat.succ_mul] at hqe
    rw [cut_splA_out c _ news (by omega) _ _ (.inl (by omega))]
    exact ⟨g1, VL.mono hle _ _ g2, g3⟩
  · rw [if_pos ⟨by omega, hq⟩]
    obtain ⟨l, g1, g2, g3, g4⟩ := hv.get (q - m) (by omega)
    have e : ls.getD (q - m) [] = l := by rw [List.getD_eq_getElem?_getD, g1]; rfl
    rw [e]
    refine ⟨g2, ?_, g3⟩
    have hqe : (q - m + 1) * es ≤ n * es := Nat.mul_le_mul_right _ (by omega)
    rw [Nat.succ_mul] at hqe
    have hqq : p.base + q * es = p.base + m * es + (q - m) * es := by
      have : q * es = m * es + (q - m) * es := by rw [← Nat.add_mul]; congr 1; omega
      omega
    rw [hqq, row_in c _ news _ _ (by omega) (by omega)]
    exact g4
theorem BRel.els {φ : Phi} {w : World} {ty es n : Nat} {d : Bool} {t t' : Els} {p : Pl} (h : BRel φ w (.arr ty es n d t) p) (he : ∀ q, q < n → el2 q t' = el2 q t) : BRel φ w (.arr ty es n d t') p := by
  obtain ⟨c, fr, h1, h2, h3, h4, h5, h6, h7, h8⟩ := h
  exact ⟨c, fr, h1, h2, h3, h4, h5, h6, h7, fun q hq => by rw [he q hq]; exact h8 q hq⟩
theorem BRel.els_list {φ : Phi} {w : World} {ty es n : Nat} {d : Bool} {t : Els} {p : Pl} {c : Array Value} {fr : Nat × Nat} (h : BRel φ w (.arr ty es n d t) p) (k : Nat) (hk : k ≤ n) (hc : w.heap[p.b]? = some (.cells c ty fr)) :
    VEls φ es ((List.range k).map fun q => el2 q t) ((c.toList.drop p.base).take (k * es)) := by
  induction k with
  | zero => simp; exact VEls.nil
  | succ k ih =>
    obtain ⟨c', fr', h1, h2, h3, h4, h5, h6, h7, h8⟩ := h
    rw [hc] at h1
    cases h1
    obtain ⟨g1, g2, g3⟩ := h8 k (by omega)
    have hone : VEls φ es [el2 k t] ((c.toList.drop (p.base + k * es)).take es) := by
      have := VEls.cons g2 g1 g3 (VEls.nil (φ := φ) (es := es))
      simpa using this
    rw [List.range_succ, List.map_append, Nat.succ_mul, List.take_add, List.drop_drop]
    exact (ih (by omega)).append hone
section
variable {dst : Option Tmp} {type : TypeId} {pos : String} {after : Array Edge} {guard : Option (Nat × Bool)}
theorem cap_fits {need cap bytes : Nat} (h1 : cap < need) (h2 : need ≤ 256) (hb : bytes ≤ 1000000) : Builtin.nextslicecap need cap * bytes ≤ 281474976710656 := by
  have h : Builtin.nextslicecap need cap ≤ 1000 := by
    unfold Builtin.nextslicecap
    split
    · omega
    · rw [if_pos (by omega)]; omega
  have := Nat.mul_le_mul h hb
  omega
/-- The model's append, with room. -/
theorem run_app_room {t tx ty e : TypeId} {i : TypeInfo} {d : TypeDesc} (ht : P.underlying t = some (.slice e)) (hi : P.info? e = some i) (hx : P.underlying tx = some d) (hd : (∃ e', d = .slice e') ∨ d = .string) {w w' : World} {a : Option Addr} {m c n : Nat} {x : Value} {news : List Value}
    (hl : (Builtin.lenOf x).run P w = .ok n w) (hc : (Builtin.firstCells i.size n x).run P w = .ok news.toArray w) (hroom : m + n ≤ c)
    (hs : (match a with | some a => storeCells (a.add (m * i.size)) news | none => pure () : Sem Unit).run P w = .ok () w') :
    (Builtin.append_ #[t, tx] ty #[.slice a m c, x]).run P w = .ok (.slice a (m + n) c) w' := by
  cases a with
  | none =>
    have hs : (pure () : Sem Unit).run P w = .ok () w' := hs
    rw [Sem.run_pure] at hs
    cases hs
    rcases hd with ⟨e', rfl⟩ | rfl <;> simp [Builtin.append_, run_underlying ht, run_underlying hx, sizeOf, typeInfo, hi, hl, hroom, hc]
  | some a =>
    have hs : (storeCells (a.add (m * i.size)) news).run P w = .ok () w' := hs
    rcases hd with ⟨e', rfl⟩ | rfl <;> simp [Builtin.append_, run_underlying ht, run_underlying hx, sizeOf, typeInfo, hi, hl, hroom, hc, hs]
/-- The model's append, without. -/
theorem run_app_grow {t tx ty e : TypeId} {i : TypeInfo} {d : TypeDesc} {z : Value} (ht : P.underlying t = some (.slice e)) (hi : P.info? e = some i) (hz : i.zero = some z) (hx : P.underlying tx = some d) (hd : (∃ e', d = .slice e') ∨ d = .string) {w : World} {a : Option Addr} {m c n : Nat} {x : Value} {olds news : List Value}
    (hl : (Builtin.lenOf x).run P w = .ok n w) (hold : (Builtin.firstCells i.size m (.slice a m c)).run P w.drew = .ok olds.toArray w.drew) (hc : (Builtin.firstCells i.size n x).run P w.drew = .ok news.toArray w.drew)
    (hg : c < m + n) (h63 : ((m + n : Nat) : Int) ≤ 9223372036854775807) (hfit : Builtin.nextslicecap (m + n) c * i.bytes ≤ 281474976710656) :
    (Builtin.append_ #[t, tx] ty #[.slice a m c, x]).run P w =
      .ok (.slice (some ⟨w.heap.size, 0, none⟩) (m + n) (grownCap w (m + n) c e)) (w.drew.alloc (.cells ((olds ++ news).toArray ++ Builtin.zeroCells z.cells (grownCap w (m + n) c e - (m + n))) e)) := by
  have hn : ¬ (m + n ≤ c) := by omega
  have h63' : ¬ (9223372036854775807 < ((m : Int) + (n : Int))) := by omega
  have h48' : ¬ (281474976710656 < Builtin.nextslicecap (m + n) c * i.bytes) := by omega
  rcases hd with ⟨e', rfl⟩ | rfl <;>
    (simp [Builtin.append_, run_underlying ht, run_underlying hx, sizeOf, typeInfo, zeroValue, hi, hz, hl, hn, h63', h48', Question.forced, hc, hold, newRow, grownCap]
     congr 2
     apply Array.ext'
     simp [List.append_assoc])
theorem ok_append {args : Array Operand} {t u e : TypeId} (ht : undl P t = .slice e) (hk : (∃ e', undl P u = .slice e') ∨ undl P u = .string) (h0 : Nat.beq (szOf P e) 0 = false) (hb : Nat.ble (P.bytesOf e) 1000000 = true) (hzk : zlOk P e = true) :
    Ef P ⟨dst, .call ⟨.builtin .append, args, #[t, u]⟩, type, pos, after, guard⟩ fun xs h => on2 RC.bad (fun x y => appendF e (szOf P e) x y h) xs := by
  intro φ h w ρ xs r h' hR hf hv
  obtain ⟨s, x, rfl, hf⟩ := on2_ok hf
  obtain ⟨sv, xv, e1, h1, h2⟩ := args_two hv
  obtain ⟨n, ls, hn, hl, hcase⟩ := appendF_ok hf
  have hes : 0 < szOf P e := Nat.pos_of_ne_zero (nat_nbeq h0)
  obtain ⟨i', hi'⟩ := szOf_pos h0
  have hinfo := infoAt_ok hi'
  have hsz : i'.size = szOf P e := (szOf_info hi').symm
  have hbytes : i'.bytes ≤ 1000000 := by
    have : i'.bytes = P.bytesOf e := by unfold Program.bytesOf; rw [hinfo]; rfl
    rw [this]
    exact nat_ble hb
  obtain ⟨zv, hz, hzl'⟩ : ∃ zv, i'.zero = some zv ∧ zv.cells.size = szOf P e := by
    unfold zlOk at hzk
    cases hzc : zeroCs P e with
    | none => rw [hzc] at hzk; cases hzk
    | some z =>
      rw [hzc] at hzk
      unfold zeroCs at hzc
      cases hza : zeroA P e with
      | none => rw [hza] at hzc; cases hzc
      | some a =>
        rw [hza] at hzc
        unfold zeroA at hza
        rw [hi'] at hza
        dsimp only at hza
        cases hzz : i'.zero with
        | none => rw [hzz] at hza; cases hza
        | some v =>
          rw [hzz] at hza
          have hvz := (cellsO_ok hzc (ofV_ok φ v a hza)).1.length
          have hl := nat_beq hzk
          rw [len_eq] at hl
          exact ⟨v, rfl, by rw [← hl, hvz]; simp⟩
  have hd := undl_ok ht (by intro e; cases e)
  obtain ⟨d, hdu, hdk⟩ : ∃ d, P.underlying u = some d ∧ ((∃ e', d = .slice e') ∨ d = .string) := by
    rcases hk with ⟨e', hk⟩ | hk
    · exact ⟨_, undl_ok hk (by intro e; cases e), .inl ⟨e', rfl⟩⟩
    · exact ⟨_, undl_ok hk (by intro e; cases e), .inr rfl⟩
  have hlen := lenOf_run (P := P) hn h2 w
  obtain ⟨vs, h3, h4, h5⟩ := newEls_ok (P := P) hR.f hes hl hn (Nat.le_refl _) h2
  have hR' : RelF φ h.get w.drew := (hR.same (w' := w.drew) rfl).f
  obtain ⟨vs', h3', h4', _⟩ := newEls_ok (P := P) hR' hes hl hn (Nat.le_refl _) h2
  have fin : ∀ (φ' : Phi) (v : Value) (w' : World) (h' : Hp), (Builtin.append_ #[t, u] type #[sv, xv]).run P w = .ok v w' → V φ' r v → Step φ h w φ' h' w' →
      ∃ φ' w' v, Ends P ⟨dst, .call ⟨.builtin .append, args, #[t, u]⟩, type, pos, after, guard⟩ ρ w v w' ∧ V φ' r v ∧ Step φ h w φ' h' w' := by
    intro φ' v w' h' g1 g2 g3
    refine ⟨φ', w', v, .inl ?_, g2, g3⟩
    rw [run_builtin, e1]
    exact run_v g1
  -- a new row
  have grow : ∀ (a : Option Addr) (m c : Nat) (olds : List Value) (old : List (List AV)), sv = .slice a m c → c < m + n → m + n ≤ 256 → (Builtin.firstCells i'.size m (.slice a m c)).run P w.drew = .ok olds.toArray w.drew → VEls φ (szOf P e) old olds → old.length = m →
      r = .sl h.nx 0 (m + n) none → ∀ h1 : Hp, (h1 = h ∨ ∃ j, isRw (h.get j) = true ∧ (∃ p, φ j = some p) ∧ h1 = h.put j .none) → ∀ te : Els, (∀ q, q < m + n → el2 q te = el2 q (fillFrom 0 (old ++ ls) els0)) → (∀ id, h'.get id = if id = h.nx then .arr e (szOf P e) (m + n) true te else h1.get id) → h'.nx.num = h.nx.num + 1 →
      ∃ φ' w' v, Ends P ⟨dst, .call ⟨.builtin .append, args, #[t, u]⟩, type, pos, after, guard⟩ ρ w v w' ∧ V φ' r v ∧ Step φ h w φ' h' w' := by
    intro a m c olds old hsv hlt h256 hold hvo hol hr h1 hh1 te hte hget hnx
    have hge := grownCap_ge w (m + n) c e
    have hrun := run_app_grow (P := P) (ty := type) hd hinfo hz hdu hdk hlen hold (by rw [hsz]; exact h3') hlt (by omega) (cap_fits hlt h256 hbytes)
    rw [hsv] at fin
    have s1 : Step φ h w φ h1 w := by
      rcases hh1 with rfl | ⟨j, hj, ⟨p, hp⟩, rfl⟩
      · exact Step.refl hR
      · exact Step.put hR hj hp rfl (fun _ _ => rfl) rfl rfl rfl (fun h => absurd rfl h)
    have hnx1 : h1.nx = h.nx := by
      rcases hh1 with rfl | ⟨j, _, _, rfl⟩
      · rfl
      · exact Hp.put_nx _ _ _
    let p : Pl := ⟨w.heap.size, 0, szOf P e, grownCap w (m + n) c e * szOf P e⟩
    let rest : List Value := (Builtin.zeroCells zv.cells (grownCap w (m + n) c e - (m + n))).toList
    have hrest : rest.length = (grownCap w (m + n) c e - (m + n)) * szOf P e := by
      show (Builtin.zeroCells zv.cells _).toList.length = _
      unfold Builtin.zeroCells
      simp [hzl']
    have hlim : (m + n) * szOf P e + rest.length = grownCap w (m + n) c e * szOf P e := by
      rw [hrest, ← Nat.add_mul]
      congr 1
      omega
    have s2 : Step φ h1 w (upd φ h1.nx p) h' (w.drew.alloc (.cells ((olds ++ vs').toArray ++ Builtin.zeroCells zv.cells (grownCap w (m + n) c e - (m + n))) e)) := by
      refine Step.new s1.rel (by rw [hnx1]; exact hget) (by rw [hnx1]; exact hnx) rfl rfl rfl rfl rfl ?_
      refine BRel.els ?_ hte
      refine BRel.row (rest := rest) (vs := olds ++ vs') (fr := (0, 0)) hes (by simp [hol, h5]) h256 ((hvo.append h4').mono (upd_le p s1.rel.nx_none)) ?_ rfl rfl (by rw [hlim]) (noFz_zero _)
      show (w.drew.heap.push _)[w.heap.size]? = _
      rw [show w.heap.size = w.drew.heap.size from rfl, Array.getElem?_push, if_pos rfl]
      congr 2
      apply Array.toList_inj.1
      simp [rest]
    refine fin _ _ _ _ hrun ?_ (s1.trans s2)
    rw [hr]
    refine ⟨p, grownCap w (m + n) c e, by rw [← hnx1]; exact upd_same _ _ _, rfl, hge, by simp [p], hes⟩
  rcases hcase with ⟨rfl, rfl, rfl, rfl⟩ | ⟨rfl, hpos, hok⟩ | ⟨i, o, m, cap, ty', kn, d', tt, rfl, hgi, hcase⟩
  · have h1 : sv = .slice none 0 0 := h1
    subst h1
    refine fin φ _ w _ (run_app_room hd hinfo hdu hdk hlen (by rw [hsz]; exact h3) (Nat.le_refl 0) rfl) rfl (Step.refl hR)
  · have h1 : sv = .slice none 0 0 := h1
    obtain ⟨b, g1, g2, g3, g4⟩ := okB_ok hok
    obtain ⟨g5, rfl⟩ := mkArr_ok g1
    exact grow none 0 0 [] [] h1 (by omega) (by omega) (by simp [Builtin.firstCells]) VEls.nil rfl (by rw [g2, Nat.zero_add]) h (.inl rfl) _ (fun _ _ => rfl) (by rw [Nat.zero_add]; exact g3) g4
  · obtain ⟨p, c', hp, rfl, hmc⟩ := V.slice h1
    have hbr := hR.f.any hp
    have hrw : isRw (h.get i) = true := by rw [hgi]; rfl
    rcases hcase with ⟨hput, hroom⟩ | ⟨c, old, rfl, hlt, hold, hok⟩ | ⟨rfl, rfl, hkn, hty, hm, h256, hr, hget, hnx⟩
    · obtain ⟨b', hb', rfl, rfl⟩ := putB_ok hput
      have hfit : m + n ≤ c' := by
        rcases hroom with ⟨c, rfl, hc⟩ | ⟨rfl, hc⟩
        · obtain ⟨p', hp', e2, _⟩ := h1
          rw [hp] at hp'
          cases hp'
          cases e2
          exact hc
        · obtain ⟨p', c'', hp', e2, _, hl2, hpos⟩ := h1
          rw [hp] at hp'
          cases hp'
          cases e2
          rw [hgi] at hbr
          obtain ⟨_, _, _, _, hpe, hlim, _⟩ := hbr
          rw [hpe] at hl2
          have : (m + n) * szOf P e ≤ c' * szOf P e := by omega
          exact Nat.le_of_mul_le_mul_right this hes
      have key : ∃ w', (storeCells ((p.at o).add (m * szOf P e)) vs).run P w = .ok () w' ∧ Step φ h w φ (h.put i b') w' := by
        rw [Pl.at_add]
        cases ls with
        | nil =>
          cases hb'
          have hvs : vs = [] := h4.v
          subst hvs
          exact ⟨w, rfl, Step.reput hR i⟩
        | cons l1 ls =>
          obtain ⟨w', h6, h7, h8, h9⟩ := storeEls_ok (P := P) hes hbr hrw hb' h4
          exact ⟨w', h6, Step.wrote hR hrw hp h7 fun _ => ⟨h8, h9⟩⟩
      obtain ⟨w', g1, g2⟩ := key
      refine fin φ _ w' _ (run_app_room hd hinfo hdu hdk hlen (by rw [hsz]; exact h3) hfit (by rw [hsz]; exact g1)) ?_ g2
      rcases hroom with ⟨c, rfl, hc⟩ | ⟨rfl, hc⟩
      · obtain ⟨p', hp', e2, _⟩ := h1
        rw [hp] at hp'
        cases hp'
        cases e2
        exact ⟨p, hp, rfl, hc⟩
      · obtain ⟨p', c'', hp', e2, _, hl2, hpos⟩ := h1
        rw [hp] at hp'
        cases hp'
        cases e2
        exact ⟨p, c', hp, rfl, hfit, hl2, hpos⟩
    · obtain ⟨b, g1, g2, g3, g4⟩ := okB_ok hok
      obtain ⟨g5, rfl⟩ := mkArr_ok g1
      have hcc : c' = c := by obtain ⟨p', hp', e2, _⟩ := h1; rw [hp] at hp'; cases hp'; cases e2; rfl
      subst hcc
      obtain ⟨ovs, k1, k2, k3⟩ := elems_ok (P := P) hes (hR'.any hp) hold
      exact grow _ m c' ovs old rfl hlt g5 (by rw [hsz]; exact k1) k2 k3 g2 h (.inl rfl) _ (fun _ _ => rfl) g3 g4
    · -- a row whose capacity nobody knows
      have hty := hty.symm
      subst hty
      obtain ⟨p', c'', hp', e2, _, hl2, hpos⟩ := h1
      rw [hp] at hp'
      cases hp'
      cases e2
      rw [hgi] at hbr
      obtain ⟨c0, fr, q1, q2, q3, q4, q5, q6, q7, q8⟩ := id hbr
      rw [q3, Nat.zero_add] at hl2
      by_cases hfit : m + n ≤ c'
      · have hlimn : (m + n) * szOf P e ≤ p.lim := by rw [← hl2]; exact Nat.mul_le_mul_right _ hfit
        have hsum : (m + n) * szOf P e = m * szOf P e + n * szOf P e := Nat.add_mul ..
        have hnl : vs.length = n * szOf P e := by rw [h4.length, h5]
        have hst := run_storeCells_row (P := P) vs 0 (o := p.base + m * szOf P e) q1 q6 (by omega) (VL.oneCell h4.v h4.allCells)
        rw [Nat.add_zero] at hst
        let w' := w.putObj p.b (.cells (splA c0 (p.base + m * szOf P e) vs) e fr)
        have hlt : p.b < w.heap.size := (Array.getElem?_eq_some_iff.1 q1).1
        have s1 : Step φ h w φ (h.put i .none) w' := Step.wrote hR hrw hp ⟨_, rfl⟩ (fun h => absurd rfl h)
        have hle := upd_le p hR.nx_none
        have hb2 : BRel (upd φ h.nx p) w' (.arr e (szOf P e) (m + n) true (fillFrom m ls tt)) p :=
          hbr.grown hle q1 (World.putObj_heap_same hlt) (h4.mono hle) h5 hm h256 hlimn
        refine fin _ _ w' h' (run_app_room hd hinfo hdu hdk hlen (by rw [hsz]; exact h3) hfit (by rw [hsz]; show (storeCells ((p.at 0).add (m * szOf P e)) vs).run P w = _; rw [Pl.at_add, Nat.zero_add]; exact hst)) ?_ (Step.rename hR s1 hrw hp hget hnx hb2)
        rw [hr]
        exact ⟨p, c', upd_same _ _ _, rfl, hfit, by rw [q3, Nat.zero_add]; exact hl2, by rw [q3]; exact hes⟩
      · have hev := hbr.els_list m hm q1
        have hload : (Builtin.firstCells i'.size m (.slice (some (p.at 0)) m c')).run P w.drew = .ok ((c0.toList.drop p.base).take (m * szOf P e)).toArray w.drew := by
          rw [hsz]
          have hmk : m * szOf P e ≤ kn * szOf P e := Nat.mul_le_mul_right _ hm
          exact run_loadCells_row (w := w.drew) (b := p.b) (o := p.base) q1 (by simp; omega) rfl
        refine grow _ m c' _ ((List.range m).map fun q => el2 q tt) rfl (by omega) h256 hload hev (by simp) hr (h.put i .none) (.inr ⟨i, hrw, ⟨p, hp⟩, rfl⟩) (fillFrom m ls tt) (fun q hq => ?_) hget hnx
        have hol : (((List.range m).map fun q => el2 q tt) ++ ls).length = m + n := by rw [List.length_append, List.length_map, List.length_range, h5]
        have h9 := fillFrom_get (((List.range m).map fun q => el2 q tt) ++ ls) 0 els0 q (by omega) (by omega)
        rw [if_pos (by omega), Nat.sub_zero] at h9
        rw [h9, fillFrom_get ls m tt q (by omega) (by omega)]
        by_cases hqm : q < m
        · rw [if_neg (by omega), List.getD_eq_getElem?_getD, List.getElem?_append_left (by simpa using hqm), List.getElem?_map, List.getElem?_range hqm]
          rfl
        · rw [if_pos (by omega), List.getD_eq_getElem?_getD, List.getD_eq_getElem?_getD, List.getElem?_append_right (by simp; omega)]
          simp
end
end Go.Ax
namespace Go.Ax
open Go
variable {P : Program}

/-! ### kinds -/
theorem kNum_inj {j k : IntKind} (h : kNum j = kNum k) : j = k := by cases j <;> cases k <;> first | rfl | cases h
theorem fit1_ok {c : Nat} {x : AV} (h : fit1 c x = true) : (∃ k n, x = .int k n ∧ c = kNum k) ∨ (∃ s, x = .str s ∧ c = 8) ∨ ∃ b, x = .bool b ∧ c = 9 := by
  cases x with
  | int k n => exact .inl ⟨k, n, rfl, nat_beq h⟩
  | str s => exact .inr (.inl ⟨s, rfl, nat_beq h⟩)
  | bool b => exact .inr (.inr ⟨b, rfl, nat_beq h⟩)
  | _ => cases h
theorem kNum_lt (k : IntKind) : kNum k < 8 := by cases k <;> decide
/-- Of one kind: compared at once. -/
theorem eqS_fit {c : Nat} {x y : AV} (hx : fit1 c x = true) (hy : fit1 c y = true) : ∃ r, eqS x y = some r ∧ (r = true ↔ x = y) := by
  rcases fit1_ok hx with ⟨k, n, rfl, h1⟩ | ⟨s, rfl, h1⟩ | ⟨b, rfl, h1⟩
  · rcases fit1_ok hy with ⟨j, m, rfl, h2⟩ | ⟨s, rfl, h2⟩ | ⟨b, rfl, h2⟩
    · have : k = j := kNum_inj (h1.symm.trans h2)
      subst this
      have e : eqS (.int k n) (.int k m) = @Bool.rec (fun _ => Option Bool) none (some (ieqB n m)) (kindB k k) := rfl
      have hk : kindB k k = true := Nat.beq_refl _
      rw [e, hk]
      refine ⟨_, rfl, ?_⟩
      rw [ieqB_eq]
      simp
    · have := kNum_lt k; omega
    · have := kNum_lt k; omega
  · rcases fit1_ok hy with ⟨j, m, rfl, h2⟩ | ⟨t, rfl, h2⟩ | ⟨b, rfl, h2⟩
    · have := kNum_lt j; omega
    · refine ⟨bytesEq s t, rfl, ?_⟩
      rw [bytesEq_eq]
      simp
    · omega
  · rcases fit1_ok hy with ⟨j, m, rfl, h2⟩ | ⟨t, rfl, h2⟩ | ⟨b', rfl, h2⟩
    · have := kNum_lt j; omega
    · omega
    · refine ⟨boolEq b b', rfl, ?_⟩
      rw [boolEq_eq]
      simp
theorem fits_length : ∀ {s : List Nat} {l : List AV}, fits s l = true → s.length = l.length
  | [], [], _ => rfl
  | [], _ :: _, h => by cases h
  | _ :: _, [], h => by cases h
  | c :: s, x :: l, h => by
    have h : (fit1 c x && fits s l) = true := h
    rw [Bool.and_eq_true] at h
    rw [List.length_cons, List.length_cons, fits_length h.2]
theorem eqFs_fit : ∀ {s : List Nat} {a b : List AV}, fits s a = true → fits s b = true → ∃ r, eqFs a b = some r ∧ (r = true ↔ a = b)
  | [], [], [], _, _ => ⟨true, rfl, by simp⟩
  | c :: s, x :: a, y :: b, ha, hb => by
    have ha : (fit1 c x && fits s a) = true := ha
    have hb : (fit1 c y && fits s b) = true := hb
    rw [Bool.and_eq_true] at ha hb
    obtain ⟨r, h1, h2⟩ := eqS_fit ha.1 hb.1
    have e : eqFs (x :: a) (y :: b) = @Option.rec _ (fun _ => Option Bool) none (fun r => @Bool.rec (fun _ => Option Bool) (some false) (eqFs a b) r) (eqS x y) := rfl
    rw [e, h1]
    cases r with
    | false => exact ⟨false, rfl, by simp; intro hxy; exact absurd (h2.2 hxy) (by simp)⟩
    | true =>
      obtain ⟨r', h3, h4⟩ := eqFs_fit ha.2 hb.2
      refine ⟨r', h3, ?_⟩
      rw [h4, h2.1 rfl]
      simp
  | [], _ :: _, _, h, _ => by cases h
  | [], [], _ :: _, _, h => by cases h
  | _ :: _, [], _, h, _ => by cases h
  | _ :: _, _ :: _, [], _, h => by cases h
theorem fits_take {s s' : List Nat} {l : List AV} (h : fits (s ++ s') l = true) : fits s (l.take s.length) = true ∧ fits s' (l.drop s.length) = true := by
  induction s generalizing l with
  | nil => exact ⟨by simp [fits], by simpa using h⟩
  | cons c s ih =>
    cases l with
    | nil => cases h
    | cons x l =>
      have h : (fit1 c x && fits (s ++ s') l) = true := h
      rw [Bool.and_eq_true] at h
      obtain ⟨h1, h2⟩ := ih h.2
      refine ⟨?_, by simpa using h2⟩
      show (fit1 c x && fits s (l.take s.length)) = true
      rw [h.1, h1]
      rfl
/-! ### parts -/
theorem run_eqScalar {φ : Phi} {c : Nat} {a b : AV} {u v : Value} (ha : fit1 c a = true) (hb : fit1 c b = true) (hu : V φ a u) (hv : V φ b v) {t : TypeId} (ht : (∃ k, undl P t = .int k ∧ c = kNum k) ∨ (undl P t = .string ∧ c = 8) ∨ (undl P t = .bool ∧ c = 9)) (D : Nat) (w : World) :
    ∃ r : Bool, (Op.equalIn (D + 1) t u v).run P w = .ok r w ∧ (r = true ↔ a = b) := by
  rcases fit1_ok ha with ⟨k, n, rfl, h1⟩ | ⟨s, rfl, h1⟩ | ⟨x, rfl, h1⟩
  · rcases fit1_ok hb with ⟨j, m, rfl, h2⟩ | ⟨s, rfl, h2⟩ | ⟨b, rfl, h2⟩
    · have : k = j := kNum_inj (h1.symm.trans h2)
      subst this
      have hu : u = .int k n := hu
      have hv : v = .int k m := hv
      subst hu; subst hv
      rcases ht with ⟨q, ht, _⟩ | ⟨_, ht⟩ | ⟨_, ht⟩
      · have hd := undl_run ht (by intro e; cases e) w
        refine ⟨n == m, ?_, by simp⟩
        simp [Op.equalIn, Sem.run_bind, hd, Result.andThen]
      · have := kNum_lt k; omega
      · have := kNum_lt k; omega
    · have := kNum_lt k; omega
    · have := kNum_lt k; omega
  · rcases fit1_ok hb with ⟨j, m, rfl, h2⟩ | ⟨s', rfl, h2⟩ | ⟨b, rfl, h2⟩
    · have := kNum_lt j; omega
    · have hu : u = .string ⟨⟨s⟩⟩ := hu
      have hv : v = .string ⟨⟨s'⟩⟩ := hv
      subst hu; subst hv
      rcases ht with ⟨q, ht, e⟩ | ⟨ht, _⟩ | ⟨_, ht⟩
      · have := kNum_lt q; omega
      · have hd := undl_run ht (by intro e; cases e) w
        refine ⟨(⟨⟨s⟩⟩ : ByteArray) == ⟨⟨s'⟩⟩, ?_, ?_⟩
        · simp [Op.equalIn, Sem.run_bind, hd, Result.andThen]
        · rw [beq_toListBytes, toList_mk, toList_mk]
          simp
      · omega
    · omega
  · rcases fit1_ok hb with ⟨j, m, rfl, h2⟩ | ⟨s', rfl, h2⟩ | ⟨y, rfl, h2⟩
    · have := kNum_lt j; omega
    · omega
    · have hu : u = .bool x := hu
      have hv : v = .bool y := hv
      subst hu; subst hv
      rcases ht with ⟨q, ht, e⟩ | ⟨_, ht⟩ | ⟨ht, _⟩
      · have := kNum_lt q; omega
      · omega
      · have hd := undl_run ht (by intro e; cases e) w
        refine ⟨x == y, ?_, by simp⟩
        simp [Op.equalIn, Sem.run_bind, hd, Result.andThen]
/-- A part of a row, of a type of such cells. -/
theorem run_part_agg {t : TypeId} (hk : undl P t ≠ .invalid) (ha : isAggB P t = true) (xs : Array Value) (o : Nat) (w : World) : (part t xs o).run P w = .ok (.agg (xs.extract o (o + szOf P t))) w := by
  simp only [part, Sem.run_bind, isAgg_run hk, ha, Result.andThen, if_true, sizeOf_undl hk]
  rfl
theorem run_part_one {t : TypeId} (hk : undl P t ≠ .invalid) (ha : isAggB P t = false) {xs : Array Value} {o : Nat} {v : Value} (hv : xs[o]? = some v) (w : World) : (part t xs o).run P w = .ok v w := by
  simp only [part, Sem.run_bind, isAgg_run hk, ha, Result.andThen]
  simp [hv]
/-- In a row at o lie the cells a, of the kinds s. -/
def AtF (φ : Phi) (s : List Nat) (a : List AV) (xs : Array Value) (o : Nat) : Prop := fits s a = true ∧ VL φ a ((xs.toList.drop o).take s.length)
theorem AtF.app {φ : Phi} {s s' : List Nat} {a : List AV} {xs : Array Value} {o : Nat} (h : AtF φ (s ++ s') a xs o) : AtF φ s (a.take s.length) xs o ∧ AtF φ s' (a.drop s.length) xs (o + s.length) := by
  obtain ⟨h1, h2⟩ := h
  obtain ⟨h3, h4⟩ := fits_take h1
  refine ⟨⟨h3, ?_⟩, ⟨h4, ?_⟩⟩
  · have := h2.take s.length
    rwa [List.take_take, Nat.min_eq_left (by simp)] at this
  · have := h2.drop s.length
    rw [List.length_append, List.drop_take, Nat.add_sub_cancel_left, List.drop_drop] at this
    exact this
theorem fits_nil {a : List AV} (h : fits [] a = true) : a = [] := by cases a with | nil => rfl | cons x a => cases h
theorem AtF.get {φ : Phi} {c : Nat} {a : List AV} {xs : Array Value} {o : Nat} (h : AtF φ [c] a xs o) : ∃ x v, a = [x] ∧ fit1 c x = true ∧ xs[o]? = some v ∧ V φ x v := by
  obtain ⟨h1, h2⟩ := h
  match a, h1, h2 with
  | [x], h1, h2 =>
    have h1 : (fit1 c x && true) = true := h1
    obtain ⟨v, h3, h4⟩ := h2.one
    refine ⟨x, v, rfl, by simpa using h1, ?_, h4⟩
    have := congrArg (fun l : List Value => l[0]?) h3
    simpa using this
  | [], h1, _ => cases h1
  | _ :: _ :: _, h1, _ => simp [fits] at h1
theorem AtF.extract {φ : Phi} {s : List Nat} {a : List AV} {xs : Array Value} {o : Nat} (h : AtF φ s a xs o) : AtF φ s a (xs.extract o (o + s.length)) 0 := by
  refine ⟨h.1, ?_⟩
  have e : (xs.extract o (o + s.length)).toList = (xs.toList.drop o).take s.length := by
    rw [Array.toList_extract]
    simp [List.extract]
  rw [e, List.drop_zero, List.take_take, Nat.min_self]
  exact h.2
/-- Of a type: its parts are compared, and checked. -/
structure EqT (P : Program) (t : TypeId) (d : Nat) (s : List Nat) : Prop where
  known : undl P t ≠ .invalid
  eq : ∀ (φ : Phi) (w : World) (xs ys : Array Value) (a b : List AV) (o : Nat), AtF φ s a xs o → AtF φ s b ys o →
    ∃ u v, (part t xs o).run P w = .ok u w ∧ (part t ys o).run P w = .ok v w ∧ ∀ D, ∃ r : Bool, (Op.equalIn (D + d) t u v).run P w = .ok r w ∧ (r = true ↔ a = b)
  chk : ∀ (φ : Phi) (w : World) (xs : Array Value) (a : List AV) (o : Nat), AtF φ s a xs o → ∃ u, (part t xs o).run P w = .ok u w ∧ ∀ em D, (Instr.checkKey em (D + d) t u).run P w = .ok () w
theorem eqF_ok {d : Nat} {f : Nat → Option (List Nat)} (hf : ∀ t s, f t = some s → s.length = szOf P t → EqT P t d s) {φ : Phi} {w : World} {xs ys : Array Value} : ∀ (fs : List Field) (o : Nat) (s : List Nat), shFs P f o fs = some s → ∀ a b, AtF φ s a xs o → AtF φ s b ys o → ∀ D,
    ∃ r : Bool, (Op.eqFields (D + d) xs ys fs).run P w = .ok r w ∧ (r = true ↔ a = b)
  | [], o, s, h, a, b, ha, hb, D => by
    cases h
    have e1 := fits_nil ha.1
    have e2 := fits_nil hb.1
    exact ⟨true, rfl, by rw [e1, e2]; simp⟩
  | x :: fs, o, s, h, a, b, ha, hb, D => by
    have h : (match x.name == "_", Nat.beq x.offset o, f x.type with
      | false, true, some s => (match Nat.beq (len s) (szOf P x.type), shFs P f (o + len s) fs with
        | true, some r => some (s ++ r)
        | _, _ => none)
      | _, _, _ => none) = some s := h
    split at h
    · rename_i s1 hn ho hft
      split at h
      · rename_i r hl hr
        cases h
        rw [len_eq] at hl hr
        have hl := nat_beq hl
        have ho := nat_beq ho
        obtain ⟨ha1, ha2⟩ := ha.app
        obtain ⟨hb1, hb2⟩ := hb.app
        obtain ⟨u, v, p1, p2, p3⟩ := (hf x.type s1 hft hl).eq φ w xs ys _ _ o ha1 hb1
        obtain ⟨r1, q1, q2⟩ := p3 D
        obtain ⟨r2, q3, q4⟩ := eqF_ok (w := w) hf fs _ r hr _ _ ha2 hb2 D
        have hn' : x.name ≠ "_" := fun e => by rw [e] at hn; cases hn
        subst ho
        simp only [Op.eqFields, hn', ne_eq, not_false_eq_true, if_true, Sem.run_bind, p1, p2, q1, Result.andThen]
        have hab : a = b ↔ a.take s1.length = b.take s1.length ∧ a.drop s1.length = b.drop s1.length := by
          constructor
          · intro e; rw [e]; exact ⟨rfl, rfl⟩
          · intro ⟨e1, e2⟩; rw [← List.take_append_drop s1.length a, ← List.take_append_drop s1.length b, e1, e2]
        cases r1 with
        | false => exact ⟨false, by simp, by rw [hab]; simp; intro e; exact absurd (q2.2 e) (by simp)⟩
        | true => exact ⟨r2, by simpa using q3, by rw [hab, q4]; simp [q2.1 rfl]⟩
      · cases h
    · cases h
theorem eqI_ok {d : Nat} {e : TypeId} {s : List Nat} (he : EqT P e d s) (hl : s.length = szOf P e) {φ : Phi} {w : World} {xs ys : Array Value} : ∀ (n i : Nat) (a b : List AV), AtF φ (repS n s) a xs (i * szOf P e) → AtF φ (repS n s) b ys (i * szOf P e) → ∀ D,
    ∃ r : Bool, (Op.eqItems (D + d) e (szOf P e) xs ys (List.range' i n)).run P w = .ok r w ∧ (r = true ↔ a = b)
  | 0, i, a, b, ha, hb, D => by
    have e1 := fits_nil ha.1
    have e2 := fits_nil hb.1
    exact ⟨true, rfl, by rw [e1, e2]; simp⟩
  | n + 1, i, a, b, ha, hb, D => by
    have ha : AtF φ (s ++ repS n s) a xs (i * szOf P e) := ha
    have hb : AtF φ (s ++ repS n s) b ys (i * szOf P e) := hb
    obtain ⟨ha1, ha2⟩ := ha.app
    obtain ⟨hb1, hb2⟩ := hb.app
    obtain ⟨u, v, p1, p2, p3⟩ := he.eq φ w xs ys _ _ _ ha1 hb1
    obtain ⟨r1, q1, q2⟩ := p3 D
    have hi : i * szOf P e + s.length = (i + 1) * szOf P e := by rw [Nat.succ_mul, hl]
    rw [hi] at ha2 hb2
    obtain ⟨r2, q3, q4⟩ := eqI_ok (w := w) he hl n (i + 1) _ _ ha2 hb2 D
    rw [List.range'_succ]
    simp only [Op.eqItems, Sem.run_bind, p1, p2, q1, Result.andThen]
    have hab : a = b ↔ a.take s.length = b.take s.length ∧ a.drop s.length = b.drop s.length := by
      constructor
      · intro e; rw [e]; exact ⟨rfl, rfl⟩
      · intro ⟨e1, e2⟩; rw [← List.take_append_drop s.length a, ← List.take_append_drop s.length b, e1, e2]
    cases r1 with
    | false => exact ⟨false, by simp, by rw [hab]; simp; intro e; exact absurd (q2.2 e) (by simp)⟩
    | true => exact ⟨r2, by simpa using q3, by rw [hab, q4]; simp [q2.1 rfl]⟩
theorem chkF_ok {d : Nat} {f : Nat → Option (List Nat)} (hf : ∀ t s, f t = some s → s.length = szOf P t → EqT P t d s) {φ : Phi} {w : World} {xs : Array Value} {em : Bool} : ∀ (fs : List Field) (o : Nat) (s : List Nat), shFs P f o fs = some s → ∀ a, AtF φ s a xs o → ∀ D,
    (forIn fs PUnit.unit (fun (x : Field) (_ : PUnit) => (do
      if x.name ≠ "_" then
        Instr.checkKey em (D + d) x.type (← part x.type xs x.offset)
        pure (ForInStep.yield PUnit.unit)
      else pure (ForInStep.yield PUnit.unit) : Sem (ForInStep PUnit))) : Sem PUnit).run P w = .ok PUnit.unit w
  | [], o, s, h, a, ha, D => by simp
  | x :: fs, o, s, h, a, ha, D => by
    have h : (match x.name == "_", Nat.beq x.offset o, f x.type with
      | false, true, some s => (match Nat.beq (len s) (szOf P x.type), shFs P f (o + len s) fs with
        | true, some r => some (s ++ r)
        | _, _ => none)
      | _, _, _ => none) = some s := h
    split at h
    · rename_i s1 hn ho hft
      split at h
      · rename_i r hl hr
        cases h
        rw [len_eq] at hl hr
        have hl := nat_beq hl
        have ho := nat_beq ho
        obtain ⟨ha1, ha2⟩ := ha.app
        obtain ⟨u, p1, p2⟩ := (hf x.type s1 hft hl).chk φ w xs _ o ha1
        have ih := chkF_ok (w := w) (em := em) hf fs _ r hr _ ha2 D
        have hn' : x.name ≠ "_" := fun e => by rw [e] at hn; cases hn
        subst ho
        simp only [List.forIn_cons, hn', ne_eq, not_false_eq_true, if_true, Sem.run_bind, p1, p2, Result.andThen]
        simpa using ih
      · cases h
    · cases h
theorem chkI_ok {d : Nat} {e : TypeId} {s : List Nat} (he : EqT P e d s) (hl : s.length = szOf P e) {φ : Phi} {w : World} {xs : Array Value} {em : Bool} {i0 : TypeInfo} (hi0 : infoAt P e = some i0) : ∀ (n i : Nat) (a : List AV), AtF φ (repS n s) a xs (i * szOf P e) → ∀ D,
    (forIn (List.range' i n) PUnit.unit (fun (i : Nat) (_ : PUnit) => (do
      Instr.checkKey em (D + d) e (← part e xs (i * (← sizeOf e)))
      pure (ForInStep.yield PUnit.unit) : Sem (ForInStep PUnit))) : Sem PUnit).run P w = .ok PUnit.unit w
  | 0, i, a, ha, D => by simp
  | n + 1, i, a, ha, D => by
    have ha : AtF φ (s ++ repS n s) a xs (i * szOf P e) := ha
    obtain ⟨ha1, ha2⟩ := ha.app
    obtain ⟨u, p1, p2⟩ := he.chk φ w xs _ _ ha1
    have hi : i * szOf P e + s.length = (i + 1) * szOf P e := by rw [Nat.succ_mul, hl]
    rw [hi] at ha2
    have ih := chkI_ok (w := w) (em := em) he hl hi0 n (i + 1) _ ha2 D
    rw [List.range'_succ, List.forIn_cons]
    simp only [Sem.run_bind, sizeOf_run hi0, p1, p2, Result.andThen]
    simpa using ih
end Go.Ax
namespace Go.Ax
open Go
variable {P : Program}
theorem fits_one {s : List Nat} {x : AV} (h : fits s [x] = true) : ∃ c, s = [c] ∧ fit1 c x = true := by
  cases s with
  | nil => cases h
  | cons c s =>
    have h : (fit1 c x && fits s []) = true := h
    rw [Bool.and_eq_true] at h
    cases s with
    | nil => exact ⟨c, rfl, h.1⟩
    | cons d s => cases h.2
theorem eqT_scalar {t : TypeId} {c : Nat} (d : Nat) (hk : undl P t ≠ .invalid) (ha : isAggB P t = false) (ht : (∃ k, undl P t = .int k ∧ c = kNum k) ∨ (undl P t = .string ∧ c = 8) ∨ (undl P t = .bool ∧ c = 9)) : EqT P t (d + 1) [c] := by
  refine ⟨hk, fun φ w xs ys a b o h1 h2 => ?_, fun φ w xs a o h1 => ?_⟩
  · obtain ⟨x, u, rfl, f1, g1, v1⟩ := h1.get
    obtain ⟨y, v, rfl, f2, g2, v2⟩ := h2.get
    refine ⟨u, v, run_part_one hk ha g1 w, run_part_one hk ha g2 w, fun D => ?_⟩
    obtain ⟨r, h3, h4⟩ := run_eqScalar f1 f2 v1 v2 ht (D + d) w
    exact ⟨r, h3, by rw [h4]; simp⟩
  · obtain ⟨x, u, rfl, f1, g1, v1⟩ := h1.get
    refine ⟨u, run_part_one hk ha g1 w, fun em D => ?_⟩
    show (Instr.checkKey em (D + d + 1) t u).run P w = _
    have hd : ∃ dd, (underlying t).run P w = .ok dd w ∧ ((∃ k, dd = .int k) ∨ dd = .string ∨ dd = .bool) := by
      rcases ht with ⟨k, ht, _⟩ | ⟨ht, _⟩ | ⟨ht, _⟩
      · exact ⟨_, undl_run ht (by intro e; cases e) w, .inl ⟨k, rfl⟩⟩
      · exact ⟨_, undl_run ht (by intro e; cases e) w, .inr (.inl rfl)⟩
      · exact ⟨_, undl_run ht (by intro e; cases e) w, .inr (.inr rfl)⟩
    obtain ⟨dd, hd1, hd2⟩ := hd
    rw [Instr.checkKey, Sem.run_bind, hd1]
    rcases hd2 with ⟨k, rfl⟩ | rfl | rfl <;> rfl
theorem shT_ok : ∀ (d t : Nat) (s : List Nat), shT P d t = some s → s.length = szOf P t → EqT P t d s
  | 0, _, _, h, _ => by cases h
  | d + 1, t, s, h, hl => by
    have h : (match undl P t with
      | .int k => some [kNum k]
      | .string => some [8]
      | .bool => some [9]
      | .struct fs => (match P.stoodInHeld t with
        | true => none
        | false => shFs P (shT P d) 0 fs.toList)
      | .array n e => (match shT P d e with
        | some s => (match Nat.beq (len s) (szOf P e) with
          | true => some (repS n s)
          | false => none)
        | none => none)
      | _ => none) = some s := h
    have hag : ∀ dd, undl P t = dd → isAggB P t = isAggD dd := fun dd e => by unfold isAggB; rw [e]
    split at h
    · rename_i k hu
      cases h
      exact eqT_scalar d (by rw [hu]; intro e; cases e) (hag _ hu) (.inl ⟨k, hu, rfl⟩)
    · rename_i hu
      cases h
      exact eqT_scalar d (by rw [hu]; intro e; cases e) (hag _ hu) (.inr (.inl ⟨hu, rfl⟩))
    · rename_i hu
      cases h
      exact eqT_scalar d (by rw [hu]; intro e; cases e) (hag _ hu) (.inr (.inr ⟨hu, rfl⟩))
    · rename_i fs hu
      split at h
      · cases h
      · rename_i hst
        have hk : undl P t ≠ .invalid := by rw [hu]; intro e; cases e
        have hd := undl_ok hu (by intro e; cases e)
        have hfs : P.fieldsOf t = fs := by simp [Program.fieldsOf, hd]
        refine ⟨hk, fun φ w xs ys a b o h1 h2 => ?_, fun φ w xs a o h1 => ?_⟩
        · have h3 := h1.extract
          have h4 := h2.extract
          rw [hl] at h3 h4
          refine ⟨_, _, run_part_agg hk (hag _ hu) xs o w, run_part_agg hk (hag _ hu) ys o w, fun D => ?_⟩
          obtain ⟨r, h5, h6⟩ := eqF_ok (w := w) (shT_ok d) fs.toList 0 s h a b h3 h4 D
          refine ⟨r, ?_, h6⟩
          show (Op.equalIn (D + d + 1) t _ _).run P w = _
          rw [run_equalIn_struct w (D + d) t _ _ (by rw [hfs]; exact hd) hst, hfs]
          exact h5
        · have h3 := h1.extract
          rw [hl] at h3
          refine ⟨_, run_part_agg hk (hag _ hu) xs o w, fun em D => ?_⟩
          show (Instr.checkKey em (D + d + 1) t _).run P w = _
          rw [Instr.checkKey]
          simp only [Sem.run_bind, undl_run hu (by intro e; cases e) w, Result.andThen]
          rw [← Array.forIn_toList]
          have := chkF_ok (w := w) (em := em) (shT_ok d) fs.toList 0 s h a h3 D
          simp at this ⊢
          rw [this]
    · rename_i n e hu
      split at h
      · rename_i s1 hs1
        split at h
        · rename_i hsz
          cases h
          rw [len_eq] at hsz
          have hsz := nat_beq hsz
          have he := shT_ok d e s1 hs1 hsz
          have hk : undl P t ≠ .invalid := by rw [hu]; intro e; cases e
          have hd := undl_ok hu (by intro e; cases e)
          obtain ⟨i0, hi0, _⟩ := undl_info (P := P) (t := e) rfl he.known
          refine ⟨hk, fun φ w xs ys a b o h1 h2 => ?_, fun φ w xs a o h1 => ?_⟩
          · have h3 := h1.extract
            have h4 := h2.extract
            rw [hl] at h3 h4
            refine ⟨_, _, run_part_agg hk (hag _ hu) xs o w, run_part_agg hk (hag _ hu) ys o w, fun D => ?_⟩
            obtain ⟨r, h5, h6⟩ := eqI_ok (w := w) he hsz n 0 a b (by rw [Nat.zero_mul]; exact h3) (by rw [Nat.zero_mul]; exact h4) D
            refine ⟨r, ?_, h6⟩
            show (Op.equalIn (D + d + 1) t _ _).run P w = _
            rw [run_equalIn_array w (D + d) _ _ hd (infoAt_ok hi0), cellsOf_info hi0, List.range_eq_range']
            exact h5
          · have h3 := h1.extract
            rw [hl] at h3
            refine ⟨_, run_part_agg hk (hag _ hu) xs o w, fun em D => ?_⟩
            show (Instr.checkKey em (D + d + 1) t _).run P w = _
            rw [Instr.checkKey]
            simp only [Sem.run_bind, undl_run hu (by intro e; cases e) w, Result.andThen]
            simp only [Std.Legacy.Range.forIn_eq_forIn_range', Std.Legacy.Range.size, Nat.sub_zero, Nat.add_one_sub_one, Nat.div_one]
            have := chkI_ok (w := w) (em := em) he hsz hi0 n 0 a (by rw [Nat.zero_mul]; exact h3) D
            simp at this ⊢
            rw [this]
        · cases h
      · cases h
    · cases h
theorem keySh_ok {t : Nat} {k : KeyK} (h : keySh P t = some k) : EqT P t 4 k.sh ∧ k.sh.length = szOf P t ∧ k.agg = isAggB P t := by
  unfold keySh at h
  split at h
  · rename_i s hs
    split at h
    · rename_i hl
      cases h
      rw [len_eq] at hl
      exact ⟨shT_ok 4 t s hs (nat_beq hl), nat_beq hl, rfl⟩
    · cases h
  · cases h
/-- The cells of a key. -/
def keyCells (k : KeyK) (x : AV) : List AV := match k.agg with
  | true => (match x with | .agg l => l | _ => [])
  | false => [x]
/-- The value of a key, laid into a row of its own, is its part there. -/
theorem key_part {k : KeyK} {t : Nat} (hk : keySh P t = some k) {φ : Phi} {x : AV} {v : Value} (hx : okKey k x = true) (hv : V φ x v) (w : World) : AtF φ k.sh (keyCells k x) v.cells 0 ∧ (part t v.cells 0).run P w = .ok v w := by
  obtain ⟨h1, h2, h3⟩ := keySh_ok hk
  unfold okKey at hx
  unfold keyCells
  cases hg : k.agg with
  | true =>
    rw [hg] at hx
    cases x with
    | agg l =>
      have hx : fits k.sh l = true := hx
      obtain ⟨vs, rfl, h4, h5⟩ := hv
      have hlen : vs.size = szOf P t := by rw [← h2, fits_length hx, h4.length]; simp
      refine ⟨⟨hx, ?_⟩, ?_⟩
      · show VL φ l ((vs.toList.drop 0).take k.sh.length)
        rw [List.drop_zero, List.take_of_length_le (by rw [h2]; simp [hlen])]
        exact h4
      · rw [run_part_agg h1.known (by rw [← h3, hg])]
        show Result.ok (Value.agg (vs.extract 0 (0 + szOf P t))) w = _
        rw [Nat.zero_add, ← hlen, Array.extract_size]
    | _ => cases hx
  | false =>
    rw [hg] at hx
    have hx : fits k.sh [x] = true := hx
    have hc : isCell x = true := by
      obtain ⟨c, _, h5⟩ := fits_one hx
      rcases fit1_ok h5 with ⟨_, _, rfl, _⟩ | ⟨_, rfl, _⟩ | ⟨_, rfl, _⟩ <;> rfl
    have hcl := hv.cells_one hc
    have hl1 : k.sh.length = 1 := by rw [fits_length hx]; rfl
    rw [hcl]
    refine ⟨⟨hx, ?_⟩, run_part_one h1.known (by rw [← h3, hg]) rfl w⟩
    rw [hl1]
    exact VL.mk1 hv
theorem keyCells_inj {k : KeyK} {x y : AV} (hx : okKey k x = true) (hy : okKey k y = true) : keyCells k x = keyCells k y ↔ x = y := by
  unfold okKey at hx hy
  unfold keyCells
  cases hg : k.agg with
  | true =>
    rw [hg] at hx hy
    cases x with
    | agg l =>
      cases y with
      | agg m => simp
      | _ => cases hy
    | _ => cases hx
  | false => simp
theorem eqK_fit {k : KeyK} {x y : AV} (hx : okKey k x = true) (hy : okKey k y = true) : ∃ r, eqK x y = some r ∧ (r = true ↔ x = y) := by
  unfold okKey at hx hy
  cases hg : k.agg with
  | true =>
    rw [hg] at hx hy
    cases x with
    | agg l =>
      cases y with
      | agg m =>
        obtain ⟨r, h1, h2⟩ := eqFs_fit (show fits k.sh l = true from hx) (show fits k.sh m = true from hy)
        exact ⟨r, h1, by rw [h2]; simp⟩
      | _ => cases hy
    | _ => cases hx
  | false =>
    rw [hg] at hx hy
    have hx : fits k.sh [x] = true := hx
    have hy : fits k.sh [y] = true := hy
    obtain ⟨c, hc, h5⟩ := fits_one hx
    obtain ⟨c', hc', h6⟩ := fits_one hy
    rw [hc] at hc'
    cases hc'
    obtain ⟨r, h1, h2⟩ := eqS_fit h5 h6
    refine ⟨r, ?_, h2⟩
    rcases fit1_ok h5 with ⟨_, _, rfl, _⟩ | ⟨_, rfl, _⟩ | ⟨_, rfl, _⟩ <;> exact h1
/-- Keys are equal as the executor says. -/
theorem key_equal {k : KeyK} {t : Nat} (hk : keySh P t = some k) {φ : Phi} {x y : AV} {u v : Value} (hx : okKey k x = true) (hu : V φ x u) (hv : V φ y v) {r : Bool} (he : eqKK k x y = some r) (w : World) :
    (Op.equal t u v).run P w = .ok r w ∧ (r = true ↔ x = y) ∧ okKey k y = true := by
  unfold eqKK at he
  cases hy : okKey k y with
  | false => rw [hy] at he; cases he
  | true =>
    rw [hy] at he
    have he : eqK x y = some r := he
    obtain ⟨r', h1, h2⟩ := eqK_fit hx hy
    rw [he] at h1
    cases h1
    obtain ⟨h3, h4⟩ := key_part hk hx hu w
    obtain ⟨h5, h6⟩ := key_part hk hy hv w
    obtain ⟨u', v', p1, p2, p3⟩ := (keySh_ok hk).1.eq φ w _ _ _ _ 0 h3 h5
    rw [h4] at p1
    rw [h6] at p2
    cases p1
    cases p2
    obtain ⟨r'', q1, q2⟩ := p3 9996
    refine ⟨?_, h2, rfl⟩
    have e : r'' = r := by
      rw [keyCells_inj hx hy] at q2
      rw [Bool.eq_iff_iff, q2, h2]
    rw [← e]
    exact q1
theorem key_check {k : KeyK} {t : Nat} (hk : keySh P t = some k) {φ : Phi} {x : AV} {u : Value} (hx : okKey k x = true) (hu : V φ x u) (em : Bool) (w : World) : (Instr.checkKey em 10000 t u).run P w = .ok () w := by
  obtain ⟨h3, h4⟩ := key_part hk hx hu w
  obtain ⟨u', p1, p2⟩ := (keySh_ok hk).1.chk φ w _ _ 0 h3
  rw [h4] at p1
  cases p1
  exact p2 em 9996
section
variable {dst : Option Tmp} {type : TypeId} {pos : String} {after : Array Edge} {guard : Option (Nat × Bool)}
theorem ok_eq_flat {op : BinOp} {neg : Bool} {t c : TypeId} {x y : Operand} {k : KeyK} (ho : negOf op neg) (hk : keySh P t = some k) (hg : (k.agg && !(P.eqGuardType P.depth t)) = true) :
    Pur P ⟨dst, .binOp op t x y c, type, pos, after, guard⟩ (on2 none fun x y => eqOut neg (eqFlat k.sh x y)) :=
  Pur.of2 rfl fun φ w ρ a b r hf hv hu => by
    rw [Bool.and_eq_true] at hg
    obtain ⟨hg1, hg2⟩ := hg
    cases a with
    | agg l =>
      cases b with
      | agg m =>
        have hf : eqOut neg (match fits k.sh l && fits k.sh m with | true => eqFs l m | false => none) = some r := hf
        cases hfit : (fits k.sh l && fits k.sh m) with
        | false => rw [hfit] at hf; cases hf
        | true =>
          rw [hfit] at hf
          rw [Bool.and_eq_true] at hfit
          obtain ⟨e, he, _⟩ := eqFs_fit hfit.1 hfit.2
          have hok : ∀ z, fits k.sh z = true → okKey k (.agg z) = true := fun z hz => by unfold okKey; rw [hg1]; exact hz
          have hkk : eqKK k (.agg l) (.agg m) = some e := by
            unfold eqKK
            rw [hok m hfit.2]
            exact he
          obtain ⟨q1, _, _⟩ := key_equal hk (hok l hfit.1) hv hu hkk w
          have hf : eqOut neg (some e) = some r := by rw [← he]; exact hf
          obtain ⟨vs, hx, _⟩ := hv
          obtain ⟨us, hy, _⟩ := hu
          refine eq_fin ho hx hy ⟨rfl, rfl, fun w => ?_⟩ (by rw [← hx, ← hy]; exact q1) hf
          have hge : P.eqGuardType P.depth t = false := by simpa using hg2
          rcases ho with ⟨rfl, _⟩ | ⟨rfl, _⟩ <;> simp [eqGuard, hge]
      | _ => cases hf
    | _ => cases hf
end
end Go.Ax
