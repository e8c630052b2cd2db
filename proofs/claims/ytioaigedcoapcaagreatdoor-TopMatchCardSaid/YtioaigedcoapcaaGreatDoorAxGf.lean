/- A region in its order, gone through by the executor. -/
import Derived.Test.YtioaigedcoapcaaGreatDoorAxGe
import Derived.OrdersIn
namespace Go.Ax
open Go
variable {P : Program}

/-- The loops that have been entered: a block of its own each. -/
def Marks (w0 w : World) (ds : List Deferred) : Prop :=
  ∃ rs : List Nat, ds = rs.map (fun r => ({ target := .collected r, args := #[] } : Deferred)) ∧ rs.Nodup ∧ ∀ r ∈ rs, w0.heap.size ≤ r ∧ w.heap[r]? = some (.deferred (some []))
theorem BRel.not_def {φ : Phi} {w : World} {b : Blk} {p : Pl} (h : BRel φ w b p) (hb : b ≠ .none) (x : Option (List Deferred)) : w.heap[p.b]? ≠ some (.deferred x) := by
  intro e
  cases b with
  | none => exact hb rfl
  | one ty m l ro => obtain ⟨c, fr, ty', h1, _⟩ := h; rw [h1] at e; cases e
  | arr ty es n d t => obtain ⟨c, fr, h1, _⟩ := h; rw [h1] at e; cases e
  | loop ready n pend tm ps asg body => obtain ⟨r, h1, _⟩ := h; rw [h1] at e; cases e
  | mp es clock => obtain ⟨ents, h1, _⟩ := h; rw [h1] at e; cases e
  | sit s pos => rw [h.2] at e; cases e
theorem Own.not_def {φ : Phi} {H : Id → Blk} {w : World} (r : RelF φ H w) {b : Nat} (h : Own φ H b) (x : Option (List Deferred)) : w.heap[b]? ≠ some (.deferred x) := by
  obtain ⟨i, p, h1, h2, h3⟩ := h
  subst h3
  exact (r.any h2).not_def (isRw_live h1) x
theorem Marks.step {φ φ' : Phi} {h h' : Hp} {w0 w w' : World} {ds : List Deferred} (m : Marks w0 w ds) (r : RelF φ h.get w) (s : Step φ h w φ' h' w') : Marks w0 w' ds := by
  obtain ⟨rs, h1, h2, h3⟩ := m
  refine ⟨rs, h1, h2, fun k hk => ?_⟩
  obtain ⟨h4, h5⟩ := h3 k hk
  have hlt : k < w.heap.size := (Array.getElem?_eq_some_iff.1 h5).1
  exact ⟨h4, (s.keep.block k hlt fun ho => ho.not_def r _ h5).trans h5⟩
theorem Marks.same {w0 w w' : World} {ds : List Deferred} (m : Marks w0 w ds) (h : w'.heap = w.heap) : Marks w0 w' ds := by
  obtain ⟨rs, h1, h2, h3⟩ := m
  exact ⟨rs, h1, h2, fun k hk => by rw [h]; exact h3 k hk⟩
/-- Where an activation stands that began with h0 in w0. -/
def At (N : Nat) (φ0 : Phi) (h0 : Hp) (w0 : World) (tm : TM) (h : Hp) (a : Act) (w : World) : Prop :=
  ∃ φ, TRel φ N tm a.tmps ∧ Step φ0 h0 w0 φ h w ∧ Marks w0 w a.defers
noncomputable def xsAt (N : Nat) (o : Oper) (tm : TM) : List AV := (opsOf o.op).map fun x => (cOpd N x).get tm
theorem xsOf_get (N : Nat) (o : Oper) (tm : TM) : (xsOf N o).map (fun x => x.get tm) = xsAt N o tm := by
  unfold xsOf xsAt
  rw [List.map_map]
  rfl
/-- What one operation of the executor has done, with k behind it. -/
def Ran (xs : List AV) (put : AV → TM → TM) (k : CK → TM → Hp → R) (ck : CK) (tm : TM) (h : Hp) (r : R) : Cl → Prop
  | .no => False
  | .pure f => ∃ v, f xs = some v ∧ k ck (put v tm) h = r
  | .read f => ∃ v, f xs h = some v ∧ k ck (put v tm) h = r
  | .new f => ∃ b g h', f xs = .ok b g ∧ (∀ i, h'.get i = if i = h.nx then b else h.get i) ∧ h'.nx.num = h.nx.num + 1 ∧ k ck (put (g h.nx) tm) h' = r
  | .eff f => ∃ v h', f ck xs h = .ok v h' ∧ k ck (put v tm) h' = r
theorem opt_rec {α : Type} {o : Option α} {z r : R} {f : α → R} (h : @Option.rec α (fun _ => R) z f o = r) (hr : r ≠ z) : ∃ x, o = some x ∧ f x = r := by
  cases o with
  | none => exact absurd h.symm hr
  | some x => exact ⟨x, rfl, h⟩
theorem newC_inv {put : AV → TM → TM} {tm : TM} {h : Hp} {k : TM → Hp → R} {x : NewR} {r : R} (he : newC put tm h k x = r) (hr : r ≠ R.bad) :
    ∃ b g h', x = .ok b g ∧ (∀ i, h'.get i = if i = h.nx then b else h.get i) ∧ h'.nx.num = h.nx.num + 1 ∧ k (put (g h.nx) tm) h' = r := by
  cases x with
  | bad => exact absurd he.symm hr
  | ok b g =>
    obtain ⟨h', h1, h2, h3⟩ := alloc_eq (show alloc b h R.bad (fun i h => k (put (g i) tm) h) = r from he) hr
    exact ⟨b, g, h', rfl, h2, h3, h1⟩
theorem putC_inv {put : AV → TM → TM} {tm : TM} {k : TM → Hp → R} {x : RC} {r : R} (he : putC put tm k x = r) (hr : r ≠ R.bad) : ∃ v h', x = .ok v h' ∧ k (put v tm) h' = r := by
  cases x with
  | bad => exact absurd he.symm hr
  | ok v h' => exact ⟨v, h', rfl, he⟩
theorem opK_inv {N : Nat} {o : Oper} {put : AV → TM → TM} {k : K} {ck : CK} {tm : TM} {h : Hp} {r : R} (hr : r ≠ R.bad) : ∀ kk : OpK, (opK (xsOf N o) put k kk).run ck tm h = r → Ran (xsAt N o tm) put k.run ck tm h r (clOf kk) := by
  intro kk he
  have hx := xsOf_get N o tm
  have hE := cEvs_get (xsOf N o) tm
  generalize hxs : xsOf N o = xs at *
  generalize xsAt N o tm = ys at *
  cases kk with
  | bad => exact absurd he.symm hr
  | mv =>
    match xs, hx, he with
    | [⟨x⟩], hx, he => subst hx; exact ⟨_, rfl, he⟩
    | [], _, he => exact absurd he.symm hr
    | ⟨_⟩ :: _ :: _, _, he => exact absurd he.symm hr
  | p1 f =>
    match xs, hx, he with
    | [⟨x⟩], hx, he => subst hx; obtain ⟨v, h1, h2⟩ := opt_rec he hr; exact ⟨v, h1, h2⟩
    | [], _, he => exact absurd he.symm hr
    | ⟨_⟩ :: _ :: _, _, he => exact absurd he.symm hr
  | p2 f =>
    match xs, hx, he with
    | [⟨x⟩, ⟨y⟩], hx, he => subst hx; obtain ⟨v, h1, h2⟩ := opt_rec he hr; exact ⟨v, h1, h2⟩
    | [], _, he => exact absurd he.symm hr
    | [⟨_⟩], _, he => exact absurd he.symm hr
    | ⟨_⟩ :: ⟨_⟩ :: _ :: _, _, he => exact absurd he.symm hr
  | pL f =>
    have he : @Option.rec AV (fun _ => R) R.bad (fun v => k.run ck (put v tm) h) (f ((cEvs xs).get tm)) = r := he
    obtain ⟨v, h1, h2⟩ := opt_rec he hr
    rw [hE, hx] at h1
    exact ⟨v, h1, h2⟩
  | r1 f =>
    match xs, hx, he with
    | [⟨x⟩], hx, he => subst hx; obtain ⟨v, h1, h2⟩ := opt_rec he hr; exact ⟨v, h1, h2⟩
    | [], _, he => exact absurd he.symm hr
    | ⟨_⟩ :: _ :: _, _, he => exact absurd he.symm hr
  | r2 f =>
    match xs, hx, he with
    | [⟨x⟩, ⟨y⟩], hx, he => subst hx; obtain ⟨v, h1, h2⟩ := opt_rec he hr; exact ⟨v, h1, h2⟩
    | [], _, he => exact absurd he.symm hr
    | [⟨_⟩], _, he => exact absurd he.symm hr
    | ⟨_⟩ :: ⟨_⟩ :: _ :: _, _, he => exact absurd he.symm hr
  | rL f =>
    have he : @Option.rec AV (fun _ => R) R.bad (fun v => k.run ck (put v tm) h) (f ((cEvs xs).get tm) h) = r := he
    obtain ⟨v, h1, h2⟩ := opt_rec he hr
    rw [hE, hx] at h1
    exact ⟨v, h1, h2⟩
  | n0 b g =>
    match xs, hx, he with
    | [], hx, he =>
      subst hx
      obtain ⟨h', h1, h2, h3⟩ := alloc_eq (show alloc b h R.bad (fun i h => k.run ck (put (g i) tm) h) = r from he) hr
      exact ⟨b, g, h', rfl, h2, h3, h1⟩
    | ⟨_⟩ :: _, _, he => exact absurd he.symm hr
  | n1 f =>
    match xs, hx, he with
    | [⟨x⟩], hx, he =>
      subst hx
      obtain ⟨b, g, h', h1, h2⟩ := newC_inv (show newC put tm h (k.run ck) (f (x tm)) = r from he) hr
      exact ⟨b, g, h', h1, h2⟩
    | [], _, he => exact absurd he.symm hr
    | ⟨_⟩ :: _ :: _, _, he => exact absurd he.symm hr
  | nL f =>
    obtain ⟨b, g, h', h1, h2⟩ := newC_inv (show newC put tm h (k.run ck) (f ((cEvs xs).get tm)) = r from he) hr
    rw [hE, hx] at h1
    exact ⟨b, g, h', h1, h2⟩
  | e2 f =>
    match xs, hx, he with
    | [⟨x⟩, ⟨y⟩], hx, he =>
      subst hx
      obtain ⟨v, h', h1, h2⟩ := putC_inv (show putC put tm (k.run ck) (f (x tm) (y tm) h) = r from he) hr
      exact ⟨v, h', h1, h2⟩
    | [], _, he => exact absurd he.symm hr
    | [⟨_⟩], _, he => exact absurd he.symm hr
    | ⟨_⟩ :: ⟨_⟩ :: _ :: _, _, he => exact absurd he.symm hr
  | eL f =>
    obtain ⟨v, h', h1, h2⟩ := putC_inv (show putC put tm (k.run ck) (f ck ((cEvs xs).get tm) h) = r from he) hr
    rw [hE, hx] at h1
    exact ⟨v, h', h1, h2⟩

/-! ### guards -/
/-- Is the operation wanted, as the executor sees it? -/
noncomputable def gWant (N : Nat) (ops : List Oper) (o : Oper) (tm : TM) : Option Bool := match o.guard with
  | none => some true
  | some (j, want) => (guardT ops j).map fun t => wantB ((cOpd N (.tmp t)).get tm) want
theorem wantB_eq (g : AV) (want : Bool) : wantB g want = (match g with | .bool b => b == want | _ => false) := by
  cases g with
  | bool b => exact boolEq_eq b want
  | _ => rfl
theorem V.bool_inv {φ : Phi} {a : AV} {b : Bool} (h : V φ a (.bool b)) : a = .bool b := by
  cases a with
  | bool c => cases h; rfl
  | sl i o n c =>
    cases c with
    | none => obtain ⟨p, c, _, h, _⟩ := h; cases h
    | some c => obtain ⟨p, _, h, _⟩ := h; cases h
  | ptr i o => obtain ⟨p, _, h⟩ := h; cases h
  | mp i => obtain ⟨p, _, h⟩ := h; cases h
  | yld i => obtain ⟨p, _, h⟩ := h; cases h
  | emp => obtain ⟨_, _, h⟩ := h; cases h
  | fn f x y => obtain ⟨_, _, h, _⟩ := h; cases h
  | agg l => obtain ⟨_, h, _⟩ := h; cases h
  | tup l => obtain ⟨_, h, _⟩ := h; cases h
  | _ => cases h
theorem yielded_eq (arr : Array Oper) (ts : Array Value) (j : Nat) : yielded arr ts j = (match guardT arr.toList j with | some t => (match ts[t]? with | some (.bool b) => some b | _ => none) | none => none) := by
  unfold yielded guardT
  rw [lnth_eq, Array.getElem?_toList]
  cases arr[j]? with
  | none => rfl
  | some o =>
    cases ho : o.dst with
    | none => simp [ho]
    | some t =>
      simp only [Option.bind_some, ho]
      cases ts[t]? with
      | none => rfl
      | some v => cases v <;> rfl
theorem wanted_ok {φ : Phi} {N : Nat} {arr : Array Oper} {o : Oper} {tm : TM} {ts : Array Value} {b : Bool} (ht : ∀ g t, o.guard = some g → guardT arr.toList g.1 = some t → V φ ((cOpd N (.tmp t)).get tm) (ts.getD t Go.undef))
    (h : gWant N arr.toList o tm = some b) : Region.wanted o (yielded arr ts) = b := by
  unfold gWant at h
  unfold Region.wanted
  cases hg : o.guard with
  | none => rw [hg] at h; cases h; rfl
  | some g =>
    obtain ⟨j, want⟩ := g
    rw [hg] at h
    dsimp only at h ⊢
    obtain ⟨t, h1, h2⟩ := Option.map_eq_some_iff.1 h
    rw [yielded_eq, h1]
    have hv := ht _ t hg h1
    rw [wantB_eq] at h2
    subst h2
    dsimp only
    rw [Array.getD_eq_getD_getElem?] at hv
    cases htt : ts[t]? with
    | none =>
      rw [htt] at hv
      generalize (cOpd N (.tmp t)).get tm = g at hv
      cases g with
      | bool b => cases hv
      | _ => rfl
    | some v =>
      rw [htt] at hv
      have hv : V φ ((cOpd N (.tmp t)).get tm) v := hv
      generalize (cOpd N (.tmp t)).get tm = g at hv
      cases v with
      | bool b =>
        rw [hv.bool_inv]
        show (some b == some want) = _
        rfl
      | _ =>
        cases g with
        | bool b => cases hv
        | _ => rfl
/-- One operation, with its guard. -/
def RanG (N : Nat) (ops : List Oper) (o : Oper) (k : CK → TM → Hp → R) (ck : CK) (tm : TM) (h : Hp) (r : R) (c : Cl) : Prop :=
  okOper N o = true ∧ ((gWant N ops o tm = some false ∧ k ck ((cDst o.dst).put undef tm) h = r) ∨ (gWant N ops o tm = some true ∧ Ran (xsAt N o tm) (cDst o.dst).put k ck tm h r c))
theorem gOpK_inv {N : Nat} {ops : List Oper} {o : Oper} {k : K} {ck : CK} {tm : TM} {h : Hp} {r : R} (hr : r ≠ R.bad) (he : (gOpK P N ops k o).run ck tm h = r) : RanG N ops o k.run ck tm h r (clOf (kOp P o)) := by
  unfold gOpK at he
  cases hok : okOper N o with
  | false => rw [hok] at he; exact absurd he.symm hr
  | true =>
    rw [hok] at he
    refine ⟨hok, ?_⟩
    cases hg : o.guard with
    | none =>
      rw [hg] at he
      refine .inr ⟨by unfold gWant; rw [hg], opK_inv hr _ he⟩
    | some g =>
      obtain ⟨j, want⟩ := g
      rw [hg] at he
      dsimp only at he
      cases ht : guardT ops j with
      | none => rw [ht] at he; exact absurd he.symm hr
      | some t =>
        rw [ht] at he
        have he : @Bool.rec (fun _ => R) (k.run ck ((cDst o.dst).put undef tm) h) ((opK (xsOf N o) (cDst o.dst).put k (kOp P o)).run ck tm h) (wantB ((cOpd N (.tmp t)).get tm) want) = r := he
        have hw : gWant N ops o tm = some (wantB ((cOpd N (.tmp t)).get tm) want) := by unfold gWant; rw [hg]; dsimp only; rw [ht]; rfl
        cases hb : wantB ((cOpd N (.tmp t)).get tm) want with
        | false => rw [hb] at he hw; exact .inl ⟨hw, he⟩
        | true => rw [hb] at he hw; exact .inr ⟨hw, opK_inv hr _ he⟩
theorem okOper_parts {N : Nat} {o : Oper} (h : okOper N o = true) : (opsOf o.op).all okOpd = true ∧ okDst N o.dst = true := by
  unfold okOper at h
  rw [Bool.and_eq_true] at h
  exact h
theorem Act.put_defers' (a : Act) (d : Option Nat) (v : Value) : (a.put d v).defers = a.defers := by cases d <;> rfl
/-- The walk of one operation in the order of its region. -/
theorem oper_ok {N : Nat} {φ0 : Phi} {h0 : Hp} {w0 : World} {ro : Option Nat} {n : Nat} {arr : Array Oper} {i : Nat} {o : Oper} {k : CK → TM → Hp → R} {ck : CK} {tm : TM} {h : Hp} {a : Act} {w : World} {r : R}
    {K : Act → World → Prop} {Q : Exit → Act → World → Prop} (hck : CKOk P ck) (hi : arr[i]? = some o) (hs : RanG N arr.toList o k ck tm h r (clOf (kOp P o))) (ha : At N φ0 h0 w0 tm h a w)
    (hK : ∀ tm h a w, At N φ0 h0 w0 tm h a w → k ck tm h = r → K a w) : wpOpIn (FW ro) n P arr Q i K a w := by
  obtain ⟨φ, ht, hst, hm⟩ := ha
  obtain ⟨hok, hs⟩ := hs
  obtain ⟨ho1, ho2⟩ := okOper_parts hok
  have hxs := opds_ok ht hst.rel.f.glob ho1
  have hwant : ∀ b, gWant N arr.toList o tm = some b → Region.wanted o (yielded arr a.tmps) = b := fun b h => wanted_ok (fun _ t _ _ => tmp_ok ht t) h
  unfold wpOpIn
  rw [hi]
  dsimp only
  rcases hs with ⟨hw, he⟩ | ⟨hw, he⟩
  · rw [hwant _ hw]
    simp only [Bool.false_eq_true, if_false]
    exact ⟨fun _ _ => trivial, hK _ _ _ _ ⟨φ, dst_ok ht ho2 V.undef, hst, by rw [Act.put_defers']; exact hm⟩ he⟩
  · rw [hwant _ hw]
    simp only [if_true]
    have hok := kOp_ok (P := P) o
    have hdf : ∀ f', clOf (kOp P o) = f' → f' ≠ .no → ∀ c, o.op ≠ .defer c := fun f' h1 h2 => kOp_defer o (h1 ▸ h2)
    generalize hc : clOf (kOp P o) = c at he hok hdf
    have direct : ∀ v w', c ≠ .no → (execOp a.eval o).run P w = .ok (.value v) w' → K (a.put o.dst v) w' → o.wpIn (FW ro) n P a w K Q := fun v w' hne h1 h2 => by
      refine ⟨fun _ _ => trivial, ?_⟩
      rw [Oper.semAt_eq _ _ _ (hdf c rfl hne), h1]
      exact h2
    cases c with
    | no => exact he.elim
    | pure f =>
      obtain ⟨v, h1, h2⟩ := he
      obtain ⟨u, h3, h4⟩ := hok φ w a.eval _ v h1 hxs
      exact direct u w (by intro e; cases e) h4 (hK _ _ _ _ ⟨φ, dst_ok ht ho2 h3, hst, by rw [Act.put_defers']; exact hm⟩ h2)
    | read f =>
      obtain ⟨v, h1, h2⟩ := he
      obtain ⟨u, h3, h4⟩ := hok φ h w a.eval _ v hst.rel.f h1 hxs
      exact direct u w (by intro e; cases e) h4 (hK _ _ _ _ ⟨φ, dst_ok ht ho2 h3, hst, by rw [Act.put_defers']; exact hm⟩ h2)
    | new f =>
      obtain ⟨b, g, h', h1, h2, h3, h4⟩ := he
      obtain ⟨u, w', p, h5, h6⟩ := hok φ w a.eval _ b g h1 hxs
      obtain ⟨ob, hob⟩ := h6.heap
      have hle := upd_le p hst.rel.nx_none
      have hs2 : Step φ h w (upd φ h.nx p) h' w' := Step.new hst.rel h2 h3 hob h6.os h6.tape h6.output h6.place (h6.blk _ hle)
      exact direct u w' (by intro e; cases e) h5 (hK _ _ _ _ ⟨_, dst_ok (ht.mono hle) ho2 (h6.val _ _ hle (upd_same _ _ _)), hst.trans hs2, by rw [Act.put_defers']; exact hm.step hst.rel.f hs2⟩ h4)
    | eff f =>
      obtain ⟨v, h', h1, h2⟩ := he
      refine hok ck hck ro n φ h w a _ v h' hst.rel h1 hxs K Q fun φ' w' u h3 h4 => ?_
      exact hK _ _ _ _ ⟨φ', dst_ok (ht.mono h4.le) ho2 h3, hst.trans h4, by rw [Act.put_defers']; exact hm.step hst.rel.f h4⟩ h2
theorem cOps_ok {N : Nat} {φ0 : Phi} {h0 : Hp} {w0 : World} {ro : Option Nat} {n : Nat} {arr : Array Oper} {k : K} {ck : CK} {r : R} {Q : Exit → Act → World → Prop} (hck : CKOk P ck) (hr : r ≠ R.bad)
    (hQ : ∀ tm h a w, At N φ0 h0 w0 tm h a w → k.run ck tm h = r → Q .normal a w) : ∀ (l : List Oper) (i : Nat), arr.toList.drop i = l → ∀ tm h a w, At N φ0 h0 w0 tm h a w → (cOps P N arr.toList k l).run ck tm h = r →
      wpOpsIn (FW ro) n P arr Q (List.range' i l.length) a w
  | [], i, _, tm, h, a, w, ha, he => by
    show Q .normal a w
    exact hQ _ _ _ _ ha he
  | o :: l, i, hl, tm, h, a, w, ha, he => by
    rw [List.length_cons, List.range'_succ, wpOpsIn_cons]
    have hi : arr[i]? = some o := by
      have := congrArg (fun x : List Oper => x[0]?) hl
      simpa using this
    have hl2 : arr.toList.drop (i + 1) = l := by
      rw [← List.drop_drop, hl]
      rfl
    exact oper_ok hck hi (gOpK_inv hr he) ha fun tm h a w ha he => cOps_ok hck hr hQ l (i + 1) hl2 tm h a w ha he
theorem region_ok {N : Nat} {φ0 : Phi} {h0 : Hp} {w0 : World} {ro : Option Nat} {n id : Nat} {arr : Array Oper} {k : K} {ck : CK} {r : R} {Q : Exit → Act → World → Prop} {tm : TM} {h : Hp} {a : Act} {w : World} (hck : CKOk P ck) (hr : r ≠ R.bad)
    (hQ : ∀ tm h a w, At N φ0 h0 w0 tm h a w → k.run ck tm h = r → Q .normal a w) (ha : At N φ0 h0 w0 tm h a w) (he : (cOps P N arr.toList k arr.toList).run ck tm h = r) : (Code.region id arr false).wpIn (FW ro) n P Q a w := by
  refine wpIn_region ?_
  rw [List.range_eq_range']
  have := cOps_ok (ro := ro) (n := n) hck hr hQ arr.toList 0 (List.drop_zero ..) tm h a w ha he
  simpa using this
end Go.Ax
namespace Go.Ax
open Go
variable {P : Program}

/-! ### bits -/
theorem bit_test (m i : Nat) : bit m i = m.testBit i := by
  have e : bit m i = Nat.beq (m >>> i % 2) 1 := rfl
  rw [e, Nat.testBit_eq_decide_div_mod_eq, Nat.shiftRight_eq_div_pow]
  cases h : Nat.beq (m / 2 ^ i % 2) 1 with
  | true => exact (decide_eq_true (nat_beq h)).symm
  | false => exact (decide_eq_false (nat_nbeq h)).symm
theorem bit_lor (a b i : Nat) : bit (Nat.lor a b) i = (bit a i || bit b i) := by
  rw [bit_test, bit_test, bit_test]
  exact Nat.testBit_or a b i
theorem bit_shl (j i : Nat) : bit (Nat.shiftLeft 1 j) i = decide (j = i) := by
  rw [bit_test]
  show (1 <<< j).testBit i = _
  rw [Nat.one_shiftLeft, Nat.testBit_two_pow]
theorem bit_sub {m p i : Nat} (h : Nat.land m p = m) (hi : bit m i = true) : bit p i = true := by
  rw [bit_test] at hi ⊢
  rw [← h] at hi
  have : (m &&& p).testBit i = true := hi
  rw [Nat.testBit_and, Bool.and_eq_true] at this
  exact this.2
theorem bit_zero (i : Nat) : bit 0 i = false := by rw [bit_test]; exact Nat.zero_testBit i
theorem any_beq {l : List Nat} {i : Nat} : l.any (Nat.beq i) = true ↔ i ∈ l := by
  rw [List.any_eq_true]
  constructor
  · rintro ⟨x, h1, h2⟩
    exact nat_beq h2 ▸ h1
  · intro h
    exact ⟨i, h, Nat.beq_refl i⟩

/-! ### what must be done ahead of what -/
def EdgesOk (ops : List Oper) : Prop := ∀ q o, ops[q]? = some o → ∀ e ∈ o.after.toList, Region.binds .any e = true → e.on < q
def MaskOk (ops : List Oper) (ms : List Nat) (pr : Option (Nat × Nat)) : Prop := ∀ q o, ops[q]? = some o → maskOf ms q = Nat.lor (maskE ms o.after.toList) (extraM ms pr q)
theorem edges_ok : ∀ (l : List Oper) (i : Nat), edgesOk i l = true → ∀ q o, l[q]? = some o → ∀ e ∈ o.after.toList, Region.binds .any e = true → e.on < i + q
  | [], _, _, _, _, h, _, _, _ => by simp at h
  | x :: l, i, h, q, o, ho, e, he, hb => by
    have h : ((x.after.toList.all fun e => !(Region.binds .any e) || Nat.ble (e.on + 1) i) && edgesOk (i + 1) l) = true := h
    rw [Bool.and_eq_true] at h
    cases q with
    | zero =>
      have hx : x = o := by simpa using ho
      subst hx
      have := List.all_eq_true.1 h.1 e he
      rw [hb] at this
      exact nat_ble (by simpa using this)
    | succ q =>
      have := edges_ok l (i + 1) h.2 q o (by simpa using ho) e he hb
      omega
theorem fix_ok (ms : List Nat) (pr : Option (Nat × Nat)) : ∀ (l : List Oper) (i : Nat), fixOk ms pr i l = true → ∀ q o, l[q]? = some o → maskOf ms (i + q) = Nat.lor (maskE ms o.after.toList) (extraM ms pr (i + q))
  | [], _, _, _, _, h => by simp at h
  | x :: l, i, h, q, o, ho => by
    have h : (Nat.beq (maskOf ms i) (Nat.lor (maskE ms x.after.toList) (extraM ms pr i)) && fixOk ms pr (i + 1) l) = true := h
    rw [Bool.and_eq_true] at h
    cases q with
    | zero =>
      have hx : x = o := by simpa using ho
      subst hx
      exact nat_beq h.1
    | succ q =>
      have := fix_ok ms pr l (i + 1) h.2 q o (by simpa using ho)
      rw [show i + (q + 1) = i + 1 + q by omega]
      exact this
theorem maskE_bit {ms : List Nat} : ∀ {es : List Edge} {j : Nat}, bit (maskE ms es) j = true → ∃ e ∈ es, Region.binds .any e = true ∧ (j = e.on ∨ bit (maskOf ms e.on) j = true)
  | [], j, h => by
    have h : bit 0 j = true := h
    rw [bit_zero] at h
    cases h
  | e :: es, j, h => by
    have h : bit (match Region.binds .any e with | true => Nat.lor (Nat.lor (Nat.shiftLeft 1 e.on) (maskOf ms e.on)) (maskE ms es) | false => maskE ms es) j = true := h
    cases hb : Region.binds .any e with
    | true =>
      rw [hb] at h
      dsimp only at h
      rw [bit_lor, bit_lor, bit_shl, Bool.or_eq_true, Bool.or_eq_true, decide_eq_true_eq] at h
      rcases h with (h | h) | h
      · exact ⟨e, List.mem_cons_self .., hb, .inl h.symm⟩
      · exact ⟨e, List.mem_cons_self .., hb, .inr h⟩
      · obtain ⟨e', h1, h2⟩ := maskE_bit h
        exact ⟨e', List.mem_cons_of_mem _ h1, h2⟩
    | false =>
      rw [hb] at h
      obtain ⟨e', h1, h2⟩ := maskE_bit h
      exact ⟨e', List.mem_cons_of_mem _ h1, h2⟩
/-- Whoever is in E has all ahead of it in E. -/
def Closed (ops : List Oper) (E : Nat → Prop) : Prop := ∀ q o, ops[q]? = some o → E q → ∀ e ∈ o.after.toList, Region.binds .any e = true → E e.on
theorem mask_closed {ops : List Oper} {ms : List Nat} {pr : Option (Nat × Nat)} {E : Nat → Prop} (hE : EdgesOk ops) (hM : MaskOk ops ms pr) (hC : Closed ops E) (hlt : ∀ p, pr = some p → p.1 < p.2) (hpr : ∀ p, pr = some p → E p.2 → E p.1) :
    ∀ (q : Nat) (o : Oper), ops[q]? = some o → (∀ e ∈ o.after.toList, Region.binds .any e = true → E e.on) → (∀ p, pr = some p → q = p.2 → E p.1) → ∀ x, bit (maskOf ms q) x = true → E x := by
  intro q
  induction q using Nat.strongRecOn with
  | _ q ih =>
    intro o ho hr hp x hx
    have hlen : q < ops.length := (List.getElem?_eq_some_iff.1 ho).1
    have sub : ∀ y, y < q → E y → ∀ x, bit (maskOf ms y) x = true → E x := fun y hy hEy x hx => by
      have ho' : ops[y]? = some ops[y] := List.getElem?_eq_getElem (by omega)
      exact ih y hy _ ho' (hC y _ ho' hEy) (fun p h1 h2 => hpr p h1 (h2 ▸ hEy)) x hx
    rw [hM q o ho, bit_lor, Bool.or_eq_true] at hx
    rcases hx with hx | hx
    · obtain ⟨e, h1, h2, h3⟩ := maskE_bit hx
      have hEe := hr e h1 h2
      rcases h3 with rfl | h3
      · exact hEe
      · exact sub e.on (hE q o ho e h1 h2) hEe x h3
    · unfold extraM at hx
      cases hpe : pr with
      | none => rw [hpe] at hx; dsimp only at hx; rw [bit_zero] at hx; cases hx
      | some p =>
        rw [hpe] at hx
        dsimp only at hx
        cases hq : Nat.beq q p.2 with
        | false => rw [hq] at hx; dsimp only at hx; rw [bit_zero] at hx; cases hx
        | true =>
          rw [hq] at hx
          dsimp only at hx
          have hq := nat_beq hq
          have hE1 := hp p hpe hq
          rw [bit_lor, bit_shl, Bool.or_eq_true, decide_eq_true_eq] at hx
          rcases hx with rfl | hx
          · exact hE1
          · exact sub p.1 (by have := hlt p hpe; omega) hE1 x hx

/-! ### one operation of the trace -/
mutual
theorem eqv_eq : ∀ (a b : AV), eqv a b = true → a = b
  | .bool a, b, h => by cases b <;> first | (unfold eqv at h; rw [boolEq_eq] at h; simp at h; rw [h]) | (unfold eqv at h; cases h)
  | .int j a, b, h => by
    cases b <;> first
      | (unfold eqv at h
         rw [Bool.and_eq_true, ieqB_eq] at h
         rw [kindB_eq h.1, of_decide_eq_true h.2])
      | (unfold eqv at h; cases h)
  | .str a, b, h => by
    cases b <;> first
      | (unfold eqv at h
         rw [bytesEq_eq] at h
         rw [eq_of_beq h])
      | (unfold eqv at h; cases h)
  | .nilp, b, h => by cases b <;> first | rfl | (unfold eqv at h; cases h)
  | .ptr i o, b, h => by
    cases b <;> first
      | (unfold eqv at h
         rw [Bool.and_eq_true, Id.beq_iff] at h
         rw [of_decide_eq_true h.1, nat_beq h.2])
      | (unfold eqv at h; cases h)
  | .nils, b, h => by cases b <;> first | rfl | (unfold eqv at h; cases h)
  | .sl i o n c, b, h => by
    cases b with
    | sl j q m d =>
      unfold eqv at h
      rw [Bool.and_eq_true, Bool.and_eq_true, Bool.and_eq_true, Id.beq_iff] at h
      have hc : c = d := by
        have h4 := h.2
        cases c <;> cases d <;> first | rfl | (cases h4) | (exact congrArg some (nat_beq h4))
      rw [of_decide_eq_true h.1.1.1, nat_beq h.1.1.2, nat_beq h.1.2, hc]
    | _ => unfold eqv at h; cases h
  | .emp, b, h => by cases b <;> first | rfl | (unfold eqv at h; cases h)
  | .nilm, b, h => by cases b <;> first | rfl | (unfold eqv at h; cases h)
  | .mp i, b, h => by
    cases b <;> first
      | (unfold eqv at h
         rw [Id.beq_iff] at h
         rw [of_decide_eq_true h])
      | (unfold eqv at h; cases h)
  | .nilf, b, h => by cases b <;> first | rfl | (unfold eqv at h; cases h)
  | .fn f x y, b, h => by
    cases b with
    | fn g z u =>
      unfold eqv at h
      rw [Bool.and_eq_true, Bool.and_eq_true] at h
      rw [nat_beq h.1.1, eqvs_eq x z h.1.2, eqvs_eq y u h.2]
    | _ => unfold eqv at h; cases h
  | .yld i, b, h => by
    cases b <;> first
      | (unfold eqv at h
         rw [Id.beq_iff] at h
         rw [of_decide_eq_true h])
      | (unfold eqv at h; cases h)
  | .nili, b, h => by cases b <;> first | rfl | (unfold eqv at h; cases h)
  | .agg x, b, h => by
    cases b with
    | agg y => unfold eqv at h; rw [eqvs_eq x y h]
    | _ => unfold eqv at h; cases h
  | .tup x, b, h => by
    cases b with
    | tup y => unfold eqv at h; rw [eqvs_eq x y h]
    | _ => unfold eqv at h; cases h
theorem eqvs_eq : ∀ (a b : List AV), eqvs a b = true → a = b
  | [], [], _ => rfl
  | [], _ :: _, h => by unfold eqvs at h; cases h
  | _ :: _, [], h => by unfold eqvs at h; cases h
  | a :: x, b :: y, h => by
    unfold eqvs at h
    rw [Bool.and_eq_true] at h
    rw [eqv_eq a b h.1, eqvs_eq x y h.2]
end
/-- The heaps that a read may have met. -/
inductive Reach (mk : Nat) : List (Nat × Hp) → (Nat × Hp) → Prop
  | here (x : Nat × Hp) (l : List (Nat × Hp)) : Reach mk (x :: l) x
  | older (x : Nat × Hp) (l : List (Nat × Hp)) (y : Nat × Hp) : bit mk x.1 = false → Reach mk l y → Reach mk (x :: l) y
theorem Reach.append {mk : Nat} : ∀ {pr : List (Nat × Hp)} {x : Nat × Hp} {l : List (Nat × Hp)}, (∀ y ∈ pr, bit mk y.1 = false) → Reach mk (pr ++ x :: l) x
  | [], x, l, _ => .here x l
  | y :: _, x, _, h => .older y _ x (h y (List.mem_cons_self ..)) (Reach.append fun z hz => h z (List.mem_cons_of_mem _ hz))
theorem staysM_cons (f : Hp → Option AV) (v : AV) (mk : Nat) (y : Nat × Hp) (l : List (Nat × Hp)) (e : Nat) :
    staysM f v mk (y :: l) e = @Bool.rec (fun _ => Bool) (@Option.rec _ (fun _ => Bool) false (fun u => @Bool.rec (fun _ => Bool) false (staysM f v mk l y.1) (eqv u v)) (f y.2)) true (bit mk e) := rfl
theorem staysM_ok {f : Hp → Option AV} {v : AV} {mk : Nat} : ∀ {l : List (Nat × Hp)} {e : Nat}, staysM f v mk l e = true → bit mk e = false → ∀ y, Reach mk l y → f y.2 = some v
  | [], e, _, _, y, hy => by cases hy
  | x :: l, e, h, he, y, hy => by
    rw [staysM_cons, he] at h
    have h : @Option.rec _ (fun _ => Bool) false (fun u => @Bool.rec (fun _ => Bool) false (staysM f v mk l x.1) (eqv u v)) (f x.2) = true := h
    cases hf : f x.2 with
    | none => rw [hf] at h; cases h
    | some u =>
      rw [hf] at h
      have h : @Bool.rec (fun _ => Bool) false (staysM f v mk l x.1) (eqv u v) = true := h
      cases hu : eqv u v with
      | false => rw [hu] at h; cases h
      | true =>
        rw [hu] at h
        have := eqv_eq u v hu
        subst this
        cases hy with
        | here => exact hf
        | older _ _ _ h1 h2 => exact staysM_ok h h1 y h2
/-- What one operation has done in the trace. -/
def RecC (ck : CK) (mk : Nat) (xs : List AV) (hs : List (Nat × Hp)) (h : Hp) (v : AV) (h' : Hp) : Cl → Prop
  | .no => False
  | .pure f => f xs = some v ∧ h' = h
  | .read f => (∀ y, Reach mk hs y → f xs y.2 = some v) ∧ h' = h
  | .new f => ∃ b g, f xs = .ok b g ∧ (∀ i, h'.get i = if i = h.nx then b else h.get i) ∧ h'.nx.num = h.nx.num + 1 ∧ v = g h.nx
  | .eff f => f ck xs h = .ok v h' ∧ h.nx.num ≤ h'.nx.num
def hsOf (b : Bool) (i : Nat) (h' : Hp) (hs : List (Nat × Hp)) : List (Nat × Hp) := match b with
  | true => (i, h') :: hs
  | false => hs
def effB (kk : OpK) : Bool := match clsOf kk with | .eff => true | _ => false
theorem readD_inv {mk : Nat} {put : AV → TM → TM} {tm : TM} {hs : List (Nat × Hp)} {h : Hp} {k : TM → List (Nat × Hp) → Hp → R} {f : Hp → Option AV} {r : R} (he : readD mk put tm hs h k f = r) (hr : r ≠ R.bad) :
    ∃ v, (∀ y, Reach mk hs y → f y.2 = some v) ∧ k (put v tm) hs h = r := by
  cases hs with
  | nil => exact absurd he.symm hr
  | cons x l =>
    have he : @Option.rec _ (fun _ => R) R.bad (fun v => @Bool.rec (fun _ => R) R.bad (k (put v tm) (x :: l) h) (staysM f v mk l x.1)) (f x.2) = r := he
    obtain ⟨v, h1, h2⟩ := opt_rec he hr
    have h2 : @Bool.rec (fun _ => R) R.bad (k (put v tm) (x :: l) h) (staysM f v mk l x.1) = r := h2
    cases hs : staysM f v mk l x.1 with
    | false => rw [hs] at h2; exact absurd h2.symm hr
    | true =>
      rw [hs] at h2
      refine ⟨v, fun y hy => ?_, h2⟩
      cases hy with
      | here => exact h1
      | older _ _ _ h3 h4 => exact staysM_ok hs h3 y h4
theorem idLe_num (i j : Id) : idLe i j = Nat.ble i.num j.num := rfl
theorem putD_inv {i : Nat} {put : AV → TM → TM} {tm : TM} {hs : List (Nat × Hp)} {h : Hp} {k : TM → List (Nat × Hp) → Hp → R} {x : RC} {r : R} (he : putD i put tm hs h k x = r) (hr : r ≠ R.bad) :
    ∃ v h', x = .ok v h' ∧ h.nx.num ≤ h'.nx.num ∧ k (put v tm) ((i, h') :: hs) h' = r := by
  cases x with
  | bad => exact absurd he.symm hr
  | ok v h' =>
    have he : @Bool.rec (fun _ => R) R.bad (k (put v tm) ((i, h') :: hs) h') (idLe h.nx h'.nx) = r := he
    cases hb : idLe h.nx h'.nx with
    | false => rw [hb] at he; exact absurd he.symm hr
    | true => rw [hb] at he; exact ⟨v, h', rfl, nat_ble hb, he⟩
theorem opD_inv {N i mk : Nat} {o : Oper} {put : AV → TM → TM} {k : KD} {ck : CK} {tm : TM} {hs : List (Nat × Hp)} {h : Hp} {r : R} (hr : r ≠ R.bad) : ∀ kk : OpK, (opD (xsOf N o) put i mk k kk).run ck tm hs h = r →
    ∃ v h', RecC ck mk (xsAt N o tm) hs h v h' (clOf kk) ∧ k.run ck (put v tm) (hsOf (effB kk) i h' hs) h' = r := by
  intro kk he
  have hx := xsOf_get N o tm
  have hE := cEvs_get (xsOf N o) tm
  generalize hxs : xsOf N o = xs at *
  generalize xsAt N o tm = ys at *
  cases kk with
  | bad => exact absurd he.symm hr
  | mv =>
    match xs, hx, he with
    | [⟨x⟩], hx, he => subst hx; exact ⟨_, h, ⟨rfl, rfl⟩, he⟩
    | [], _, he => exact absurd he.symm hr
    | ⟨_⟩ :: _ :: _, _, he => exact absurd he.symm hr
  | p1 f =>
    match xs, hx, he with
    | [⟨x⟩], hx, he => subst hx; obtain ⟨v, h1, h2⟩ := opt_rec he hr; exact ⟨v, h, ⟨h1, rfl⟩, h2⟩
    | [], _, he => exact absurd he.symm hr
    | ⟨_⟩ :: _ :: _, _, he => exact absurd he.symm hr
  | p2 f =>
    match xs, hx, he with
    | [⟨x⟩, ⟨y⟩], hx, he => subst hx; obtain ⟨v, h1, h2⟩ := opt_rec he hr; exact ⟨v, h, ⟨h1, rfl⟩, h2⟩
    | [], _, he => exact absurd he.symm hr
    | [⟨_⟩], _, he => exact absurd he.symm hr
    | ⟨_⟩ :: ⟨_⟩ :: _ :: _, _, he => exact absurd he.symm hr
  | pL f =>
    have he : @Option.rec AV (fun _ => R) R.bad (fun v => k.run ck (put v tm) hs h) (f ((cEvs xs).get tm)) = r := he
    obtain ⟨v, h1, h2⟩ := opt_rec he hr
    rw [hE, hx] at h1
    exact ⟨v, h, ⟨h1, rfl⟩, h2⟩
  | r1 f =>
    match xs, hx, he with
    | [⟨x⟩], hx, he =>
      subst hx
      obtain ⟨v, h1, h2⟩ := readD_inv (show readD mk put tm hs h (k.run ck) (f (x tm)) = r from he) hr
      exact ⟨v, h, ⟨h1, rfl⟩, h2⟩
    | [], _, he => exact absurd he.symm hr
    | ⟨_⟩ :: _ :: _, _, he => exact absurd he.symm hr
  | r2 f =>
    match xs, hx, he with
    | [⟨x⟩, ⟨y⟩], hx, he =>
      subst hx
      obtain ⟨v, h1, h2⟩ := readD_inv (show readD mk put tm hs h (k.run ck) (f (x tm) (y tm)) = r from he) hr
      exact ⟨v, h, ⟨h1, rfl⟩, h2⟩
    | [], _, he => exact absurd he.symm hr
    | [⟨_⟩], _, he => exact absurd he.symm hr
    | ⟨_⟩ :: ⟨_⟩ :: _ :: _, _, he => exact absurd he.symm hr
  | rL f =>
    obtain ⟨v, h1, h2⟩ := readD_inv (show readD mk put tm hs h (k.run ck) (f ((cEvs xs).get tm)) = r from he) hr
    rw [hE, hx] at h1
    exact ⟨v, h, ⟨h1, rfl⟩, h2⟩
  | n0 b g =>
    match xs, hx, he with
    | [], hx, he =>
      subst hx
      obtain ⟨h', h1, h2, h3⟩ := alloc_eq (show alloc b h R.bad (fun i h => k.run ck (put (g i) tm) hs h) = r from he) hr
      exact ⟨_, h', ⟨b, g, rfl, h2, h3, rfl⟩, h1⟩
    | ⟨_⟩ :: _, _, he => exact absurd he.symm hr
  | n1 f =>
    match xs, hx, he with
    | [⟨x⟩], hx, he =>
      subst hx
      obtain ⟨b, g, h', h1, h2, h3, h4⟩ := newC_inv (show newC put tm h (fun tm h => k.run ck tm hs h) (f (x tm)) = r from he) hr
      exact ⟨_, h', ⟨b, g, h1, h2, h3, rfl⟩, h4⟩
    | [], _, he => exact absurd he.symm hr
    | ⟨_⟩ :: _ :: _, _, he => exact absurd he.symm hr
  | nL f =>
    obtain ⟨b, g, h', h1, h2, h3, h4⟩ := newC_inv (show newC put tm h (fun tm h => k.run ck tm hs h) (f ((cEvs xs).get tm)) = r from he) hr
    rw [hE, hx] at h1
    exact ⟨_, h', ⟨b, g, h1, h2, h3, rfl⟩, h4⟩
  | e2 f =>
    match xs, hx, he with
    | [⟨x⟩, ⟨y⟩], hx, he =>
      subst hx
      obtain ⟨v, h', h1, h2, h3⟩ := putD_inv (show putD i put tm hs h (k.run ck) (f (x tm) (y tm) h) = r from he) hr
      exact ⟨v, h', ⟨h1, h2⟩, h3⟩
    | [], _, he => exact absurd he.symm hr
    | [⟨_⟩], _, he => exact absurd he.symm hr
    | ⟨_⟩ :: ⟨_⟩ :: _ :: _, _, he => exact absurd he.symm hr
  | eL f =>
    obtain ⟨v, h', h1, h2, h3⟩ := putD_inv (show putD i put tm hs h (k.run ck) (f ck ((cEvs xs).get tm) h) = r from he) hr
    rw [hE, hx] at h1
    exact ⟨v, h', ⟨h1, h2⟩, h3⟩

/-! ### the trace -/
structure Rec where
  i : Nat
  o : Oper
  tm : TM
  hs : List (Nat × Hp)
  h : Hp
  v : AV
  h' : Hp
  ran : Bool
noncomputable def Rec.hs' (P : Program) (r : Rec) : List (Nat × Hp) := hsOf (isEff P r.o) r.i r.h' r.hs
noncomputable def Rec.tm' (r : Rec) : TM := (cDst r.o.dst).put r.v r.tm
/-- Has it laid a block? -/
def IsNew (P : Program) (r : Rec) : Prop := r.ran = true ∧ ∃ f, clOf (kOp P r.o) = .new f
structure RecOk (P : Program) (ck : CK) (N : Nat) (ops : List Oper) (ms : List Nat) (r : Rec) : Prop where
  ok : okOper N r.o = true
  op : ops[r.i]? = some r.o
  did : (r.ran = false ∧ gWant N ops r.o r.tm = some false ∧ r.v = undef ∧ r.h' = r.h) ∨ (r.ran = true ∧ gWant N ops r.o r.tm = some true ∧ RecC ck (maskOf ms r.i) (xsAt N r.o r.tm) r.hs r.h r.v r.h' (clOf (kOp P r.o)))
inductive Tr (P : Program) (ck : CK) (N : Nat) (ops : List Oper) (ms : List Nat) : TM → List (Nat × Hp) → Hp → List Rec → TM → List (Nat × Hp) → Hp → Prop
  | nil (tm : TM) (hs : List (Nat × Hp)) (h : Hp) : Tr P ck N ops ms tm hs h [] tm hs h
  | cons (r : Rec) (L : List Rec) (tmf : TM) (hsf : List (Nat × Hp)) (hf : Hp) : RecOk P ck N ops ms r → Tr P ck N ops ms r.tm' (r.hs' P) r.h' L tmf hsf hf → Tr P ck N ops ms r.tm r.hs r.h (r :: L) tmf hsf hf
theorem isEff_eq (o : Oper) : isEff P o = effB (kOp P o) := rfl
theorem gOpD_inv {N i : Nat} {ops : List Oper} {ms : List Nat} {o : Oper} {k : KD} {ck : CK} {tm : TM} {hs : List (Nat × Hp)} {h : Hp} {r : R} (hr : r ≠ R.bad) (ho : ops[i]? = some o) (he : (gOpD P N ops i (maskOf ms i) k o).run ck tm hs h = r) :
    ∃ x : Rec, x.i = i ∧ x.o = o ∧ x.tm = tm ∧ x.hs = hs ∧ x.h = h ∧ RecOk P ck N ops ms x ∧ k.run ck x.tm' (x.hs' P) x.h' = r := by
  unfold gOpD at he
  cases hok : okOper N o with
  | false => rw [hok] at he; exact absurd he.symm hr
  | true =>
    rw [hok] at he
    have run : gWant N ops o tm = some true → (opD (xsOf N o) (cDst o.dst).put i (maskOf ms i) k (kOp P o)).run ck tm hs h = r → ∃ x : Rec, x.i = i ∧ x.o = o ∧ x.tm = tm ∧ x.hs = hs ∧ x.h = h ∧ RecOk P ck N ops ms x ∧ k.run ck x.tm' (x.hs' P) x.h' = r := by
      intro hw he
      obtain ⟨v, h', h1, h2⟩ := opD_inv hr _ he
      exact ⟨⟨i, o, tm, hs, h, v, h', true⟩, rfl, rfl, rfl, rfl, rfl, ⟨hok, ho, .inr ⟨rfl, hw, h1⟩⟩, h2⟩
    cases hg : o.guard with
    | none =>
      rw [hg] at he
      exact run (by unfold gWant; rw [hg]) he
    | some g =>
      obtain ⟨j, want⟩ := g
      rw [hg] at he
      dsimp only at he
      cases ht : guardT ops j with
      | none => rw [ht] at he; exact absurd he.symm hr
      | some t =>
        rw [ht] at he
        have hw : gWant N ops o tm = some (wantB ((cOpd N (.tmp t)).get tm) want) := by unfold gWant; rw [hg]; dsimp only; rw [ht]; rfl
        have he : @Bool.rec (fun _ => R) (k.run ck ((cDst o.dst).put undef tm) (hsOf (isEff P o) i h hs) h) ((opD (xsOf N o) (cDst o.dst).put i (maskOf ms i) k (kOp P o)).run ck tm hs h) (wantB ((cOpd N (.tmp t)).get tm) want) = r := by
          cases hf : isEff P o with
          | true => rw [hf] at he; exact he
          | false => rw [hf] at he; exact he
        cases hb : wantB ((cOpd N (.tmp t)).get tm) want with
        | false =>
          rw [hb] at he hw
          exact ⟨⟨i, o, tm, hs, h, undef, h, false⟩, rfl, rfl, rfl, rfl, rfl, ⟨hok, ho, .inl ⟨rfl, hw, rfl, rfl⟩⟩, he⟩
        | true => rw [hb] at he hw; exact run hw he
theorem cOrd_inv {N : Nat} {ops : List Oper} {ms : List Nat} {k : K} {ck : CK} {r : R} (hr : r ≠ R.bad) : ∀ (l : List Nat) (tm : TM) (hs : List (Nat × Hp)) (h : Hp), (cOrd P N ops ms k l).run ck tm hs h = r →
    ∃ L tmf hsf hf, Tr P ck N ops ms tm hs h L tmf hsf hf ∧ L.map (·.i) = l ∧ k.run ck tmf hf = r
  | [], tm, hs, h, he => ⟨[], tm, hs, h, .nil tm hs h, rfl, he⟩
  | i :: l, tm, hs, h, he => by
    have he : (match lnth ops i with | none => badD | some o => gOpD P N ops i (maskOf ms i) (cOrd P N ops ms k l) o : KD).run ck tm hs h = r := he
    cases ho : lnth ops i with
    | none => rw [ho] at he; exact absurd he.symm hr
    | some o =>
      rw [ho] at he
      rw [lnth_eq] at ho
      obtain ⟨x, rfl, rfl, rfl, rfl, rfl, h1, h2⟩ := gOpD_inv hr ho he
      obtain ⟨L, tmf, hsf, hf, h3, h4, h5⟩ := cOrd_inv hr l _ _ _ h2
      exact ⟨x :: L, tmf, hsf, hf, .cons x L tmf hsf hf h1 h3, by rw [List.map_cons, h4], h5⟩

/-! ### what a trace tells -/
section trace
variable {ck : CK} {N : Nat} {ops : List Oper} {ms : List Nat} {tm tmf : TM} {hs hsf : List (Nat × Hp)} {h hf : Hp} {L : List Rec}
theorem Tr.recOk (t : Tr P ck N ops ms tm hs h L tmf hsf hf) : ∀ r ∈ L, RecOk P ck N ops ms r := by
  induction t with
  | nil => intro r hr; cases hr
  | cons x L tmf hsf hf h1 _ ih =>
    intro r hr
    rcases List.mem_cons.1 hr with rfl | hr
    · exact h1
    · exact ih r hr
theorem Tr.append {A B : List Rec} (t : Tr P ck N ops ms tm hs h (A ++ B) tmf hsf hf) : ∃ tm1 hs1 h1, Tr P ck N ops ms tm hs h A tm1 hs1 h1 ∧ Tr P ck N ops ms tm1 hs1 h1 B tmf hsf hf := by
  induction A generalizing tm hs h with
  | nil => exact ⟨tm, hs, h, .nil .., t⟩
  | cons x A ih =>
    cases t with
    | cons _ _ _ _ _ h1 h2 =>
      obtain ⟨tm1, hs1, h1', h3, h4⟩ := ih h2
      exact ⟨tm1, hs1, h1', .cons x A _ _ _ h1 h3, h4⟩
theorem Tr.join {tm1 : TM} {hs1 : List (Nat × Hp)} {h1 : Hp} {A B : List Rec} (t : Tr P ck N ops ms tm hs h A tm1 hs1 h1) (u : Tr P ck N ops ms tm1 hs1 h1 B tmf hsf hf) : Tr P ck N ops ms tm hs h (A ++ B) tmf hsf hf := by
  induction t with
  | nil => exact u
  | cons x A _ _ _ h1 _ ih => exact .cons x _ _ _ _ h1 (ih u)
/-- A record within a trace. -/
theorem Tr.at_ {A B : List Rec} {r : Rec} (t : Tr P ck N ops ms tm hs h (A ++ r :: B) tmf hsf hf) : Tr P ck N ops ms tm hs h A r.tm r.hs r.h ∧ RecOk P ck N ops ms r ∧ Tr P ck N ops ms r.tm' (r.hs' P) r.h' B tmf hsf hf := by
  obtain ⟨tm1, hs1, h1, h2, h3⟩ := t.append
  cases h3 with
  | cons _ _ _ _ _ h4 h5 => exact ⟨h2, h4, h5⟩
theorem RecOk.nx {r : Rec} (h : RecOk P ck N ops ms r) : r.h.nx.num ≤ r.h'.nx.num := by
  rcases h.did with ⟨_, _, _, e⟩ | ⟨_, _, hc⟩
  · rw [e]; exact Nat.le_refl _
  · cases hk : clOf (kOp P r.o) with
    | no => rw [hk] at hc; exact hc.elim
    | pure f => rw [hk] at hc; rw [hc.2]; exact Nat.le_refl _
    | read f => rw [hk] at hc; rw [hc.2]; exact Nat.le_refl _
    | new f => rw [hk] at hc; obtain ⟨b, g, _, _, h3, _⟩ := hc; omega
    | eff f => rw [hk] at hc; exact hc.2
theorem RecOk.new_nx {r : Rec} (h : RecOk P ck N ops ms r) (hn : IsNew P r) : r.h'.nx.num = r.h.nx.num + 1 ∧ ∃ b, ∀ i, r.h'.get i = if i = r.h.nx then b else r.h.get i := by
  obtain ⟨h1, f, h2⟩ := hn
  rcases h.did with ⟨h3, _⟩ | ⟨_, _, hc⟩
  · rw [h3] at h1; cases h1
  · rw [h2] at hc
    obtain ⟨b, g, _, h4, h5, _⟩ := hc
    exact ⟨h5, b, h4⟩
theorem clsOf_eff {kk : OpK} : effB kk = true ↔ ∃ f, clOf kk = .eff f := by
  cases kk <;> first | exact ⟨fun _ => ⟨_, rfl⟩, fun _ => rfl⟩ | exact ⟨(fun h => by cases h), fun ⟨f, h⟩ => by cases h⟩
/-- What neither lays a block nor acts leaves the heap. -/
theorem RecOk.still {r : Rec} (h : RecOk P ck N ops ms r) (hn : ¬ IsNew P r) (he : isEff P r.o = false) : r.h' = r.h := by
  rcases h.did with ⟨_, _, _, e⟩ | ⟨hr, _, hc⟩
  · exact e
  · cases hk : clOf (kOp P r.o) with
    | no => rw [hk] at hc; exact hc.elim
    | pure f => rw [hk] at hc; exact hc.2
    | read f => rw [hk] at hc; exact hc.2
    | new f => exact absurd ⟨hr, f, hk⟩ hn
    | eff f => have := clsOf_eff.2 ⟨f, hk⟩; rw [isEff_eq, this] at he; cases he
theorem Tr.nx_le (t : Tr P ck N ops ms tm hs h L tmf hsf hf) : h.nx.num ≤ hf.nx.num ∧ ∀ r ∈ L, h.nx.num ≤ r.h.nx.num ∧ r.h'.nx.num ≤ hf.nx.num := by
  induction t with
  | nil => exact ⟨Nat.le_refl _, fun r hr => by cases hr⟩
  | cons x L tmf hsf hf h1 _ ih =>
    obtain ⟨h2, h3⟩ := ih
    have := h1.nx
    refine ⟨by omega, fun r hr => ?_⟩
    rcases List.mem_cons.1 hr with rfl | hr
    · exact ⟨Nat.le_refl _, h2⟩
    · have := h3 r hr
      omega
/-- Where nothing acts, the heap is the old one with the new blocks. -/
theorem Tr.heap (t : Tr P ck N ops ms tm hs h L tmf hsf hf) (he : ∀ r ∈ L, isEff P r.o = false) :
    (∀ r ∈ L, IsNew P r → hf.get r.h.nx = r.h'.get r.h.nx) ∧ ∀ id, (∀ r ∈ L, IsNew P r → id ≠ r.h.nx) → hf.get id = h.get id := by
  induction t with
  | nil => exact ⟨(fun r hr => by cases hr), fun _ _ => rfl⟩
  | cons x L tmf hsf hf h1 t ih =>
    obtain ⟨h2, h3⟩ := ih fun r hr => he r (List.mem_cons_of_mem _ hr)
    constructor
    · intro r hr hn
      rcases List.mem_cons.1 hr with rfl | hr
      · refine h3 _ fun r' hr' hn' e => ?_
        have := (t.nx_le.2 r' hr').1
        have := (h1.new_nx hn).1
        rw [e] at this
        omega
      · exact h2 r hr hn
    · intro id hid
      rw [h3 id fun r hr => hid r (List.mem_cons_of_mem _ hr)]
      by_cases hn : IsNew P x
      · obtain ⟨_, b, h4⟩ := h1.new_nx hn
        rw [h4, if_neg (hid x (List.mem_cons_self ..) hn)]
      · rw [h1.still hn (he x (List.mem_cons_self ..))]
theorem Tr.hist (t : Tr P ck N ops ms tm hs h L tmf hsf hf) : ∃ pre, hsf = pre ++ hs ∧ ∀ y ∈ pre, ∃ r ∈ L, isEff P r.o = true ∧ y.1 = r.i := by
  induction t with
  | nil => exact ⟨[], rfl, fun y hy => by cases hy⟩
  | cons x L tmf hsf hf h1 t ih =>
    obtain ⟨pre, h2, h3⟩ := ih
    unfold Rec.hs' at h2
    cases he : isEff P x.o with
    | false =>
      rw [he] at h2
      exact ⟨pre, h2, fun y hy => let ⟨r, h4, h5⟩ := h3 y hy; ⟨r, List.mem_cons_of_mem _ h4, h5⟩⟩
    | true =>
      rw [he] at h2
      refine ⟨pre ++ [(x.i, x.h')], by rw [h2]; simp [hsOf], fun y hy => ?_⟩
      rcases List.mem_append.1 hy with hy | hy
      · obtain ⟨r, h4, h5⟩ := h3 y hy
        exact ⟨r, List.mem_cons_of_mem _ h4, h5⟩
      · have : y = (x.i, x.h') := by simpa using hy
        subst this
        exact ⟨x, List.mem_cons_self .., he, rfl⟩
theorem RecOk.dst {r : Rec} (h : RecOk P ck N ops ms r) {d : Nat} (hd : r.o.dst = some d) : d < N := by
  have := (okOper_parts h.ok).2
  rw [hd] at this
  exact nat_ble this
theorem Rec.tm'_get {r : Rec} (hN : N ≤ 256) (h : RecOk P ck N ops ms r) {t : Nat} (ht : t < N) : (rgGet t).get r.tm' = if r.o.dst = some t then r.v else (rgGet t).get r.tm := by
  unfold Rec.tm'
  cases hd : r.o.dst with
  | none => rfl
  | some d =>
    have := h.dst hd
    show (rgGet t).get ((rgPut d).put r.v r.tm) = _
    rw [rg_get_put t d (by omega) (by omega)]
    by_cases e : t = d
    · subst e; rw [if_pos rfl, if_pos rfl]
    · rw [if_neg e, if_neg fun e' => e (by injection e' with e'; exact e'.symm)]
theorem Tr.slot (tr : Tr P ck N ops ms tm hs h L tmf hsf hf) (hN : N ≤ 256) {t : Nat} (ht : t < N) :
    (∃ r ∈ L, r.o.dst = some t ∧ (rgGet t).get tmf = r.v) ∨ ((∀ r ∈ L, r.o.dst ≠ some t) ∧ (rgGet t).get tmf = (rgGet t).get tm) := by
  induction tr with
  | nil => exact .inr ⟨(fun r hr => by cases hr), rfl⟩
  | cons x L tmf hsf hf h1 _ ih =>
    rcases ih with ⟨r, h2, h3⟩ | ⟨h2, h3⟩
    · exact .inl ⟨r, List.mem_cons_of_mem _ h2, h3⟩
    · rw [Rec.tm'_get hN h1 ht] at h3
      by_cases hd : x.o.dst = some t
      · rw [if_pos hd] at h3
        exact .inl ⟨x, List.mem_cons_self .., hd, h3⟩
      · rw [if_neg hd] at h3
        refine .inr ⟨fun r hr => ?_, h3⟩
        rcases List.mem_cons.1 hr with rfl | hr
        · exact hd
        · exact h2 r hr
end trace
end Go.Ax
namespace Go.Ax
open Go
variable {P : Program}

/-! ### names cut off -/
noncomputable def cutP (φ : Phi) (b : Nat) : Phi := fun i => if i.num < b then φ i else none
theorem cutP_some {φ : Phi} {b : Nat} {i : Id} {p : Pl} : cutP φ b i = some p ↔ i.num < b ∧ φ i = some p := by
  unfold cutP
  split
  · rename_i h; exact ⟨fun e => ⟨h, e⟩, fun e => e.2⟩
  · rename_i h; exact ⟨(fun e => by cases e), fun e => absurd e.1 h⟩
theorem cutP_le (φ : Phi) (b : Nat) : (cutP φ b).le φ := fun _ _ h => (cutP_some.1 h).2
theorem cutP_mono {φ ψ : Phi} {b c : Nat} (h : φ.le ψ) (hb : b ≤ c) : (cutP φ b).le (cutP ψ c) := fun i p hp => by
  obtain ⟨h1, h2⟩ := cutP_some.1 hp
  exact cutP_some.2 ⟨by omega, h i p h2⟩
theorem cutP_up (φ : Phi) {b c : Nat} (hb : b ≤ c) : (cutP φ b).le (cutP φ c) := cutP_mono (Phi.le_refl φ) hb
theorem Rel.cut {φ : Phi} {h : Hp} {w : World} (r : Rel φ h w) : cutP φ h.nx.num = φ := by
  funext i
  unfold cutP
  split
  · rfl
  · rename_i hi
    cases hp : φ i with
    | none => rfl
    | some p => exact absurd (r.fresh i p hp).2 hi
theorem RelF.up {φ ψ : Phi} {H : Id → Blk} {w : World} (r : RelF φ H w) (h : φ.le ψ) : RelF ψ H w := by
  have same : ∀ i p, H i ≠ .none → ψ i = some p → φ i = some p := fun i p hi hp => by
    obtain ⟨q, h1, _⟩ := r.live i hi
    have := h i q h1
    rw [hp] at this
    cases this
    exact h1
  refine ⟨fun i hi => ?_, fun i j p q hi hj hp hq e => r.inj i j p q hi hj (same i p (isRw_live hi) hp) (same j q hj hq) e, fun g hg => h _ _ (r.glob g hg)⟩
  obtain ⟨p, h1, h2⟩ := r.live i hi
  exact ⟨p, h i p h1, h2.mono h (.inr rfl)⟩
/-- A block more, that nobody names. -/
theorem Step.pushed {φ : Phi} {h : Hp} {w w' : World} {o : Obj} (r : Rel φ h w) (hh : w'.heap = w.heap.push o) (h1 : w'.os = w.os) (h2 : w'.tape = w.tape) (h3 : w'.output = w.output) : Step φ h w φ h w' := by
  have hold : ∀ k, k < w.heap.size → w'.heap[k]? = w.heap[k]? := fun k hk => by rw [hh, Array.getElem?_push, if_neg (by omega)]
  have hsz : w'.heap.size = w.heap.size + 1 := by rw [hh, Array.size_push]
  refine ⟨Phi.le_refl φ, ⟨⟨fun i hi => ?_, r.f.inj, r.f.glob⟩, fun i p hp => ⟨by rw [hsz]; exact Nat.lt_succ_of_lt (r.fresh i p hp).1, (r.fresh i p hp).2⟩⟩,
    ⟨h1, h2, h3, by omega, fun k hk _ => hold k hk⟩, fun _ h => .inl h, Nat.le_refl _, fun _ _ h => .inl h, fun _ _ h => h⟩
  obtain ⟨p, h1, h2⟩ := r.f.live i hi
  exact ⟨p, h1, h2.mono (Phi.le_refl φ) (.inr (hold _ (r.fresh i p h1).1))⟩
/-- A block that lies already, taken in. -/
theorem Step.absorb {φ0 φ : Phi} {h0 h h' : Hp} {w0 w : World} {b : Blk} {p : Pl} (s : Step φ0 h0 w0 (cutP φ h.nx.num) h w) (hget : ∀ i, h'.get i = if i = h.nx then b else h.get i) (hnx : h'.nx.num = h.nx.num + 1)
    (hp : φ h.nx = some p) (h1 : w0.heap.size ≤ p.b) (h2 : p.b < w.heap.size) (hb : BRel (cutP φ h'.nx.num) w b p) (hd : ∀ id q, φ id = some q → q.b = p.b → id = h.nx) :
    Step φ0 h0 w0 (cutP φ h'.nx.num) h' w := by
  have hup := cutP_up φ (b := h.nx.num) (c := h'.nx.num) (by omega)
  have hother : ∀ i, i ≠ h.nx → h'.get i = h.get i := fun i hi => by rw [hget, if_neg hi]
  have hcut : ∀ i q, cutP φ h'.nx.num i = some q → i = h.nx ∧ q = p ∨ cutP φ h.nx.num i = some q := fun i q hq => by
    obtain ⟨h3, h4⟩ := cutP_some.1 hq
    by_cases hi : i = h.nx
    · subst hi; rw [hp] at h4; cases h4; exact .inl ⟨rfl, rfl⟩
    · refine .inr (cutP_some.2 ⟨?_, h4⟩)
      have : i.num ≠ h.nx.num := fun e => hi (Id.num_inj e)
      omega
  refine ⟨Phi.le_trans s.le hup, ⟨⟨fun i hi => ?_, fun i j q t hi hj hq ht e => ?_, fun g hg => hup _ _ (s.rel.f.glob g hg)⟩, fun i q hq => ?_⟩, s.keep, fun k hk => ?_, by have := s.nx; omega, fun i q hq => ?_, fun i hi hl => ?_⟩
  · by_cases e : i = h.nx
    · subst e
      rw [hget, if_pos rfl]
      exact ⟨p, cutP_some.2 ⟨by omega, hp⟩, hb⟩
    · rw [hother i e] at hi ⊢
      obtain ⟨q, h3, h4⟩ := s.rel.f.live i hi
      exact ⟨q, hup _ _ h3, h4.mono hup (.inr rfl)⟩
  · rcases hcut i q hq with ⟨e1, e2⟩ | h3
    · exact (hd j t (cutP_some.1 ht).2 (by rw [← e, e2])).symm ▸ e1
    · rcases hcut j t ht with ⟨e1, e2⟩ | h4
      · exact (hd i q (cutP_some.1 hq).2 (by rw [e, e2])) ▸ e1.symm
      · have ne1 : i ≠ h.nx := fun e' => by subst e'; exact absurd (cutP_some.1 h3).1 (Nat.lt_irrefl _)
        have ne2 : j ≠ h.nx := fun e' => by subst e'; exact absurd (cutP_some.1 h4).1 (Nat.lt_irrefl _)
        rw [hother i ne1] at hi
        rw [hother j ne2] at hj
        exact s.rel.f.inj i j q t hi hj h3 h4 e
  · rcases hcut i q hq with ⟨e1, e2⟩ | h3
    · subst e1; subst e2; exact ⟨h2, by omega⟩
    · have := s.rel.fresh i q h3
      exact ⟨this.1, by omega⟩
  · obtain ⟨i, q, hi, hq, e⟩ := hk
    rcases hcut i q hq with ⟨_, e2⟩ | h3
    · subst e2; exact .inr (by omega)
    · have ne1 : i ≠ h.nx := fun e' => by subst e'; exact absurd (cutP_some.1 h3).1 (Nat.lt_irrefl _)
      have hi : isRw (h'.get i) = true := hi
      rw [hother i ne1] at hi
      exact s.own k ⟨i, q, hi, h3, e⟩
  · rcases hcut i q hq with ⟨e1, e2⟩ | h3
    · subst e1; subst e2; exact .inr ⟨s.nx, .inl h1⟩
    · exact s.names i q h3
  · have ne1 : i ≠ h.nx := fun e' => by
      subst e'
      cases hq : φ0 h.nx with
      | none => exact hi hq
      | some q => exact absurd (cutP_some.1 (s.le _ _ hq)).1 (Nat.lt_irrefl _)
    rw [hother i ne1] at hl
    exact s.live i hi hl
/-- What holds of a new block ahead of its time. -/
def XOk (φ : Phi) (w0 w : World) (r : Rec) : Prop :=
  ∃ p, φ r.h.nx = some p ∧ w0.heap.size ≤ p.b ∧ p.b < w.heap.size ∧ BRel (cutP φ r.h'.nx.num) w (r.h'.get r.h.nx) p ∧ ∀ id q, φ id = some q → q.b = p.b → id = r.h.nx
section
variable {ck : CK} {N : Nat} {ops : List Oper} {ms : List Nat} {tm tmf : TM} {hs hsf : List (Nat × Hp)} {h hf : Hp} {L : List Rec}
theorem Tr.absorb (t : Tr P ck N ops ms tm hs h L tmf hsf hf) {φ0 φ : Phi} {h0 : Hp} {w0 w : World} (he : ∀ r ∈ L, isEff P r.o = false) (hx : ∀ r ∈ L, IsNew P r → XOk φ w0 w r) (s : Step φ0 h0 w0 (cutP φ h.nx.num) h w) :
    Step φ0 h0 w0 (cutP φ hf.nx.num) hf w := by
  induction t with
  | nil => exact s
  | cons x L tmf hsf hf h1 t ih =>
    refine ih (fun r hr => he r (List.mem_cons_of_mem _ hr)) (fun r hr => hx r (List.mem_cons_of_mem _ hr)) ?_
    by_cases hn : IsNew P x
    · obtain ⟨h2, b, h3⟩ := h1.new_nx hn
      obtain ⟨p, h4, h5, h6, h7, h8⟩ := hx x (List.mem_cons_self ..) hn
      rw [h3, if_pos rfl] at h7
      exact s.absorb h3 h2 h4 h5 h6 h7 h8
    · rw [h1.still hn (he x (List.mem_cons_self ..))]
      exact s
end

/-! ### between the operations -/
structure Cx (ops : List Oper) (ms msS : List Nat) (pr : Option (Nat × Nat)) : Prop where
  edges : EdgesOk ops
  mask : MaskOk ops ms pr
  lt : ∀ p, pr = some p → p.1 < p.2
  slot : ∀ i o d, ops[i]? = some o → o.dst = some d → d ∉ looks ops o ∧ ∀ j y, ops[j]? = some y → j = i ∨ (y.dst ≠ some d ∧ (d ∉ looks ops y ∨ bit (maskOf msS j) i = true ∨ bit (maskOf msS i) j = true))
  sub : ∀ q x, bit (maskOf msS q) x = true → bit (maskOf ms q) x = true
structure TrF (P : Program) (ck : CK) (N : Nat) (ops : List Oper) (ms : List Nat) (tm0 : TM) (h0 : Hp) (T : List Rec) (tmf : TM) (hsf : List (Nat × Hp)) (hf : Hp) : Prop where
  le : N ≤ 256
  tr : Tr P ck N ops ms tm0 [(0, h0)] h0 T tmf hsf hf
  before : ∀ A r B, T = A ++ r :: B → (∀ x, bit (maskOf ms r.i) x = true → ∃ r' ∈ A, r'.i = x) ∧ (isEff P r.o = true → ∀ r' ∈ A, bit (maskOf ms r.i) r'.i = true) ∧ ∀ r' ∈ A, r'.i ≠ r.i
  all : ∀ i, i < ops.length → ∃ r ∈ T, r.i = i
def SlotI (T : List Rec) (tm0 : TM) (h0 : Hp) (φ : Phi) (E : Nat → Prop) (ts : Array Value) (t : Nat) : Prop :=
  (∃ r ∈ T, E r.i ∧ r.o.dst = some t ∧ V (cutP φ r.h'.nx.num) r.v (ts.getD t Go.undef)) ∨ ((∀ r ∈ T, E r.i → r.o.dst ≠ some t) ∧ V (cutP φ h0.nx.num) ((rgGet t).get tm0) (ts.getD t Go.undef))
section
variable {ck : CK} {N : Nat} {ops : List Oper} {ms msS : List Nat} {pr : Option (Nat × Nat)} {tm0 tmf : TM} {hsf : List (Nat × Hp)} {h0 hf : Hp} {T : List Rec} {E : Nat → Prop}
theorem TrF.uniq (tf : TrF P ck N ops ms tm0 h0 T tmf hsf hf) {r r' : Rec} (h1 : r ∈ T) (h2 : r' ∈ T) (e : r.i = r'.i) : r = r' := by
  obtain ⟨A, B, hT⟩ := List.append_of_mem h1
  rw [hT] at h2
  rcases List.mem_append.1 h2 with h2 | h2
  · exact absurd e.symm ((tf.before A r B hT).2.2 r' h2)
  · rcases List.mem_cons.1 h2 with h2 | h2
    · exact h2.symm
    · obtain ⟨C, D, hB⟩ := List.append_of_mem h2
      rw [hB] at hT
      have hT2 : T = (A ++ r :: C) ++ r' :: D := by rw [hT]; simp
      exact absurd e ((tf.before _ r' D hT2).2.2 r (by simp))
/-- The slots that an operation looks at hold what the trace had there. -/
theorem look_ok (cx : Cx ops ms msS pr) (tf : TrF P ck N ops ms tm0 h0 T tmf hsf hf) {A B : List Rec} {r : Rec} {φ : Phi} {ts : Array Value} (hT : T = A ++ r :: B) (hne : ¬ E r.i) (hcl : ∀ x ∈ T, E x.i → x.o.dst ≠ none → ∀ y, bit (maskOf msS x.i) y = true → E y)
    (hrd : ∀ y, bit (maskOf msS r.i) y = true → E y) (hs : ∀ t, t < N → SlotI T tm0 h0 φ E ts t) (hsz : ts.size = N) {t : Nat} (ht : t ∈ looks ops r.o) : V (cutP φ r.h.nx.num) ((cOpd N (.tmp t)).get r.tm) (ts.getD t Go.undef) := by
  rw [cOpd_tmp]
  cases hb : Nat.ble (t + 1) N with
  | false =>
    have := nat_nble hb
    have e : ts.getD t Go.undef = Go.undef := by
      rw [Array.getD_eq_getD_getElem?, Array.getElem?_eq_none (by rw [hsz]; omega)]
      rfl
    rw [e]
    exact V.undef
  | true =>
    have htN : t < N := nat_ble hb
    have hrT : r ∈ T := by rw [hT]; simp
    obtain ⟨hbe1, hbe2, hbe3⟩ := tf.before A r B hT
    have htr := tf.tr
    rw [hT] at htr
    obtain ⟨trA, hro, _⟩ := htr.at_
    have hnx := trA.nx_le
    -- who writes t, of those ahead of r in the trace and of those that were run
    have who : ∀ x ∈ T, x.o.dst = some t → (E x.i ↔ x ∈ A) := by
      intro x hx hd
      have hxo := (tf.tr.recOk x hx).op
      obtain ⟨h1, h2⟩ := cx.slot x.i x.o t hxo hd
      have hxr : x.i ≠ r.i := fun e => by
        have := tf.uniq hx hrT e
        subst this
        exact h1 ht
      rcases h2 r.i r.o hro.op with h3 | ⟨_, h3⟩
      · exact absurd h3.symm hxr
      · rcases h3 with h3 | h3 | h3
        · exact absurd ht h3
        · refine ⟨fun _ => ?_, fun _ => hrd _ h3⟩
          obtain ⟨r', h4, h5⟩ := hbe1 _ (cx.sub _ _ h3)
          have := tf.uniq (by rw [hT]; exact List.mem_append_left _ h4) hx h5
          exact this ▸ h4
        · refine ⟨fun hE => absurd (hcl x hx hE (by rw [hd]; intro e; cases e) _ h3) hne, fun hA => ?_⟩
          obtain ⟨C, D, hA2⟩ := List.append_of_mem hA
          have hT2 : T = C ++ x :: (D ++ r :: B) := by rw [hT, hA2]; simp
          obtain ⟨r', h4, h5⟩ := (tf.before C x _ hT2).1 _ (cx.sub _ _ h3)
          exact absurd h5 (hbe3 r' (by rw [hA2]; simp [h4]))
    rcases hs t htN with ⟨x, hx, hE, hd, hv⟩ | ⟨hno, hv⟩
    · have hxA := (who x hx hd).1 hE
      rcases trA.slot tf.le htN with ⟨y, hy, hyd, e⟩ | ⟨hno, _⟩
      · have hyT : y ∈ T := by rw [hT]; exact List.mem_append_left _ hy
        have hyx : y = x := by
          refine tf.uniq hyT hx ?_
          obtain ⟨_, h2⟩ := cx.slot x.i x.o t (tf.tr.recOk x hx).op hd
          rcases h2 y.i y.o (tf.tr.recOk y hyT).op with h3 | ⟨h3, _⟩
          · exact h3
          · exact absurd hyd h3
        subst hyx
        show V _ ((rgGet t).get r.tm) _
        rw [e]
        exact V.mono (cutP_up φ (hnx.2 y hy).2) _ _ hv
      · exact absurd hd (hno x hxA)
    · rcases trA.slot tf.le htN with ⟨y, hy, hyd, e⟩ | ⟨_, e⟩
      · have hyT : y ∈ T := by rw [hT]; exact List.mem_append_left _ hy
        exact absurd hyd (hno y hyT ((who y hyT hyd).2 hy))
      · show V _ ((rgGet t).get r.tm) _
        rw [e]
        exact V.mono (cutP_up φ hnx.1) _ _ hv
theorem opds_look {φ : Phi} {tm : TM} {a : Act} (hg : GRel φ) : ∀ {l : List Operand}, l.all okOpd = true → (∀ t, t ∈ l.flatMap tmpOf → V φ ((cOpd N (.tmp t)).get tm) (a.tmps.getD t Go.undef)) → VL φ (l.map fun x => (cOpd N x).get tm) (l.map a.eval)
  | [], _, _ => rfl
  | x :: l, hl, h => by
    rw [List.all_cons, Bool.and_eq_true] at hl
    refine VL.cons ?_ (opds_look hg hl.2 fun t ht => h t (by rw [List.flatMap_cons]; exact List.mem_append_right _ ht))
    cases x with
    | tmp t => exact h t (by rw [List.flatMap_cons]; exact List.mem_append_left _ (List.mem_singleton.2 rfl))
    | const v =>
      have hx : (ofV v).isSome = true := hl.1
      obtain ⟨b, hb⟩ := Option.isSome_iff_exists.1 hx
      have e : cOpd N (.const v) = ⟨fun _ => b⟩ := by
        show (match ofV v with | some a => (⟨fun _ => a⟩ : Opd) | none => ⟨fun _ => undef⟩) = _
        rw [hb]
      show V φ ((cOpd N (.const v)).get tm) v
      rw [e]
      exact ofV_ok φ v b hb
    | global g => exact ⟨_, hg g (nat_ble hl.1), rfl⟩
    | func f => exact ⟨#[], #[], rfl, rfl, rfl⟩
theorem mem_looks_op {o : Oper} {t : Nat} (h : t ∈ (opsOf o.op).flatMap tmpOf) : t ∈ looks ops o := List.mem_append_left _ h
theorem mem_looks_guard {o : Oper} {g : Nat × Bool} {t : Nat} (hg : o.guard = some g) (ht : guardT ops g.1 = some t) : t ∈ looks ops o := by
  refine List.mem_append_right _ ?_
  rw [hg]
  dsimp only
  rw [ht]
  exact List.mem_singleton.2 rfl
/-- The slots behind an operation. -/
theorem SlotI.step {φ φ' : Phi} {a : Act} {r : Rec} {v : Value} {E' : Nat → Prop} (tf : TrF P ck N ops ms tm0 h0 T tmf hsf hf) (hr : r ∈ T) (hle : φ.le φ') (hE : ∀ x, E' x ↔ E x ∨ x = r.i) (hsz : a.tmps.size = N)
    (hv : V (cutP φ' r.h'.nx.num) r.v v) {t : Nat} (ht : t < N) (hs : SlotI T tm0 h0 φ E a.tmps t) : SlotI T tm0 h0 φ' E' (a.put r.o.dst v).tmps t := by
  by_cases hd : r.o.dst = some t
  · refine .inl ⟨r, hr, (hE _).2 (.inr rfl), hd, ?_⟩
    rw [hd]
    show V _ _ ((a.tmps.setIfInBounds t v).getD t Go.undef)
    rw [Array.getD_eq_getD_getElem?, Array.getElem?_setIfInBounds_self_of_lt (by rw [hsz]; exact ht)]
    exact hv
  · have e : (a.put r.o.dst v).tmps.getD t Go.undef = a.tmps.getD t Go.undef := by
      cases hd2 : r.o.dst with
      | none => rfl
      | some d =>
        show (a.tmps.setIfInBounds d v).getD t Go.undef = _
        rw [Array.getD_eq_getD_getElem?, Array.getElem?_setIfInBounds_ne (fun e => hd (by rw [hd2, e])), ← Array.getD_eq_getD_getElem?]
    unfold SlotI
    rw [e]
    rcases hs with ⟨x, h1, h2, h3, h4⟩ | ⟨h1, h2⟩
    · exact .inl ⟨x, h1, (hE _).2 (.inl h2), h3, V.mono (cutP_mono hle (Nat.le_refl _)) _ _ h4⟩
    · refine .inr ⟨fun x hx hEx => ?_, V.mono (cutP_mono hle (Nat.le_refl _)) _ _ h2⟩
      rcases (hE _).1 hEx with hEx | hEx
      · exact h1 x hx hEx
      · have := tf.uniq hx hr hEx
        subst this
        exact hd
end
end Go.Ax
namespace Go.Ax
open Go
variable {P : Program}

/-- Between the operations: A: those of the trace up to the last that has acted; B: the others, of which some were run. -/
structure InvS (P : Program) (ck : CK) (N : Nat) (ops : List Oper) (ms : List Nat) (tm0 : TM) (h0 : Hp) (T : List Rec) (tmf : TM) (hsf : List (Nat × Hp)) (hf : Hp) (φ0 : Phi) (w0 w00 : World) (E : Nat → Prop) (a : Act) (w : World)
    (A B : List Rec) (tmA : TM) (hsA : List (Nat × Hp)) (hA : Hp) (φ : Phi) : Prop where
  tA : Tr P ck N ops ms tm0 [(0, h0)] h0 A tmA hsA hA
  tB : Tr P ck N ops ms tmA hsA hA B tmf hsf hf
  split : T = A ++ B
  head : ∃ e l, hsA = (e, hA) :: l
  inA : ∀ r ∈ A, E r.i
  calm : ∀ r ∈ B, E r.i → isEff P r.o = false
  step : Step φ0 h0 w0 (cutP φ hA.nx.num) hA w
  names : ∀ id p, φ id = some p → id.num < hA.nx.num ∨ ∃ r ∈ B, E r.i ∧ IsNew P r ∧ id = r.h.nx
  news : ∀ r ∈ B, E r.i → IsNew P r → XOk φ w0 w r
  slots : ∀ t, t < N → SlotI T tm0 h0 φ E a.tmps t
  size : a.tmps.size = N
  marks : Marks w00 w a.defers
def Mid (P : Program) (ck : CK) (N : Nat) (ops : List Oper) (ms : List Nat) (tm0 : TM) (h0 : Hp) (T : List Rec) (tmf : TM) (hsf : List (Nat × Hp)) (hf : Hp) (φ0 : Phi) (w0 w00 : World) (E : Nat → Prop) (a : Act) (w : World) : Prop :=
  ∃ A B tmA hsA hA φ, InvS P ck N ops ms tm0 h0 T tmf hsf hf φ0 w0 w00 E a w A B tmA hsA hA φ
section
variable {ck : CK} {N : Nat} {ops : List Oper} {ms msS : List Nat} {pr : Option (Nat × Nat)} {tm0 tmf : TM} {hsf : List (Nat × Hp)} {h0 hf : Hp} {T : List Rec} {φ0 : Phi} {w0 w00 : World} {E E' : Nat → Prop} {a : Act} {w : World}
  {A B : List Rec} {tmA : TM} {hsA : List (Nat × Hp)} {hA : Hp} {φ : Phi}
/-- An operation that leaves the world, and what does not act. -/
theorem InvS.still (iv : InvS P ck N ops ms tm0 h0 T tmf hsf hf φ0 w0 w00 E a w A B tmA hsA hA φ) (tf : TrF P ck N ops ms tm0 h0 T tmf hsf hf) {r : Rec} (hr : r ∈ B) (hE : ∀ x, E' x ↔ E x ∨ x = r.i) (he : isEff P r.o = false) (hn : ¬ IsNew P r)
    {v : Value} (hv : V (cutP φ r.h'.nx.num) r.v v) : InvS P ck N ops ms tm0 h0 T tmf hsf hf φ0 w0 w00 E' (a.put r.o.dst v) w A B tmA hsA hA φ := by
  have hrT : r ∈ T := by rw [iv.split]; exact List.mem_append_right _ hr
  have old : ∀ x ∈ B, E' x.i → IsNew P x → E x.i := fun x hx hEx hnx => by
    rcases (hE _).1 hEx with h | h
    · exact h
    · have := tf.uniq (by rw [iv.split]; exact List.mem_append_right _ hx) hrT h
      subst this
      exact absurd hnx hn
  refine ⟨iv.tA, iv.tB, iv.split, iv.head, fun x hx => (hE _).2 (.inl (iv.inA x hx)), fun x hx hEx => ?_, iv.step, fun id p hp => ?_, fun x hx hEx hnx => iv.news x hx (old x hx hEx hnx) hnx,
    fun t ht => (iv.slots t ht).step tf hrT (Phi.le_refl φ) hE iv.size hv ht, ?_, by rw [Act.put_defers']; exact iv.marks⟩
  · rcases (hE _).1 hEx with h | h
    · exact iv.calm x hx h
    · have := tf.uniq (by rw [iv.split]; exact List.mem_append_right _ hx) hrT h
      subst this
      exact he
  · rcases iv.names id p hp with h | ⟨x, h1, h2, h3⟩
    · exact .inl h
    · exact .inr ⟨x, h1, (hE _).2 (.inl h2), h3⟩
  · have := iv.size
    cases r.o.dst with
    | none => exact this
    | some d => simpa [Act.put] using this
theorem put_size (a : Act) (d : Option Nat) (v : Value) : (a.put d v).tmps.size = a.tmps.size := by
  cases d with
  | none => rfl
  | some d => simp [Act.put]
/-- Names of new blocks, compared with those of one that stands in B. -/
theorem Tr.ord {tm1 : TM} {hs1 : List (Nat × Hp)} {h1 : Hp} {B1 B2 : List Rec} {r : Rec} (t : Tr P ck N ops ms tm1 hs1 h1 (B1 ++ r :: B2) tmf hsf hf) :
    h1.nx.num ≤ r.h.nx.num ∧ r.h.nx.num ≤ r.h'.nx.num ∧ r.h'.nx.num ≤ hf.nx.num ∧ (∀ x ∈ B1, x.h'.nx.num ≤ r.h.nx.num) ∧ ∀ x ∈ B2, r.h'.nx.num ≤ x.h.nx.num := by
  obtain ⟨t1, h2, t2⟩ := t.at_
  exact ⟨t1.nx_le.1, h2.nx, t2.nx_le.1, fun x hx => (t1.nx_le.2 x hx).2, fun x hx => (t2.nx_le.2 x hx).1⟩
/-- A new block. -/
theorem InvS.fresh (iv : InvS P ck N ops ms tm0 h0 T tmf hsf hf φ0 w0 w00 E a w A B tmA hsA hA φ) (tf : TrF P ck N ops ms tm0 h0 T tmf hsf hf) {B1 B2 : List Rec} {r : Rec} (hB : B = B1 ++ r :: B2) (hne : ¬ E r.i) (hE : ∀ x, E' x ↔ E x ∨ x = r.i) (he : isEff P r.o = false) (hn : IsNew P r)
    {b : Blk} {g : Id → AV} {v : Value} {w' : World} {p : Pl} (hget : ∀ i, r.h'.get i = if i = r.h.nx then b else r.h.get i) (hrv : r.v = g r.h.nx) (hm : Made (cutP φ r.h.nx.num) w w' b g v p) :
    InvS P ck N ops ms tm0 h0 T tmf hsf hf φ0 w0 w00 E' (a.put r.o.dst v) w' A B tmA hsA hA (upd φ r.h.nx p) := by
  have hrB : r ∈ B := by rw [hB]; simp
  have hrT : r ∈ T := by rw [iv.split]; exact List.mem_append_right _ hrB
  have hnx := ((tf.tr.recOk r hrT).new_nx hn).1
  have tB := iv.tB
  rw [hB] at tB
  obtain ⟨o1, o2, o3, o4, o5⟩ := tB.ord
  -- its name is not in use
  have hnone : φ r.h.nx = none := by
    cases hp : φ r.h.nx with
    | none => rfl
    | some q =>
      rcases iv.names _ q hp with h | ⟨x, h1, h2, h3, h4⟩
      · omega
      · have hx := (tf.tr.recOk x (by rw [iv.split]; exact List.mem_append_right _ h1)).new_nx h3
        rw [hB] at h1
        rcases List.mem_append.1 h1 with h1 | h1
        · have := o4 x h1; rw [h4] at this; omega
        · rcases List.mem_cons.1 h1 with h1 | h1
          · subst h1; exact absurd h2 hne
          · have := o5 x h1; rw [← h4] at this; omega
  have hle := upd_le p hnone
  have hcutA : cutP (upd φ r.h.nx p) hA.nx.num = cutP φ hA.nx.num := by
    funext i
    unfold cutP
    split
    · rename_i hi
      exact upd_ne φ p fun e => by subst e; omega
    · rfl
  obtain ⟨ob, hob⟩ := hm.heap
  have hsz : w'.heap.size = w.heap.size + 1 := by rw [hob, Array.size_push]
  have hold : ∀ k, k < w.heap.size → w'.heap[k]? = w.heap[k]? := fun k hk => by rw [hob, Array.getElem?_push, if_neg (by omega)]
  have hlt : ∀ i q, φ i = some q → q.b < w.heap.size := fun i q hq => by
    rcases iv.names i q hq with h | ⟨x, h1, h2, h3, h4⟩
    · exact (iv.step.rel.fresh i q (cutP_some.2 ⟨h, hq⟩)).1
    · obtain ⟨q', h5, _, h6, _⟩ := iv.news x h1 h2 h3
      subst h4
      rw [hq] at h5
      cases h5
      exact h6
  have s1 : Step (cutP φ hA.nx.num) hA w (cutP φ hA.nx.num) hA w' := Step.pushed iv.step.rel hob hm.os hm.tape hm.output
  have hψ : (cutP φ r.h.nx.num).le (cutP (upd φ r.h.nx p) r.h'.nx.num) := cutP_mono hle o2
  refine ⟨iv.tA, iv.tB, iv.split, iv.head, fun x hx => (hE _).2 (.inl (iv.inA x hx)), fun x hx hEx => ?_, ?_, fun id q hq => ?_, fun x hx hEx hnx2 => ?_, fun t ht => (iv.slots t ht).step tf hrT hle hE iv.size ?_ ht, ?_, ?_⟩
  · rcases (hE _).1 hEx with h | h
    · exact iv.calm x hx h
    · have := tf.uniq (by rw [iv.split]; exact List.mem_append_right _ hx) hrT h
      subst this
      exact he
  · rw [hcutA]; exact iv.step.trans s1
  · by_cases e : id = r.h.nx
    · exact .inr ⟨r, hrB, (hE _).2 (.inr rfl), hn, e⟩
    · rw [upd_ne φ p e] at hq
      rcases iv.names id q hq with h | ⟨x, h1, h2, h3⟩
      · exact .inl h
      · exact .inr ⟨x, h1, (hE _).2 (.inl h2), h3⟩
  · by_cases e : x.i = r.i
    · have := tf.uniq (by rw [iv.split]; exact List.mem_append_right _ hx) hrT e
      subst this
      refine ⟨p, upd_same _ _ _, by rw [hm.place]; exact iv.step.keep.size, by rw [hm.place]; omega, ?_, fun id q hq hqb => ?_⟩
      · rw [hget, if_pos rfl]
        exact hm.blk _ hψ
      · by_cases e2 : id = x.h.nx
        · exact e2
        · rw [upd_ne φ p e2] at hq
          have := hlt id q hq
          rw [hqb, hm.place] at this
          exact absurd this (Nat.lt_irrefl _)
    · have hEo : E x.i := ((hE _).1 hEx).resolve_right e
      obtain ⟨q, h1, h2, h3, h4, h5⟩ := iv.news x hx hEo hnx2
      refine ⟨q, hle _ _ h1, h2, by omega, h4.mono (cutP_mono hle (Nat.le_refl _)) (.inr (hold _ h3)), fun id q' hq' hb' => ?_⟩
      by_cases e2 : id = r.h.nx
      · subst e2
        rw [upd_same] at hq'
        cases hq'
        rw [hm.place] at hb'
        omega
      · rw [upd_ne φ p e2] at hq'
        exact h5 id q' hq' hb'
  · rw [hrv]
    exact hm.val _ _ hψ (cutP_some.2 ⟨by omega, upd_same _ _ _⟩)
  · rw [put_size]; exact iv.size
  · rw [Act.put_defers']; exact iv.marks.step iv.step.rel.f s1
/-- Names where something has acted: its own below, the elder ones above. -/
noncomputable def glue (φ φ1 : Phi) (b : Nat) : Phi := fun i => if i.num < b then φ1 i else φ i
/-- Something acts. -/
theorem InvS.acts (iv : InvS P ck N ops ms tm0 h0 T tmf hsf hf φ0 w0 w00 E a w A B tmA hsA hA φ) (tf : TrF P ck N ops ms tm0 h0 T tmf hsf hf) {B1 B2 : List Rec} {r : Rec} (hB : B = B1 ++ r :: B2) (hne : ¬ E r.i) (hE : ∀ x, E' x ↔ E x ∨ x = r.i)
    (he : isEff P r.o = true) (hb1 : ∀ x ∈ B1, E x.i) {φ1 : Phi} {v : Value} {w' : World} (hs : Step (cutP φ r.h.nx.num) r.h w φ1 r.h' w') (hv : V φ1 r.v v) :
    InvS P ck N ops ms tm0 h0 T tmf hsf hf φ0 w0 w00 E' (a.put r.o.dst v) w' (A ++ (B1 ++ [r])) B2 r.tm' (r.hs' P) r.h' (glue φ φ1 r.h'.nx.num) := by
  have hrB : r ∈ B := by rw [hB]; simp
  have hrT : r ∈ T := by rw [iv.split]; exact List.mem_append_right _ hrB
  have tB := iv.tB
  rw [hB] at tB
  obtain ⟨o1, o2, o3, o4, o5⟩ := tB.ord
  obtain ⟨t1, hro, t2⟩ := tB.at_
  have hcut : cutP (glue φ φ1 r.h'.nx.num) r.h'.nx.num = φ1 := by
    funext i
    unfold cutP glue
    split
    · rfl
    · rename_i hi
      cases hp : φ1 i with
      | none => rfl
      | some q => exact absurd (hs.rel.fresh i q hp).2 hi
  -- names of new blocks lie below or above
  have above : ∀ id q, φ id = some q → id.num < r.h.nx.num ∨ r.h'.nx.num ≤ id.num := fun id q hq => by
    rcases iv.names id q hq with h | ⟨x, h1, h2, h3, h4⟩
    · exact .inl (by omega)
    · have hx := (tf.tr.recOk x (by rw [iv.split]; exact List.mem_append_right _ h1)).new_nx h3
      rw [hB] at h1
      rcases List.mem_append.1 h1 with h1 | h1
      · have := o4 x h1; rw [h4]; exact .inl (by omega)
      · rcases List.mem_cons.1 h1 with h1 | h1
        · subst h1; exact absurd h2 hne
        · have := o5 x h1; rw [h4]; exact .inr this
  have hle : φ.le (glue φ φ1 r.h'.nx.num) := fun id q hq => by
    unfold glue
    split
    · rename_i hlt
      rcases above id q hq with h | h
      · exact hs.le _ _ (cutP_some.2 ⟨h, hq⟩)
      · omega
    · exact hq
  have hcalm : ∀ x ∈ B1, isEff P x.o = false := fun x hx => iv.calm x (by rw [hB]; simp [hx]) (hb1 x hx)
  have s0 : Step φ0 h0 w0 (cutP φ r.h.nx.num) r.h w := t1.absorb hcalm (fun x hx hn => iv.news x (by rw [hB]; simp [hx]) (hb1 x hx) hn) iv.step
  refine ⟨?_, t2, by rw [iv.split, hB]; simp, ⟨r.i, r.hs, by unfold Rec.hs'; rw [he]; rfl⟩, fun x hx => ?_, fun x hx hEx => ?_, by rw [hcut]; exact s0.trans hs, fun id q hq => ?_, fun x hx hEx hn => ?_,
    fun t ht => (iv.slots t ht).step tf hrT hle hE iv.size (by rw [hcut]; exact hv) ht, by rw [put_size]; exact iv.size, by rw [Act.put_defers']; exact iv.marks.step s0.rel.f hs⟩
  · exact iv.tA.join (t1.join (.cons r [] _ _ _ hro (.nil ..)))
  · rcases List.mem_append.1 hx with hx | hx
    · exact (hE _).2 (.inl (iv.inA x hx))
    · rcases List.mem_append.1 hx with hx | hx
      · exact (hE _).2 (.inl (hb1 x hx))
      · rw [List.mem_singleton.1 hx]; exact (hE _).2 (.inr rfl)
  · rcases (hE _).1 hEx with h | h
    · exact iv.calm x (by rw [hB]; simp [hx]) h
    · have h3 := tf.uniq (by rw [iv.split, hB]; simp [hx]) hrT h
      obtain ⟨C, D, hC⟩ := List.append_of_mem hx
      have hT2 : T = (A ++ (B1 ++ r :: C)) ++ x :: D := by rw [iv.split, hB, hC]; simp
      exact absurd h.symm ((tf.before _ x D hT2).2.2 r (by simp))
  · unfold glue at hq
    split at hq
    · rename_i hlt; exact .inl hlt
    · rename_i hnl
      rcases iv.names id q hq with h | ⟨x, h1, h2, h3, h4⟩
      · omega
      · refine .inr ⟨x, ?_, (hE _).2 (.inl h2), h3, h4⟩
        have hx := (tf.tr.recOk x (by rw [iv.split]; exact List.mem_append_right _ h1)).new_nx h3
        rw [hB] at h1
        rcases List.mem_append.1 h1 with h1 | h1
        · have := o4 x h1; rw [h4] at hnl; omega
        · rcases List.mem_cons.1 h1 with h1 | h1
          · subst h1; exact absurd h2 hne
          · exact h1
  · have hEo : E x.i := by
      rcases (hE _).1 hEx with h | h
      · exact h
      · have h3 := tf.uniq (by rw [iv.split, hB]; simp [hx]) hrT h
        obtain ⟨C, D, hC⟩ := List.append_of_mem hx
        have hT2 : T = (A ++ (B1 ++ r :: C)) ++ x :: D := by rw [iv.split, hB, hC]; simp
        exact absurd h.symm ((tf.before _ x D hT2).2.2 r (by simp))
    obtain ⟨q, h1, h2, h3, h4, h5⟩ := iv.news x (by rw [hB]; simp [hx]) hEo hn
    have hxn := o5 x hx
    have hnotown : ¬ Own (cutP φ r.h.nx.num) r.h.get q.b := by
      rintro ⟨i, q', h6, h7, h8⟩
      obtain ⟨h9, h10⟩ := cutP_some.1 h7
      have := h5 i q' h10 h8
      rw [this] at h9
      omega
    refine ⟨q, hle _ _ h1, h2, Nat.lt_of_lt_of_le h3 hs.keep.size, h4.mono (cutP_mono hle (Nat.le_refl _)) (.inr (hs.keep.block _ h3 hnotown)), fun id q' hq' hb' => ?_⟩
    unfold glue at hq'
    split at hq'
    · rename_i hlt
      rcases hs.names id q' hq' with h6 | ⟨_, h6 | h6⟩
      · exact h5 id q' (cutP_some.1 h6).2 hb'
      · omega
      · rw [hb'] at h6; exact absurd h6 hnotown
    · exact h5 id q' hq' hb'
/-- One operation more, where all ahead of it was run. -/
theorem inv_step {ro : Option Nat} {n : Nat} {arr : Array Oper} {K : Act → World → Prop} {Q : Exit → Act → World → Prop} (hck : CKOk P ck) (cx : Cx arr.toList ms msS pr) (tf : TrF P ck N arr.toList ms tm0 h0 T tmf hsf hf)
    (iv : InvS P ck N arr.toList ms tm0 h0 T tmf hsf hf φ0 w0 w00 E a w A B tmA hsA hA φ) {i : Nat} (hi : i < arr.toList.length) (hne : ¬ E i) (hcl : ∀ x ∈ T, E x.i → x.o.dst ≠ none → ∀ y, bit (maskOf msS x.i) y = true → E y) (hrd : ∀ y, bit (maskOf ms i) y = true → E y)
    (hE : ∀ x, E' x ↔ E x ∨ x = i) (hK : ∀ a w, Mid P ck N arr.toList ms tm0 h0 T tmf hsf hf φ0 w0 w00 E' a w → K a w) : wpOpIn (FW ro) n P arr Q i K a w := by
  obtain ⟨r, hrT, rfl⟩ := tf.all i hi
  have hrA : r ∉ A := fun h => hne (iv.inA r h)
  have hrB : r ∈ B := by
    have := hrT
    rw [iv.split] at this
    exact (List.mem_append.1 this).resolve_left hrA
  obtain ⟨B1, B2, hB⟩ := List.append_of_mem hrB
  have hT : T = (A ++ B1) ++ r :: B2 := by rw [iv.split, hB]; simp
  have hrok := tf.tr.recOk r hrT
  have tB := iv.tB
  rw [hB] at tB
  obtain ⟨o1, o2, o3, o4, o5⟩ := tB.ord
  obtain ⟨t1, _, t2⟩ := tB.at_
  have hlook : ∀ t, t ∈ looks arr.toList r.o → V (cutP φ r.h.nx.num) ((cOpd N (.tmp t)).get r.tm) (a.tmps.getD t Go.undef) := fun t ht => look_ok cx tf hT hne hcl (fun y hy => hrd y (cx.sub _ _ hy)) iv.slots iv.size ht
  have hg : GRel (cutP φ r.h.nx.num) := fun g hg => cutP_up φ o1 _ _ (iv.step.rel.f.glob g hg)
  obtain ⟨ho1, _⟩ := okOper_parts hrok.ok
  have hxs : VL (cutP φ r.h.nx.num) (xsAt N r.o r.tm) ((opsOf r.o.op).map a.eval) := opds_look hg ho1 fun t ht => hlook t (mem_looks_op ht)
  have hwant : ∀ b, gWant N arr.toList r.o r.tm = some b → Region.wanted r.o (yielded arr a.tmps) = b := fun b h => wanted_ok (fun g t h1 h2 => hlook t (mem_looks_guard h1 h2)) h
  -- what acts: all ahead of it in the trace was run
  have hb1 : isEff P r.o = true → ∀ x ∈ B1, E x.i := fun he x hx => hrd _ ((tf.before _ r B2 hT).2.1 he x (List.mem_append_right _ hx))
  have hop : arr[r.i]? = some r.o := by rw [← Array.getElem?_toList]; exact hrok.op
  unfold wpOpIn
  rw [hop]
  dsimp only
  rcases hrok.did with ⟨hran, hw, hv, hh⟩ | ⟨hran, hw, hc⟩
  · rw [hwant _ hw]
    simp only [Bool.false_eq_true, if_false]
    refine ⟨fun _ _ => trivial, hK _ _ ?_⟩
    have hnn : ¬ IsNew P r := fun h => by have := h.1; rw [hran] at this; cases this
    cases he : isEff P r.o with
    | false => exact ⟨_, _, _, _, _, _, iv.still tf hrB hE he hnn (by rw [hv]; exact V.undef)⟩
    | true =>
      have hcalm : ∀ x ∈ B1, isEff P x.o = false := fun x hx => iv.calm x (by rw [hB]; simp [hx]) (hb1 he x hx)
      have s0 : Step φ0 h0 w0 (cutP φ r.h.nx.num) r.h w := t1.absorb hcalm (fun x hx hn => iv.news x (by rw [hB]; simp [hx]) (hb1 he x hx) hn) iv.step
      have s1 : Step (cutP φ r.h.nx.num) r.h w (cutP φ r.h.nx.num) r.h' w := by rw [hh]; exact Step.refl s0.rel
      exact ⟨_, _, _, _, _, _, iv.acts tf hB hne hE he (hb1 he) s1 (by rw [hv]; exact V.undef)⟩
  · rw [hwant _ hw]
    simp only [if_true]
    have hok := kOp_ok (P := P) r.o
    have hdf : ∀ f', clOf (kOp P r.o) = f' → f' ≠ .no → ∀ c, r.o.op ≠ .defer c := fun f' h1 h2 => kOp_defer r.o (h1 ▸ h2)
    have heff : ∀ f', clOf (kOp P r.o) = f' → (∀ f, f' ≠ .eff f) → isEff P r.o = false := fun f' h1 h2 => by
      cases h : isEff P r.o with
      | false => rfl
      | true => obtain ⟨f, hf⟩ := clsOf_eff.1 (isEff_eq r.o ▸ h); exact absurd (h1 ▸ hf) (h2 f)
    have hnew : ∀ f', clOf (kOp P r.o) = f' → (∀ f, f' ≠ .new f) → ¬ IsNew P r := fun f' h1 h2 h => by
      obtain ⟨_, f, hf⟩ := h
      exact h2 f (h1 ▸ hf)
    generalize hcc : clOf (kOp P r.o) = c at hc hok hdf
    have direct : ∀ v w', c ≠ .no → (execOp a.eval r.o).run P w = .ok (.value v) w' → K (a.put r.o.dst v) w' → r.o.wpIn (FW ro) n P a w K Q := fun v w' hne h1 h2 => by
      refine ⟨fun _ _ => trivial, ?_⟩
      rw [Oper.semAt_eq _ _ _ (hdf c rfl hne), h1]
      exact h2
    cases c with
    | no => exact hc.elim
    | pure f =>
      obtain ⟨h1, h2⟩ := hc
      obtain ⟨u, h3, h4⟩ := hok _ w a.eval _ _ h1 hxs
      exact direct u w (by intro e; cases e) h4 (hK _ _ ⟨_, _, _, _, _, _, iv.still tf hrB hE (heff _ hcc (by intro f e; cases e)) (hnew _ hcc (by intro f e; cases e)) (by rw [h2]; exact h3)⟩)
    | read f =>
      obtain ⟨h1, h2⟩ := hc
      obtain ⟨e, l, hhd⟩ := iv.head
      obtain ⟨pre, hp1, hp2⟩ := t1.hist
      have hreach : Reach (maskOf ms r.i) r.hs (e, hA) := by
        rw [hp1, hhd]
        refine Reach.append fun y hy => ?_
        obtain ⟨x, hx1, hx2, hx3⟩ := hp2 y hy
        cases hbit : bit (maskOf ms r.i) y.1 with
        | false => rfl
        | true =>
          rw [hx3] at hbit
          have := iv.calm x (by rw [hB]; simp [hx1]) (hrd _ hbit)
          rw [hx2] at this
          cases this
      have h3 := h1 _ hreach
      obtain ⟨u, h4, h5⟩ := hok (cutP φ r.h.nx.num) hA w a.eval _ _ (iv.step.rel.f.up (cutP_up φ o1)) h3 hxs
      exact direct u w (by intro e; cases e) h5 (hK _ _ ⟨_, _, _, _, _, _, iv.still tf hrB hE (heff _ hcc (by intro f e; cases e)) (hnew _ hcc (by intro f e; cases e)) (by rw [h2]; exact h4)⟩)
    | new f =>
      obtain ⟨b, g, h1, h2, h3, h4⟩ := hc
      obtain ⟨u, w', p, h5, h6⟩ := hok _ w a.eval _ b g h1 hxs
      exact direct u w' (by intro e; cases e) h5 (hK _ _ ⟨_, _, _, _, _, _, iv.fresh tf hB hne hE (heff _ hcc (by intro f e; cases e)) ⟨hran, f, hcc⟩ h2 h4 h6⟩)
    | eff f =>
      obtain ⟨h1, h2⟩ := hc
      have he : isEff P r.o = true := by rw [isEff_eq]; exact clsOf_eff.2 ⟨f, hcc⟩
      have hcalm : ∀ x ∈ B1, isEff P x.o = false := fun x hx => iv.calm x (by rw [hB]; simp [hx]) (hb1 he x hx)
      have s0 : Step φ0 h0 w0 (cutP φ r.h.nx.num) r.h w := t1.absorb hcalm (fun x hx hn => iv.news x (by rw [hB]; simp [hx]) (hb1 he x hx) hn) iv.step
      refine hok ck hck ro n _ r.h w a _ _ _ s0.rel h1 hxs K Q fun φ1 w' u h3 h4 => hK _ _ ?_
      exact ⟨_, _, _, _, _, _, iv.acts tf hB hne hE he (hb1 he) h4 h3⟩
end
end Go.Ax
namespace Go.Ax
open Go
variable {P : Program}

theorem slot_ok_one {ops : List Oper} {ms : List Nat} {i d : Nat} : ∀ (l : List Oper) (j : Nat), slotOk ops ms i d j l = true → ∀ q y, l[q]? = some y → j + q = i ∨ (y.dst ≠ some d ∧ (d ∉ looks ops y ∨ bit (maskOf ms (j + q)) i = true ∨ bit (maskOf ms i) (j + q) = true))
  | [], _, _, _, _, h => by simp at h
  | x :: l, j, h, q, y, hy => by
    have h : ((Nat.beq i j || ((match x.dst with | some e => !(Nat.beq d e) | none => true) && (!((looks ops x).any (Nat.beq d)) || bit (maskOf ms j) i || bit (maskOf ms i) j))) && slotOk ops ms i d (j + 1) l) = true := h
    rw [Bool.and_eq_true] at h
    cases q with
    | zero =>
      have hx : x = y := by simpa using hy
      subst hx
      have h1 := h.1
      rw [Bool.or_eq_true, Bool.and_eq_true, Bool.or_eq_true, Bool.or_eq_true] at h1
      rcases h1 with h1 | ⟨h1, h2⟩
      · exact .inl (nat_beq h1).symm
      · refine .inr ⟨fun e => ?_, ?_⟩
        · rw [e] at h1
          have h1 : (!(Nat.beq d d)) = true := h1
          rw [Nat.beq_refl] at h1
          cases h1
        · rcases h2 with (h2 | h2) | h2
          · refine .inl fun hm => ?_
            rw [any_beq.2 hm] at h2
            cases h2
          · exact .inr (.inl h2)
          · exact .inr (.inr h2)
    | succ q =>
      have := slot_ok_one l (j + 1) h.2 q y (by simpa using hy)
      rw [show j + (q + 1) = j + 1 + q by omega]
      exact this
theorem slots_ok {ops : List Oper} {ms : List Nat} : ∀ (l : List Oper) (i : Nat), slotsOk ops ms i l = true → ∀ q o d, l[q]? = some o → o.dst = some d →
    d ∉ looks ops o ∧ ∀ j y, ops[j]? = some y → j = i + q ∨ (y.dst ≠ some d ∧ (d ∉ looks ops y ∨ bit (maskOf ms j) (i + q) = true ∨ bit (maskOf ms (i + q)) j = true))
  | [], _, _, _, _, _, h, _ => by simp at h
  | x :: l, i, h, q, o, d, ho, hd => by
    have h : ((match x.dst with | some d => !((looks ops x).any (Nat.beq d)) && slotOk ops ms i d 0 ops | none => true) && slotsOk ops ms (i + 1) l) = true := h
    rw [Bool.and_eq_true] at h
    cases q with
    | zero =>
      have hx : x = o := by simpa using ho
      subst hx
      have h1 := h.1
      rw [hd] at h1
      dsimp only at h1
      rw [Bool.and_eq_true] at h1
      refine ⟨fun hm => ?_, fun j y hy => ?_⟩
      · have := h1.1
        rw [any_beq.2 hm] at this
        cases this
      · have := slot_ok_one ops 0 h1.2 j y hy
        simpa using this
    | succ q =>
      have := slots_ok l (i + 1) h.2 q o d (by simpa using ho) hd
      rw [show i + (q + 1) = i + 1 + q by omega]
      exact this
theorem eff_mem {ops : List Oper} : ∀ (l : List Oper) (i : Nat) (q : Nat) (o : Oper), l[q]? = some o → isEff P o = true → i + q ∈ effFrom P i l
  | [], _, _, _, h, _ => by simp at h
  | x :: l, i, q, o, ho, he => by
    have e : effFrom P i (x :: l) = (match isEff P x with | true => i :: effFrom P (i + 1) l | false => effFrom P (i + 1) l) := rfl
    rw [e]
    cases q with
    | zero =>
      have hx : x = o := by simpa using ho
      subst hx
      rw [he]
      exact List.mem_cons_self ..
    | succ q =>
      have := eff_mem (ops := ops) l (i + 1) q o (by simpa using ho) he
      rw [show i + (q + 1) = i + 1 + q by omega]
      cases isEff P x with
      | true => exact List.mem_cons_of_mem _ this
      | false => exact this
theorem ord_ok {ms es : List Nat} : ∀ (l : List Nat) (pb : Nat) (pre : List Nat), (∀ j, bit pb j = true ↔ j ∈ pre) → ordOk ms es pb l = true → ∀ o1 i o2, l = o1 ++ i :: o2 →
    (∀ x, bit (maskOf ms i) x = true → x ∈ pre ++ o1) ∧ (i ∈ es → ∀ x ∈ pre ++ o1, bit (maskOf ms i) x = true) ∧ i ∉ pre ++ o1
  | [], _, _, _, _, o1, i, o2, h => by simp at h
  | y :: l, pb, pre, hpb, h, o1, i, o2, hl => by
    have h : (!(bit pb y) && Nat.beq (Nat.land (maskOf ms y) pb) (maskOf ms y) && (!(es.any (Nat.beq y)) || Nat.beq (maskOf ms y) pb) && ordOk ms es (Nat.lor pb (Nat.shiftLeft 1 y)) l) = true := h
    rw [Bool.and_eq_true, Bool.and_eq_true, Bool.and_eq_true] at h
    obtain ⟨⟨⟨h1, h2⟩, h3⟩, h4⟩ := h
    cases o1 with
    | nil =>
      have e : y = i ∧ l = o2 := by simpa using hl
      obtain ⟨rfl, rfl⟩ := e
      rw [List.append_nil]
      refine ⟨fun x hx => (hpb x).1 (bit_sub (nat_beq h2) hx), fun hes x hx => ?_, fun hm => ?_⟩
      · rw [any_beq.2 hes] at h3
        have h3 : Nat.beq (maskOf ms y) pb = true := h3
        rw [nat_beq h3]
        exact (hpb x).2 hx
      · rw [(hpb y).2 hm] at h1
        cases h1
    | cons z o1 =>
      have e : y = z ∧ l = o1 ++ i :: o2 := by simpa using hl
      obtain ⟨rfl, e⟩ := e
      have := ord_ok l (Nat.lor pb (Nat.shiftLeft 1 y)) (pre ++ [y]) (fun j => by rw [bit_lor, bit_shl, Bool.or_eq_true, hpb, List.mem_append, List.mem_singleton, decide_eq_true_eq]; exact ⟨fun h => h.imp id Eq.symm, fun h => h.imp id Eq.symm⟩) h4 o1 i o2 e
      simpa using this
theorem maskOf_set_ne {ms : List Nat} {j q v : Nat} (h : q ≠ j) : maskOf (ms.set j v) q = maskOf ms q := by
  unfold maskOf
  rw [lnth_eq, lnth_eq, List.getElem?_set_ne (fun e => h e.symm)]
theorem maskOf_set_same {ms : List Nat} {j v : Nat} : maskOf (ms.set j v) j = v ∨ maskOf (ms.set j v) j = 0 := by
  unfold maskOf
  rw [lnth_eq, List.getElem?_set_self']
  cases ms[j]? with
  | none => exact .inr rfl
  | some x => exact .inl rfl
theorem pairOf_mem {ms : List Nat} : ∀ {l : List Nat} {p : Nat × Nat}, pairOf ms l = some p → p.1 ∈ l ∧ p.2 ∈ l
  | [], p, h => by cases h
  | [i], p, h => by cases h
  | [i, j], p, h => by
    have h : (match bit (maskOf ms j) i with | true => none | false => some (i, j)) = some p := h
    cases hb : bit (maskOf ms j) i with
    | true => rw [hb] at h; cases h
    | false => rw [hb] at h; cases h; exact ⟨by simp, by simp⟩
  | i :: j :: k :: l, p, h => by
    have h : pairOf ms (j :: k :: l) = some p := h
    obtain ⟨h1, h2⟩ := pairOf_mem h
    exact ⟨List.mem_cons_of_mem _ h1, List.mem_cons_of_mem _ h2⟩
/-- What is known of two unordered stores. -/
structure PairF (P : Program) (ops : List Oper) (ms : List Nat) (mj : Nat) (p : Nat × Nat) : Prop where
  st1 : ∃ o t a v, ops[p.1]? = some o ∧ o.op = .store t a v ∧ o.dst = none ∧ o.guard = none
  st2 : ∃ o t a v, ops[p.2]? = some o ∧ o.op = .store t a v ∧ o.dst = none ∧ o.guard = none ∧ mj = maskE ms o.after.toList
  other : ∀ q o, ops[q]? = some o → q = p.1 ∨ q = p.2 ∨ isPure P o = true ∨ (bit (maskOf ms p.1) q = true ∧ bit mj q = true)
  apart : ∀ q o, ops[q]? = some o → q = p.2 ∨ (bit (maskOf ms q) p.1 = false ∧ bit (maskOf ms q) p.2 = false)
theorem store_ok {ops : List Oper} {i : Nat} (h : isStore ops i = true) : ∃ o t a v, ops[i]? = some o ∧ o.op = .store t a v ∧ o.dst = none ∧ o.guard = none := by
  unfold isStore at h
  rw [lnth_eq] at h
  cases ho : ops[i]? with
  | none => rw [ho] at h; cases h
  | some o =>
    rw [ho] at h
    dsimp only at h
    split at h
    · rename_i h1 h2 h3
      exact ⟨o, _, _, _, rfl, h1, h2, h3⟩
    · cases h
theorem pair_all {ms : List Nat} {i j mj : Nat} : ∀ (l : List Oper) (q : Nat), pairAll P ms i j mj q l = true → ∀ d o, l[d]? = some o →
    (q + d = i ∨ q + d = j ∨ isPure P o = true ∨ (bit (maskOf ms i) (q + d) = true ∧ bit mj (q + d) = true)) ∧ (q + d = j ∨ (bit (maskOf ms (q + d)) i = false ∧ bit (maskOf ms (q + d)) j = false))
  | [], _, _, _, _, h => by simp at h
  | x :: l, q, h, d, o, ho => by
    have h : ((Nat.beq q i || Nat.beq q j || isPure P x || (bit (maskOf ms i) q && bit mj q)) && (Nat.beq q j || (!(bit (maskOf ms q) i) && !(bit (maskOf ms q) j))) && pairAll P ms i j mj (q + 1) l) = true := h
    rw [Bool.and_eq_true, Bool.and_eq_true] at h
    obtain ⟨⟨h1, h2⟩, h3⟩ := h
    cases d with
    | zero =>
      have hx : x = o := by simpa using ho
      subst hx
      rw [Bool.or_eq_true, Bool.or_eq_true, Bool.or_eq_true, Bool.and_eq_true] at h1
      rw [Bool.or_eq_true, Bool.and_eq_true] at h2
      constructor
      · rcases h1 with ((h1 | h1) | h1) | h1
        · exact .inl (nat_beq h1)
        · exact .inr (.inl (nat_beq h1))
        · exact .inr (.inr (.inl h1))
        · exact .inr (.inr (.inr h1))
      · rcases h2 with h2 | h2
        · exact .inl (nat_beq h2)
        · refine .inr ?_
          have h4 := h2.1
          have h5 := h2.2
          simpa using And.intro h4 h5
    | succ d =>
      have := pair_all l (q + 1) h3 d o (by simpa using ho)
      rw [show q + (d + 1) = q + 1 + d by omega]
      exact this
structure StF (P : Program) (ops : List Oper) (ms msS : List Nat) (pr : Option (Nat × Nat)) (od : List Nat) : Prop where
  cx : Cx ops ms msS pr
  ord : ∀ o1 i o2, od = o1 ++ i :: o2 → (∀ x, bit (maskOf ms i) x = true → x ∈ o1) ∧ (∀ o, ops[i]? = some o → isEff P o = true → ∀ x ∈ o1, bit (maskOf ms i) x = true) ∧ i ∉ o1
  all : ∀ i, i < ops.length → i ∈ od
  pair : ∀ p, pr = some p → ∃ mj, PairF P ops ms mj p
  look : ∀ q o, ops[q]? = some o → ∀ x, bit (maskOf msS q) x = true → bit (maskE ms o.after.toList) x = true
theorem draw_static {ops : List Oper} (h : drawOk P ops = true) : StF P ops (msOf P ops) (msLook ops (msOf P ops) (prOf P ops)) (prOf P ops) (ordOf P ops) := by
  unfold drawOk at h
  rw [Bool.and_eq_true, Bool.and_eq_true, Bool.and_eq_true, Bool.and_eq_true, Bool.and_eq_true, Bool.and_eq_true] at h
  obtain ⟨⟨⟨⟨⟨⟨h1, _⟩, h3⟩, h4⟩, h5⟩, h6⟩, h7⟩ := h
  generalize msOf P ops = ms at *
  generalize prOf P ops = pr at *
  generalize ordOf P ops = ord at *
  have hmask : MaskOk ops ms pr := fun q o ho => by
    have := fix_ok ms pr ops 0 h3 q o ho
    simpa using this
  have hpair : ∀ p, pr = some p → p.1 < p.2 ∧ ∃ o, ops[p.2]? = some o ∧ PairF P ops ms (maskE ms o.after.toList) p := by
    intro p hp
    subst hp
    unfold pairOk at h7
    dsimp only at h7
    rw [lnth_eq] at h7
    cases ho : ops[p.2]? with
    | none => rw [ho] at h7; cases h7
    | some o =>
      rw [ho] at h7
      dsimp only at h7
      rw [Bool.and_eq_true, Bool.and_eq_true, Bool.and_eq_true] at h7
      obtain ⟨⟨⟨g1, g2⟩, g3⟩, g4⟩ := h7
      obtain ⟨o2, t, a, v, e1, e2, e3, e4⟩ := store_ok g2
      rw [ho] at e1
      cases e1
      refine ⟨nat_ble g3, o, rfl, store_ok g1, ⟨o, t, a, v, ho, e2, e3, e4, rfl⟩, fun q x hx => ?_, fun q x hx => ?_⟩
      · have := (pair_all ops 0 g4 q x hx).1
        simpa using this
      · have := (pair_all ops 0 g4 q x hx).2
        simpa using this
  have hlook : ∀ q o, ops[q]? = some o → ∀ x, bit (maskOf (msLook ops ms pr) q) x = true → bit (maskE ms o.after.toList) x = true := by
    intro q o ho x hx
    have hm := hmask q o ho
    unfold msLook at hx
    cases hpe : pr with
    | none =>
      rw [hpe] at hx hm
      dsimp only at hx
      rw [hm, bit_lor] at hx
      have : extraM ms none q = 0 := rfl
      rw [this, bit_zero, Bool.or_false] at hx
      exact hx
    | some p =>
      rw [hpe] at hx hm
      dsimp only at hx
      obtain ⟨_, o2, ho2, _⟩ := hpair p hpe
      rw [lnth_eq, ho2] at hx
      dsimp only at hx
      by_cases e : q = p.2
      · subst e
        rw [ho] at ho2
        cases ho2
        rcases maskOf_set_same (ms := ms) (j := p.2) (v := maskE ms o.after.toList) with e2 | e2
        · rw [e2] at hx; exact hx
        · rw [e2, bit_zero] at hx; cases hx
      · rw [maskOf_set_ne e, hm, bit_lor] at hx
        have hz : extraM ms (some p) q = 0 := by
          show (match Nat.beq q p.2 with | true => _ | false => 0) = 0
          cases hb : Nat.beq q p.2 with
          | true => exact absurd (nat_beq hb) e
          | false => rfl
        rw [hz, bit_zero, Bool.or_false] at hx
        exact hx
  have hsub : ∀ q x, bit (maskOf (msLook ops ms pr) q) x = true → bit (maskOf ms q) x = true := by
    intro q x hx
    unfold msLook at hx
    cases hpe : pr with
    | none => rw [hpe] at hx; exact hx
    | some p =>
      rw [hpe] at hx
      dsimp only at hx
      obtain ⟨_, o2, ho2, _⟩ := hpair p hpe
      rw [lnth_eq, ho2] at hx
      dsimp only at hx
      by_cases e : q = p.2
      · subst e
        rw [hmask _ _ ho2, bit_lor, Bool.or_eq_true]
        rcases maskOf_set_same (ms := ms) (j := p.2) (v := maskE ms o2.after.toList) with e2 | e2
        · rw [e2] at hx; exact .inl hx
        · rw [e2, bit_zero] at hx; cases hx
      · rw [maskOf_set_ne e] at hx
        exact hx
  refine ⟨⟨fun q o ho e he hb => ?_, hmask, fun p hp => (hpair p hp).1, fun i o d ho hd => ?_, hsub⟩, fun o1 i o2 he => ?_, fun i hi => ?_, fun p hp => let ⟨_, o, _, h⟩ := hpair p hp; ⟨_, h⟩, hlook⟩
  · have := edges_ok ops 0 h1 q o ho e he hb
    simpa using this
  · have := slots_ok ops 0 h4 i o d ho hd
    simpa using this
  · have := ord_ok ord 0 [] (fun j => by rw [bit_zero]; simp) h5 o1 i o2 he
    refine ⟨fun x hx => by simpa using this.1 x hx, fun o ho hef x hx => this.2.1 (by simpa using eff_mem (ops := ops) ops 0 i o ho hef) x (by simpa using hx), by simpa using this.2.2⟩
  · have := List.all_eq_true.1 h6 i (List.mem_range.2 (by rw [len_eq]; exact hi))
    exact any_beq.1 this
theorem trF_of {ck : CK} {N : Nat} {ops : List Oper} {ms msS : List Nat} {pr : Option (Nat × Nat)} {ord : List Nat} {tm0 tmf : TM} {hsf : List (Nat × Hp)} {h0 hf : Hp} {T : List Rec} (st : StF P ops ms msS pr ord) (hN : N ≤ 256)
    (t : Tr P ck N ops ms tm0 [(0, h0)] h0 T tmf hsf hf) (hm : T.map (·.i) = ord) : TrF P ck N ops ms tm0 h0 T tmf hsf hf := by
  refine ⟨hN, t, fun A r B hT => ?_, fun i hi => ?_⟩
  · have ho : ord = A.map (·.i) ++ r.i :: B.map (·.i) := by rw [← hm, hT]; simp
    obtain ⟨h1, h2, h3⟩ := st.ord _ _ _ ho
    refine ⟨fun x hx => ?_, fun he r' hr' => ?_, fun r' hr' e => h3 (List.mem_map.2 ⟨r', hr', e⟩)⟩
    · obtain ⟨r', h4, h5⟩ := List.mem_map.1 (h1 x hx)
      exact ⟨r', h4, h5⟩
    · exact h2 r.o (t.recOk r (by rw [hT]; simp)).op he _ (List.mem_map.2 ⟨r', hr', rfl⟩)
  · have := st.all i hi
    rw [← hm] at this
    obtain ⟨r, h1, h2⟩ := List.mem_map.1 this
    exact ⟨r, h1, h2⟩
end Go.Ax
namespace Go.Ax
open Go
variable {P : Program}

/-- All that is wanted ahead of one whose own wishes were run. -/
theorem StF.closed {ops : List Oper} {ms msS : List Nat} {pr : Option (Nat × Nat)} {ord : List Nat} (st : StF P ops ms msS pr ord) {E : Nat → Prop} (hC : Closed ops E) {q : Nat} {o : Oper} (ho : ops[q]? = some o)
    (hr : ∀ e ∈ o.after.toList, Region.binds .any e = true → E e.on) : ∀ x, bit (maskE ms o.after.toList) x = true → E x := by
  have hfar : ∀ (q : Nat) (o : Oper), ops[q]? = some o → ∀ e ∈ o.after.toList, Region.binds .any e = true → ∀ p, pr = some p → e.on ≠ p.2 := by
    intro q o ho e he hb p hp hx
    obtain ⟨mj, pf⟩ := st.pair p hp
    have hon : bit (maskE ms o.after.toList) e.on = true := by
      have : ∀ es : List Edge, e ∈ es → bit (maskE ms es) e.on = true := by
        intro es
        induction es with
        | nil => intro h; cases h
        | cons y es ih =>
          intro h
          have e1 : maskE ms (y :: es) = (match Region.binds .any y with | true => Nat.lor (Nat.lor (Nat.shiftLeft 1 y.on) (maskOf ms y.on)) (maskE ms es) | false => maskE ms es) := rfl
          rw [e1]
          rcases List.mem_cons.1 h with h | h
          · subst h
            rw [hb]
            dsimp only
            rw [bit_lor, bit_lor, bit_shl]
            simp
          · cases Region.binds .any y with
            | true => dsimp only; rw [bit_lor, ih h]; simp
            | false => exact ih h
      exact this _ he
    rcases pf.apart q o ho with h | ⟨_, h⟩
    · have := st.cx.edges q o ho e he hb
      omega
    · rw [st.cx.mask q o ho, bit_lor, ← hx, hon] at h
      cases h
  let E3 : Nat → Prop := fun x => E x ∧ ∀ p, pr = some p → E p.1 ∨ x ≠ p.2
  have hC3 : Closed ops E3 := fun q o ho hq e he hb => ⟨hC q o ho hq.1 e he hb, fun p hp => .inr (hfar q o ho e he hb p hp)⟩
  have hpr3 : ∀ p, pr = some p → E3 p.2 → E3 p.1 := fun p hp h => by
    have h1 : E p.1 := (h.2 p hp).resolve_right (fun h => h rfl)
    exact ⟨h1, fun p' hp' => .inl (by rw [hp] at hp'; cases hp'; exact h1)⟩
  intro x hx
  obtain ⟨e, h1, h2, h3⟩ := maskE_bit hx
  have hEe := hr e h1 h2
  rcases h3 with rfl | h3
  · exact hEe
  · have hlt := st.cx.edges q o ho e h1 h2
    have hlen : q < ops.length := (List.getElem?_eq_some_iff.1 ho).1
    have ho' : ops[e.on]? = some ops[e.on] := List.getElem?_eq_getElem (by omega)
    have hE3 : E3 e.on := ⟨hEe, fun p hp => .inr (hfar q o ho e h1 h2 p hp)⟩
    exact (mask_closed st.cx.edges st.cx.mask hC3 st.cx.lt hpr3 e.on _ ho' (hC3 _ _ ho' hE3) (fun p hp h => absurd h (hfar q o ho e h1 h2 p hp)) x h3).1
theorem StF.closed_all {ops : List Oper} {ms msS : List Nat} {pr : Option (Nat × Nat)} {ord : List Nat} (st : StF P ops ms msS pr ord) {E : Nat → Prop} (hC : Closed ops E) {q : Nat} {o : Oper} (ho : ops[q]? = some o)
    (hr : ∀ e ∈ o.after.toList, Region.binds .any e = true → E e.on) (hp : ∀ p, pr = some p → q = p.2 → E p.1) : ∀ x, bit (maskOf ms q) x = true → E x := by
  intro x hx
  rw [st.cx.mask q o ho, bit_lor, Bool.or_eq_true] at hx
  rcases hx with hx | hx
  · exact st.closed hC ho hr x hx
  · unfold extraM at hx
    cases hpe : pr with
    | none => rw [hpe] at hx; dsimp only at hx; rw [bit_zero] at hx; cases hx
    | some p =>
      rw [hpe] at hx
      dsimp only at hx
      cases hq : Nat.beq q p.2 with
      | false => rw [hq] at hx; dsimp only at hx; rw [bit_zero] at hx; cases hx
      | true =>
        rw [hq] at hx
        dsimp only at hx
        have hE1 := hp p hpe (nat_beq hq)
        rw [bit_lor, bit_shl, Bool.or_eq_true, decide_eq_true_eq] at hx
        rcases hx with rfl | hx
        · exact hE1
        · obtain ⟨mj, pf⟩ := st.pair p hpe
          obtain ⟨o1, _, _, _, ho1, _⟩ := pf.st1
          have hm := st.cx.mask p.1 o1 ho1
          have hz : extraM ms pr p.1 = 0 := by
            rw [hpe]
            show (match Nat.beq p.1 p.2 with | true => _ | false => 0) = 0
            cases hb : Nat.beq p.1 p.2 with
            | true => have := nat_beq hb; have := st.cx.lt p hpe; omega
            | false => rfl
          rw [hm, hz, bit_lor, bit_zero, Bool.or_false] at hx
          exact st.closed hC ho1 (hC _ _ ho1 hE1) x hx
/-- A store: its block, and what it makes of it, whatever else lies in the heap. -/
theorem store_form {o : Oper} {t : TypeId} {a v : Operand} (ho : o.op = .store t a v) {f : CK → List AV → Hp → RC} (hf : clOf (kOp P o) = .eff f) {ck : CK} {xs : List AV} {h h' : Hp} {r : AV} (he : f ck xs h = .ok r h') :
    ∃ x q u b, xs = [.ptr x q, u] ∧ h' = h.put x b ∧ ∀ h2 : Hp, h2.get x = h.get x → f ck xs h2 = .ok r (h2.put x b) := by
  have hk : ∀ o : Oper, o.op = .store t a v → kOp P o = (match Nat.beq (szOf P t) 0, isAggB P t with
    | true, _ => .bad
    | false, true => .e2 fun x v h => AV.onPtr x RC.bad fun i q => AV.onAgg v RC.bad fun l => @Bool.rec (fun _ => RC) RC.bad (putB i h undef (storeN (h.get i) q (szOf P t) l)) (Nat.beq (len l) (szOf P t))
    | false, false => (match Nat.beq (szOf P t) 1 with
      | true => .e2 fun x v h => AV.onPtr x RC.bad fun i q => AV.ifCell v RC.bad (putB i h undef (store1 (h.get i) q v))
      | false => .bad)) := by
    rintro ⟨dst, op, type, pos, after, guard⟩ ho
    have ho : op = _ := ho
    subst ho
    rfl
  rw [hk o ho] at hf
  cases h0 : Nat.beq (szOf P t) 0 with
  | true => rw [h0] at hf; cases hf
  | false =>
    rw [h0] at hf
    cases hg : isAggB P t with
    | true =>
      rw [hg] at hf
      cases hf
      obtain ⟨p, u, rfl, he⟩ := on2_ok he
      obtain ⟨i, q, rfl, he⟩ := onPtr_ok he
      cases u with
      | agg l =>
        have he : @Bool.rec (fun _ => RC) RC.bad (putB i h undef (storeN (h.get i) q (szOf P t) l)) (Nat.beq (len l) (szOf P t)) = .ok r h' := he
        cases hl : Nat.beq (len l) (szOf P t) with
        | false => rw [hl] at he; cases he
        | true =>
          rw [hl] at he
          obtain ⟨b, hb, rfl, rfl⟩ := putB_ok he
          refine ⟨i, q, _, b, rfl, rfl, fun h2 hh => ?_⟩
          show @Bool.rec (fun _ => RC) RC.bad (putB i h2 undef (storeN (h2.get i) q (szOf P t) l)) (Nat.beq (len l) (szOf P t)) = _
          rw [hl, hh, hb]
          rfl
      | _ => cases he
    | false =>
      rw [hg] at hf
      cases h1 : Nat.beq (szOf P t) 1 with
      | false => rw [h1] at hf; cases hf
      | true =>
        rw [h1] at hf
        cases hf
        obtain ⟨p, u, rfl, he⟩ := on2_ok he
        obtain ⟨i, q, rfl, he⟩ := onPtr_ok he
        have hc : putB i h undef (store1 (h.get i) q u) = .ok r h' := by cases u <;> first | exact he | cases he
        have hcell : ∀ (h2 : Hp), AV.ifCell u RC.bad (putB i h2 undef (store1 (h2.get i) q u)) = putB i h2 undef (store1 (h2.get i) q u) := by cases u <;> first | exact fun _ => rfl | cases he
        obtain ⟨b, hb, rfl, rfl⟩ := putB_ok hc
        refine ⟨i, q, u, b, rfl, rfl, fun h2 hh => ?_⟩
        show AV.ifCell u RC.bad (putB i h2 undef (store1 (h2.get i) q u)) = _
        rw [hcell, hh, hb]
        rfl
theorem Step.congr {φ0 φ : Phi} {h0 h h' : Hp} {w0 w : World} (s : Step φ0 h0 w0 φ h w) (hg : ∀ i, h'.get i = h.get i) (hn : h'.nx = h.nx) : Step φ0 h0 w0 φ h' w := by
  have he : (fun i => h'.get i) = (fun i => h.get i) := funext hg
  have he : h'.get = h.get := he
  refine ⟨s.le, ⟨?_, fun i p hp => by rw [hn]; exact s.rel.fresh i p hp⟩, s.keep, fun b hb => ?_, by rw [hn]; exact s.nx, s.names, fun i hi hl => by rw [hg] at hl; exact s.live i hi hl⟩
  · have := s.rel.f
    exact he ▸ this
  · have hb : Own φ h'.get b := hb
    rw [he] at hb
    exact s.own b hb
section
variable {ck : CK} {N : Nat} {ops : List Oper} {ms msS : List Nat} {pr : Option (Nat × Nat)} {ord : List Nat} {tm0 tmf tm tm1 : TM} {hsf hs hs1 : List (Nat × Hp)} {h0 hf h h1 : Hp} {T L : List Rec} {φ0 : Phi} {w0 w00 : World} {E E' : Nat → Prop} {a : Act} {w : World}
/-- A trace of what neither acts nor lays a block. -/
theorem Tr.still (t : Tr P ck N ops ms tm hs h L tm1 hs1 h1) (hp : ∀ r ∈ L, isEff P r.o = false ∧ ¬ IsNew P r) : h1 = h := by
  induction t with
  | nil => rfl
  | cons x L _ _ _ g1 _ ih =>
    have := hp x (List.mem_cons_self ..)
    rw [ih fun r hr => hp r (List.mem_cons_of_mem _ hr), g1.still this.2 this.1]
theorem isPure_class {o : Oper} (h : isPure P o = true) : isEff P o = false ∧ (clOf (kOp P o) = .no ∨ ∃ f, clOf (kOp P o) = .pure f) := by
  unfold isPure at h
  unfold isEff
  cases hk : kOp P o with
  | bad => exact ⟨rfl, .inl rfl⟩
  | mv => exact ⟨rfl, .inr ⟨_, rfl⟩⟩
  | p1 f => exact ⟨rfl, .inr ⟨_, rfl⟩⟩
  | p2 f => exact ⟨rfl, .inr ⟨_, rfl⟩⟩
  | pL f => exact ⟨rfl, .inr ⟨_, rfl⟩⟩
  | _ => rw [hk] at h; cases h
theorem isPure_calm {r : Rec} (h : isPure P r.o = true) : isEff P r.o = false ∧ ¬ IsNew P r := by
  obtain ⟨h1, h2⟩ := isPure_class h
  refine ⟨h1, fun ⟨_, f, hf⟩ => ?_⟩
  rcases h2 with h2 | ⟨g, h2⟩ <;> rw [hf] at h2 <;> cases h2
/-- The second store was run ahead of the first. -/
structure LateS (P : Program) (ck : CK) (N : Nat) (ops : List Oper) (ms : List Nat) (pr : Option (Nat × Nat)) (tm0 : TM) (h0 : Hp) (T : List Rec) (φ0 : Phi) (w0 w00 : World) (E : Nat → Prop) (a : Act) (w : World)
    (A B : List Rec) (ri rj : Rec) (φ : Phi) (hL : Hp) : Prop where
  split : T = (A ++ [rj]) ++ B
  pair : pr = some (ri.i, rj.i)
  inA : ri ∈ A
  first : ¬ E ri.i
  second : E rj.i
  rest : ∀ x ∈ T, ¬ E x.i → x = ri ∨ isPure P x.o = true
  pures : ∀ x ∈ B, isPure P x.o = true
  step : Step φ0 h0 w0 φ hL w
  slots : ∀ t, t < N → SlotI T tm0 h0 φ E a.tmps t
  size : a.tmps.size = N
  marks : Marks w00 w a.defers
  eff : isEff P rj.o = true
  nxi : ri.h'.nx = rj.h'.nx
  fin : ∃ f h3, clOf (kOp P ri.o) = .eff f ∧ f ck (xsAt N ri.o ri.tm) hL = .ok ri.v h3 ∧ (∀ id, h3.get id = rj.h'.get id) ∧ h3.nx = rj.h'.nx
def Late (P : Program) (ck : CK) (N : Nat) (ops : List Oper) (ms : List Nat) (pr : Option (Nat × Nat)) (tm0 : TM) (h0 : Hp) (T : List Rec) (φ0 : Phi) (w0 w00 : World) (E : Nat → Prop) (a : Act) (w : World) : Prop :=
  ∃ A B ri rj φ hL, LateS P ck N ops ms pr tm0 h0 T φ0 w0 w00 E a w A B ri rj φ hL
theorem guard_none {o : Oper} {tm : TM} (hg : o.guard = none) : gWant N ops o tm = some true := by unfold gWant; rw [hg]
theorem wanted_none {o : Oper} {y : Nat → Option Bool} (hg : o.guard = none) : Region.wanted o y = true := by unfold Region.wanted; rw [hg]
/-- The second store, ahead of the first. -/
theorem late_in {ro : Option Nat} {n : Nat} {arr : Array Oper} {K : Act → World → Prop} {Q : Exit → Act → World → Prop} (hck : CKOk P ck) (st : StF P arr.toList ms msS pr ord) (tf : TrF P ck N arr.toList ms tm0 h0 T tmf hsf hf)
    {A B : List Rec} {tmA : TM} {hsA : List (Nat × Hp)} {hA : Hp} {φ : Phi} (iv : InvS P ck N arr.toList ms tm0 h0 T tmf hsf hf φ0 w0 w00 E a w A B tmA hsA hA φ) {p : Nat × Nat} (hp : pr = some p) (hne : ¬ E p.2) (hn1 : ¬ E p.1) (hC : Closed arr.toList E)
    (hr : ∀ o, arr.toList[p.2]? = some o → ∀ e ∈ o.after.toList, Region.binds .any e = true → E e.on)
    (hap : ∀ ri ∈ T, ∀ rj ∈ T, ri.i = p.1 → rj.i = p.2 → ∀ x q u y s v, xsAt N ri.o ri.tm = [.ptr x q, u] → xsAt N rj.o rj.tm = [.ptr y s, v] → x ≠ y)
    (hE : ∀ x, E' x ↔ E x ∨ x = p.2) (hK : ∀ a w, Late P ck N arr.toList ms pr tm0 h0 T φ0 w0 w00 E' a w → K a w) : wpOpIn (FW ro) n P arr Q p.2 K a w := by
  obtain ⟨mj, pf⟩ := st.pair p hp
  obtain ⟨o1, t1, a1, v1, ho1, hs1, hd1, hg1⟩ := pf.st1
  obtain ⟨o2, t2, a2, v2, ho2, hs2, hd2, hg2, hmj⟩ := pf.st2
  have len1 : p.1 < arr.toList.length := (List.getElem?_eq_some_iff.1 ho1).1
  have len2 : p.2 < arr.toList.length := (List.getElem?_eq_some_iff.1 ho2).1
  obtain ⟨ri, hriT, hri⟩ := tf.all p.1 len1
  obtain ⟨rj, hrjT, hrj⟩ := tf.all p.2 len2
  have inB : ∀ x ∈ T, ¬ E x.i → x ∈ B := fun x hx hx2 => by
    rw [iv.split] at hx
    exact (List.mem_append.1 hx).resolve_left fun h => hx2 (iv.inA x h)
  have hmjE : ∀ x, bit mj x = true → E x := fun x hx => by
    rw [hmj] at hx
    exact st.closed hC ho2 (hr o2 ho2) x hx
  have hoi : ri.o = o1 := by
    have := (tf.tr.recOk ri hriT).op
    rw [hri, ho1] at this
    cases this
    rfl
  have hoj : rj.o = o2 := by
    have := (tf.tr.recOk rj hrjT).op
    rw [hrj, ho2] at this
    cases this
    rfl
  have hrjB := inB rj hrjT (by rw [hrj]; exact hne)
  obtain ⟨C, B3, hBj⟩ := List.append_of_mem hrjB
  have hTj : T = (A ++ C) ++ rj :: B3 := by rw [iv.split, hBj]; simp
  -- the first store stands ahead of the second in the trace
  have hriC : ri ∈ C := by
    have hbit : bit (maskOf ms rj.i) ri.i = true := by
      rw [hrj, hri, st.cx.mask p.2 o2 ho2, bit_lor, hp]
      have : extraM ms (some p) p.2 = Nat.lor (Nat.shiftLeft 1 p.1) (maskOf ms p.1) := by
        show (match Nat.beq p.2 p.2 with | true => _ | false => 0) = _
        rw [Nat.beq_refl]
      rw [this, bit_lor, bit_shl]
      simp
    obtain ⟨r', h1, h2⟩ := (tf.before _ rj B3 hTj).1 _ hbit
    have := tf.uniq (by rw [hTj]; exact List.mem_append_left _ h1) hriT h2
    subst this
    rcases List.mem_append.1 h1 with h1 | h1
    · exact absurd (iv.inA _ h1) (by rw [hri]; exact hn1)
    · exact h1
  obtain ⟨B1, B2, hCi⟩ := List.append_of_mem hriC
  have hTi : T = (A ++ B1) ++ ri :: (B2 ++ rj :: B3) := by rw [hTj, hCi]; simp
  have hB : B = B1 ++ ri :: (B2 ++ rj :: B3) := by rw [hBj, hCi]; simp
  have class_ : ∀ x ∈ T, x = ri ∨ x = rj ∨ isPure P x.o = true ∨ (bit (maskOf ms ri.i) x.i = true ∧ E x.i) := fun x hx => by
    rcases pf.other x.i x.o (tf.tr.recOk x hx).op with h | h | h | ⟨h, h'⟩
    · exact .inl (tf.uniq hx hriT (by rw [h, hri]))
    · exact .inr (.inl (tf.uniq hx hrjT (by rw [h, hrj])))
    · exact .inr (.inr (.inl h))
    · exact .inr (.inr (.inr ⟨by rw [hri]; exact h, hmjE _ h'⟩))
  have pure23 : ∀ x, x ∈ B2 ∨ x ∈ B3 → isPure P x.o = true := by
    intro x hx
    have hxT : x ∈ T := by rw [hTi]; rcases hx with hx | hx <;> simp [hx]
    rcases class_ x hxT with h | h | h | ⟨h, _⟩
    · exfalso
      subst h
      rcases hx with hx | hx
      · obtain ⟨D1, D2, hD⟩ := List.append_of_mem hx
        have hT3 : T = (A ++ B1 ++ x :: D1) ++ x :: (D2 ++ rj :: B3) := by rw [hTi, hD]; simp
        exact (tf.before _ x _ hT3).2.2 x (by simp) rfl
      · obtain ⟨D1, D2, hD⟩ := List.append_of_mem hx
        have hT3 : T = (A ++ B1 ++ x :: (B2 ++ rj :: D1)) ++ x :: D2 := by rw [hTi, hD]; simp
        exact (tf.before _ x _ hT3).2.2 x (by simp) rfl
    · exfalso
      subst h
      rcases hx with hx | hx
      · exact (tf.before _ x B3 hTj).2.2 x (by rw [hCi]; simp [hx]) rfl
      · obtain ⟨D1, D2, hD⟩ := List.append_of_mem hx
        have hT3 : T = (A ++ C ++ x :: D1) ++ x :: D2 := by rw [hTj, hD]; simp
        exact (tf.before _ x _ hT3).2.2 x (by simp) rfl
    · exact h
    · exfalso
      obtain ⟨r', h1, h2⟩ := (tf.before _ ri _ hTi).1 _ h
      have := tf.uniq (by rw [hTi]; exact List.mem_append_left _ h1) hxT h2
      subst this
      have hx' : r' ∈ B2 ++ rj :: B3 := by rcases hx with hx | hx <;> simp [hx]
      obtain ⟨D1, D2, hD⟩ := List.append_of_mem hx'
      have hT3 : T = (A ++ B1 ++ ri :: D1) ++ r' :: D2 := by rw [hTi, hD]; simp
      exact (tf.before _ r' _ hT3).2.2 r' (by rw [List.mem_append]; exact .inl h1) rfl
  have b1 : ∀ x ∈ B1, isEff P x.o = false ∧ (IsNew P x → E x.i) := by
    intro x hx
    have hxT : x ∈ T := by rw [hTi]; simp [hx]
    rcases class_ x hxT with h | h | h | ⟨_, h⟩
    · exfalso
      subst h
      exact (tf.before _ x _ hTi).2.2 x (by simp [hx]) rfl
    · exfalso
      subst h
      exact (tf.before _ x _ hTj).2.2 x (by rw [hCi]; simp [hx]) rfl
    · exact ⟨(isPure_calm h).1, fun hn => absurd hn (isPure_calm h).2⟩
    · exact ⟨iv.calm x (by rw [hB]; simp [hx]) h, fun _ => h⟩
  have tB := iv.tB
  rw [hB] at tB
  obtain ⟨tb1, _, tb2⟩ := tB.at_
  obtain ⟨tb3, hrjo, tb4⟩ := tb2.at_
  have hrio := tf.tr.recOk ri hriT
  have s0 : Step φ0 h0 w0 (cutP φ ri.h.nx.num) ri.h w := tb1.absorb (fun x hx => (b1 x hx).1) (fun x hx hn => iv.news x (by rw [hB]; simp [hx]) ((b1 x hx).2 hn) hn) iv.step
  have hjh : rj.h = ri.h' := tb3.still fun x hx => isPure_calm (pure23 x (.inl hx))
  -- both stores, as the trace had them
  have hgi : ri.o.guard = none := by rw [hoi]; exact hg1
  have hgj : rj.o.guard = none := by rw [hoj]; exact hg2
  have sto : ∀ r : Rec, RecOk P ck N arr.toList ms r → r.o.guard = none → (∃ t a v, r.o.op = .store t a v) → ∃ f, clOf (kOp P r.o) = .eff f ∧ f ck (xsAt N r.o r.tm) r.h = .ok r.v r.h' := by
    intro r hr hg hst
    rcases hr.did with ⟨_, hw, _⟩ | ⟨_, _, hc⟩
    · rw [guard_none hg] at hw; cases hw
    · obtain ⟨t, a, v, hs⟩ := hst
      have hcl : clOf (kOp P r.o) = .no ∨ ∃ f, clOf (kOp P r.o) = .eff f := by
        unfold kOp
        rw [hs]
        dsimp only
        split
        · exact .inl rfl
        · exact .inr ⟨_, rfl⟩
        · split
          · exact .inr ⟨_, rfl⟩
          · exact .inl rfl
      rcases hcl with hcl | ⟨f, hcl⟩
      · rw [hcl] at hc; exact hc.elim
      · rw [hcl] at hc; exact ⟨f, hcl, hc.1⟩
  obtain ⟨fi, hfi, hei⟩ := sto ri hrio hgi ⟨t1, a1, v1, by rw [hoi]; exact hs1⟩
  obtain ⟨fj, hfj, hej⟩ := sto rj hrjo hgj ⟨t2, a2, v2, by rw [hoj]; exact hs2⟩
  obtain ⟨x, qx, ux, bx, hxi, hhi, hform_i⟩ := store_form (by rw [hoi]; exact hs1) hfi hei
  obtain ⟨y, qy, uy, by_, hxj, hhj, hform_j⟩ := store_form (by rw [hoj]; exact hs2) hfj hej
  have hxy : x ≠ y := hap ri hriT rj hrjT hri hrj x qx ux y qy uy hxi hxj
  have hej2 : fj ck (xsAt N rj.o rj.tm) ri.h = .ok rj.v (ri.h.put y by_) := hform_j ri.h (by rw [hjh, hhi, Hp.get_put, if_neg (fun e => hxy e.symm)])
  have hei2 : fi ck (xsAt N ri.o ri.tm) (ri.h.put y by_) = .ok ri.v ((ri.h.put y by_).put x bx) := hform_i _ (by rw [Hp.get_put, if_neg hxy])
  have hjnx : rj.h.nx.num = ri.h.nx.num := by rw [hjh, hhi, Hp.put_nx]
  -- the operands of the second store
  have hnej : ¬ E rj.i := by rw [hrj]; exact hne
  have hcl : ∀ x ∈ T, E x.i → x.o.dst ≠ none → ∀ y, bit (maskOf msS x.i) y = true → E y := fun x hx hEx _ y hy => by
    have hop := (tf.tr.recOk x hx).op
    exact st.closed hC hop (hC _ _ hop hEx) y (st.look _ _ hop y hy)
  have hrd : ∀ y, bit (maskOf msS rj.i) y = true → E y := fun y hy => by
    have hop := hrjo.op
    rw [hrj] at hop hy
    exact st.closed hC hop (hr _ hop) y (st.look _ _ hop y hy)
  have hlook : ∀ t, t ∈ looks arr.toList rj.o → V (cutP φ rj.h.nx.num) ((cOpd N (.tmp t)).get rj.tm) (a.tmps.getD t Go.undef) := fun t ht => look_ok st.cx tf hTj hnej hcl hrd iv.slots iv.size ht
  rw [hjnx] at hlook
  obtain ⟨hop1, _⟩ := okOper_parts hrjo.ok
  have hxs : VL (cutP φ ri.h.nx.num) (xsAt N rj.o rj.tm) ((opsOf rj.o.op).map a.eval) := opds_look s0.rel.f.glob hop1 fun t ht => hlook t (mem_looks_op ht)
  have hok := kOp_ok (P := P) rj.o
  rw [hfj] at hok
  have hopj : arr[p.2]? = some rj.o := by rw [← Array.getElem?_toList, hoj]; exact ho2
  unfold wpOpIn
  rw [hopj]
  dsimp only
  rw [wanted_none hgj]
  simp only [if_true]
  refine hok ck hck ro n _ ri.h w a _ _ _ s0.rel hej2 hxs K Q fun φ1 w' u h3 h4 => hK _ _ ?_
  have hφ : cutP φ ri.h.nx.num = φ := by
    funext i
    unfold cutP
    split
    · rfl
    · rename_i hi
      cases hpi : φ i with
      | none => rfl
      | some q =>
        rcases iv.names i q hpi with h | ⟨x, g1, g2, g3, g4⟩
        · have := tb1.nx_le.1; omega
        · have hx := (tf.tr.recOk x (by rw [iv.split]; exact List.mem_append_right _ g1)).new_nx g3
          rw [hB] at g1
          rcases List.mem_append.1 g1 with g1 | g1
          · have := (tb1.nx_le.2 x g1).2
            rw [g4] at hi
            omega
          · rcases List.mem_cons.1 g1 with g1 | g1
            · subst g1; exact absurd (hri ▸ g2) hn1
            · rcases List.mem_append.1 g1 with g1 | g1
              · exact absurd g3 (isPure_calm (pure23 x (.inl g1))).2
              · rcases List.mem_cons.1 g1 with g1 | g1
                · subst g1; exact absurd g2 hnej
                · exact absurd g3 (isPure_calm (pure23 x (.inr g1))).2
  have hle : φ.le φ1 := by have := h4.le; rw [hφ] at this; exact this
  have hE2 : ∀ z, E' z ↔ E z ∨ z = rj.i := by rw [hrj]; exact hE
  have hcut1 : cutP φ1 rj.h'.nx.num = φ1 := by
    have : rj.h'.nx = (ri.h.put y by_).nx := by rw [hhj, Hp.put_nx, Hp.put_nx, hjh, hhi, Hp.put_nx]
    rw [this]
    exact h4.rel.cut
  refine ⟨A ++ C, B3, ri, rj, φ1, _, ⟨by rw [hTj]; simp, by rw [hp, hri, hrj], by rw [hCi]; simp, fun h => ?_, (hE2 _).2 (.inr rfl), fun z hz hEz => ?_, fun z hz => pure23 z (.inr hz), s0.trans h4,
    fun t ht => (iv.slots t ht).step tf hrjT hle hE2 iv.size (by rw [hcut1]; exact h3) ht, by rw [put_size]; exact iv.size, by rw [Act.put_defers']; exact iv.marks.step s0.rel.f h4, by rw [isEff_eq]; exact clsOf_eff.2 ⟨fj, hfj⟩, by rw [hhj, Hp.put_nx, hjh], fi, _, hfi, hei2, fun id => ?_, ?_⟩⟩
  · rcases (hE2 _).1 h with h | h
    · exact hn1 (hri ▸ h)
    · have := st.cx.lt p hp; omega
  · rcases class_ z hz with h | h | h | ⟨_, h⟩
    · exact .inl h
    · subst h; exact absurd ((hE2 _).2 (.inr rfl)) hEz
    · exact .inr h
    · exact absurd ((hE2 _).2 (.inl h)) hEz
  · rw [hhj, hjh, hhi]
    simp only [Hp.get_put]
    by_cases e1 : id = x
    · subst e1
      rw [if_pos rfl, if_neg hxy, if_pos rfl]
    · rw [if_neg e1, if_neg e1]
  · rw [hhj, hjh, hhi]
    simp only [Hp.put_nx]
end
end Go.Ax
namespace Go.Ax
open Go
variable {P : Program}
section
variable {ck : CK} {N : Nat} {ms msS : List Nat} {pr : Option (Nat × Nat)} {ord : List Nat} {tm0 tmf : TM} {hsf : List (Nat × Hp)} {h0 hf : Hp} {T : List Rec} {φ0 : Phi} {w0 w00 : World} {E E' : Nat → Prop} {a : Act} {w : World}
theorem Closed.more {ops : List Oper} {i : Nat} (hC : Closed ops E) (hr : ∀ o, ops[i]? = some o → ∀ e ∈ o.after.toList, Region.binds .any e = true → E e.on) (hE : ∀ x, E' x ↔ E x ∨ x = i) : Closed ops E' := by
  intro q o ho hq e he hb
  rcases (hE q).1 hq with h | h
  · exact (hE _).2 (.inl (hC q o ho h e he hb))
  · subst h
    exact (hE _).2 (.inl (hr o ho e he hb))
/-- An operation where the second store was run ahead of the first. -/
theorem late_step {ro : Option Nat} {n : Nat} {arr : Array Oper} {K : Act → World → Prop} {Q : Exit → Act → World → Prop} (hck : CKOk P ck) (st : StF P arr.toList ms msS pr ord) (tf : TrF P ck N arr.toList ms tm0 h0 T tmf hsf hf) (r0 : Rel φ0 h0 w0)
    {A B : List Rec} {ri rj : Rec} {φ : Phi} {hL : Hp} (lt : LateS P ck N arr.toList ms pr tm0 h0 T φ0 w0 w00 E a w A B ri rj φ hL) {i : Nat} (hi : i < arr.toList.length) (hne : ¬ E i) (hC : Closed arr.toList E)
    (hr : ∀ o, arr.toList[i]? = some o → ∀ e ∈ o.after.toList, Region.binds .any e = true → E e.on) (hE : ∀ x, E' x ↔ E x ∨ x = i)
    (hK1 : ∀ a w, Late P ck N arr.toList ms pr tm0 h0 T φ0 w0 w00 E' a w → K a w) (hK2 : ∀ a w, i = ri.i → Mid P ck N arr.toList ms tm0 h0 T tmf hsf hf φ0 w0 w00 E' a w → K a w) : wpOpIn (FW ro) n P arr Q i K a w := by
  obtain ⟨r, hrT, rfl⟩ := tf.all i hi
  obtain ⟨C, D, hT⟩ := List.append_of_mem hrT
  have hrok := tf.tr.recOk r hrT
  have hcl : ∀ x ∈ T, E x.i → x.o.dst ≠ none → ∀ y, bit (maskOf msS x.i) y = true → E y := fun x hx hEx _ y hy => by
    have hop := (tf.tr.recOk x hx).op
    exact st.closed hC hop (hC _ _ hop hEx) y (st.look _ _ hop y hy)
  have hrd : ∀ y, bit (maskOf msS r.i) y = true → E y := fun y hy => st.closed hC hrok.op (hr _ hrok.op) y (st.look _ _ hrok.op y hy)
  have hlook : ∀ t, t ∈ looks arr.toList r.o → V (cutP φ r.h.nx.num) ((cOpd N (.tmp t)).get r.tm) (a.tmps.getD t Go.undef) := fun t ht => look_ok st.cx tf hT hne hcl hrd lt.slots lt.size ht
  have hg : GRel (cutP φ r.h.nx.num) := fun g hg => by
    have h1 := r0.f.glob g hg
    have h2 := (r0.fresh _ _ h1).2
    have h3 := (tf.tr.nx_le.2 r hrT).1
    exact cutP_some.2 ⟨by omega, lt.step.le _ _ h1⟩
  obtain ⟨ho1, _⟩ := okOper_parts hrok.ok
  have hxs : VL (cutP φ r.h.nx.num) (xsAt N r.o r.tm) ((opsOf r.o.op).map a.eval) := opds_look hg ho1 fun t ht => hlook t (mem_looks_op ht)
  have hwant : ∀ b, gWant N arr.toList r.o r.tm = some b → Region.wanted r.o (yielded arr a.tmps) = b := fun b h => wanted_ok (fun g t h1 h2 => hlook t (mem_looks_guard h1 h2)) h
  have hop : arr[r.i]? = some r.o := by rw [← Array.getElem?_toList]; exact hrok.op
  have hok := kOp_ok (P := P) r.o
  unfold wpOpIn
  rw [hop]
  dsimp only
  have hriT : ri ∈ T := by rw [lt.split]; simp [lt.inA]
  by_cases hri : r = ri
  · subst hri
    obtain ⟨f, h3, hf1, hf2, hf3, hf4⟩ := lt.fin
    obtain ⟨mj, pf⟩ := st.pair _ lt.pair
    obtain ⟨o1, t1, a1, v1, q1, q2, q3, q4⟩ := pf.st1
    have hoo : r.o = o1 := by have := hrok.op; rw [q1] at this; cases this; rfl
    rw [wanted_none (by rw [hoo]; exact q4)]
    simp only [if_true]
    rw [hf1] at hok
    refine hok ck hck ro n φ hL w a _ _ _ lt.step.rel hf2 (VL.mono (cutP_le φ _) _ _ hxs) K Q fun φ2 w' u h5 h6 => hK2 _ _ rfl ?_
    have hcut : cutP φ2 rj.h'.nx.num = φ2 := by rw [← hf4]; exact h6.rel.cut
    have hle : φ.le φ2 := h6.le
    have hC' := hC.more hr hE
    have hTr := tf.tr
    rw [lt.split, List.append_assoc] at hTr
    have hTr : Tr P ck N arr.toList ms tm0 [(0, h0)] h0 (A ++ rj :: B) tmf hsf hf := hTr
    obtain ⟨u1, u2, u3⟩ := hTr.at_
    have hTj : T = A ++ rj :: B := by rw [lt.split]; simp
    have hrjT : rj ∈ T := by rw [hTj]; simp
    refine ⟨A ++ [rj], B, rj.tm', rj.hs' P, rj.h', φ2, ⟨u1.join (.cons rj [] _ _ _ u2 (.nil ..)), u3, lt.split, ⟨rj.i, rj.hs, by unfold Rec.hs'; rw [lt.eff]; rfl⟩, fun x hx => ?_, fun x hx _ => (isPure_calm (lt.pures x hx)).1,
      by rw [hcut]; exact (lt.step.trans h6).congr (fun i => (hf3 i).symm) hf4.symm, fun id q hq => .inl ?_, fun x hx _ hn => absurd hn (isPure_calm (lt.pures x hx)).2, fun t ht => (lt.slots t ht).step tf hrT hle hE lt.size (by rw [lt.nxi, hcut]; exact h5) ht,
      by rw [put_size]; exact lt.size, by rw [Act.put_defers']; exact lt.marks.step lt.step.rel.f h6⟩⟩
    · rcases List.mem_append.1 hx with hx | hx
      · have hbit := (tf.before A rj B hTj).2.1 lt.eff x hx
        have hjop := (tf.tr.recOk rj hrjT).op
        exact st.closed_all hC' hjop (hC' _ _ hjop ((hE _).2 (.inl lt.second))) (fun p hp _ => by rw [lt.pair] at hp; cases hp; exact (hE _).2 (.inr rfl)) x.i hbit
      · rw [List.mem_singleton.1 hx]
        exact (hE _).2 (.inl lt.second)
    · rw [← hf4]; exact (h6.rel.fresh id q hq).2
  · have hpure := (lt.rest r hrT hne).resolve_left hri
    obtain ⟨_, hcls⟩ := isPure_class hpure
    have late' : ∀ v u, r.v = v → V (cutP φ r.h'.nx.num) v u → Late P ck N arr.toList ms pr tm0 h0 T φ0 w0 w00 E' (a.put r.o.dst u) w := fun v u hv h5 => by
      subst hv
      exact ⟨A, B, ri, rj, φ, hL, ⟨lt.split, lt.pair, lt.inA, fun h => ((hE _).1 h).elim lt.first fun h => hri (tf.uniq hrT hriT h.symm), (hE _).2 (.inl lt.second), fun x hx hEx => lt.rest x hx fun h => hEx ((hE _).2 (.inl h)), lt.pures, lt.step,
        fun t ht => (lt.slots t ht).step tf hrT (Phi.le_refl φ) hE lt.size h5 ht, by rw [put_size]; exact lt.size, by rw [Act.put_defers']; exact lt.marks, lt.eff, lt.nxi, lt.fin⟩⟩
    rcases hrok.did with ⟨hran, hw, hv, hh⟩ | ⟨hran, hw, hc⟩
    · rw [hwant _ hw]
      simp only [Bool.false_eq_true, if_false]
      exact ⟨fun _ _ => trivial, hK1 _ _ (late' _ _ hv V.undef)⟩
    · rw [hwant _ hw]
      simp only [if_true]
      rcases hcls with hcls | ⟨f, hcls⟩
      · rw [hcls] at hc; exact hc.elim
      · have hdf := kOp_defer (P := P) r.o (by rw [hcls]; intro e; cases e)
        rw [hcls] at hc hok
        obtain ⟨u, h3, h4⟩ := hok _ w a.eval _ _ hc.1 hxs
        refine ⟨fun _ _ => trivial, ?_⟩
        rw [Oper.semAt_eq _ _ _ hdf, h4]
        exact hK1 _ _ (late' _ _ rfl (by rw [hc.2]; exact h3))
/-- All were run. -/
theorem mid_final {ops : List Oper} {φ00 : Phi} {h00 : Hp} (cx : Cx ops ms msS pr) (tf : TrF P ck N ops ms tm0 h0 T tmf hsf hf) (hs0 : Step φ00 h00 w00 φ0 h0 w0) (hm : Mid P ck N ops ms tm0 h0 T tmf hsf hf φ0 w0 w00 E a w) (hall : ∀ r ∈ T, E r.i) : At N φ00 h00 w00 tmf hf a w := by
  obtain ⟨A, B, tmA, hsA, hA, φ, iv⟩ := hm
  have hBT : ∀ x ∈ B, x ∈ T := fun x hx => by rw [iv.split]; exact List.mem_append_right _ hx
  have s1 : Step φ0 h0 w0 (cutP φ hf.nx.num) hf w := iv.tB.absorb (fun x hx => iv.calm x hx (hall x (hBT x hx))) (fun x hx hn => iv.news x hx (hall x (hBT x hx)) hn) iv.step
  refine ⟨_, ⟨iv.size, tf.le, fun t ht => ?_⟩, hs0.trans s1, iv.marks⟩
  rcases iv.slots t ht with ⟨x, h1, _, h3, h4⟩ | ⟨h1, h2⟩
  · rcases tf.tr.slot tf.le ht with ⟨y, h5, h6, h7⟩ | ⟨h5, _⟩
    · have : y = x := by
        refine tf.uniq h5 h1 ?_
        rcases (cx.slot x.i x.o t (tf.tr.recOk x h1).op h3).2 y.i y.o (tf.tr.recOk y h5).op with h8 | ⟨h8, _⟩
        · exact h8
        · exact absurd h6 h8
      subst this
      rw [h7]
      exact V.mono (cutP_up φ (tf.tr.nx_le.2 y h5).2) _ _ h4
    · exact absurd h3 (h5 x h1)
  · rcases tf.tr.slot tf.le ht with ⟨y, h5, h6, h7⟩ | ⟨_, h6⟩
    · exact absurd h6 (h1 y h5 (hall y h5))
    · rw [h6]
      exact V.mono (cutP_up φ tf.tr.nx_le.1) _ _ h2

/-! ### all orders -/
def inE (listed : Array Bool) (i : Nat) : Prop := listed.getD i false = true
theorem inE_set {listed : Array Bool} {i : Nat} (hi : i < listed.size) (x : Nat) : inE (listed.setIfInBounds i true) x ↔ inE listed x ∨ x = i := by
  unfold inE
  rw [Array.getD_eq_getD_getElem?, Array.getD_eq_getD_getElem?]
  by_cases h : x = i
  · subst h
    rw [Array.getElem?_setIfInBounds_self_of_lt hi]
    simp
  · rw [Array.getElem?_setIfInBounds_ne (fun e => h e.symm)]
    simp [h]
theorem ready_mem {arr : Array Oper} {listed : Array Bool} {i : Nat} (hs : listed.size = arr.size) : i ∈ Region.ready .any arr listed ↔ i < arr.size ∧ ¬ inE listed i ∧ ∀ o, arr[i]? = some o → ∀ e ∈ o.after.toList, Region.binds .any e = true → inE listed e.on := by
  unfold Region.ready inE
  rw [List.mem_filter, List.mem_range, Bool.and_eq_true]
  constructor
  · rintro ⟨h1, h2, h3⟩
    refine ⟨h1, ?_, fun o ho e he hb => ?_⟩
    · rw [Array.getD_eq_getD_getElem?] at h2 ⊢
      rw [Array.getElem?_eq_getElem (by omega)] at h2 ⊢
      simpa using h2
    · rw [ho] at h3
      have h3 : (o.after.all fun e => !Region.binds .any e || listed.getD e.on false) = true := h3
      rw [← Array.all_toList] at h3
      have := List.all_eq_true.1 h3 e he
      rw [hb] at this
      simpa using this
  · rintro ⟨h1, h2, h3⟩
    refine ⟨h1, ?_, ?_⟩
    · rw [Array.getD_eq_getD_getElem?] at h2 ⊢
      rw [Array.getElem?_eq_getElem (by omega)] at h2 ⊢
      simpa using h2
    · have ho : arr[i]? = some arr[i] := Array.getElem?_eq_getElem h1
      rw [ho]
      show (arr[i].after.all fun e => !Region.binds .any e || listed.getD e.on false) = true
      rw [← Array.all_toList, List.all_eq_true]
      intro e he
      cases hb : Region.binds .any e with
      | false => rfl
      | true => have := h3 _ ho e he hb; simpa [hb] using this
theorem ready_nil {arr : Array Oper} {listed : Array Bool} (hs : listed.size = arr.size) (hE : EdgesOk arr.toList) (h : Region.ready .any arr listed = []) : ∀ i, i < arr.size → inE listed i := by
  intro i
  induction i using Nat.strongRecOn with
  | _ i ih =>
    intro hi
    by_cases hx : inE listed i
    · exact hx
    · have : i ∈ Region.ready .any arr listed := (ready_mem hs).2 ⟨hi, hx, fun o ho e he hb => by
        have hlt := hE i o (by rw [Array.getElem?_toList]; exact ho) e he hb
        exact ih e.on hlt (by omega)⟩
      rw [h] at this
      cases this
theorem any_ok {ro : Option Nat} {n : Nat} {arr : Array Oper} {Q : Exit → Act → World → Prop} {φ00 : Phi} {h00 : Hp} (hck : CKOk P ck) (st : StF P arr.toList ms msS pr ord) (tf : TrF P ck N arr.toList ms tm0 h0 T tmf hsf hf) (r0 : Rel φ0 h0 w0) (hs0 : Step φ00 h00 w00 φ0 h0 w0)
    (hap : ∀ p, pr = some p → ∀ ri ∈ T, ∀ rj ∈ T, ri.i = p.1 → rj.i = p.2 → ∀ x q u y s v, xsAt N ri.o ri.tm = [.ptr x q, u] → xsAt N rj.o rj.tm = [.ptr y s, v] → x ≠ y)
    (hQ : ∀ a w, At N φ00 h00 w00 tmf hf a w → Q .normal a w) : ∀ (fuel : Nat) (listed : Array Bool) (a : Act) (w : World), listed.size = arr.size → listed.toList.count false ≤ fuel → Closed arr.toList (inE listed) →
      ((Mid P ck N arr.toList ms tm0 h0 T tmf hsf hf φ0 w0 w00 (inE listed) a w ∧ ∀ p, pr = some p → inE listed p.2 → inE listed p.1) ∨ Late P ck N arr.toList ms pr tm0 h0 T φ0 w0 w00 (inE listed) a w) →
      wpAnyIn (FW ro) n P .any arr Q fuel listed a w := by
  have done : ∀ (listed : Array Bool) (a : Act) (w : World), (∀ i, i < arr.size → inE listed i) →
      ((Mid P ck N arr.toList ms tm0 h0 T tmf hsf hf φ0 w0 w00 (inE listed) a w ∧ ∀ p, pr = some p → inE listed p.2 → inE listed p.1) ∨ Late P ck N arr.toList ms pr tm0 h0 T φ0 w0 w00 (inE listed) a w) → Q .normal a w := by
    intro listed a w hall h
    have hT : ∀ r ∈ T, inE listed r.i := fun r hr => by
      have := (List.getElem?_eq_some_iff.1 (tf.tr.recOk r hr).op).1
      exact hall _ (by simpa using this)
    rcases h with ⟨h, _⟩ | ⟨A, B, ri, rj, φ, hL, lt⟩
    · exact hQ a w (mid_final st.cx tf hs0 h hT)
    · exact absurd (hT ri (by rw [lt.split]; simp [lt.inA])) lt.first
  intro fuel
  induction fuel with
  | zero =>
    intro listed a w hs hc hC h
    have hall : ∀ i, i < arr.size → inE listed i := fun i hi => by
      have h0 : listed.toList.count false = 0 := by omega
      have h1 := List.count_eq_zero.1 h0
      unfold inE
      rw [Array.getD_eq_getD_getElem?, Array.getElem?_eq_getElem (by omega)]
      cases hb : listed[i]'(by omega) with
      | true => rfl
      | false => exact absurd (hb ▸ Array.getElem_mem_toList (by omega)) h1
    refine ⟨?_, done listed a w hall h⟩
    cases hrd : Region.ready .any arr listed with
    | nil => rfl
    | cons x xs =>
      have := (ready_mem hs).1 (by rw [hrd]; exact List.mem_cons_self ..)
      exact absurd (hall x this.1) this.2.1
  | succ fuel ih =>
    intro listed a w hs hc hC h
    refine ⟨fun hn => done listed a w (ready_nil hs st.cx.edges hn) h, fun i hi => ?_⟩
    obtain ⟨h1, h2, h3⟩ := (ready_mem hs).1 hi
    have hE := inE_set (listed := listed) (i := i) (by omega)
    have hlen : i < arr.toList.length := by simpa using h1
    have h3' : ∀ o, arr.toList[i]? = some o → ∀ e ∈ o.after.toList, Region.binds .any e = true → inE listed e.on := fun o ho => h3 o (by rw [← Array.getElem?_toList]; exact ho)
    have hC' := hC.more h3' hE
    have hs' : (listed.setIfInBounds i true).size = arr.size := by simpa using hs
    have hc' : (listed.setIfInBounds i true).toList.count false ≤ fuel := by
      have hil : i < listed.toList.length := by simp; omega
      have hb : listed.toList[i] = false := by
        have : ¬ inE listed i := h2
        unfold inE at this
        rw [Array.getD_eq_getD_getElem?, Array.getElem?_eq_getElem (by omega)] at this
        simpa using this
      rw [Array.toList_setIfInBounds, List.count_set hil, hb, if_pos (by rfl), if_neg (by decide)]
      omega
    have go : ∀ a w, ((Mid P ck N arr.toList ms tm0 h0 T tmf hsf hf φ0 w0 w00 (inE (listed.setIfInBounds i true)) a w ∧ ∀ p, pr = some p → inE (listed.setIfInBounds i true) p.2 → inE (listed.setIfInBounds i true) p.1) ∨ Late P ck N arr.toList ms pr tm0 h0 T φ0 w0 w00 (inE (listed.setIfInBounds i true)) a w) →
        wpAnyIn (FW ro) n P .any arr Q fuel (listed.setIfInBounds i true) a w := fun a w h => ih _ a w hs' hc' hC' h
    rcases h with ⟨⟨A, B, tmA, hsA, hA, φ, iv⟩, hpr⟩ | ⟨A, B, ri, rj, φ, hL, lt⟩
    · have hcl : ∀ x ∈ T, inE listed x.i → x.o.dst ≠ none → ∀ y, bit (maskOf msS x.i) y = true → inE listed y := fun x hx hEx _ y hy => by
        have hop := (tf.tr.recOk x hx).op
        exact st.closed hC hop (hC _ _ hop hEx) y (st.look _ _ hop y hy)
      by_cases hlate : ∃ p, pr = some p ∧ i = p.2 ∧ ¬ inE listed p.1
      · obtain ⟨p, hp, rfl, hn1⟩ := hlate
        exact late_in hck st tf iv hp h2 hn1 hC h3' (hap p hp) hE fun a w hl => go a w (.inr hl)
      · have hrd : ∀ y, bit (maskOf ms i) y = true → inE listed y := by
          have hop : arr.toList[i]? = some arr.toList[i] := List.getElem?_eq_getElem hlen
          exact st.closed_all hC hop (h3' _ hop) fun p hp hq => Classical.byContradiction fun hn => hlate ⟨p, hp, hq, hn⟩
        refine inv_step hck st.cx tf iv hlen h2 hcl hrd hE fun a w hm => go a w (.inl ⟨hm, fun p hp hq => ?_⟩)
        rcases (hE _).1 hq with hq | hq
        · exact (hE _).2 (.inl (hpr p hp hq))
        · refine (hE _).2 (.inl (Classical.byContradiction fun hn => hlate ⟨p, hp, hq.symm, hn⟩))
    · refine late_step hck st tf r0 lt hlen h2 hC h3' hE (fun a w hl => go a w (.inr hl)) fun a w hi2 hm => go a w (.inl ⟨hm, fun p hp _ => ?_⟩)
      rw [lt.pair] at hp
      cases hp
      exact (hE _).2 (.inr hi2.symm)
end
/-- The slots that a store of a pair looks at stay as they are. -/
theorem pair_slot {ck : CK} {N : Nat} {ops : List Oper} {ms msS : List Nat} {pr : Option (Nat × Nat)} {ord : List Nat} {tm0 tmf : TM} {hsf : List (Nat × Hp)} {h0 hf : Hp} {T : List Rec} (st : StF P ops ms msS pr ord) (tf : TrF P ck N ops ms tm0 h0 T tmf hsf hf)
    {r : Rec} (hr : r ∈ T) (hno : ∀ x ∈ T, x.o.dst ≠ none → bit (maskOf ms x.i) r.i = false) {t : Nat} (ht : t ∈ looks ops r.o) : (cOpd N (.tmp t)).get tmf = (cOpd N (.tmp t)).get r.tm := by
  rw [cOpd_tmp]
  cases hb : Nat.ble (t + 1) N with
  | false => rfl
  | true =>
    have htN : t < N := nat_ble hb
    obtain ⟨A, B, hT⟩ := List.append_of_mem hr
    have htr := tf.tr
    rw [hT] at htr
    obtain ⟨tm1, hs1, h1, t1, t2⟩ := htr.append
    have he : tm1 = r.tm := by cases t2; rfl
    subst he
    rcases t2.slot tf.le htN with ⟨x, hx, hd, _⟩ | ⟨_, h⟩
    · exfalso
      have hxT : x ∈ T := by rw [hT]; exact List.mem_append_right _ hx
      obtain ⟨h2, h3⟩ := st.cx.slot x.i x.o t (tf.tr.recOk x hxT).op hd
      rcases h3 r.i r.o (tf.tr.recOk r hr).op with h4 | ⟨_, h4 | h4 | h4⟩
      · have := tf.uniq hr hxT h4
        subst this
        exact h2 ht
      · exact h4 ht
      · obtain ⟨r', h5, h6⟩ := (tf.before A r B hT).1 _ (st.cx.sub _ _ h4)
        have := tf.uniq (by rw [hT]; exact List.mem_append_left _ h5) hxT h6
        subst this
        obtain ⟨D1, D2, hD⟩ := List.append_of_mem hx
        cases D1 with
        | nil =>
          have e : r = r' := by simpa using (List.cons.inj hD).1
          exact (tf.before A r B hT).2.2 r' h5 (by rw [e])
        | cons y D1 =>
          have hT2 : T = (A ++ y :: D1) ++ r' :: D2 := by rw [hT, hD]; simp
          exact (tf.before _ r' D2 hT2).2.2 r' (by simp [h5]) rfl
      · have := hno x hxT (by rw [hd]; intro e; cases e)
        rw [st.cx.sub _ _ h4] at this
        cases this
    · exact h
theorem opd_same {N : Nat} {tm tm' : TM} {x : Operand} (h : ∀ t, x = .tmp t → (cOpd N (.tmp t)).get tm = (cOpd N (.tmp t)).get tm') : (cOpd N x).get tm = (cOpd N x).get tm' := by
  cases x with
  | tmp t => exact h t rfl
  | const v =>
    show (match ofV v with | some a => (⟨fun _ => a⟩ : Opd) | none => ⟨fun _ => undef⟩).get tm = (match ofV v with | some a => (⟨fun _ => a⟩ : Opd) | none => ⟨fun _ => undef⟩).get tm'
    cases ofV v <;> rfl
  | global g => rfl
  | func f => rfl
theorem kPair_inv {N : Nat} {ops : List Oper} {p : Nat × Nat} {k : K} {ck : CK} {tm : TM} {h : Hp} {r : R} (hr : r ≠ R.bad) (he : (kPair N ops (some p) k).run ck tm h = r) :
    ∃ x i y j, (storeTo N ops p.1).get tm = .ptr x i ∧ (storeTo N ops p.2).get tm = .ptr y j ∧ x ≠ y ∧ k.run ck tm h = r := by
  have he : AV.onPtr ((storeTo N ops p.1).get tm) R.bad (fun x _ => AV.onPtr ((storeTo N ops p.2).get tm) R.bad fun y _ => @Bool.rec (fun _ => R) (k.run ck tm h) R.bad (Id.beq x y)) = r := he
  generalize (storeTo N ops p.1).get tm = a at he
  generalize (storeTo N ops p.2).get tm = b at he
  cases a with
  | ptr x i =>
    cases b with
    | ptr y j =>
      have he : @Bool.rec (fun _ => R) (k.run ck tm h) R.bad (Id.beq x y) = r := he
      cases hb : Id.beq x y with
      | true => rw [hb] at he; exact absurd he.symm hr
      | false =>
        rw [hb] at he
        rw [Id.beq_iff] at hb
        exact ⟨x, i, y, j, rfl, rfl, of_decide_eq_false hb, he⟩
    | _ => exact absurd he.symm hr
  | _ => exact absurd he.symm hr
theorem storeTo_eq {N : Nat} {ops : List Oper} {i : Nat} {o : Oper} {t : TypeId} {a v : Operand} (ho : ops[i]? = some o) (hs : o.op = .store t a v) : storeTo N ops i = cOpd N a := by
  unfold storeTo
  rw [lnth_eq, ho]
  dsimp only
  rw [hs]
theorem draw_ok {N : Nat} {φ0 : Phi} {h0 : Hp} {w0 : World} {ro : Option Nat} {n id : Nat} {arr : Array Oper} {k : K} {ck : CK} {r : R} {Q : Exit → Act → World → Prop} {tm : TM} {h : Hp} {a : Act} {w : World} (hck : CKOk P ck) (hr : r ≠ R.bad)
    (hmix : P.follows .mixedOrders = true) (hdo : drawOk P arr.toList = true) (hQ : ∀ tm h a w, At N φ0 h0 w0 tm h a w → k.run ck tm h = r → Q .normal a w) (ha : At N φ0 h0 w0 tm h a w)
    (he : (cDraw P N arr.toList k).run ck tm h = r) : (Code.region id arr true).wpIn (FW ro) n P Q a w := by
  have st := draw_static hdo
  have he : (cOrd P N arr.toList (msOf P arr.toList) (kPair N arr.toList (prOf P arr.toList) k) (ordOf P arr.toList)).run ck tm [(0, h)] h = r := he
  obtain ⟨T, tmf, hsf, hf, htr, hmap, hk⟩ := cOrd_inv hr _ _ _ _ he
  obtain ⟨φ, ht, hst, hm⟩ := ha
  have tf := trF_of st ht.le htr hmap
  generalize msOf P arr.toList = ms at *
  generalize msLook arr.toList ms (prOf P arr.toList) = msS at *
  generalize prOf P arr.toList = pr at *
  generalize ordOf P arr.toList = ord at *
  have hk2 : k.run ck tmf hf = r ∧ ∀ p, pr = some p → ∀ ri ∈ T, ∀ rj ∈ T, ri.i = p.1 → rj.i = p.2 → ∀ x q u y s v, xsAt N ri.o ri.tm = [.ptr x q, u] → xsAt N rj.o rj.tm = [.ptr y s, v] → x ≠ y := by
    cases pr with
    | none => exact ⟨hk, fun p hp => by cases hp⟩
    | some p =>
      obtain ⟨x', i', y', j', g1, g2, g3, g4⟩ := kPair_inv hr hk
      refine ⟨g4, fun p' hp ri hri rj hrj e1 e2 x q u y s v hx hy => ?_⟩
      cases hp
      obtain ⟨mj, pf⟩ := st.pair p rfl
      obtain ⟨o1, t1, a1, v1, ho1, hs1, _⟩ := pf.st1
      obtain ⟨o2, t2, a2, v2, ho2, hs2, hd2, _⟩ := pf.st2
      have hoi : ri.o = o1 := by have := (tf.tr.recOk ri hri).op; rw [e1, ho1] at this; cases this; rfl
      have hoj : rj.o = o2 := by have := (tf.tr.recOk rj hrj).op; rw [e2, ho2] at this; cases this; rfl
      rw [storeTo_eq ho1 hs1] at g1
      rw [storeTo_eq ho2 hs2] at g2
      have hfree : ∀ z ∈ T, z.o.dst ≠ none → bit (maskOf ms z.i) p.1 = false ∧ bit (maskOf ms z.i) p.2 = false := fun z hz hd => by
        rcases pf.apart z.i z.o (tf.tr.recOk z hz).op with h | h
        · have := tf.uniq hz hrj (by rw [h, e2])
          subst this
          rw [hoj] at hd
          exact absurd hd2 hd
        · exact h
      have h1 : (cOpd N a1).get tmf = (cOpd N a1).get ri.tm := opd_same fun t ht => pair_slot st tf hri (fun z hz hd => by rw [e1]; exact (hfree z hz hd).1) (mem_looks_op (by rw [hoi, hs1, ht]; show t ∈ List.flatMap tmpOf [.tmp t, v1]; simp [tmpOf]))
      have h2 : (cOpd N a2).get tmf = (cOpd N a2).get rj.tm := opd_same fun t ht => pair_slot st tf hrj (fun z hz hd => by rw [e2]; exact (hfree z hz hd).2) (mem_looks_op (by rw [hoj, hs2, ht]; show t ∈ List.flatMap tmpOf [.tmp t, v2]; simp [tmpOf]))
      have hx : [(cOpd N a1).get ri.tm, (cOpd N v1).get ri.tm] = [.ptr x q, u] := by rw [← hx]; unfold xsAt; rw [hoi, hs1]; rfl
      have hy : [(cOpd N a2).get rj.tm, (cOpd N v2).get rj.tm] = [.ptr y s, v] := by rw [← hy]; unfold xsAt; rw [hoj, hs2]; rfl
      rw [h1, (List.cons.inj hx).1] at g1
      rw [h2, (List.cons.inj hy).1] at g2
      cases g1
      cases g2
      exact g3
  refine wpIn_region_any hmix ?_
  have r1 : Step φ h w φ h { w with drawn := w.drawn + 1 } := Step.same hst.rel rfl rfl rfl rfl
  have hE : ∀ x, ¬ inE (Array.replicate arr.size false) x := fun x hx => by
    unfold inE at hx
    rw [Array.getD_eq_getD_getElem?, Array.getElem?_replicate] at hx
    split at hx <;> cases hx
  refine any_ok (φ00 := φ0) (h00 := h0) (w00 := w0) (φ0 := φ) (w0 := { w with drawn := w.drawn + 1 }) hck st tf r1.rel (hst.trans r1) hk2.2 (fun a w hat => hQ _ _ _ _ hat hk2.1) arr.size _ a _ (by simp) (by simp) (fun q o _ hq => absurd hq (hE q)) ?_
  refine .inl ⟨⟨[], T, tm, [(0, h)], h, φ, ⟨.nil .., htr, rfl, ⟨0, [], rfl⟩, (fun x hx => by cases hx), fun x _ hx => absurd hx (hE _), by rw [r1.rel.cut]; exact Step.refl r1.rel, fun id p hp => .inl (r1.rel.fresh id p hp).2, fun x _ hx => absurd hx (hE _),
    fun t ht' => .inr ⟨fun x _ hx => absurd hx (hE _), by rw [r1.rel.cut]; exact ht.at_ t ht'⟩, ht.size, hm.same rfl⟩⟩, fun p _ hx => absurd hx (hE _)⟩
end Go.Ax
