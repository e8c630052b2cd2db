/- Operations that the executor does not go through, beside those that it does; blocks that nobody looks at. -/
import Derived.Test.YtioaigedcoapcaaGreatDoorAxGg
import Derived.Maps.RangeRun
import Derived.Test.YtioaigedcoapcaaGreatDoorProg
import Derived.KernelRfl
namespace Go.Ax
open Go
variable {P : Program}

theorem alloc_lt {β : Type} {b : Blk} {h : Hp} {bad r : β} {k : Id → Hp → β} (hr : alloc b h bad k = r) (hb : r ≠ bad) : h.nx.num < 61440 := by
  obtain ⟨t, a, b', c, d⟩ := h
  have e : alloc b ⟨t, a, b', c, d⟩ bad k = @Bool.rec (fun _ => β) (k ⟨a, b', c, d⟩ ⟨T4.put ⟨a, b', c, d⟩ b t, Id.succ ⟨a, b', c, d⟩⟩) bad (Dg.beq a .d15) := rfl
  rw [e] at hr
  cases ha : Dg.beq a .d15 with
  | true => rw [ha] at hr; exact absurd hr.symm hb
  | false =>
    have h1 : a.num < 15 := by revert ha; cases a <;> first | (intro _; decide) | (intro h; cases h)
    have h2 := b'.num_lt
    have h3 := c.num_lt
    have h4 := d.num_lt
    show ((a.num * 16 + b'.num) * 16 + c.num) * 16 + d.num < 61440
    omega
theorem alloc_ex (b : Blk) (h : Hp) (hn : h.nx.num < 61440) : ∃ h', (∀ i, h'.get i = if i = h.nx then b else h.get i) ∧ h'.nx.num = h.nx.num + 1 ∧ ∀ (β : Type) (bad : β) (k : Id → Hp → β), alloc b h bad k = k h.nx h' := by
  obtain ⟨t, a, b', c, d⟩ := h
  have hn : ((a.num * 16 + b'.num) * 16 + c.num) * 16 + d.num < 61440 := hn
  have h15 : a ≠ .d15 := fun e => by
    subst e
    have : Dg.num .d15 = 15 := rfl
    omega
  have hb : Dg.beq a .d15 = false := by revert h15; cases a <;> first | (intro _; rfl) | (intro h; exact absurd rfl h)
  refine ⟨⟨T4.put ⟨a, b', c, d⟩ b t, Id.succ ⟨a, b', c, d⟩⟩, fun i => T4.get_put i ⟨a, b', c, d⟩ b t, Id.succ_num _ _ _ _ h15, fun β bad k => ?_⟩
  have e : alloc b ⟨t, a, b', c, d⟩ bad k = @Bool.rec (fun _ => β) (k ⟨a, b', c, d⟩ ⟨T4.put ⟨a, b', c, d⟩ b t, Id.succ ⟨a, b', c, d⟩⟩) bad (Dg.beq a .d15) := rfl
  rw [e, hb]

/-- An operation gone through by hand. -/
theorem hand_ok {ro : Option Nat} {n : Nat} {arr : Array Oper} {i : Nat} {o : Oper} {a : Act} {w w' : World} {v : Value} {K : Act → World → Prop} {Q : Exit → Act → World → Prop} (hi : arr[i]? = some o) (hg : o.guard = none) (hd : ∀ c, o.op ≠ .defer c)
    (hrun : (execOp a.eval o).run P w = .ok (.value v) w') (hK : K (a.put o.dst v) w') : wpOpIn (FW ro) n P arr Q i K a w := by
  unfold wpOpIn
  rw [hi]
  have hw : Region.wanted o (yielded arr a.tmps) = true := by unfold Region.wanted; rw [hg]
  dsimp only
  rw [hw]
  simp only [if_true]
  refine ⟨fun _ _ => trivial, ?_⟩
  rw [Oper.semAt_eq _ _ _ hd, hrun]
  exact hK
/-- An operation of the executor, seen from where it begins. -/
theorem oper_step {N : Nat} {φ : Phi} {ro : Option Nat} {n : Nat} {arr : Array Oper} {i : Nat} {o : Oper} {k : CK → TM → Hp → R} {ck : CK} {tm : TM} {h : Hp} {a : Act} {w : World} {r : R}
    {K : Act → World → Prop} {Q : Exit → Act → World → Prop} (hck : CKOk P ck) (hi : arr[i]? = some o) (hs : RanG N arr.toList o k ck tm h r (clOf (kOp P o))) (ht : TRel φ N tm a.tmps) (hR : Rel φ h w)
    (hK : ∀ φ' tm' h' a' w', TRel φ' N tm' a'.tmps → Step φ h w φ' h' w' → a'.defers = a.defers → k ck tm' h' = r → K a' w') : wpOpIn (FW ro) n P arr Q i K a w := by
  obtain ⟨hok, hs⟩ := hs
  obtain ⟨ho1, ho2⟩ := okOper_parts hok
  have hxs := opds_ok ht hR.f.glob ho1
  have hwant : ∀ b, gWant N arr.toList o tm = some b → Region.wanted o (yielded arr a.tmps) = b := fun b h => wanted_ok (fun _ t _ _ => tmp_ok ht t) h
  unfold wpOpIn
  rw [hi]
  dsimp only
  rcases hs with ⟨hw, he⟩ | ⟨hw, he⟩
  · rw [hwant _ hw]
    simp only [Bool.false_eq_true, if_false]
    exact ⟨fun _ _ => trivial, hK _ _ _ _ _ (dst_ok ht ho2 V.undef) (Step.refl hR) (Act.put_defers' ..) he⟩
  · rw [hwant _ hw]
    simp only [if_true]
    have hok := kOp_ok (P := P) o
    have hdf : ∀ f', clOf (kOp P o) = f' → f' ≠ .no → ∀ c, o.op ≠ .defer c := fun f' h1 h2 => kOp_defer o (h1 ▸ h2)
    generalize hc : clOf (kOp P o) = c at he hok hdf
    have direct : ∀ v w', c ≠ .no → (execOp a.eval o).run P w = .ok (.value v) w' → K (a.put o.dst v) w' → o.wpIn (FW ro) n P a w K Q := fun v w' hne h1 h2 => by
      refine ⟨fun _ _ => trivial, ?_⟩
      rw [Oper.semAt_eq _ _ _ (hdf c rfl hne), h1]
      exact h2
    cases c with
    | no => exact he.elim
    | pure f =>
      obtain ⟨v, h1, h2⟩ := he
      obtain ⟨u, h3, h4⟩ := hok φ w a.eval _ v h1 hxs
      exact direct u w (by intro e; cases e) h4 (hK _ _ _ _ _ (dst_ok ht ho2 h3) (Step.refl hR) (Act.put_defers' ..) h2)
    | read f =>
      obtain ⟨v, h1, h2⟩ := he
      obtain ⟨u, h3, h4⟩ := hok φ h w a.eval _ v hR.f h1 hxs
      exact direct u w (by intro e; cases e) h4 (hK _ _ _ _ _ (dst_ok ht ho2 h3) (Step.refl hR) (Act.put_defers' ..) h2)
    | new f =>
      obtain ⟨b, g, h', h1, h2, h3, h4⟩ := he
      obtain ⟨u, w', p, h5, h6⟩ := hok φ w a.eval _ b g h1 hxs
      obtain ⟨ob, hob⟩ := h6.heap
      have hle := upd_le p hR.nx_none
      have hs2 : Step φ h w (upd φ h.nx p) h' w' := Step.new hR h2 h3 hob h6.os h6.tape h6.output h6.place (h6.blk _ hle)
      exact direct u w' (by intro e; cases e) h5 (hK _ _ _ _ _ (dst_ok (ht.mono hle) ho2 (h6.val _ _ hle (upd_same _ _ _))) hs2 (Act.put_defers' ..) h4)
    | eff f =>
      obtain ⟨v, h', h1, h2⟩ := he
      refine hok ck hck ro n φ h w a _ v h' hR h1 hxs K Q fun φ' w' u h3 h4 => ?_
      exact hK _ _ _ _ _ (dst_ok (ht.mono h4.le) ho2 h3) h4 (Act.put_defers' ..) h2
/-- Some operations, more of them behind. -/
theorem cOps_step {N : Nat} {φ0 : Phi} {h0 : Hp} {w0 : World} {d : List Deferred} {ro : Option Nat} {n : Nat} {arr : Array Oper} {k : K} {ck : CK} {r : R} {Q : Exit → Act → World → Prop} (hck : CKOk P ck) (hr : r ≠ R.bad) (m : Nat) : ∀ (l : List Oper) (i : Nat),
    (∀ φ tm h a w, TRel φ N tm a.tmps → Step φ0 h0 w0 φ h w → a.defers = d → k.run ck tm h = r → wpOpsIn (FW ro) n P arr Q (List.range' (i + l.length) m) a w) →
    (∀ j, j < l.length → arr[i + j]? = l[j]?) → ∀ φ tm h a w, TRel φ N tm a.tmps → Step φ0 h0 w0 φ h w → a.defers = d → (cOps P N arr.toList k l).run ck tm h = r →
      wpOpsIn (FW ro) n P arr Q (List.range' i (l.length + m)) a w
  | [], i, hQ, _, φ, tm, h, a, w, ht, hs, hd, he => by
    have := hQ φ tm h a w ht hs hd he
    simpa using this
  | o :: l, i, hQ, hl, φ, tm, h, a, w, ht, hs, hd, he => by
    rw [List.length_cons, Nat.add_right_comm, List.range'_succ, wpOpsIn_cons]
    have hi : arr[i]? = some o := hl 0 (by simp)
    refine oper_step hck hi (gOpK_inv hr he) ht hs.rel fun φ' tm' h' a' w' ht' hs' hd' he' => ?_
    refine cOps_step hck hr m l (i + 1) (fun φ tm h a w h1 h2 h3 h4 => ?_) (fun j hj => ?_) φ' tm' h' a' w' ht' (hs.trans hs') (hd'.trans hd) he'
    · have := hQ φ tm h a w h1 h2 h3 h4
      rwa [List.length_cons, show i + (l.length + 1) = i + 1 + l.length by omega] at this
    · have := hl (j + 1) (by simpa using hj)
      rwa [show i + (j + 1) = i + 1 + j by omega, List.getElem?_cons_succ] at this

/-! ### blocks that nobody looks at -/
def Unseen (φ : Phi) (h : Hp) (r : Nat) : Prop := ∀ i p, h.get i ≠ .none → φ i = some p → p.b ≠ r
theorem Unseen.not_own {φ : Phi} {h : Hp} {r : Nat} (u : Unseen φ h r) : ¬ Own φ h.get r := fun ⟨i, p, h1, h2, h3⟩ => u i p (isRw_live h1) h2 h3
theorem Unseen.step {φ φ' : Phi} {h h' : Hp} {w w' : World} {r : Nat} (u : Unseen φ h r) (s : Step φ h w φ' h' w') (hr : r < w.heap.size) : Unseen φ' h' r := fun i p hi hp => by
  rcases s.names i p hp with h1 | ⟨_, h1 | ⟨j, q, h3, h4, h5⟩⟩
  · exact u i p (s.live i (fun e => by rw [h1] at e; cases e) hi) h1
  · omega
  · exact fun e => u j q (isRw_live h3) h4 (h5.trans e)
theorem Unseen.kept {φ φ' : Phi} {h h' : Hp} {w w' : World} {r : Nat} (u : Unseen φ h r) (s : Step φ h w φ' h' w') (hr : r < w.heap.size) : w'.heap[r]? = w.heap[r]? := s.keep.block r hr u.not_own
/-- A new block that bears a name, and that nobody looks at. -/
theorem Step.veil {φ : Phi} {h h' : Hp} {w : World} (r : Rel φ h w) (o : Obj) (hget : ∀ i, h'.get i = if i = h.nx then .none else h.get i) (hnx : h'.nx.num = h.nx.num + 1) :
    Step φ h w (upd φ h.nx ⟨w.heap.size, 0, 0, 0⟩) h' (w.alloc o) ∧ Unseen (upd φ h.nx ⟨w.heap.size, 0, 0, 0⟩) h' w.heap.size := by
  refine ⟨Step.new (b := .none) (o := o) r hget hnx rfl rfl rfl rfl rfl trivial, fun i p hi hp => ?_⟩
  rw [hget] at hi
  by_cases e : i = h.nx
  · rw [if_pos e] at hi; exact absurd rfl hi
  · rw [upd_ne _ _ e] at hp
    have := (r.fresh i p hp).1
    omega
/-- A block that nobody looks at is written. -/
theorem Step.turn {φ0 φ : Phi} {h0 h : Hp} {w0 w w' : World} {r : Nat} (s : Step φ0 h0 w0 φ h w) (h1 : w0.heap.size ≤ r) (u : Unseen φ h r) (hh : ∀ k, k ≠ r → w'.heap[k]? = w.heap[k]?) (hz : w'.heap.size = w.heap.size) (ho : w'.os = w.os) (ht : w'.tape = w.tape)
    (hp : w'.output = w.output) : Step φ0 h0 w0 φ h w' := by
  refine ⟨s.le, ⟨⟨fun i hi => ?_, s.rel.f.inj, s.rel.f.glob⟩, fun i p hp => by rw [hz]; exact s.rel.fresh i p hp⟩,
    ⟨ho.trans s.keep.os, ht.trans s.keep.tape, hp.trans s.keep.output, by rw [hz]; exact s.keep.size, fun b hb hO => ?_⟩, s.own, s.nx, s.names, s.live⟩
  · obtain ⟨p, h3, h4⟩ := s.rel.f.live i hi
    exact ⟨p, h3, h4.mono (Phi.le_refl φ) (.inr (hh _ (u i p hi h3)))⟩
  · rw [hh b (by omega)]
    exact s.keep.block b hb hO
/-- What nobody asks for is forgotten. -/
theorem Step.less {φ0 φ : Phi} {h0 h h' : Hp} {w0 w : World} (s : Step φ0 h0 w0 φ h w) (hg : ∀ i, h'.get i ≠ .none → h'.get i = h.get i) (hn : h.nx.num ≤ h'.nx.num) : Step φ0 h0 w0 φ h' w := by
  refine ⟨s.le, ⟨⟨fun i hi => ?_, fun i j p q hi hj hp hq e => ?_, s.rel.f.glob⟩, fun i p hp => ?_⟩, s.keep, fun b ⟨i, p, h1, h2, h3⟩ => ?_, Nat.le_trans s.nx hn, s.names, fun i hi hl => ?_⟩
  · rw [hg i hi]; exact s.rel.f.live i (by rw [← hg i hi]; exact hi)
  · rw [hg i (isRw_live hi)] at hi
    rw [hg j hj] at hj
    exact s.rel.f.inj i j p q hi hj hp hq e
  · have := s.rel.fresh i p hp; omega
  · exact s.own b ⟨i, p, (congrArg isRw (hg i (isRw_live h1))).symm.trans h1, h2, h3⟩
  · rw [hg i hl] at hl; exact s.live i hi hl
end Go.Ax
namespace Go.Ax
open Go Go.Proofs

noncomputable def bodyOf : Option Code → Code
  | some c => c
  | none => .skip
noncomputable def cdL : Code → Code
  | .seq a _ => a
  | .block _ b => b
  | .loop b => b
  | c => c
noncomputable def cdR : Code → Code
  | .seq _ b => b
  | c => c
noncomputable def cdOps : Code → Array Oper
  | .region _ o _ => o
  | _ => #[]
/-- What stands behind the first m statements. -/
noncomputable def restC : Nat → Code → Code
  | 0, c => c
  | m + 1, c => restC m (cdR c)
noncomputable def opAt (a : Array Oper) (i : Nat) : Oper := (a.toList[i]?).getD ⟨none, .move (.tmp 0), 0, "", #[], none⟩
noncomputable def c6 : Code := bodyOf Tryz.f6.body
noncomputable def t6 : Code := restC 9 c6
noncomputable def l6 : Code := cdL (cdL (cdR (cdL t6)))
noncomputable def a30 : Array Oper := cdOps (cdL (cdL t6))
noncomputable def a31 : Array Oper := cdOps (cdL l6)
noncomputable def a32 : Array Oper := cdOps (cdL (cdL (cdR (cdR l6))))
noncomputable def a33 : Array Oper := cdOps (cdR (cdL (cdR (cdR l6))))
noncomputable def a34 : Array Oper := cdOps (cdL (cdR t6))
noncomputable def a35 : Array Oper := cdOps (cdL (cdR (cdR t6)))
theorem t6_eq : t6 = .seq (.seq (.region 30 a30 false) (.block 6 (.loop (.seq (.region 31 a31 false) (.seq (.cond (.tmp 130) .skip (.exit 6)) (.block 7 (.seq (.region 32 a32 false) (.region 33 a33 false)))))))) (.seq (.region 34 a34 false) (.seq (.region 35 a35 false) .ret)) := by kernel_rfl

/-! ### region 30: the map is read, and ranged over -/
theorem run30 (ck : CK) (tm : TM) (h : Hp) (i : Id) (o : Nat) : (cOps Tryz.prog 143 a30.toList kEnd (a30.toList.take 4)).run ck ((rgPut 5).put (.ptr i o) tm) h =
    @Option.rec _ (fun _ => R) R.bad (fun m => R.norm ((rgPut 127).put m ((rgPut 126).put (.ptr i (Nat.add o 14)) ((rgPut 125).put (.ptr i o) ((rgPut 124).put (.ptr i o) ((rgPut 5).put (.ptr i o) tm))))) h) (load1 (h.get i) (Nat.add o 14)) := by kernel_rfl
theorem o30 : a30[4]? = some (opAt a30 4) ∧ (opAt a30 4).op = .range 49 (.tmp 127) ∧ (opAt a30 4).dst = some 128 ∧ (opAt a30 4).guard = none := ⟨by kernel_rfl, by kernel_rfl, by kernel_rfl, by kernel_rfl⟩
theorem len30 : a30.size = 5 := by kernel_rfl
/-! ### region 31: the next entry -/
theorem o31 : a31[0]? = some (opAt a31 0) ∧ (opAt a31 0).op = .next (.tmp 128) false ∧ (opAt a31 0).dst = some 129 ∧ (opAt a31 0).guard = none := ⟨by kernel_rfl, by kernel_rfl, by kernel_rfl, by kernel_rfl⟩
theorem len31 : a31.size = 2 := by kernel_rfl
theorem run31 (ck : CK) (tm : TM) (h : Hp) (x : AV) (l : List AV) : (cOps Tryz.prog 143 a31.toList kEnd (a31.toList.drop 1)).run ck ((rgPut 129).put (.tup (x :: l)) tm) h = R.norm ((rgPut 130).put x ((rgPut 129).put (.tup (x :: l)) tm)) h := by kernel_rfl
/-! ### region 32: its key and its value -/
theorem o32 : a32[0]? = some (opAt a32 0) ∧ (opAt a32 0).op = .entry (.tmp 128) ∧ (opAt a32 0).dst = some 131 ∧ (opAt a32 0).guard = none := ⟨by kernel_rfl, by kernel_rfl, by kernel_rfl, by kernel_rfl⟩
theorem len32 : a32.size = 5 := by kernel_rfl
theorem run32 (ck : CK) (tm : TM) (h : Hp) (x y : AV) : (cOps Tryz.prog 143 a32.toList kEnd (a32.toList.drop 1)).run ck ((rgPut 131).put (.tup [x, y]) tm) h =
    R.norm ((rgPut 18).put y ((rgPut 17).put x ((rgPut 133).put y ((rgPut 132).put x ((rgPut 131).put (.tup [x, y]) tm))))) h := by kernel_rfl
/-! ### region 33: the pair is appended -/
noncomputable def tm33 (tm : TM) (s : AV) (a b : Int) (j : Id) (v : AV) : TM :=
  (rgPut 16).put v ((rgPut 139).put v ((rgPut 138).put (.sl j 0 1 (some 1)) ((rgPut 137).put (.agg [.int .i64 a, .int .i64 b]) ((rgPut 136).put (.int .i64 b) ((rgPut 135).put (.int .i64 a) ((rgPut 134).put s tm))))))
theorem run33 (ck : CK) (tm : TM) (h : Hp) (s : AV) (a b : Int) : (cOps Tryz.prog 143 a33.toList kEnd a33.toList).run ck ((rgPut 16).put s ((rgPut 17).put (.int .i64 a) ((rgPut 18).put (.int .i64 b) tm))) h =
    alloc (.arr 33 2 1 false (fillFrom 0 [[.int .i64 a, .int .i64 b]] els0)) h R.bad fun j h1 => @RC.rec (fun _ => R) R.bad (fun v h2 => R.norm (tm33 ((rgPut 16).put s ((rgPut 17).put (.int .i64 a) ((rgPut 18).put (.int .i64 b) tm))) s a b j v) h2) (appendF 33 2 s (.sl j 0 1 (some 1)) h1) := by kernel_rfl
theorem len33 : a33.size = 7 := by kernel_rfl
end Go.Ax
namespace Go.Ax
open Go Go.Proofs

noncomputable def pr (a b : Int) : List AV := [.int .i64 a, .int .i64 b]
theorem app_nil {h : Hp} {j : Id} {a b : Int} (hj : h.get j = .arr 33 2 1 false (fillFrom 0 [pr a b] els0)) : appendF 33 2 .nils (.sl j 0 1 (some 1)) h = alloc (.arr 33 2 1 true (fillFrom 0 [pr a b] els0)) h RC.bad fun i h => RC.ok (.sl i 0 1 none) h := by
  have e : appendF 33 2 .nils (.sl j 0 1 (some 1)) h = @Option.rec _ (fun _ => RC) RC.bad (fun ls => okB (mkArr 33 2 1 true ls) h fun i => .sl i 0 1 none) (elems (h.get j) 2 0 1) := rfl
  rw [e, hj]
  rfl
theorem app_more {h : Hp} {j i : Id} {a b : Int} {m : Nat} {t : Els} (hj : h.get j = .arr 33 2 1 false (fillFrom 0 [pr a b] els0)) (hi : h.get i = .arr 33 2 m true t) (hm : m + 1 ≤ 256) :
    appendF 33 2 (.sl i 0 m none) (.sl j 0 1 (some 1)) h = alloc (.arr 33 2 (m + 1) true (fillFrom m [pr a b] t)) (h.put i .none) RC.bad fun i h => RC.ok (.sl i 0 (m + 1) none) h := by
  have e : appendF 33 2 (.sl i 0 m none) (.sl j 0 1 (some 1)) h = @Option.rec _ (fun _ => RC) RC.bad (fun ls => Blk.onCells (h.get i) RC.bad (fun _ _ _ _ => RC.bad) fun ty' es' kn d t =>
        @Bool.rec (fun _ => RC) RC.bad (@Bool.rec (fun _ => RC) (@Bool.rec (fun _ => RC) RC.bad (@Bool.rec (fun _ => RC) RC.bad (alloc (.arr 33 2 (Nat.add m 1) true (fillFrom m ls t)) (h.put i .none) RC.bad fun i h => RC.ok (.sl i 0 (Nat.add m 1) none) h) (Nat.ble (Nat.add m 1) 256)) (Nat.beq 33 ty' && Nat.ble m kn)) (putB i h (.sl i 0 (Nat.add m 1) none) (storeEls (.arr ty' es' kn d t) 2 (Nat.add 0 (Nat.mul m 2)) ls)) (Nat.ble (Nat.add 0 (Nat.mul (Nat.add m 1) 2)) (Nat.mul kn 2))) (Nat.beq es' 2)) (elems (h.get j) 2 0 1) := rfl
  rw [e, hj, hi]
  have e1 : Nat.ble (0 + (m + 1) * 2) (m * 2) = false := by
    cases hb : Nat.ble (0 + (m + 1) * 2) (m * 2) with
    | false => rfl
    | true => have := nat_ble hb; omega
  have e2 : Nat.ble m m = true := Nat.ble_eq_true_of_le (Nat.le_refl m)
  have e3 : Nat.ble (m + 1) 256 = true := Nat.ble_eq_true_of_le hm
  show @Bool.rec (fun _ => RC) (@Bool.rec (fun _ => RC) RC.bad (@Bool.rec (fun _ => RC) RC.bad (alloc (.arr 33 2 (m + 1) true (fillFrom m [pr a b] t)) (h.put i .none) RC.bad fun i h => RC.ok (.sl i 0 (m + 1) none) h) (Nat.ble (m + 1) 256)) (Nat.beq 33 33 && Nat.ble m m)) _ (Nat.ble (0 + (m + 1) * 2) (m * 2)) = _
  rw [e1, e2, e3]
  rfl
/-- What has been gathered: L, in the executor's heap; the slice is its last block. -/
def Gath (h : Hp) (lo : Nat) (s : AV) (L : List (Int × Int)) : Prop :=
  (L = [] ∧ s = .nils) ∨ ∃ i t, L ≠ [] ∧ s = .sl i 0 L.length none ∧ lo ≤ i.num ∧ i.num + 1 = h.nx.num ∧ h.get i = .arr 33 2 L.length true t ∧ ∀ q x, L[q]? = some x → el2 q t = pr x.1 x.2
theorem fill_one (t : Els) (m : Nat) (l : List AV) (hm : m < 256) (q : Nat) (hq : q < 256) : el2 q (fillFrom m [l] t) = if q = m then l else el2 q t := by
  rw [fillFrom_get [l] m t q (by simp; omega) hq]
  by_cases e : q = m
  · subst e
    simp
  · rw [if_neg e, if_neg (by simp; omega)]
theorem round33 (ck : CK) {tm : TM} {h : Hp} {lo : Nat} {s : AV} {L : List (Int × Int)} (a b : Int) (hg : Gath h lo s L) (hlo : lo ≤ h.nx.num) (hL : L.length + 1 ≤ 256) (hn : h.nx.num + 2 < 61440) :
    ∃ s' h', (cOps Tryz.prog 143 a33.toList kEnd a33.toList).run ck ((rgPut 16).put s ((rgPut 17).put (.int .i64 a) ((rgPut 18).put (.int .i64 b) tm))) h = R.norm (tm33 ((rgPut 16).put s ((rgPut 17).put (.int .i64 a) ((rgPut 18).put (.int .i64 b) tm))) s a b h.nx s') h' ∧
      h'.nx.num = h.nx.num + 2 ∧ (∀ j, j.num < lo → h'.get j = h.get j) ∧ Gath h' lo s' (L ++ [(a, b)]) := by
  obtain ⟨h1, g1, n1, e1⟩ := alloc_ex (.arr 33 2 1 false (fillFrom 0 [pr a b] els0)) h (by omega)
  have hj : h1.get h.nx = .arr 33 2 1 false (fillFrom 0 [pr a b] els0) := by rw [g1, if_pos rfl]
  rw [run33]
  have e1 := e1 R R.bad (fun j h1 => @RC.rec (fun _ => R) R.bad (fun v h2 => R.norm (tm33 ((rgPut 16).put s ((rgPut 17).put (.int .i64 a) ((rgPut 18).put (.int .i64 b) tm))) s a b j v) h2) (appendF 33 2 s (.sl j 0 1 (some 1)) h1))
  rw [show ([[.int .i64 a, .int .i64 b]] : List (List AV)) = [pr a b] from rfl, e1]
  rcases hg with ⟨rfl, rfl⟩ | ⟨i, t, hne, rfl, hi1, hi2, hi3, hi4⟩
  · obtain ⟨h2, g2, n2, e2⟩ := alloc_ex (.arr 33 2 1 true (fillFrom 0 [pr a b] els0)) h1 (by omega)
    refine ⟨.sl h1.nx 0 1 none, h2, ?_, by omega, fun j hj => ?_, .inr ⟨h1.nx, _, by simp, rfl, by omega, by omega, by rw [g2, if_pos rfl]; rfl, fun q x hq => ?_⟩⟩
    · rw [app_nil hj, e2]
    · rw [g2, if_neg (fun e => by rw [e] at hj; omega), g1, if_neg (fun e => by rw [e] at hj; omega)]
    · have hq0 : q = 0 := by
        have := (List.getElem?_eq_some_iff.1 hq).1
        simp at this
        omega
      subst hq0
      cases hq
      rw [fill_one _ _ _ (by omega) _ (by omega), if_pos rfl]
  · have hnei : i ≠ h.nx := fun e => by rw [e] at hi2; omega
    have hi3' : h1.get i = .arr 33 2 L.length true t := by rw [g1, if_neg hnei]; exact hi3
    obtain ⟨h2, g2, n2, e2⟩ := alloc_ex (.arr 33 2 (L.length + 1) true (fillFrom L.length [pr a b] t)) (h1.put i .none) (by rw [Hp.put_nx]; omega)
    rw [Hp.put_nx] at g2 n2
    refine ⟨.sl h1.nx 0 (L.length + 1) none, h2, ?_, by omega, fun j hj => ?_, .inr ⟨h1.nx, fillFrom L.length [pr a b] t, by simp, by rw [List.length_append]; rfl, by omega, by omega, by rw [g2, if_pos rfl, List.length_append]; rfl, fun q x hq => ?_⟩⟩
    · rw [app_more hj hi3' hL, e2, Hp.put_nx]
    · rw [g2, if_neg (fun e => by rw [e] at hj; omega), Hp.get_put, if_neg (fun e => by rw [e] at hj; omega), g1, if_neg (fun e => by rw [e] at hj; omega)]
    · have hlt := (List.getElem?_eq_some_iff.1 hq).1
      simp only [List.length_append, List.length_cons, List.length_nil] at hlt
      rw [fill_one _ _ _ (by omega) _ (by omega)]
      by_cases e : q = L.length
      · subst e
        rw [if_pos rfl]
        rw [List.getElem?_append_right (Nat.le_refl _), Nat.sub_self] at hq
        cases hq
        rfl
      · rw [if_neg e]
        rw [List.getElem?_append_left (by omega)] at hq
        exact hi4 q x hq
end Go.Ax
namespace Go.Ax
open Go Go.Proofs

/-- The entries of a map of numbers, and what the executor holds of them. -/
def entsOf (l : List (Int × Int × Nat)) : List MapEntry := l.map fun x => ⟨.int .i64 x.1, .int .i64 x.2.1, x.2.2⟩
def esOf (l : List (Int × Int × Nat)) : List (AV × AV × Nat) := l.map fun x => (.int .i64 x.1, .int .i64 x.2.1, x.2.2)
theorem ents_eq {φ : Phi} : ∀ {l : List (Int × Int × Nat)} {es : List MapEntry}, ML φ (esOf l) es → es = entsOf l
  | [], es, h => h
  | x :: l, es, h => by
    obtain ⟨e, r, rfl, h1, h2, h3, h4⟩ := h
    obtain ⟨k, v, b⟩ := e
    have h1 : k = .int .i64 x.1 := h1
    have h2 : v = .int .i64 x.2.1 := h2
    have h3 : b = x.2.2 := h3
    subst h1; subst h2; subst h3
    rw [ents_eq h4]
    rfl
def two (x : Int × Int × Nat) : Int × Int := (x.1, x.2.1)
/-- Where the loop stands. hf: the executor's heap when it began; im: the map; sn: the stamps that the iterator has handed out; acc: what has been gathered. -/
structure Lp (φ0 : Phi) (h0 : Hp) (w0 : World) (hf : Hp) (im : Id) (pm : Pl) (clock : Nat) (l : List (Int × Int × Nat)) (r : Nat) (d : List Deferred) (sn : List Nat) (acc : List (Int × Int × Nat)) (φ : Phi) (tm : TM) (h : Hp) (a : Act) (w : World) : Prop where
  tr : TRel φ 143 tm a.tmps
  st : Step φ0 h0 w0 φ h w
  df : a.defers = d
  mr : Marks w0 w d
  old : ∀ j, j.num < hf.nx.num → h.get j = hf.get j
  nx : h.nx.num = hf.nx.num + 1 + 2 * acc.length
  s128 : (rgGet 128).get tm = .ptr hf.nx 0
  it : φ hf.nx = some ⟨r, 0, 0, 0⟩
  un : Unseen φ h r
  lo : w0.heap.size ≤ r
  lt : r < w.heap.size
  hr : w.heap[r]? = some (.mapIter (some pm.b) clock sn.toArray clock)
  im : φ im = some pm
  sl : Gath h (hf.nx.num + 1) ((rgGet 16).get tm) (acc.map two)
  pe : ∃ rest, l.Perm (acc ++ rest)
section
variable {φ0 : Phi} {h0 : Hp} {w0 : World} {hf : Hp} {im : Id} {pm : Pl} {clock : Nat} {l : List (Int × Int × Nat)} {r : Nat} {d : List Deferred} {sn : List Nat} {acc : List (Int × Int × Nat)} {φ φ' : Phi} {tm tm' : TM} {h h' : Hp} {a a' : Act} {w w' : World}
theorem Lp.quiet (L : Lp φ0 h0 w0 hf im pm clock l r d sn acc φ tm h a w) (s : Step φ h w φ' h w') (ht : TRel φ' 143 tm' a'.tmps) (hd : a'.defers = d) (h1 : (rgGet 128).get tm' = (rgGet 128).get tm) (h2 : (rgGet 16).get tm' = (rgGet 16).get tm) :
    Lp φ0 h0 w0 hf im pm clock l r d sn acc φ' tm' h a' w' where
  tr := ht
  st := L.st.trans s
  df := hd
  mr := L.mr.step L.st.rel.f s
  old := L.old
  nx := L.nx
  s128 := h1.trans L.s128
  it := s.le _ _ L.it
  un := L.un.step s L.lt
  lo := L.lo
  lt := Nat.lt_of_lt_of_le L.lt s.keep.size
  hr := (L.un.kept s L.lt).trans L.hr
  im := s.le _ _ L.im
  sl := by rw [h2]; exact L.sl
  pe := L.pe
theorem Lp.map (L : Lp φ0 h0 w0 hf im pm clock l r d sn acc φ tm h a w) (hm : hf.get im = .mp (esOf l) clock) (hi : im.num < hf.nx.num) : w.heap[pm.b]? = some (.map (entsOf l).toArray clock) := by
  have hg := (L.old im hi).trans hm
  obtain ⟨p, h1, h2⟩ := L.st.rel.f.live im (by rw [hg]; exact fun e => by cases e)
  rw [L.im] at h1
  cases h1
  rw [hg] at h2
  obtain ⟨ents, h3, h4⟩ := h2
  rw [h3]
  have := ents_eq h4
  rw [← this]
theorem Lp.iter (L : Lp φ0 h0 w0 hf im pm clock l r d sn acc φ tm h a w) : a.eval (.tmp 128) = .pointer (some ⟨r, 0, none⟩) := by
  have hv := opd_ok (x := .tmp 128) L.tr L.st.rel.f.glob rfl
  have e : (cOpd 143 (.tmp 128)).get tm = .ptr hf.nx 0 := L.s128
  rw [e] at hv
  obtain ⟨p, h1, h2⟩ := hv
  rw [L.it] at h1
  cases h1
  exact h2
/-- The iterator has handed out one more. -/
theorem Lp.took (L : Lp φ0 h0 w0 hf im pm clock l r d sn acc φ tm h a w) (b : Nat) {w1 : World} (hw : w1 = w ∨ w1 = w.drew) :
    Lp φ0 h0 w0 hf im pm clock l r d (sn ++ [b]) acc φ tm h a (ChangeMaps.setBlock w1 r (.mapIter (some pm.b) clock (sn.toArray.push b) clock)) := by
  have e1 : w1.heap = w.heap := by rcases hw with rfl | rfl <;> rfl
  have e2 : w1.os = w.os := by rcases hw with rfl | rfl <;> rfl
  have e3 : w1.tape = w.tape := by rcases hw with rfl | rfl <;> rfl
  have e4 : w1.output = w.output := by rcases hw with rfl | rfl <;> rfl
  have hk : ∀ k, k ≠ r → (ChangeMaps.setBlock w1 r (.mapIter (some pm.b) clock (sn.toArray.push b) clock)).heap[k]? = w.heap[k]? := fun k hk => by
    show (w1.heap.setIfInBounds r _)[k]? = _
    rw [e1, Array.getElem?_setIfInBounds_ne (fun e => hk e.symm)]
  have hs : (ChangeMaps.setBlock w1 r (.mapIter (some pm.b) clock (sn.toArray.push b) clock)).heap.size = w.heap.size := by
    show (w1.heap.setIfInBounds r _).size = _
    rw [e1, Array.size_setIfInBounds]
  refine { L with st := L.st.turn L.lo L.un hk hs e2 e3 e4, mr := ?_, lt := by rw [hs]; exact L.lt, hr := ?_ }
  · obtain ⟨rs, h1, h2, h3⟩ := L.mr
    refine ⟨rs, h1, h2, fun k hkr => ?_⟩
    obtain ⟨h4, h5⟩ := h3 k hkr
    refine ⟨h4, ?_⟩
    rw [hk k (fun e => by subst e; rw [L.hr] at h5; cases h5)]
    exact h5
  · show (w1.heap.setIfInBounds r _)[r]? = _
    rw [e1, Array.getElem?_setIfInBounds_self_of_lt L.lt]
    simp
end
end Go.Ax
namespace Go.Ax
open Go Go.Proofs

theorem ckBad_ok {P : Program} : CKOk P ckBad := ⟨(fun φ h w f args vs r h' _ _ he => by cases he), fun φ h w l args vs r h' p _ _ _ he => by cases he⟩
/-- The operations of a region from the i-th on. -/
theorem ops_from {P : Program} {N : Nat} {φ : Phi} {ro : Option Nat} {n : Nat} {arr : Array Oper} {i : Nat} {ck : CK} {tm tm1 : TM} {h h1 : Hp} {a : Act} {w : World} {Q : Exit → Act → World → Prop} (hck : CKOk P ck) (ht : TRel φ N tm a.tmps) (hR : Rel φ h w)
    (he : (cOps P N arr.toList kEnd (arr.toList.drop i)).run ck tm h = R.norm tm1 h1) (hQ : ∀ φ' a' w', TRel φ' N tm1 a'.tmps → Step φ h w φ' h1 w' → a'.defers = a.defers → Q .normal a' w') : wpOpsIn (FW ro) n P arr Q (List.range' i (arr.size - i)) a w := by
  have := cOps_step (N := N) (φ0 := φ) (h0 := h) (w0 := w) (d := a.defers) (ro := ro) (n := n) (arr := arr) (k := kEnd) (ck := ck) (r := R.norm tm1 h1) (Q := Q) hck (by intro e; cases e) 0 (arr.toList.drop i) i
    (fun φ2 tm2 h2 a2 w2 t2 s2 d2 e2 => by
      have e2 : R.norm tm2 h2 = R.norm tm1 h1 := e2
      cases e2
      exact hQ φ2 a2 w2 t2 s2 d2) (fun j _ => by rw [List.getElem?_drop, Array.getElem?_toList]) φ tm h a w ht (Step.refl hR) rfl he
  rwa [List.length_drop, Array.length_toList] at this
section
variable {φ0 : Phi} {h0 : Hp} {w0 : World} {hf : Hp} {im : Id} {pm : Pl} {clock : Nat} {l : List (Int × Int × Nat)} {r : Nat} {d : List Deferred}
theorem born_mem {l : List (Int × Int × Nat)} (hnd : (l.map (·.2.2)).Nodup) {x y : Int × Int × Nat} (hx : x ∈ l) (hy : y ∈ l) (h : x.2.2 = y.2.2) : x = y := by
  induction l with
  | nil => cases hx
  | cons z l ih =>
    rw [List.map_cons, List.nodup_cons] at hnd
    rcases List.mem_cons.1 hx with h1 | h1
    · rcases List.mem_cons.1 hy with h2 | h2
      · exact h1.trans h2.symm
      · exact absurd (h1 ▸ h ▸ List.mem_map.2 ⟨y, h2, rfl⟩) hnd.1
    · rcases List.mem_cons.1 hy with h2 | h2
      · exact absurd (h2 ▸ h ▸ List.mem_map.2 ⟨x, h1, rfl⟩) hnd.1
      · exact ih hnd.2 h1 h2
theorem left_mem {l acc : List (Int × Int × Nat)} {e : MapEntry} (h : e ∈ (leftOf (entsOf l).toArray (acc.map (·.2.2)).toArray).toList) : ∃ x ∈ l, e = ⟨.int .i64 x.1, .int .i64 x.2.1, x.2.2⟩ ∧ x.2.2 ∉ acc.map (·.2.2) := by
  unfold leftOf at h
  simp only [Array.toList_filter, List.mem_filter] at h
  obtain ⟨h1, h2⟩ := h
  obtain ⟨x, hx, rfl⟩ := List.mem_map.1 h1
  refine ⟨x, hx, rfl, fun hm => ?_⟩
  have : ((acc.map (·.2.2)).toArray.contains x.2.2) = true := by simpa using hm
  rw [this] at h2
  cases h2
theorem left_none {l acc rest : List (Int × Int × Nat)} (hnd : (l.map (·.2.2)).Nodup) (hp : l.Perm (acc ++ rest)) (h : (leftOf (entsOf l).toArray (acc.map (·.2.2)).toArray).size = 0) : rest = [] := by
  cases rest with
  | nil => rfl
  | cons y rest =>
    exfalso
    have hy : y ∈ l := hp.mem_iff.2 (by simp)
    have hn : y.2.2 ∉ acc.map (·.2.2) := by
      have h2 := (hp.map (·.2.2)).nodup_iff.1 hnd
      rw [List.map_append, List.map_cons, List.nodup_append] at h2
      exact fun hm => h2.2.2 _ hm _ (List.mem_cons_self ..) rfl
    have hm : (⟨.int .i64 y.1, .int .i64 y.2.1, y.2.2⟩ : MapEntry) ∈ (leftOf (entsOf l).toArray (acc.map (·.2.2)).toArray).toList := by
      unfold leftOf
      simp only [Array.toList_filter, List.mem_filter]
      refine ⟨List.mem_map.2 ⟨y, hy, rfl⟩, ?_⟩
      have : ((acc.map (·.2.2)).toArray.contains y.2.2) = false := by
        cases hc : ((acc.map (·.2.2)).toArray.contains y.2.2) with
        | false => rfl
        | true => exact absurd (by simpa using hc) hn
      rw [this]
      rfl
    have := List.length_pos_of_mem hm
    rw [Array.length_toList] at this
    omega
theorem tm_eta3 (tm : TM) : (rgPut 16).put ((rgGet 16).get tm) ((rgPut 17).put ((rgGet 17).get tm) ((rgPut 18).put ((rgGet 18).get tm) tm)) = tm := by kernel_rfl
theorem half6 (hm : hf.get im = .mp (esOf l) clock) (hi : im.num < hf.nx.num) (hnd : (l.map (·.2.2)).Nodup) (hlen : l.length ≤ 200) (hnx : hf.nx.num + 500 < 61440) {ro : Option Nat} {n : Nat} {Q : Exit → Act → World → Prop} {acc : List (Int × Int × Nat)} {x : Int × Int × Nat} {φ : Phi} {tm : TM} {h : Hp} {a : Act} {w : World}
    (L : Lp φ0 h0 w0 hf im pm clock l r d (acc.map (·.2.2) ++ [x.2.2]) acc φ tm h a w) (hx : x ∈ l) (hxn : x.2.2 ∉ acc.map (·.2.2)) (hQ : ∀ φ tm h a w, Lp φ0 h0 w0 hf im pm clock l r d ((acc ++ [x]).map (·.2.2)) (acc ++ [x]) φ tm h a w → acc.length + 1 ≤ l.length → Q .normal a w) :
    (Code.block 7 (.seq (.region 32 a32 false) (.region 33 a33 false))).wpIn (FW ro) n Tryz.prog Q a w := by
  obtain ⟨o1, o2, o3, o4⟩ := o32
  have hb := L.map hm hi
  have hit := L.iter
  have hnd2 : ((entsOf l).toArray.toList.map (·.born)).Nodup := by
    have e : (entsOf l).toArray.toList.map (·.born) = l.map (·.2.2) := by simp [entsOf]
    rw [e]
    exact hnd
  have hr : w.heap[r]? = some (.mapIter (some pm.b) clock ((acc.map (·.2.2)).toArray.push x.2.2) clock) := by rw [L.hr]; simp
  have hrun := run_entry_at (P := Tryz.prog) w r pm.b clock (acc.map (·.2.2)).toArray (entsOf l).toArray clock ⟨.int .i64 x.1, .int .i64 x.2.1, x.2.2⟩ hr hb (show _ ∈ entsOf l from List.mem_map.2 ⟨x, hx, rfl⟩) hnd2
  obtain ⟨rest, hp⟩ := L.pe
  have hxr : x ∈ rest := by
    rcases List.mem_append.1 (hp.mem_iff.1 hx) with h1 | h1
    · exact absurd (List.mem_map.2 ⟨x, h1, rfl⟩) hxn
    · exact h1
  obtain ⟨s, t, rfl⟩ := List.append_of_mem hxr
  have hp2 : l.Perm ((acc ++ [x]) ++ (s ++ t)) := hp.trans (by
    rw [List.append_assoc]
    exact (List.perm_middle.trans (List.Perm.refl _)).append_left acc)
  have hle : acc.length + 1 ≤ l.length := by
    have := hp2.length_eq
    simp at this
    omega
  refine wpIn_block (wpIn_seq (wpIn_region ?_))
  rw [List.range_eq_range', len32]
  show wpOpsIn (FW ro) n Tryz.prog a32 _ (List.range' 0 (4 + 1)) a w
  rw [List.range'_succ, wpOpsIn_cons]
  refine hand_ok o1 o4 (by rw [o2]; intro c e; cases e) (v := .tuple #[.int .i64 x.1, .int .i64 x.2.1]) (w' := w) (by simp [execOp, o2, hit, hrun, Result.andThen]) ?_
  rw [o3]
  have ht : TRel φ 143 ((rgPut 131).put (.tup [.int .i64 x.1, .int .i64 x.2.1]) tm) (a.put (some 131) (.tuple #[.int .i64 x.1, .int .i64 x.2.1])).tmps := dst_ok (d := some 131) L.tr rfl ⟨_, rfl, ⟨_, _, rfl, rfl, ⟨_, _, rfl, rfl, rfl⟩⟩⟩
  have := ops_from (ro := ro) (n := n) (arr := a32) (i := 1) (Q := Exit.then (Code.wpIn (FW ro) n Tryz.prog (.region 33 a33 false) (Exit.inBlock 7 Q)) (Exit.inBlock 7 Q)) ckBad_ok ht L.st.rel (run32 ckBad tm h (.int .i64 x.1) (.int .i64 x.2.1)) fun φ2 a2 w2 t2 s2 d2 => by
    have L2 := L.quiet s2 t2 (d2.trans ((Act.put_defers' ..).trans L.df)) (by kernel_rfl) (by kernel_rfl)
    refine wpIn_region ?_
    have h17 : (rgGet 17).get ((rgPut 18).put (.int .i64 x.2.1) ((rgPut 17).put (.int .i64 x.1) ((rgPut 133).put (.int .i64 x.2.1) ((rgPut 132).put (.int .i64 x.1) ((rgPut 131).put (.tup [.int .i64 x.1, .int .i64 x.2.1]) tm))))) = .int .i64 x.1 := by kernel_rfl
    have h18 : (rgGet 18).get ((rgPut 18).put (.int .i64 x.2.1) ((rgPut 17).put (.int .i64 x.1) ((rgPut 133).put (.int .i64 x.2.1) ((rgPut 132).put (.int .i64 x.1) ((rgPut 131).put (.tup [.int .i64 x.1, .int .i64 x.2.1]) tm))))) = .int .i64 x.2.1 := by kernel_rfl
    generalize (rgPut 18).put (.int .i64 x.2.1) ((rgPut 17).put (.int .i64 x.1) ((rgPut 133).put (.int .i64 x.2.1) ((rgPut 132).put (.int .i64 x.1) ((rgPut 131).put (.tup [.int .i64 x.1, .int .i64 x.2.1]) tm)))) = tm2 at L2 h17 h18
    have het := tm_eta3 tm2
    rw [h17, h18] at het
    have hnx2 := L2.nx
    obtain ⟨s', h3, e3, n3, g3, k3⟩ := round33 ckBad x.1 x.2.1 L2.sl (by omega) (by rw [List.length_map]; omega) (by omega)
    rw [het] at e3
    have := ops_from (ro := ro) (n := n) (arr := a33) (i := 0) (Q := Exit.inBlock 7 Q) ckBad_ok L2.tr L2.st.rel e3 fun φ4 a4 w4 t4 s4 d4 => by
      refine hQ φ4 (tm33 tm2 ((rgGet 16).get tm2) x.1 x.2.1 h.nx s') h3 a4 w4 ?_ hle
      exact { tr := t4, st := L2.st.trans s4, df := d4.trans L2.df, mr := L2.mr.step L2.st.rel.f s4, old := fun j hj => (g3 j (by omega)).trans (L2.old j hj), nx := by rw [n3, hnx2, List.length_append]; simp; omega,
              s128 := (show (rgGet 128).get (tm33 tm2 ((rgGet 16).get tm2) x.1 x.2.1 h.nx s') = (rgGet 128).get tm2 by kernel_rfl).trans L2.s128, it := s4.le _ _ L2.it, un := L2.un.step s4 L2.lt, lo := L2.lo, lt := Nat.lt_of_lt_of_le L2.lt s4.keep.size,
              hr := by rw [L2.un.kept s4 L2.lt, L2.hr]; simp, im := s4.le _ _ L2.im, sl := by
                rw [show (rgGet 16).get (tm33 tm2 ((rgGet 16).get tm2) x.1 x.2.1 h.nx s') = s' by kernel_rfl, List.map_append]
                exact k3, pe := ⟨s ++ t, hp2⟩ }
    rw [len33] at this
    rw [List.range_eq_range', len33]
    exact this
  rw [len32] at this
  exact this
theorem loop6 (hm : hf.get im = .mp (esOf l) clock) (hi : im.num < hf.nx.num) (hold : ∀ x ∈ l, x.2.2 < clock) (hnd : (l.map (·.2.2)).Nodup) (hlen : l.length ≤ 200) (hnx : hf.nx.num + 500 < 61440) {ro : Option Nat} {n : Nat} {Q : Exit → Act → World → Prop}
    (hQ : ∀ acc φ tm h a w, Lp φ0 h0 w0 hf im pm clock l r d (acc.map (·.2.2)) acc φ tm h a w → l.Perm acc → Q (.exit 6) a w) {a : Act} {w : World} (hL : ∃ φ tm h, Lp φ0 h0 w0 hf im pm clock l r d [] [] φ tm h a w) :
    (Code.loop (.seq (.region 31 a31 false) (.seq (.cond (.tmp 130) .skip (.exit 6)) (.block 7 (.seq (.region 32 a32 false) (.region 33 a33 false)))))).wpIn (FW ro) n Tryz.prog Q a w := by
  have hborn : ∀ x ∈ (entsOf l).toArray.toList, x.born < clock := fun x hx => by
    obtain ⟨y, hy, rfl⟩ := List.mem_map.1 (show x ∈ (entsOf l) by simpa using hx)
    exact hold y hy
  have hnd2 : ((entsOf l).toArray.toList.map (·.born)).Nodup := by
    have e : (entsOf l).toArray.toList.map (·.born) = l.map (·.2.2) := by simp [entsOf]
    rw [e]
    exact hnd
  refine wpIn_loop (fun a w => ∃ acc φ tm h, Lp φ0 h0 w0 hf im pm clock l r d (acc.map (·.2.2)) acc φ tm h a w) (fun _ w => l.length - (w.iterSeen r).size) (by obtain ⟨φ, tm, h, hL⟩ := hL; exact ⟨[], φ, tm, h, hL⟩) ?_
  rintro a w ⟨acc, φ, tm, h, L⟩
  obtain ⟨o1, o2, o3, o4⟩ := o31
  have hb := L.map hm hi
  have hit := L.iter
  have hsz : ∀ {sn acc φ tm h a w}, Lp φ0 h0 w0 hf im pm clock l r d sn acc φ tm h a w → (w.iterSeen r).size = sn.length := fun L => by unfold World.iterSeen; rw [L.hr]; simp
  refine wpIn_seq (wpIn_region ?_)
  rw [List.range_eq_range', len31]
  show wpOpsIn (FW ro) n Tryz.prog a31 _ (List.range' 0 (1 + 1)) a w
  rw [List.range'_succ, wpOpsIn_cons]
  rcases run_next_at (P := Tryz.prog) w (opAt a31 0).type r pm.b clock clock (acc.map (·.2.2)).toArray (entsOf l).toArray clock L.hr hb hborn (Nat.le_refl _) with ⟨hz, hrun⟩ | ⟨e, he, w1, hw1, hrun⟩
  · refine hand_ok o1 o4 (by rw [o2]; intro c e; cases e) (v := .tuple #[.bool false]) (w' := w) ?_ ?_
    · simp [execOp, o2, hit, hrun, Result.andThen]
    · rw [o3]
      have ht : TRel φ 143 ((rgPut 129).put (.tup [.bool false]) tm) (a.put (some 129) (.tuple #[.bool false])).tmps := dst_ok (d := some 129) L.tr rfl ⟨_, rfl, ⟨_, _, rfl, rfl, rfl⟩⟩
      have := ops_from (ro := ro) (n := n) (arr := a31) (i := 1) (Q := Exit.then (Code.wpIn (FW ro) n Tryz.prog (.seq (.cond (.tmp 130) .skip (.exit 6)) (.block 7 (.seq (.region 32 a32 false) (.region 33 a33 false)))) (Exit.then (fun a' w' => (∃ acc φ tm h, Lp φ0 h0 w0 hf im pm clock l r d (acc.map (·.2.2)) acc φ tm h a' w') ∧ l.length - (w'.iterSeen r).size < l.length - (w.iterSeen r).size) Q)) (Exit.then (fun a' w' => (∃ acc φ tm h, Lp φ0 h0 w0 hf im pm clock l r d (acc.map (·.2.2)) acc φ tm h a' w') ∧ l.length - (w'.iterSeen r).size < l.length - (w.iterSeen r).size) Q)) ckBad_ok ht L.st.rel (run31 ckBad tm h (.bool false) []) fun φ' a' w' t2 s2 d2 => by
        have L2 := L.quiet s2 t2 (d2.trans ((Act.put_defers' ..).trans L.df)) (by kernel_rfl) (by kernel_rfl)
        have hc : a'.eval (.tmp 130) = .bool false := by
          have hv := opd_ok (x := .tmp 130) t2 s2.rel.f.glob rfl
          have e : (cOpd 143 (.tmp 130)).get ((rgPut 130).put (.bool false) ((rgPut 129).put (.tup [.bool false]) tm)) = .bool false := by kernel_rfl
          rw [e] at hv
          exact hv
        refine wpIn_seq (wpIn_cond_false hc (wpIn_exit ?_))
        obtain ⟨rest, hp⟩ := L.pe
        have hr0 := left_none hnd hp hz
        subst hr0
        rw [List.append_nil] at hp
        exact hQ acc _ _ _ _ _ L2 hp
      rw [len31] at this
      exact this
  · obtain ⟨x, hx, rfl, hxn⟩ := left_mem he
    have L1 := L.took x.2.2 hw1
    generalize ChangeMaps.setBlock w1 r (.mapIter (some pm.b) clock ((acc.map (·.2.2)).toArray.push x.2.2) clock) = w2 at L1 hrun
    refine hand_ok o1 o4 (by rw [o2]; intro c e; cases e) (v := .tuple #[.bool true, .int .i64 x.1, .int .i64 x.2.1]) (w' := w2) ?_ ?_
    · simp [execOp, o2, hit, hrun, Result.andThen]
    · rw [o3]
      have ht : TRel φ 143 ((rgPut 129).put (.tup [.bool true, .int .i64 x.1, .int .i64 x.2.1]) tm) (a.put (some 129) (.tuple #[.bool true, .int .i64 x.1, .int .i64 x.2.1])).tmps := dst_ok (d := some 129) L1.tr rfl ⟨_, rfl, ⟨_, _, rfl, rfl, ⟨_, _, rfl, rfl, ⟨_, _, rfl, rfl, rfl⟩⟩⟩⟩
      have := ops_from (ro := ro) (n := n) (arr := a31) (i := 1) (Q := Exit.then (Code.wpIn (FW ro) n Tryz.prog (.seq (.cond (.tmp 130) .skip (.exit 6)) (.block 7 (.seq (.region 32 a32 false) (.region 33 a33 false)))) (Exit.then (fun a' w' => (∃ acc φ tm h, Lp φ0 h0 w0 hf im pm clock l r d (acc.map (·.2.2)) acc φ tm h a' w') ∧ l.length - (w'.iterSeen r).size < l.length - (w.iterSeen r).size) Q)) (Exit.then (fun a' w' => (∃ acc φ tm h, Lp φ0 h0 w0 hf im pm clock l r d (acc.map (·.2.2)) acc φ tm h a' w') ∧ l.length - (w'.iterSeen r).size < l.length - (w.iterSeen r).size) Q)) ckBad_ok ht L1.st.rel (run31 ckBad tm h (.bool true) [.int .i64 x.1, .int .i64 x.2.1]) fun φ2 a2 w3 t2 s2 d2 => by
        have L2 := L1.quiet s2 t2 (d2.trans ((Act.put_defers' ..).trans L1.df)) (by kernel_rfl) (by kernel_rfl)
        have hc : a2.eval (.tmp 130) = .bool true := by
          have hv := opd_ok (x := .tmp 130) t2 s2.rel.f.glob rfl
          have e : (cOpd 143 (.tmp 130)).get ((rgPut 130).put (.bool true) ((rgPut 129).put (.tup [.bool true, .int .i64 x.1, .int .i64 x.2.1]) tm)) = .bool true := by kernel_rfl
          rw [e] at hv
          exact hv
        refine wpIn_seq (wpIn_cond_true hc (wpIn_skip ?_))
        refine half6 hm hi hnd hlen hnx L2 hx hxn fun φ5 tm5 h5 a5 w5 L5 hle => ⟨⟨acc ++ [x], φ5, tm5, h5, L5⟩, ?_⟩
        rw [hsz L5, hsz L]
        simp
        omega
      rw [len31] at this
      exact this
end
end Go.Ax
