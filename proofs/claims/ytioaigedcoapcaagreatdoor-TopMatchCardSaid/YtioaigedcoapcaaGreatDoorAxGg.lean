/- Code, gone through by the executor. -/
import Derived.Test.YtioaigedcoapcaaGreatDoorAxGf
import Derived.Scope
namespace Go.Ax
open Go
variable {P : Program}

theorem stepR_scope {b : Frame} {a : Act} {k : List Item} {cs : List Frame} {w : World} {c : Code} : step P (lone (b.atR a (.code (.scope c) :: k)) cs w) = .next (lone (b.atR a (.code c :: .inScope c :: k)) cs w) :=
  step_lone_go (by simp [stepG, stepG.exec, Frame.atR])
theorem stepR_inScope {b : Frame} {a : Act} {k : List Item} {cs : List Frame} {w : World} {c : Code} : step P (lone (b.atR a (.inScope c :: k)) cs w) = .next (lone (b.atR a k) cs w) :=
  step_lone_go (by simp [stepG, stepG.exec, Frame.atR])
theorem wpIn_scope_straight {F : Fence} {n : Nat} {Q : Exit → Act → World → Prop} {a : Act} {w : World} {c : Code} (h : c.wpIn F n P (Exit.noGoto Q) a w) : (Code.scope c).wpIn F n P Q a w := by
  intro b k cs hro hb hr
  have h0 : (lone (b.atR a (.code (.scope c) :: k)) cs w).fenced P F := fenced_calm hb hr rfl
  obtain ⟨e, a₁, w₁, hq, harr⟩ := h b (.inScope c :: k) cs hro hb hr
  cases e with
  | normal => exact ⟨.normal, a₁, w₁, hq, .head h0 stepR_scope (StepsIn.trans harr (.one (fenced_calm hb hr rfl) stepR_inScope))⟩
  | exit id =>
    have hx : exitTo id (.inScope c :: k) = exitTo id k := by simp [exitTo]
    exact ⟨.exit id, a₁, w₁, hq, fun k' hk => .head h0 stepR_scope (harr.1 k' (by rw [hx]; exact hk)),
      fun hr' hk => let ⟨k₁, h1, h2⟩ := harr.2 hr' (by rw [hx]; exact hk); ⟨k₁, h1, .head h0 stepR_scope h2⟩⟩
  | goto l => exact hq.elim
  | ret => exact ⟨_, a₁, w₁, hq, .of_steps (.one h0 stepR_scope) harr⟩
  | panic ch => exact ⟨_, a₁, w₁, hq, .of_steps (.one h0 stepR_scope) harr⟩
  | outgrown => exact ⟨_, a₁, w₁, hq, .of_steps (.one h0 stepR_scope) harr⟩

/-- How code is left: what stands behind it in the executor leads to the same end. -/
def Post (N : Nat) (φ0 : Phi) (h0 : Hp) (w0 : World) (k : K) (env : Env) (ck : CK) (r : R) : Exit → Act → World → Prop
  | .normal, a, w => ∃ tm h, At N φ0 h0 w0 tm h a w ∧ k.run ck tm h = r
  | .ret, a, w => ∃ tm h, At N φ0 h0 w0 tm h a w ∧ R.ret tm h = r
  | .exit i, a, w => ∃ tm h, At N φ0 h0 w0 tm h a w ∧ goOn env i ck tm h = r
  | _, _, _ => False
theorem goOn_none (i : Nat) (ck : CK) (tm : TM) (h : Hp) : goOn [] i ck tm h = R.exit i tm h := rfl
theorem goOn_cons (j i : Nat) (k : K) (env : Env) (ck : CK) (tm : TM) (h : Hp) : goOn ((j, k) :: env) i ck tm h = if i = j then k.run ck tm h else goOn env i ck tm h := by
  have e : envFind i ((j, k) :: env) = (match Nat.beq i j with | true => some k | false => envFind i env) := rfl
  unfold goOn
  rw [e]
  cases hb : Nat.beq i j with
  | true => rw [if_pos (nat_beq hb)]
  | false => rw [if_neg (nat_nbeq hb)]
theorem loopRun_succ (b : K) (env : Env) (ck : CK) (n : Nat) (tm : TM) (h : Hp) :
    loopRun b env ck (n + 1) tm h = @R.rec (fun _ => R) R.bad (fun tm h => loopRun b env ck n tm h) (fun tm h => R.ret tm h) (fun i tm h => goOn env i ck tm h) (b.run ck tm h) := rfl
theorem loopRun_zero (b : K) (env : Env) (ck : CK) (tm : TM) (h : Hp) : loopRun b env ck 0 tm h = R.bad := rfl
/-- The least number of rounds. -/
theorem least (p : Nat → Prop) (h : ∃ n, p n) : ∃ n, p n ∧ ∀ m, p m → n ≤ m := by
  obtain ⟨n, hn⟩ := h
  induction n using Nat.strongRecOn with
  | _ n ih =>
    by_cases hx : ∃ m, m < n ∧ p m
    · obtain ⟨m, h1, h2⟩ := hx
      exact ih m h1 h2
    · exact ⟨n, hn, fun m hm => Nat.not_lt.1 fun hl => hx ⟨m, hl, hm⟩⟩
theorem loop_ok {N : Nat} {φ0 : Phi} {h0 : Hp} {w0 : World} {ro : Option Nat} {n : Nat} {ck : CK} {env : Env} {r : R} (hr : r ≠ R.bad) {b : Code} {kb k : K}
    (hb : ∀ tm h a w r, r ≠ R.bad → At N φ0 h0 w0 tm h a w → kb.run ck tm h = r → b.wpIn (FW ro) n P (Post N φ0 h0 w0 kEnd [] ck r) a w) :
    ∀ (m : Nat) tm h a w, At N φ0 h0 w0 tm h a w → loopRun kb env ck m tm h = r → (Code.loop b).wpIn (FW ro) n P (Post N φ0 h0 w0 k env ck r) a w := by
  intro m tm h a w ha he
  have P1 : ∀ a w, (∃ m tm h, At N φ0 h0 w0 tm h a w ∧ loopRun kb env ck m tm h = r) → ∃ μ, (∃ tm h, At N φ0 h0 w0 tm h a w ∧ loopRun kb env ck μ tm h = r) ∧ ∀ m, (∃ tm h, At N φ0 h0 w0 tm h a w ∧ loopRun kb env ck m tm h = r) → μ ≤ m :=
    fun a w h => least (fun m => ∃ tm h, At N φ0 h0 w0 tm h a w ∧ loopRun kb env ck m tm h = r) h
  classical
  let μ : Act → World → Nat := fun a w => if hx : ∃ m tm h, At N φ0 h0 w0 tm h a w ∧ loopRun kb env ck m tm h = r then (P1 a w hx).choose else 0
  have hμ : ∀ a w, (∃ m tm h, At N φ0 h0 w0 tm h a w ∧ loopRun kb env ck m tm h = r) → (∃ tm h, At N φ0 h0 w0 tm h a w ∧ loopRun kb env ck (μ a w) tm h = r) ∧ ∀ m, (∃ tm h, At N φ0 h0 w0 tm h a w ∧ loopRun kb env ck m tm h = r) → μ a w ≤ m := by
    intro a w hx
    have e : μ a w = (P1 a w hx).choose := by show dite _ _ _ = _; rw [dif_pos hx]
    rw [e]
    exact (P1 a w hx).choose_spec
  refine wpIn_loop (fun a w => ∃ m tm h, At N φ0 h0 w0 tm h a w ∧ loopRun kb env ck m tm h = r) μ ⟨m, tm, h, ha, he⟩ ?_
  intro a w hx
  obtain ⟨⟨tm, h, ha, he⟩, _⟩ := hμ a w hx
  generalize μ a w = d at he ⊢
  cases d with
  | zero => exact absurd he.symm hr
  | succ d =>
    rw [loopRun_succ] at he
    have hne : kb.run ck tm h ≠ R.bad := fun e => by rw [e] at he; exact hr he.symm
    refine wpIn_mono (hb tm h a w _ hne ha rfl) fun e a' w' hq => ?_
    cases e with
    | normal =>
      obtain ⟨tm', h', ha', e'⟩ := hq
      have e' : R.norm tm' h' = kb.run ck tm h := e'
      rw [← e'] at he
      have hx' : ∃ tm h, At N φ0 h0 w0 tm h a' w' ∧ loopRun kb env ck d tm h = r := ⟨tm', h', ha', he⟩
      exact ⟨⟨d, hx'⟩, Nat.lt_succ_of_le ((hμ a' w' ⟨d, hx'⟩).2 d hx')⟩
    | ret =>
      obtain ⟨tm', h', ha', e'⟩ := hq
      rw [← e'] at he
      exact ⟨tm', h', ha', he⟩
    | exit i =>
      obtain ⟨tm', h', ha', e'⟩ := hq
      have e' : R.exit i tm' h' = kb.run ck tm h := e'
      rw [← e'] at he
      exact ⟨tm', h', ha', he⟩
    | _ => exact hq.elim

/-! ### a range over a function -/
theorem Step.extra {φ : Phi} {h : Hp} {w : World} (r : Rel φ h w) (o : Obj) : Step φ h w φ h (w.alloc o) := Step.pushed r rfl rfl rfl rfl
theorem afterRange_inv {env : Env} {k : K} {l : Id} {ck : CK} {tm : TM} {x : RC} {r : R} (h : afterRange env k l ck tm x = r) (hr : r ≠ R.bad) :
    ∃ v h2 ready n pend t ps a b, x = .ok v h2 ∧ h2.get l = .loop ready n pend t ps a b ∧ ((ready = true ∧ pend = none ∧ k.run ck tm (h2.put l .none) = r) ∨ (ready = false ∧ pend = some .ret ∧ R.ret tm (h2.put l .none) = r) ∨ ∃ i, ready = false ∧ pend = some (.exit i) ∧ goOn env i ck tm (h2.put l .none) = r) := by
  cases x with
  | bad => exact absurd h.symm hr
  | ok v h2 =>
    unfold afterRange at h
    dsimp only at h
    split at h
    · rename_i ready n pend t ps a b hl
      refine ⟨v, h2, ready, n, pend, t, ps, a, b, rfl, hl, ?_⟩
      split at h
      · exact .inl ⟨rfl, rfl, h⟩
      · exact .inr (.inl ⟨rfl, rfl, h⟩)
      · exact .inr (.inr ⟨_, rfl, rfl, h⟩)
      · exact absurd h.symm hr
    · exact absurd h.symm hr
theorem callR_inv {ck : CK} {v : AV} {args : List AV} {h h' : Hp} {r : AV} (he : callR ck v args h = .ok r h') : ∃ f x y, v = .fn f x y ∧ isExt f = false ∧ ck.run f (x ++ args ++ y) h = .ok r h' := by
  cases v with
  | fn f x y =>
    have he : @Bool.rec (fun _ => RC) (ck.run f (x ++ args ++ y) h) RC.bad (isExt f) = .ok r h' := he
    cases hx : isExt f with
    | false => rw [hx] at he; exact ⟨f, x, y, rfl, hx, he⟩
    | true => rw [hx] at he; cases he
  | _ => cases he
theorem range_ok {N : Nat} {φ0 : Phi} {h0 : Hp} {w0 : World} {n : Nat} {ck : CK} {env : Env} {r : R} (hck : CKOk P ck) (hr : r ≠ R.bad) {f : Operand} {ps : Array Tmp} {asg body : Code} {k : K} {tm : TM} {h : Hp} {a : Act} {w : World} (hf : okOpd f = true)
    (ha : At N φ0 h0 w0 tm h a w) (he : alloc (.loop true N none tm ps.toList asg body) h R.bad (fun l h => afterRange env k l ck tm (callR ck ((cOpd N f).get tm) [.yld l] h)) = r) :
    (Code.rangeFunc f ps asg body).wpIn (FW none) n P (Post N φ0 h0 w0 k env ck r) a w := by
  obtain ⟨φ, ht, hst, hm⟩ := ha
  obtain ⟨h1, he, hget, hnx⟩ := alloc_eq he hr
  obtain ⟨v, h2, ready, n2, pend, t2, ps2, a2, b2, he, hl, hcase⟩ := afterRange_inv he hr
  obtain ⟨fn, X, Y, hfv, hext, he⟩ := callR_inv he
  have hv := opd_ok ht hst.rel.f.glob hf
  rw [hfv] at hv
  obtain ⟨xs, ys, hev, hX, hY⟩ := hv
  refine wpIn_rangeFunc fun g _ => ?_
  let L : Loop := { state := .ready, pending := none, fn := g, tmps := a.tmps, params := ps, assign := asg, body := body, defers := w.heap.size }
  let wd := w.alloc (.deferred (some []))
  let w1 := wd.alloc (.loop L)
  have s1 : Step φ h w φ h wd := Step.extra hst.rel _
  let p : Pl := ⟨wd.heap.size, 0, 0, 0⟩
  have hle := upd_le p s1.rel.nx_none
  have s2 : Step φ h wd (upd φ h.nx p) h1 w1 := Step.new s1.rel hget hnx rfl rfl rfl rfl rfl ⟨L, wd.alloc_heap_new _, rfl, rfl, ht.mono hle, rfl, rfl, rfl⟩
  have hpl : (upd φ h.nx p) h.nx = some p := upd_same _ _ _
  have hvs : VL (upd φ h.nx p) (X ++ [.yld h.nx] ++ Y) (xs.toList ++ [.func (.yield wd.heap.size) #[] #[]] ++ ys.toList) :=
    ((VL.mono hle _ _ hX).append (VL.mk1 (show V (upd φ h.nx p) (.yld h.nx) (.func (.yield wd.heap.size) #[] #[]) from ⟨p, hpl, rfl⟩))).append (VL.mono hle _ _ hY)
  have hi := hck.run _ h1 w1 fn _ _ v h2 s2.rel hvs he
  have e4 : (xs.toList ++ [Value.func (.yield wd.heap.size) #[] #[]] ++ ys.toList).toArray = xs ++ #[.func (.yield wd.heap.size) #[] #[]] ++ ys := by
    apply Array.toList_inj.1
    simp
  rw [e4] at hi
  obtain ⟨hrun, hcall⟩ := hi.resolve_right (fun ⟨h, _⟩ => by rw [hext] at h; cases h)
  refine ⟨wd.heap.size, [{ target := .collected w.heap.size, args := #[] }], w1, { target := .fn (.func fn) ys, args := xs ++ #[.func (.yield wd.heap.size) #[] #[]] }, w1, fn, _, w1, ?_, ?_, fun _ _ => trivial, hrun, fun h => (by cases h), ?_⟩
  · have := run_enterLoop_outer (P := P) (w := w) g a.tmps ps asg body
    have hsz : wd.heap.size = w.heap.size + 1 := by simp [wd, World.size_alloc]
    rw [hsz]
    exact this
  · have e2 : resolve a.eval (rangeCall f wd.heap.size) 0 = Deferred.ofValue (a.eval f) #[.func (.yield wd.heap.size) #[] #[]] := by simp [resolve, Act.eval]
    rw [e2, hev]
    rfl
  · refine fw_calls (hcall _) fun e w2 hR => ?_
    cases e with
    | panicked c => exact hR.elim
    | outgrown => exact hR.elim
    | returned u =>
      obtain ⟨φ2, _, s3⟩ := hR
      have hp2 := s3.le _ _ hpl
      obtain ⟨q, hq1, hq2⟩ := s3.rel.f.live h.nx (by rw [hl]; intro e; cases e)
      rw [hp2] at hq1
      cases hq1
      rw [hl] at hq2
      obtain ⟨L2, hL, hst2, hpd, _⟩ := hq2
      have hnb : L2.state ≠ .busy := by
        rw [hst2]
        rcases hcase with ⟨rfl, rfl, _⟩ | ⟨rfl, rfl, _⟩ | ⟨i, rfl, rfl, _⟩ <;> exact fun e => by cases e
      have hend := run_endLoop (P := P) hL hnb
      have hlt : p.b < w2.heap.size := (Array.getElem?_eq_some_iff.1 hL).1
      have s4 : Step φ2 h2 w2 φ2 (h2.put h.nx .none) (w2.putObj p.b (.loop { L2 with state := .exhausted })) :=
        Step.put s3.rel (by rw [hl]; rfl) hp2 World.putObj_size (fun k hk => World.putObj_heap_other hk) rfl rfl rfl (fun h => absurd rfl h)
      have sall := ((s1.trans s2).trans s3).trans s4
      have hm1 : Marks w0 w1 ([{ target := .collected w.heap.size, args := #[] }] ++ a.defers) := by
        obtain ⟨rs, e1, e2, e3⟩ := (hm.step hst.rel.f (s1.trans s2))
        have hrs : ∀ r ∈ rs, r < w.heap.size := fun r hr => by
          obtain ⟨rs', e1', _, e3'⟩ := hm
          have hin : r ∈ rs' := by
            rw [e1] at e1'
            have : ({ target := .collected r, args := #[] } : Deferred) ∈ rs'.map (fun r => ({ target := .collected r, args := #[] } : Deferred)) := by
              rw [← e1']; exact List.mem_map.2 ⟨r, hr, rfl⟩
            obtain ⟨r', h5, h6⟩ := List.mem_map.1 this
            injection h6 with h6 _
            injection h6 with h6
            exact h6 ▸ h5
          exact (Array.getElem?_eq_some_iff.1 (e3' r hin).2).1
        refine ⟨w.heap.size :: rs, by rw [e1]; rfl, List.nodup_cons.2 ⟨fun h => absurd (hrs _ h) (Nat.lt_irrefl _), e2⟩, fun r hr => ?_⟩
        rcases List.mem_cons.1 hr with rfl | hr
        · refine ⟨hst.keep.size, ?_⟩
          show ((w.heap.push _).push _)[w.heap.size]? = _
          rw [Array.getElem?_push, if_neg (by simp), Array.getElem?_push, if_pos rfl]
        · exact e3 r hr
      have hm3 := (hm1.step s2.rel.f s3).step s3.rel.f s4
      have hat : At N φ0 h0 w0 tm (h2.put h.nx .none) { a with defers := [{ target := .collected w.heap.size, args := #[] }] ++ a.defers } (w2.putObj p.b (.loop { L2 with state := .exhausted })) :=
        ⟨φ2, ht.mono ((s1.trans s2).trans s3).le, hst.trans sall, hm3⟩
      clear sall s4 hm3
      generalize w2.putObj p.b (.loop { L2 with state := .exhausted }) = w3 at hend hat
      refine ⟨L2.pending, w3, hend, ?_⟩
      rw [hpd]
      rcases hcase with ⟨rfl, rfl, h5⟩ | ⟨rfl, rfl, h5⟩ | ⟨i, rfl, rfl, h5⟩
      · exact ⟨tm, _, hat, h5⟩
      · exact wpIn_ret ⟨tm, _, hat, h5⟩
      · exact wpIn_exit ⟨tm, _, hat, h5⟩

/-! ### code -/
theorem cond_inv {x : AV} {z r : R} {f : Bool → R} (h : AV.onBool x z f = r) (hr : r ≠ z) : ∃ b, x = .bool b ∧ f b = r := by
  cases x with
  | bool b => exact ⟨b, rfl, h⟩
  | _ => exact absurd h.symm hr
theorem Post.weak {N : Nat} {φ0 : Phi} {h0 : Hp} {w0 : World} {k k' : K} {env : Env} {ck : CK} {r : R} {e : Exit} {a : Act} {w : World} (h : Post N φ0 h0 w0 k env ck r e a w) (hn : e = .normal → Post N φ0 h0 w0 k' env ck r e a w) : Post N φ0 h0 w0 k' env ck r e a w := by
  cases e with
  | normal => exact hn rfl
  | _ => exact h
theorem code_ok {N : Nat} {φ0 : Phi} {h0 : Hp} {w0 : World} {n : Nat} {ck : CK} (hck : CKOk P ck) (hmix : P.follows .mixedOrders = true) {ro : Option Nat} {rd : Bool} (hro : rd = true → ro = none) :
    ∀ (c : Code), (rd = true → allDraw P c = true) → ∀ (env : Env) (k : K) (r : R), r ≠ R.bad → ∀ tm h a w, At N φ0 h0 w0 tm h a w → (cCode P N rd env k c).run ck tm h = r → c.wpIn (FW ro) n P (Post N φ0 h0 w0 k env ck r) a w := by
  intro c
  induction c with
  | skip => intro _ env k r hr tm h a w ha he; exact wpIn_skip ⟨tm, h, ha, he⟩
  | label l => intro _ env k r hr tm h a w ha he; exact wpIn_label ⟨tm, h, ha, he⟩
  | ret => intro _ env k r hr tm h a w ha he; exact wpIn_ret ⟨tm, h, ha, he⟩
  | goto l => intro _ env k r hr tm h a w ha he; exact absurd he.symm hr
  | refuse s => intro _ env k r hr tm h a w ha he; exact absurd he.symm hr
  | exit i =>
    intro _ env k r hr tm h a w ha he
    refine wpIn_exit ⟨tm, h, ha, ?_⟩
    have e : cCode P N rd env k (.exit i) = (match envFind i env with | some k => k | none => ⟨fun _ tm h => R.exit i tm h⟩) := rfl
    rw [e] at he
    unfold goOn
    cases hx : envFind i env with
    | none => rw [hx] at he; exact he
    | some k' => rw [hx] at he; exact he
  | scope b ih =>
    intro hd env k r hr tm h a w ha he
    refine wpIn_scope_straight (wpIn_mono (ih hd env k r hr tm h a w ha he) fun e a w hq => ?_)
    cases e with
    | goto l => exact hq.elim
    | _ => exact hq
  | block i b ih =>
    intro hd env k r hr tm h a w ha he
    refine wpIn_block (wpIn_mono (ih hd ((i, k) :: env) k r hr tm h a w ha he) fun e a w hq => ?_)
    cases e with
    | exit j =>
      obtain ⟨tm, h, ha, hg⟩ := hq
      rw [goOn_cons] at hg
      show (if j = i then _ else _)
      by_cases hij : j = i
      · rw [if_pos hij] at hg ⊢
        exact ⟨tm, h, ha, hg⟩
      · rw [if_neg hij] at hg ⊢
        exact ⟨tm, h, ha, hg⟩
    | _ => exact hq
  | loop b ih =>
    intro hd env k r hr tm h a w ha he
    have e : cCode P N rd env k (.loop b) = ⟨fun ck tm h => loopRun (cCode P N rd [] kEnd b) env ck fuel tm h⟩ := rfl
    rw [e] at he
    exact loop_ok hr (fun tm h a w r hr ha he => ih hd [] kEnd r hr tm h a w ha he) fuel tm h a w ha he
  | seq x y ihx ihy =>
    intro hd env k r hr tm h a w ha he
    have hd' : rd = true → allDraw P x = true ∧ allDraw P y = true := fun h => by
      have := hd h
      unfold allDraw at this
      rw [Bool.and_eq_true] at this
      exact this
    refine wpIn_seq (wpIn_mono (ihx (fun h => (hd' h).1) env (cCode P N rd env k y) r hr tm h a w ha he) fun e a w hq => ?_)
    cases e with
    | normal =>
      obtain ⟨tm, h, ha, he⟩ := hq
      exact ihy (fun h => (hd' h).2) env k r hr tm h a w ha he
    | _ => exact hq
  | cond c x y ihx ihy =>
    intro hd env k r hr tm h a w ha he
    have hd' : rd = true → allDraw P x = true ∧ allDraw P y = true := fun h => by
      have := hd h
      unfold allDraw at this
      rw [Bool.and_eq_true] at this
      exact this
    have e : cCode P N rd env k (.cond c x y) = (match okOpd c, cOpd N c, cCode P N rd env k x, cCode P N rd env k y with
      | true, ⟨c⟩, ⟨x⟩, ⟨y⟩ => ⟨fun ck tm h => AV.onBool (c tm) R.bad fun r => @Bool.rec (fun _ => R) (y ck tm h) (x ck tm h) r⟩
      | false, _, _, _ => badK) := rfl
    rw [e] at he
    cases hok : okOpd c with
    | false => rw [hok] at he; exact absurd he.symm hr
    | true =>
      rw [hok] at he
      have he : AV.onBool ((cOpd N c).get tm) R.bad (fun r => @Bool.rec (fun _ => R) ((cCode P N rd env k y).run ck tm h) ((cCode P N rd env k x).run ck tm h) r) = r := he
      obtain ⟨b, h1, h2⟩ := cond_inv he hr
      obtain ⟨φ, ht, hst, hm⟩ := ha
      have hv := opd_ok ht hst.rel.f.glob hok
      rw [h1] at hv
      have hv : a.eval c = .bool b := hv
      refine wpIn_cond hv ?_
      cases b with
      | true => exact ihx (fun h => (hd' h).1) env k r hr tm h a w ⟨φ, ht, hst, hm⟩ h2
      | false => exact ihy (fun h => (hd' h).2) env k r hr tm h a w ⟨φ, ht, hst, hm⟩ h2
  | region id ops d =>
    intro hd env k r hr tm h a w ha he
    cases d with
    | false => exact region_ok hck hr (fun tm h a w ha he => ⟨tm, h, ha, he⟩) ha he
    | true =>
      have e : cCode P N rd env k (.region id ops true) = (match rd || drawOk P ops.toList with
        | true => cDraw P N ops.toList k
        | false => badK) := rfl
      rw [e] at he
      cases hb : (rd || drawOk P ops.toList) with
      | false => rw [hb] at he; exact absurd he.symm hr
      | true =>
        rw [hb] at he
        have hdo : drawOk P ops.toList = true := by
          cases rd with
          | true => exact hd rfl
          | false => exact hb
        exact draw_ok hck hr hmix hdo (fun tm h a w ha he => ⟨tm, h, ha, he⟩) ha he
  | rangeFunc f ps asg body _ _ =>
    intro hd env k r hr tm h a w ha he
    have e : cCode P N rd env k (.rangeFunc f ps asg body) = (match rd && okOpd f, cOpd N f with
      | true, ⟨f⟩ => ⟨fun ck tm h => alloc (.loop true N none tm ps.toList asg body) h R.bad fun l h => afterRange env k l ck tm (callR ck (f tm) [.yld l] h)⟩
      | false, _ => badK) := rfl
    rw [e] at he
    cases hb : (rd && okOpd f) with
    | false => rw [hb] at he; exact absurd he.symm hr
    | true =>
      rw [hb] at he
      rw [Bool.and_eq_true] at hb
      have hn := hro hb.1
      subst hn
      exact range_ok hck hr hb.2 ha he
end Go.Ax
namespace Go.Ax
open Go
variable {P : Program}

/-- The mark of a loop is taken away. -/
theorem Step.unmark {φ0 φ : Phi} {h0 h : Hp} {w0 w : World} (s : Step φ0 h0 w0 φ h w) {r : Nat} (h1 : w0.heap.size ≤ r) (h2 : w.heap[r]? = some (.deferred (some []))) : Step φ0 h0 w0 φ h (w.putObj r (.deferred none)) := by
  have hne : ∀ i p, h.get i ≠ .none → φ i = some p → p.b ≠ r := fun i p hi hp e => (s.rel.f.any hp).not_def hi _ (e ▸ h2)
  refine ⟨s.le, ⟨⟨fun i hi => ?_, s.rel.f.inj, s.rel.f.glob⟩, fun i p hp => by rw [World.putObj_size]; exact s.rel.fresh i p hp⟩,
    ⟨s.keep.os, s.keep.tape, s.keep.output, by rw [World.putObj_size]; exact s.keep.size, fun b hb ho => ?_⟩, s.own, s.nx, s.names, s.live⟩
  · obtain ⟨p, h3, h4⟩ := s.rel.f.live i hi
    exact ⟨p, h3, h4.mono (Phi.le_refl φ) (.inr (World.putObj_heap_other (hne i p hi h3)))⟩
  · rw [World.putObj_heap_other (by omega)]
    exact s.keep.block b hb ho
/-- One result of a function. -/
def resRun (ts : Array Value) : ResultVar → Sem Value
  | .tmp t => pure (ts.getD t Go.undef)
  | .cell a t => do loadVar t (← asAddr (ts.getD a Go.undef))
theorem results_eq (fn : Func) (ts : Array Value) : results fn ts = (do let vs ← fn.results.mapM (resRun ts); pure (if h : vs.size = 1 then vs[0] else .tuple vs) : Sem Value) := by
  unfold results
  congr
theorem resV_ok {φ : Phi} {N : Nat} {tm : TM} {h : Hp} {w : World} {ts : Array Value} (ht : TRel φ N tm ts) (hR : RelF φ h.get w) {rv : ResultVar} {a : AV} (ha : resV P N tm h rv = some a) :
    ∃ v, V φ a v ∧ (resRun ts rv).run P w = .ok v w := by
  cases rv with
  | tmp t =>
    cases ha
    exact ⟨_, tmp_ok ht t, rfl⟩
  | cell c t =>
    have hv := tmp_ok ht c
    have ha : AV.onPtr ((cOpd N (.tmp c)).get tm) none (fun i o => match knownB P t, isAggB P t with
      | false, _ => none
      | true, true => @Option.rec _ (fun _ => Option AV) none (fun l => some (.agg l)) (loadN (h.get i) o (szOf P t))
      | true, false => load1 (h.get i) o) = some a := ha
    rcases AV.onPtr_some ha with ⟨i, o, e1, h1⟩ | ⟨_, h1⟩
    · rw [e1] at hv
      obtain ⟨p, hp, hx⟩ := hv
      have hb := hR.any hp
      cases hk : knownB P t with
      | false => rw [hk] at h1; cases h1
      | true =>
        rw [hk] at h1
        have hk := knownB_ok hk
        cases hg : isAggB P t with
        | true =>
          rw [hg] at h1
          obtain ⟨l, h2, h3⟩ := opt_some h1
          cases h3
          obtain ⟨vs, h4, _, _, h7, h8⟩ := loadN_ok (P := P) hb h2
          refine ⟨.agg vs.toArray, ⟨_, rfl, by simpa using h4, h7⟩, ?_⟩
          simp only [resRun, hx, asAddr, loadVar, pure_bind, Sem.run_bind, isAgg_run hk, hg, Result.andThen, if_true, sizeOf_undl hk, h8]
          rfl
        | false =>
          rw [hg] at h1
          obtain ⟨v, h4, _, h8⟩ := load1_ok (P := P) hb h1
          refine ⟨v, h4, ?_⟩
          simp only [resRun, hx, asAddr, loadVar, pure_bind, Sem.run_bind, isAgg_run hk, hg, Result.andThen]
          simp [h8]
    · cases h1
theorem resVs_ok {φ : Phi} {N : Nat} {tm : TM} {h : Hp} {w : World} {ts : Array Value} (ht : TRel φ N tm ts) (hR : RelF φ h.get w) : ∀ {rs : List ResultVar} {as : List AV}, resVs P N tm h rs = some as →
    ∃ vs, VL φ as vs ∧ (rs.mapM (resRun ts)).run P w = .ok vs w
  | [], as, ha => by
    cases ha
    exact ⟨[], VL.nil, rfl⟩
  | rv :: rs, as, ha => by
    have ha : @Option.rec _ (fun _ => Option (List AV)) none (fun v => @Option.rec _ (fun _ => Option (List AV)) none (fun vs => some (v :: vs)) (resVs P N tm h rs)) (resV P N tm h rv) = some as := ha
    obtain ⟨a, h1, h2⟩ := opt_some ha
    obtain ⟨l, h3, h4⟩ := opt_some h2
    cases h4
    obtain ⟨v, h5, h6⟩ := resV_ok ht hR h1
    obtain ⟨vs, h7, h8⟩ := resVs_ok ht hR h3
    refine ⟨v :: vs, VL.cons h5 h7, ?_⟩
    rw [List.mapM_cons, Sem.run_bind, h6]
    simp only [Result.andThen, Sem.run_bind, h8]
    rfl
theorem tupV_ok {φ : Phi} {as : List AV} {vs : List Value} (h : VL φ as vs) : V φ (tupV as) (if h : vs.toArray.size = 1 then vs.toArray[0] else .tuple vs.toArray) := by
  have hl := h.length
  match as, vs, h, hl with
  | [a], [v], h, _ => obtain ⟨_, e, h2⟩ := h.one; cases e; exact h2
  | [], [], h, _ => exact ⟨#[], rfl, h⟩
  | a :: b :: l, v :: u :: r, h, _ =>
    rw [dif_neg (by simp)]
    exact ⟨_, rfl, h⟩
theorem results_ok {φ : Phi} {N : Nat} {tm : TM} {h h' : Hp} {w : World} {ts : Array Value} (ht : TRel φ N tm ts) (hR : RelF φ h.get w) {fn : Func} {r : AV} (hr : resGo P N fn.results.toList tm h = .ok r h') :
    h' = h ∧ ∃ v, V φ r v ∧ (results fn ts).run P w = .ok v w := by
  have hr : @Option.rec _ (fun _ => RC) RC.bad (fun vs => RC.ok (tupV vs) h) (resVs P N tm h fn.results.toList) = .ok r h' := hr
  obtain ⟨as, h1, h2⟩ := optC_ok hr
  cases h2
  obtain ⟨vs, h3, h4⟩ := resVs_ok ht hR h1
  refine ⟨rfl, _, tupV_ok h3, ?_⟩
  rw [results_eq, Array.mapM_eq_mapM_toList, Sem.run_bind]
  have e : (Functor.map List.toArray (fn.results.toList.mapM (resRun ts)) : Sem (Array Value)).run P w = .ok vs.toArray w := by
    rw [← bind_pure_comp, Sem.run_bind, h4]
    rfl
  rw [e]
  rfl
theorem leaves_marks {F : Fence} {n : Nat} {fn : Func} {φ0 φ : Phi} {h0 h : Hp} {w0 : World} {tmps : Array Value} {R : Ending → World → Prop} (hR : ∀ w, Step φ0 h0 w0 φ h w → ∃ v, (results fn tmps).run P w = .ok v w ∧ R (.returned v) w) :
    ∀ (rs : List Nat) (w : World), rs.Nodup → (∀ r ∈ rs, w0.heap.size ≤ r ∧ w.heap[r]? = some (.deferred (some []))) → Step φ0 h0 w0 φ h w →
      LeavesInM F n P fn tmps R (rs.map (fun r => ({ target := .collected r, args := #[] } : Deferred))) .returning w
  | [], w, _, _, s => hR w s
  | r :: rs, w, hn, hm, s => by
    obtain ⟨h1, h2⟩ := hm r (List.mem_cons_self ..)
    rw [List.nodup_cons] at hn
    refine ⟨(by intro e; cases e), .inl ⟨r, _, rfl, run_takeDeferred h2, ?_⟩⟩
    refine leaves_marks hR rs _ hn.2 (fun k hk => ?_) (s.unmark h1 h2)
    obtain ⟨h3, h4⟩ := hm k (List.mem_cons_of_mem _ hk)
    exact ⟨h3, (World.putObj_heap_other (fun (e : k = r) => hn.1 (e ▸ hk))).trans h4⟩
theorem TRel.zero {φ : Phi} {N : Nat} (h : N ≤ 256) : TRel φ N tm0 (Array.replicate N Go.undef) :=
  ⟨by simp, h, fun t ht => by rw [rg_get_tm0]; simp [ht]; exact V.undef⟩
theorem setArgs_ok {φ : Phi} {N : Nat} : ∀ {as : List AV} {vs : List Value} {i : Nat} {tm : TM} {ts : Array Value}, TRel φ N tm ts → VL φ as vs → i + as.length ≤ N → TRel φ N (setArgs i tm as) (ts.toList.take i ++ vs ++ ts.toList.drop (i + vs.length)).toArray
  | [], vs, i, tm, ts, ht, hv, _ => by
    have hv : vs = [] := hv
    subst hv
    show TRel φ N tm _
    simpa using ht
  | a :: as, vs, i, tm, ts, ht, hv, hl => by
    obtain ⟨v, us, rfl, h1, h2⟩ := hv
    rw [List.length_cons] at hl
    have h3 := setArgs_ok (i := i + 1) (ht.put (d := i) (by omega) h1) h2 (by omega)
    have e : ((ts.setIfInBounds i v).toList.take (i + 1) ++ us ++ (ts.setIfInBounds i v).toList.drop (i + 1 + us.length)) = (ts.toList.take i ++ (v :: us) ++ ts.toList.drop (i + (v :: us).length)) := by
      have hi : i < ts.toList.length := by simpa [ht.size] using (show i < N by omega)
      rw [Array.toList_setIfInBounds, List.take_add_one, List.take_set_of_le (Nat.le_refl _), List.drop_set_of_lt (by omega), List.getElem?_set_self hi]
      simp [Nat.add_assoc, Nat.add_comm 1]
    rw [e] at h3
    exact h3
theorem args_ok {φ : Phi} {N : Nat} {as : List AV} {vs : List Value} (h : N ≤ 256) (hv : VL φ as vs) (hl : as.length ≤ N) : TRel φ N (setArgs 0 tm0 as) (vs.toArray ++ Array.replicate (N - vs.toArray.size) Go.undef) := by
  have h1 := setArgs_ok (i := 0) (TRel.zero (φ := φ) h) hv (by omega)
  have hvl := hv.length
  have e : (List.take 0 (Array.replicate N Go.undef).toList ++ vs ++ List.drop (0 + vs.length) (Array.replicate N Go.undef).toList).toArray = vs.toArray ++ Array.replicate (N - vs.toArray.size) Go.undef := by
    apply Array.toList_inj.1
    simp
  rw [e] at h1
  exact h1
theorem resR_inv {N : Nat} {rs : List ResultVar} {x : R} {r : AV} {h' : Hp} (h : resR P N rs x = .ok r h') : ∃ tm h1, (x = .norm tm h1 ∨ x = .ret tm h1) ∧ resGo P N rs tm h1 = .ok r h' := by
  cases x with
  | bad => cases h
  | norm tm h1 => exact ⟨tm, h1, .inl rfl, h⟩
  | ret tm h1 => exact ⟨tm, h1, .inr rfl, h⟩
  | exit i tm h1 => cases h
/-- A function by its body. -/
theorem fn_ok {ck : CK} (hck : CKOk P ck) (hmix : P.follows .mixedOrders = true) {f : Nat} {fn : Func} {c : Code} (hf : P.funcs[f]? = some fn) (hb : fn.body = some c) (hd : allDraw P c = true)
    {φ : Phi} {h h' : Hp} {w : World} {args : List AV} {vs : List Value} {r : AV} (hR : Rel φ h w) (hv : VL φ args vs) (he : (cFn P fn).run ck args h = .ok r h') (n : Nat) :
    CallsIn Fence.wide n P f vs.toArray w (Ret (Res φ h w r h')) := by
  unfold cFn at he
  rw [hb] at he
  dsimp only at he
  cases h256 : Nat.ble fn.ntmps 256 with
  | false => rw [h256] at he; cases he
  | true =>
    rw [h256] at he
    have he : @Bool.rec (fun _ => RC) RC.bad (resR P fn.ntmps fn.results.toList ((cCode P fn.ntmps true [] kEnd c).run ck (setArgs 0 tm0 args) h)) (Nat.ble (len args) fn.ntmps) = .ok r h' := he
    cases hl : Nat.ble (len args) fn.ntmps with
    | false => rw [hl] at he; cases he
    | true =>
      rw [hl] at he
      have hl := nat_ble hl
      rw [len_eq] at hl
      obtain ⟨tm', h1, hx, hres⟩ := resR_inv he
      have hne : (cCode P fn.ntmps true [] kEnd c).run ck (setArgs 0 tm0 args) h ≠ R.bad := by
        intro e
        rw [e] at hx
        rcases hx with hx | hx <;> cases hx
      have ht := args_ok (nat_ble h256) hv hl
      have hat : At fn.ntmps φ h w (setArgs 0 tm0 args) h { tmps := vs.toArray ++ Array.replicate (fn.ntmps - vs.toArray.size) Go.undef, defers := [] } w := ⟨φ, ht, Step.refl hR, [], rfl, List.nodup_nil, fun r hr => by cases hr⟩
      refine callsIn_of_wp_marks (F := Fence.wide) hf hb trivial ?_
      refine wpIn_mono (code_ok (n := n) (ro := none) (rd := true) hck hmix (fun _ => rfl) c (fun _ => hd) [] kEnd _ hne _ _ _ _ hat rfl) fun e a w' hq => ?_
      have fin : ∀ tm2 h2, At fn.ntmps φ h w tm2 h2 a w' → (R.norm tm2 h2 = (cCode P fn.ntmps true [] kEnd c).run ck (setArgs 0 tm0 args) h ∨ R.ret tm2 h2 = (cCode P fn.ntmps true [] kEnd c).run ck (setArgs 0 tm0 args) h) →
          LeavesInM Fence.wide n P fn a.tmps (Ret (Res φ h w r h')) a.defers .returning w' := by
        intro tm2 h2 ha hr2
        have e12 : tm2 = tm' ∧ h2 = h1 := by
          rcases hx with hx | hx <;> rw [hx] at hr2 <;> rcases hr2 with hr2 | hr2 <;> cases hr2 <;> exact ⟨rfl, rfl⟩
        obtain ⟨rfl, rfl⟩ := e12
        obtain ⟨φ2, ht2, hs2, rs, hrs1, hrs2, hrs3⟩ := ha
        rw [hrs1]
        refine leaves_marks (φ0 := φ) (φ := φ2) (h0 := h) (h := h2) (w0 := w) (fun w3 s3 => ?_) rs w' hrs2 hrs3 hs2
        obtain ⟨rfl, v, h3, h4⟩ := results_ok ht2 s3.rel.f hres
        exact ⟨v, h4, φ2, h3, s3⟩
      cases e with
      | normal => obtain ⟨tm2, h2, ha, e⟩ := hq; exact fin tm2 h2 ha (.inl e)
      | ret => obtain ⟨tm2, h2, ha, e⟩ := hq; exact fin tm2 h2 ha (.inr e)
      | exit i =>
        obtain ⟨tm2, h2, ha, e⟩ := hq
        rcases hx with hx | hx <;> rw [hx] at e <;> cases e
      | _ => exact hq.elim

/-! ### a round of a loop over a function -/
theorem setPs_ok {φ : Phi} {N : Nat} : ∀ {ps : List Nat} {as : List AV} {vs : List Value} {tm tm' : TM} {ts : Array Value}, TRel φ N tm ts → VL φ as vs → setPs N tm ps as = some tm' →
    ps.length = vs.length ∧ TRel φ N tm' ((ps.zip vs).foldl (fun tmps (x : Nat × Value) => tmps.setIfInBounds x.1 x.2) ts)
  | [], [], vs, tm, tm', ts, ht, hv, h => by
    have hv : vs = [] := hv
    subst hv
    cases h
    exact ⟨rfl, ht⟩
  | [], _ :: _, _, _, _, _, _, _, h => by cases h
  | _ :: _, [], _, _, _, _, _, _, h => by cases h
  | p :: ps, a :: as, vs, tm, tm', ts, ht, hv, h => by
    obtain ⟨v, us, rfl, h1, h2⟩ := hv
    have h : (match Nat.ble (p + 1) N with | true => setPs N ((rgPut p).put a tm) ps as | false => none) = some tm' := h
    cases hb : Nat.ble (p + 1) N with
    | false => rw [hb] at h; cases h
    | true =>
      rw [hb] at h
      obtain ⟨h3, h4⟩ := setPs_ok (ht.put (nat_ble hb) h1) h2 h
      exact ⟨by rw [List.length_cons, List.length_cons, h3], h4⟩
theorem endRound_ok {φ0 φ : Phi} {h0 h h' : Hp} {w0 w : World} {l : Id} {p : Pl} {jump : Option Code} {r : AV} (s : Step φ0 h0 w0 φ h w) (hp : φ l = some p) (he : endRound l jump h = .ok r h') :
    ∃ v w', (Instr.endRound p.b jump).run P w = .ok v w' ∧ Ret (Res φ0 h0 w0 r h') (.returned v) w' := by
  unfold endRound at he
  split at he
  · rename_i ready n pend t ps a b hl
    cases he
    have hb := s.rel.f.any hp
    rw [hl] at hb
    obtain ⟨L, h1, h2, h3, h4, h5, h6, h7⟩ := hb
    refine ⟨_, _, run_endRound jump h1, φ, rfl, s.trans (Step.put s.rel (by rw [hl]; rfl) hp World.putObj_size (fun k hk => World.putObj_heap_other hk) rfl rfl rfl fun _ => ⟨?_, rfl⟩)⟩
    refine ⟨_, World.putObj_heap_same (Array.getElem?_eq_some_iff.1 h1).1, ?_, rfl, h4, h5, h6, h7⟩
    cases jump <;> rfl
  · cases he
theorem yield_ok {ck : CK} (hck : CKOk P ck) (hmix : P.follows .mixedOrders = true) {φ : Phi} {h h' : Hp} {w : World} {l : Id} {args : List AV} {vs : List Value} {r : AV} {p : Pl} (hR : Rel φ h w) (hv : VL φ args vs) (hp : φ l = some p) (he : yieldRun P ck l args h = .ok r h') :
    ∃ L : Loop, w.heap[p.b]? = some (.loop L) ∧ vs.length = L.params.size ∧
      ∀ n, RoundIn Fence.wide n P p.b L.fn ((L.params.zip vs.toArray).foldl (fun tmps (t, a) => tmps.setIfInBounds t a) L.tmps) L.assign L.body w (Ret (Res φ h w r h')) := by
  unfold yieldRun at he
  split at he
  · rename_i ready N pend t ps asg body hl
    obtain ⟨tm1, h1, he⟩ := optC_ok he
    have hb := hR.f.any hp
    rw [hl] at hb
    obtain ⟨L, h2, h3, h4, h5, h6, rfl, rfl⟩ := hb
    obtain ⟨h7, h8⟩ := setPs_ok h5 hv h1
    rw [← h6] at h7 h8
    refine ⟨L, h2, by rw [← h7]; simp, fun n => ?_⟩
    have hts : (L.params.zip vs.toArray).foldl (fun tmps (t, a) => tmps.setIfInBounds t a) L.tmps = (L.params.toList.zip vs).foldl (fun tmps (x : Nat × Value) => tmps.setIfInBounds x.1 x.2) L.tmps := by
      rw [← Array.foldl_toList, Array.toList_zip]
    rw [hts]
    have hne : (cCode P N false [] kEnd L.assign).run ck tm1 h ≠ R.bad := fun e => by rw [e] at he; cases he
    have hat : At N φ h w tm1 h { tmps := (L.params.toList.zip vs).foldl (fun tmps (x : Nat × Value) => tmps.setIfInBounds x.1 x.2) L.tmps, defers := [] } w := ⟨φ, h8, Step.refl hR, [], rfl, List.nodup_nil, fun r hr => by cases hr⟩
    refine roundIn_of_wpIn (F := Fence.wide) trivial ?_
    refine wpIn_mono (code_ok (n := n) (ro := some p.b) (rd := false) hck hmix (fun h => by cases h) L.assign (fun h => by cases h) [] kEnd _ hne _ _ _ _ hat rfl) fun e a w1 hq => ?_
    cases e with
    | normal =>
      obtain ⟨tm2, h9, ha, e2⟩ := hq
      have e2 : R.norm tm2 h9 = (cCode P N false [] kEnd L.assign).run ck tm1 h := e2
      rw [← e2] at he
      have he : (match h9.get l with
        | .loop true n none t p a' b' =>
          (match (cCode P N false [] kEnd L.body).run ck tm2 (h9.put l (.loop false n none t p a' b')) with
          | .bad => RC.bad
          | .norm _ h => endRound l none h
          | .ret _ h => endRound l (some .ret) h
          | .exit i _ h => endRound l (some (.exit i)) h)
        | _ => RC.bad) = .ok r h' := he
      split at he
      · rename_i n9 t9 p9 a9 b9 hl9
        obtain ⟨φ2, ht2, hs2, hm2⟩ := ha
        have hp2 := hs2.le _ _ hp
        have hb9 := hs2.rel.f.any hp2
        rw [hl9] at hb9
        obtain ⟨L9, g1, g2, g3, g4, g5, g6, g7⟩ := hb9
        have hbr := run_beginRound (P := P) g1 g2
        have s3 : Step φ2 h9 w1 φ2 (h9.put l (.loop false n9 none t9 p9 a9 b9)) (w1.putObj p.b (.loop { L9 with state := .busy })) :=
          Step.put hs2.rel (by rw [hl9]; rfl) hp2 World.putObj_size (fun k hk => World.putObj_heap_other hk) rfl rfl rfl fun _ => ⟨⟨_, World.putObj_heap_same (Array.getElem?_eq_some_iff.1 g1).1, rfl, g3, g4, g5, g6, g7⟩, rfl⟩
        have hat2 : At N φ h w tm2 (h9.put l (.loop false n9 none t9 p9 a9 b9)) a (w1.putObj p.b (.loop { L9 with state := .busy })) := ⟨φ2, ht2, hs2.trans s3, hm2.step hs2.rel.f s3⟩
        refine ⟨_, hbr, ?_⟩
        generalize hx : (cCode P N false [] kEnd L.body).run ck tm2 (h9.put l (.loop false n9 none t9 p9 a9 b9)) = x at he
        have hne2 : x ≠ R.bad := fun e => by rw [e] at he; cases he
        refine wpIn_mono (code_ok (n := n) (ro := some p.b) (rd := false) hck hmix (fun h => by cases h) L.body (fun h => by cases h) [] kEnd _ hne2 _ _ _ _ hat2 hx) fun e a w3 hq => ?_
        cases e with
        | normal =>
          obtain ⟨tm4, h10, ⟨φ4, _, hs4, _⟩, e4⟩ := hq
          have e4 : R.norm tm4 h10 = x := e4
          subst e4
          exact endRound_ok hs4 (hs4.le _ _ hp) he
        | ret =>
          obtain ⟨tm4, h10, ⟨φ4, _, hs4, _⟩, e4⟩ := hq
          subst e4
          exact endRound_ok hs4 (hs4.le _ _ hp) he
        | exit i =>
          obtain ⟨tm4, h10, ⟨φ4, _, hs4, _⟩, e4⟩ := hq
          have e4 : R.exit i tm4 h10 = x := e4
          subst e4
          exact endRound_ok hs4 (hs4.le _ _ hp) he
        | _ => exact hq.elim
      · cases he
    | ret =>
      obtain ⟨tm2, h9, ha, e2⟩ := hq
      rw [← e2] at he
      cases he
    | exit i =>
      obtain ⟨tm2, h9, ha, e2⟩ := hq
      have e2 : R.exit i tm2 h9 = (cCode P N false [] kEnd L.assign).run ck tm1 h := e2
      rw [← e2] at he
      cases he
    | _ => exact hq.elim
  · cases he

/-! ### the executor's calls -/
def PrimOk (P : Program) (prim : Nat → Prim) : Prop :=
  ∀ f p, (prim f).run = some p → ∀ ck, CKOk P ck → ∀ (φ : Phi) (h : Hp) (w : World) (args : List AV) (vs : List Value) (r : AV) (h' : Hp), Rel φ h w → VL φ args vs → p ck args h = .ok r h' → Inv P f vs.toArray w (Res φ h w r h')
/-- The functions of U: their drawn regions were looked at. -/
def UOk (P : Program) (U : Nat) : Prop := ∀ f fn c, bit U f = true → P.funcs[f]? = some fn → fn.body = some c → allDraw P c = true ∧ (fn.name == "runtime.NumGoroutine") = false
theorem callAt_succ (U : Nat) (prim : Nat → Prim) (n : Nat) : callAt P U prim (n + 1) = ⟨fun f args h => match (prim f).run with
      | some p => p (callAt P U prim n) args h
      | none => (cFunc P U f).run (callAt P U prim n) args h, fun l args h => yieldRun P (callAt P U prim n) l args h⟩ := rfl
theorem run_callFunc {f : Nat} {fn : Func} {c : Code} {vs : Array Value} {w : World} (hf : P.funcs[f]? = some fn) (hb : fn.body = some c) (hn : (fn.name == "runtime.NumGoroutine") = false) : (callFunc f vs).run P w = .ok (.enter f vs) w := by
  unfold callFunc
  rw [Sem.run_bind]
  show Sem.run P (match P.funcs[f]? with | none => _ | some fn => _) w = _
  rw [hf]
  simp [hn, hb]
theorem callAt_ok {U : Nat} {prim : Nat → Prim} (hU : UOk P U) (hp : PrimOk P prim) (hmix : P.follows .mixedOrders = true) : ∀ n, CKOk P (callAt P U prim n)
  | 0 => ⟨(fun φ h w f args vs r h' _ _ he => by cases he), fun φ h w l args vs r h' p _ _ _ he => by cases he⟩
  | n + 1 => by
    have ih := callAt_ok hU hp hmix n
    rw [callAt_succ]
    refine ⟨fun φ h w f args vs r h' hR hv he => ?_, fun φ h w l args vs r h' p hR hv hpl he => yield_ok ih hmix hR hv hpl he⟩
    dsimp only at he
    cases hpr : (prim f).run with
    | some p => rw [hpr] at he; exact hp f p hpr _ ih φ h w args vs r h' hR hv he
    | none =>
      rw [hpr] at he
      dsimp only at he
      unfold cFunc at he
      cases hbit : bit U f with
      | false => rw [hbit] at he; cases he
      | true =>
        rw [hbit] at he
        cases hfn : lnth P.funcs.toList f with
        | none => rw [hfn] at he; cases he
        | some fn =>
          rw [hfn] at he
          have hf : P.funcs[f]? = some fn := by rw [← Array.getElem?_toList, ← lnth_eq]; exact hfn
          cases hb : fn.body with
          | none =>
            have he : (cFn P fn).run (callAt P U prim n) args h = .ok r h' := he
            unfold cFn at he
            rw [hb] at he
            cases he
          | some c =>
            obtain ⟨h1, h2⟩ := hU f fn c hbit hf hb
            exact .inl ⟨run_callFunc hf hb h2, fun n => fn_ok ih hmix hf hb h1 hR hv he n⟩
end Go.Ax
