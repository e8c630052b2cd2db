/- Regions that draw their order and whose callees make memory and hand back values that differ from world to world: one walk in the order of the text serves every order. Of each callee a property of its value and of the world behind it is given ahead of the walk; what is known of a value is known wherever that value is looked at. -/
import Derived.Lib.QuietBelow
import Derived.BigQuiet
namespace Go.Proofs.Ytcacgbdnegmfnaa.Kr
open Go Go.RowKit

abbrev Facts := Tmp → (World → Prop) → Prop
abbrev Spec := Value → World → Prop
/-- The property, in every later world. -/
def clo (S : Spec) (v : Value) (W : World) : Prop := ∃ W0, S v W0 ∧ Below W0.heap.size W0 W
def addG (d : Option Tmp) (p : World → Prop) (G : Facts) : Facts := fun t q => (d = some t ∧ q = p) ∨ G t q
def Holds (G : Facts) (W : World) : Prop := ∀ t q, G t q → q W
def knows (ops : Array Oper) (o : Oper) (G : Facts) (W : World) : Prop := ∀ t q, G t q → t ∈ o.looksAt ops → q W
def Cons (C : World → Prop) (G : Facts) : Prop := ∃ W, C W ∧ Holds G W
def MonoP (q : World → Prop) : Prop := ∀ W W', q W → Below W.heap.size W W' → q W'
def MonoG (G : Facts) : Prop := ∀ t q, G t q → MonoP q

def upPure (w : World) (v : Value) : Result Next → Prop
  | .ok (.value u) w' => w' = w ∧ u = v
  | .ok .skip w' => w' = w ∧ v = undef
  | _ => False
def upMany (P : Program) (S : Spec) (w : World) : Result Next → Prop
  | .ok (.value u) w' => S u w' ∧ Below w.heap.size w w'
  | .ok (.enter f args) w' => w' = w ∧ Calls P f args w fun e w'' => ∃ v, e = .returned v ∧ S v w'' ∧ Below w.heap.size w w''
  | _ => False

section
variable (P : Program) (ops : Array Oper) (C : World → Prop) (spec : Nat → Option Spec)
def Ob (i : Nat) (o : Oper) (a : Act) (G : Facts) : Prop :=
  Region.wanted o (yielded ops a.tmps) = true → match spec i with
    | none => ∃ v, ∀ W, C W → knows ops o G W → upPure W v ((execOp a.eval o).run P W)
    | some S => ∀ W, C W → knows ops o G W → upMany P S W ((execOp a.eval o).run P W)
def Yl (i : Nat) (o : Oper) (a : Act) (G : Facts) (v : Value) (p : World → Prop) : Prop :=
  if Region.wanted o (yielded ops a.tmps) = true then match spec i with
    | none => (∀ W, C W → knows ops o G W → upPure W v ((execOp a.eval o).run P W)) ∧ p = knows ops o G
    | some S => p = clo S v
  else v = undef ∧ p = fun _ => True
def opK (i : Nat) (K : Act → Facts → Prop) (a : Act) (G : Facts) : Prop :=
  match ops[i]? with
  | none => K a G
  | some o => Ob P ops C spec i o a G ∧ ∀ v p, Yl P ops C spec i o a G v p → Cons C (addG o.dst p G) → K (a.put o.dst v) (addG o.dst p G)
def wpAnyK (md : Region.Mode) (Q : Act → Facts → Prop) : Nat → Array Bool → Act → Facts → Prop
  | 0, listed, a, G => Region.ready md ops listed = [] ∧ Q a G
  | fuel + 1, listed, a, G =>
    (Region.ready md ops listed = [] → Q a G) ∧
    ∀ i ∈ Region.ready md ops listed, opK P ops C spec i (wpAnyK md Q fuel (listed.setIfInBounds i true)) a G
/-- The walk in the order of the text. -/
def wpK (Q : Act → Facts → Prop) : List Oper → Nat → Act → Facts → Prop
  | [], _, a, G => Q a G
  | o :: rest, k, a, G => Ob P ops C spec k o a G ∧ ∀ v p, Yl P ops C spec k o a G v p → Cons C (addG o.dst p G) → wpK Q rest (k + 1) (a.put o.dst v) (addG o.dst p G)
end

section
variable {P : Program} {ops : Array Oper} {C : World → Prop} {spec : Nat → Option Spec} {md : Region.Mode}
theorem below_trans {W0 W W' : World} (h : Below W0.heap.size W0 W) (h' : Below W.heap.size W W') : Below W0.heap.size W0 W' := h.trans (h'.mono h.size)
theorem clo_mono (S : Spec) (v : Value) : MonoP (clo S v) := fun _ _ ⟨W0, h, hb⟩ hb' => ⟨W0, h, below_trans hb hb'⟩
theorem clo_of {S : Spec} {v : Value} {W : World} (h : S v W) : clo S v W := ⟨W, h, Below.refl _ _⟩
theorem knows_of_holds {o : Oper} {G : Facts} {W : World} (h : Holds G W) : knows ops o G W := fun t q hq _ => h t q hq
theorem knows_mono {o : Oper} {G : Facts} (h : MonoG G) : MonoP (knows ops o G) := fun W W' hk hb t q hq ht => h t q hq W W' (hk t q hq ht) hb
theorem monoG_add {d : Option Tmp} {p : World → Prop} {G : Facts} (h : MonoG G) (hp : MonoP p) : MonoG (addG d p G) := by
  rintro t q (⟨_, rfl⟩ | hq)
  · exact hp
  · exact h t q hq
theorem holds_add {d : Option Tmp} {p : World → Prop} {G : Facts} {W : World} (h : Holds G W) (hp : p W) : Holds (addG d p G) W := by
  rintro t q (⟨_, rfl⟩ | hq)
  · exact hp
  · exact h t q hq
theorem holds_mono {G : Facts} {W W' : World} (hm : MonoG G) (h : Holds G W) (hb : Below W.heap.size W W') : Holds G W' := fun t q hq => hm t q hq W W' (h t q hq) hb
theorem addG_comm (d e : Option Tmp) (p q : World → Prop) (G : Facts) : addG d p (addG e q G) = addG e q (addG d p G) := by
  funext t r
  unfold addG
  exact propext ⟨fun h => by rcases h with h | h | h <;> simp [h], fun h => by rcases h with h | h | h <;> simp [h]⟩
theorem cons_sub {G G' : Facts} (hs : ∀ t q, G t q → G' t q) (h : Cons C G') : Cons C G := let ⟨W, hC, hH⟩ := h; ⟨W, hC, fun t q hq => hH t q (hs t q hq)⟩
theorem knows_add {o : Oper} {d : Option Tmp} (h : ∀ t, d = some t → t ∉ o.looksAt ops) (p : World → Prop) (G : Facts) : knows ops o (addG d p G) = knows ops o G := by
  funext W
  refine propext ⟨fun hk t q hq ht => hk t q (.inr hq) ht, fun hk t q hq ht => ?_⟩
  rcases hq with ⟨hd, _⟩ | hq
  · exact absurd ht (h t hd)
  · exact hk t q hq ht
theorem Ob_put {i : Nat} {o : Oper} (hs : ∀ cs b, o.op ≠ .select cs b) {d : Option Tmp} (h : ∀ t, d = some t → t ∉ o.looksAt ops) (a : Act) (u : Value) (p : World → Prop) (G : Facts) :
    Ob P ops C spec i o (a.put d u) (addG d p G) = Ob P ops C spec i o a G := by
  unfold Ob
  rw [wanted_put o a d u h, execOp_put o hs a d u h, knows_add h]
theorem Yl_put {i : Nat} {o : Oper} (hs : ∀ cs b, o.op ≠ .select cs b) {d : Option Tmp} (h : ∀ t, d = some t → t ∉ o.looksAt ops) (a : Act) (u : Value) (p : World → Prop) (G : Facts) :
    Yl P ops C spec i o (a.put d u) (addG d p G) = Yl P ops C spec i o a G := by
  funext v q
  unfold Yl
  rw [wanted_put o a d u h, execOp_put o hs a d u h, knows_add h]
theorem calls_some {f : FuncId} {args : Array Value} {w : World} {R : Ending → World → Prop} (h : Calls P f args w R) : ∃ e w', R e w' := let ⟨e, w', _, r, _⟩ := h []; ⟨e, w', r⟩
theorem opK_mono {i : Nat} {a : Act} {G : Facts} {K K' : Act → Facts → Prop} (h : ∀ a G, K a G → K' a G) (hh : opK P ops C spec i K a G) : opK P ops C spec i K' a G := by
  unfold opK at *
  split
  · rename_i ho; simp only [ho] at hh; exact h _ _ hh
  · rename_i o ho; simp only [ho] at hh; exact ⟨hh.1, fun v p hy hc => h _ _ (hh.2 v p hy hc)⟩
theorem Yl_pure {i : Nat} {o : Oper} {a : Act} {G : Facts} (hw : Region.wanted o (yielded ops a.tmps) = true) (hs : spec i = none) {v : Value} (hv : ∀ W, C W → knows ops o G W → upPure W v ((execOp a.eval o).run P W)) : Yl P ops C spec i o a G v (knows ops o G) := by
  unfold Yl; rw [if_pos hw, hs]; exact ⟨hv, rfl⟩
theorem Yl_many {i : Nat} {o : Oper} {a : Act} {G : Facts} (hw : Region.wanted o (yielded ops a.tmps) = true) {S : Spec} (hs : spec i = some S) (v : Value) : Yl P ops C spec i o a G v (clo S v) := by
  unfold Yl; rw [if_pos hw, hs]
theorem Yl_not {i : Nat} {o : Oper} {a : Act} {G : Facts} (hw : ¬ Region.wanted o (yielded ops a.tmps) = true) : Yl P ops C spec i o a G undef (fun _ => True) := by
  unfold Yl; rw [if_neg hw]; exact ⟨rfl, rfl⟩
theorem Yl_mono {i : Nat} {o : Oper} {a : Act} {G : Facts} (hm : MonoG G) {v : Value} {p : World → Prop} (h : Yl P ops C spec i o a G v p) : MonoP p := by
  unfold Yl at h
  split at h
  · cases hs : spec i with
    | none => rw [hs] at h; rw [h.2]; exact knows_mono hm
    | some S => rw [hs] at h; rw [show p = clo S v from h]; exact clo_mono S v
  · rw [h.2]; exact fun _ _ _ _ => trivial
theorem opK_mono' {i : Nat} {a : Act} {G : Facts} (hm : MonoG G) (hc : Cons C G) {K K' : Act → Facts → Prop} (h : ∀ a G, MonoG G → Cons C G → K a G → K' a G) (hh : opK P ops C spec i K a G) : opK P ops C spec i K' a G := by
  unfold opK at *
  split
  · rename_i ho; simp only [ho] at hh; exact h _ _ hm hc hh
  · rename_i o ho; simp only [ho] at hh; exact ⟨hh.1, fun v p hy hc' => h _ _ (monoG_add hm (Yl_mono hm hy)) hc' (hh.2 v p hy hc')⟩
variable (hCup : ∀ W W', C W → Below W.heap.size W W' → C W')
include hCup
/-- There is a value. -/
theorem Yl_some {i : Nat} {o : Oper} {a : Act} {G : Facts} (hm : MonoG G) (hc : Cons C G) (hob : Ob P ops C spec i o a G) : ∃ v p, Yl P ops C spec i o a G v p ∧ MonoP p ∧ Cons C (addG o.dst p G) := by
  obtain ⟨W, hW, hH⟩ := hc
  unfold Ob at hob
  by_cases hw : Region.wanted o (yielded ops a.tmps) = true
  · have h := hob hw
    cases hs : spec i with
    | none =>
      rw [hs] at h
      obtain ⟨v, hv⟩ := h
      exact ⟨v, _, Yl_pure hw hs hv, knows_mono hm, W, hW, holds_add hH (knows_of_holds hH)⟩
    | some S =>
      rw [hs] at h
      have h1 := h W hW (knows_of_holds hH)
      generalize (execOp a.eval o).run P W = r at h1
      cases r with
      | halt x w' => exact h1.elim
      | ok n w' =>
        cases n <;> try exact h1.elim
        case value u => exact ⟨u, _, Yl_many hw hs u, clo_mono S u, w', hCup _ _ hW h1.2, holds_add (holds_mono hm hH h1.2) (clo_of h1.1)⟩
        case enter f args =>
          obtain ⟨rfl, h2⟩ := h1
          obtain ⟨e, w2, v, _, h3, h4⟩ := calls_some h2
          exact ⟨v, _, Yl_many hw hs v, clo_mono S v, w2, hCup _ _ hW h4, holds_add (holds_mono hm hH h4) (clo_of h3)⟩
  · exact ⟨undef, _, Yl_not hw, fun _ _ _ _ => trivial, W, hW, holds_add hH trivial⟩
/-- Two operations that are apart, the other way round. -/
theorem opK_swap {i j : Nat} {oi oj : Oper} (hi : ops[i]? = some oi) (hj : ops[j]? = some oj) (hap : oi.apart ops oj = true) (hsi : ∀ cs b, oi.op ≠ .select cs b) (hsj : ∀ cs b, oj.op ≠ .select cs b)
    {K : Act → Facts → Prop} {a : Act} {G : Facts} (hm : MonoG G) (hc : Cons C G)
    (h : opK P ops C spec i (fun a' G' => opK P ops C spec j K a' G') a G) : opK P ops C spec j (fun a' G' => opK P ops C spec i K a' G') a G := by
  obtain ⟨h1, h2, h3⟩ := Oper.apart_spec hap
  unfold opK at *
  simp only [hi, hj] at *
  obtain ⟨ho, hk⟩ := h
  refine ⟨?_, fun u q hu hcu => ⟨?_, fun v p hv hcv => ?_⟩⟩
  · obtain ⟨v, p, hv, _, hcv⟩ := Yl_some hCup hm hc ho
    have := (hk v p hv hcv).1
    rwa [Ob_put hsj h1] at this
  · rw [Ob_put hsi h3]; exact ho
  · rw [Yl_put hsi h3] at hv
    have hc1 : Cons C (addG oi.dst p G) := cons_sub (fun t r hr => by rcases hr with hr | hr; exact .inl hr; exact .inr (.inr hr)) hcv
    have h4 := (hk v p hv hc1).2 u q (by rw [Yl_put hsj h1]; exact hu) (by rw [addG_comm]; exact hcv)
    rw [addG_comm, Act.put_comm a v u h2] at h4
    exact h4
theorem opK_some {i : Nat} {K : Act → Facts → Prop} {a : Act} {G : Facts} (hm : MonoG G) (hc : Cons C G) (h : opK P ops C spec i K a G) : ∃ a' G', K a' G' := by
  unfold opK at h
  split at h
  · exact ⟨_, _, h⟩
  · obtain ⟨v, p, hv, _, hcv⟩ := Yl_some hCup hm hc h.1
    exact ⟨_, _, h.2 v p hv hcv⟩
theorem wpAnyK_first {Q : Act → Facts → Prop} {i : Nat} {oi : Oper} (hi : ops[i]? = some oi) (hsel : ∀ (j : Nat) (o : Oper) cs b, ops[j]? = some o → o.op ≠ .select cs b) :
    ∀ (fuel : Nat) (listed : Array Bool) (a : Act) (G : Facts), MonoG G → Cons C G →
      (∀ j oj, ops[j]? = some oj → j ≠ i → listed.getD j true = false → (∀ e ∈ oj.after, Region.binds md e = true → e.on ≠ i) → oi.apart ops oj = true) →
      i ∈ Region.ready md ops listed → opK P ops C spec i (wpAnyK P ops C spec md Q fuel (listed.setIfInBounds i true)) a G → wpAnyK P ops C spec md Q (fuel + 1) listed a G := by
  intro fuel
  induction fuel with
  | zero =>
    intro listed a G hm hc _ hr H
    refine ⟨fun h => (by rw [h] at hr; cases hr), fun j hj => ?_⟩
    by_cases hji : j = i
    · subst hji; exact H
    · obtain ⟨a', G', h⟩ := opK_some hCup hm hc H
      have := ready_mono hj hji
      rw [h.1] at this
      cases this
  | succ fuel ih =>
    intro listed a G hm hc hfree hr H
    refine ⟨fun h => (by rw [h] at hr; cases hr), fun j hj => ?_⟩
    by_cases hji : j = i
    · subst hji; exact H
    · have h1 : opK P ops C spec i (fun a' G' => opK P ops C spec j (wpAnyK P ops C spec md Q fuel ((listed.setIfInBounds i true).setIfInBounds j true)) a' G') a G := opK_mono (fun a' G' h => h.2 j (ready_mono hj hji)) H
      obtain ⟨hjun, oj, hoj, hall⟩ := mem_ready.1 hj
      have hnot : ∀ e ∈ oj.after, Region.binds md e = true → e.on ≠ i := fun e he hb heq => by
        have h1 := hall e he hb
        have h0 := (mem_ready.1 hr).1
        rw [heq] at h1
        rcases Nat.lt_or_ge i listed.size with h' | h'
        · simp [h'] at h0 h1; rw [h0] at h1; cases h1
        · simp [Array.getElem?_eq_none h'] at h1
      have h2 := opK_swap hCup hi hoj (hfree j oj hoj hji hjun hnot) (fun cs b => hsel i oi cs b hi) (fun cs b => hsel j oj cs b hoj) hm hc h1
      have hfree' : ∀ k ok, ops[k]? = some ok → k ≠ i → (listed.setIfInBounds j true).getD k true = false →
          (∀ e ∈ ok.after, Region.binds md e = true → e.on ≠ i) → oi.apart ops ok = true := fun k ok hk hki hun hno => by
        refine hfree k ok hk hki ?_ hno
        by_cases hjk : j = k
        · subst hjk; exact hjun
        · rw [getD_set_ne true hjk] at hun; exact hun
      refine opK_mono' hm hc (fun a' G' hm' hc' h3 => ih (listed.setIfInBounds j true) a' G' hm' hc' hfree' (ready_mono hr (Ne.symm hji)) ?_) h2
      rw [Array.setIfInBounds_comm _ _ hji]
      exact h3
theorem wpAnyK_lex {Q : Act → Facts → Prop} (hs : Region.noSelect ops = true) : ∀ (l : List Oper) (k : Nat) (listed : Array Bool) (a : Act) (G : Facts), MonoG G → Cons C G → (∀ j, l[j]? = ops[k + j]?) →
    Region.lexFrom md ops l.length k listed = true → wpK P ops C spec Q l k a G → wpAnyK P ops C spec md Q l.length listed a G
  | [], _, _, _, _, _, _, _, hB, h => ⟨by simpa [Region.lexFrom] using hB, h⟩
  | o :: l, k, listed, a, G, hm, hc, hl, hB, h => by
    have h0 : ops[k]? = some o := by simpa using (hl 0).symm
    simp only [List.length_cons, Region.lexFrom, Bool.and_eq_true] at hB
    obtain ⟨⟨hr, hf⟩, hB'⟩ := hB
    refine wpAnyK_first hCup h0 (Region.noSelect_spec hs) l.length listed a G hm hc (Region.free_spec h0 hf) (by simpa using hr) ?_
    unfold opK
    simp only [h0]
    exact ⟨h.1, fun v p hy hc' => wpAnyK_lex hs l (k + 1) _ _ _ (monoG_add hm (Yl_mono hm hy)) hc' (fun j => by have := hl (j + 1); simpa [Nat.add_assoc, Nat.add_comm 1 j] using this) hB' (h.2 v p hy hc')⟩
theorem wpOp_of_opK {i : Nat} {a : Act} {G : Facts} {K : Act → Facts → Prop} {K' : Act → World → Prop} {Q' : Exit → Act → World → Prop} {w : World} (hm : MonoG G) (hC : C w) (hH : Holds G w)
    (h : ∀ a G w, MonoG G → C w → Holds G w → K a G → K' a w) (hh : opK P ops C spec i K a G) : wpOp P ops Q' i K' a w := by
  unfold opK at hh
  unfold wpOp
  split
  · rename_i ho; simp only [ho] at hh; exact h _ _ _ hm hC hH hh
  · rename_i o ho
    simp only [ho] at hh
    obtain ⟨h1, h2⟩ := hh
    unfold Ob at h1
    split
    · rename_i hw
      refine .inl ?_
      have h1 := h1 hw
      cases hs : spec i with
      | none =>
        rw [hs] at h1
        obtain ⟨v, hv⟩ := h1
        have hy : Yl P ops C spec i o a G v (knows ops o G) := Yl_pure hw hs hv
        have h3 := h2 v _ hy ⟨w, hC, holds_add hH (knows_of_holds hH)⟩
        have h4 := hv w hC (knows_of_holds hH)
        unfold Oper.wp
        generalize (execOp a.eval o).run P w = r at *
        cases r with
        | halt x w' => exact h4.elim
        | ok n w' =>
          cases n <;> try exact h4.elim
          case value u => obtain ⟨rfl, rfl⟩ := h4; exact h _ _ _ (monoG_add hm (knows_mono hm)) hC (holds_add hH (knows_of_holds hH)) h3
          case skip => obtain ⟨rfl, rfl⟩ := h4; exact h _ _ _ (monoG_add hm (knows_mono hm)) hC (holds_add hH (knows_of_holds hH)) h3
      | some S =>
        rw [hs] at h1
        have hy : ∀ v, Yl P ops C spec i o a G v (clo S v) := fun v => Yl_many hw hs v
        have h4 := h1 w hC (knows_of_holds hH)
        unfold Oper.wp
        generalize (execOp a.eval o).run P w = r at *
        cases r with
        | halt x w' => exact h4.elim
        | ok n w' =>
          cases n <;> try exact h4.elim
          case value u =>
            have h5 := holds_add (d := o.dst) (holds_mono hm hH h4.2) (clo_of h4.1)
            have h6 := hCup _ _ hC h4.2
            exact h _ _ _ (monoG_add hm (clo_mono S u)) h6 h5 (h2 u _ (hy u) ⟨w', h6, h5⟩)
          case enter f args =>
            obtain ⟨rfl, h7⟩ := h4
            refine Calls.mono h7 ?_
            rintro e w'' ⟨v, rfl, h8, h9⟩
            have h5 := holds_add (d := o.dst) (holds_mono hm hH h9) (clo_of h8)
            have h6 := hCup _ _ hC h9
            exact h _ _ _ (monoG_add hm (clo_mono S v)) h6 h5 (h2 v _ (hy v) ⟨w'', h6, h5⟩)
    · rename_i hw
      have hy : Yl P ops C spec i o a G undef (fun _ => True) := Yl_not hw
      exact h _ _ _ (monoG_add hm fun _ _ _ _ => trivial) hC (holds_add hH trivial) (h2 _ _ hy ⟨w, hC, holds_add hH trivial⟩)
theorem wpAny_of_K {Q : Act → Facts → Prop} {Q' : Exit → Act → World → Prop} (hQ : ∀ a G w, C w → Holds G w → Q a G → Q' .normal a w) : ∀ (fuel : Nat) (listed : Array Bool) (a : Act) (G : Facts) (w : World), MonoG G → C w → Holds G w →
    wpAnyK P ops C spec md Q fuel listed a G → wpAny P md ops Q' fuel listed a w
  | 0, _, _, _, _, _, hw, hH, h => ⟨h.1, hQ _ _ _ hw hH h.2⟩
  | fuel + 1, _, _, _, _, hm, hw, hH, h => ⟨fun h0 => hQ _ _ _ hw hH (h.1 h0), fun i hi => wpOp_of_opK hCup hm hw hH (fun a' G' w' hm' hw' hH' => wpAny_of_K hQ fuel _ a' G' w' hm' hw' hH') (h.2 i hi)⟩
omit hCup
def noFacts : Facts := fun _ _ => False
/-- The worlds that w may become. -/
def later (w : World) : World → Prop := fun w' => ∃ p : Regrown, w' = Go.Sort.grow (redrawn w p.d) p.os
theorem later_iff {w w' : World} : later w w' ↔ Below w.heap.size w w' := ⟨fun ⟨p, h⟩ => h ▸ below_regrown w p.d p.os, regrown_of_below⟩
/-- One walk in the order of the text. -/
theorem wp_region_K {id : Nat} {Q : Exit → Act → World → Prop} {a : Act} {w : World} {l : List Oper} (spec : Nat → Option Spec) (hm : P.follows .mixedOrders = true) (hB : Region.lexB .any l.toArray = true)
    (h : wpK P l.toArray (later w) spec (fun a' G => ∀ w', Below w.heap.size w w' → Holds G w' → Q .normal a' w') l 0 a noFacts) : (Code.region id l.toArray true).wp P Q a w := by
  simp only [Region.lexB, Bool.and_eq_true] at hB
  have hup : ∀ W W', later w W → Below W.heap.size W W' → later w W' := fun W W' h1 h2 => later_iff.2 (below_trans (later_iff.1 h1) h2)
  have h0 : later w { w with drawn := w.drawn + 1 } := ⟨⟨w.drawn + 1, #[]⟩, by rw [Go.Sort.grow_empty]; rfl⟩
  have hN : MonoG noFacts := fun _ _ h => h.elim
  have hH : Holds noFacts { w with drawn := w.drawn + 1 } := fun _ _ h => h.elim
  refine wp_region_any hm (wpAny_of_K (spec := spec) hup (Q := fun a' G => ∀ w', Below w.heap.size w w' → Holds G w' → Q .normal a' w') (fun _ _ w' hw' hG hq => hq w' (later_iff.1 hw') hG) _ _ _ noFacts _ hN h0 hH ?_)
  have := wpAnyK_lex (md := .any) (C := later w) (spec := spec) hup hB.1 l 0 (Array.replicate l.toArray.size false) a noFacts hN ⟨_, h0, hH⟩ (by simp) (by simpa using hB.2) h
  simpa using this
/-! ### The steps of the walk -/
def Le (G G' : Facts) : Prop := ∀ t q, G t q → ∃ q', G' t q' ∧ ∀ W, q' W → q W
theorem Le.refl (G : Facts) : Le G G := fun _ q h => ⟨q, h, fun _ h => h⟩
theorem Le.add_right {G G' : Facts} (h : Le G G') (d : Option Tmp) (p : World → Prop) : Le G (addG d p G') := fun t q hq => let ⟨q', h1, h2⟩ := h t q hq; ⟨q', .inr h1, h2⟩
theorem Le.add {G G' : Facts} (h : Le G G') (d : Option Tmp) {p p' : World → Prop} (hp : ∀ W, p' W → p W) : Le (addG d p G) (addG d p' G') := by
  rintro t q (⟨hd, rfl⟩ | hq)
  · exact ⟨p', .inl ⟨hd, rfl⟩, hp⟩
  · obtain ⟨q', h1, h2⟩ := h t q hq; exact ⟨q', .inr h1, h2⟩
theorem Le.holds {G G' : Facts} (h : Le G G') {W : World} (hH : Holds G' W) : Holds G W := fun t q hq => let ⟨_, h1, h2⟩ := h t q hq; h2 _ (hH t _ h1)
theorem Le.knows {G G' : Facts} (h : Le G G') {o : Oper} {W : World} (hk : knows ops o G' W) : knows ops o G W := fun t q hq ht => let ⟨_, h1, h2⟩ := h t q hq; h2 _ (hk t _ h1 ht)
theorem Le.cons {G G' : Facts} (h : Le G G') (hc : Cons C G') : Cons C G := let ⟨W, hC, hH⟩ := hc; ⟨W, hC, h.holds hH⟩
theorem upPure_unique {w : World} {v u : Value} {r : Result Next} (h : upPure w v r) (h' : upPure w u r) : v = u := by
  cases r with
  | halt x w' => exact h.elim
  | ok n w' =>
    cases n <;> try exact h.elim
    case value x => exact h.2.symm.trans h'.2
    case skip => exact h.2.trans h'.2.symm
theorem wpK_weaken {Q : Act → Facts → Prop} (hQ : ∀ a G G', Le G G' → Q a G → Q a G') : ∀ (l : List Oper) (k : Nat) (a : Act) (G G' : Facts), Le G G' → wpK P ops C spec Q l k a G → wpK P ops C spec Q l k a G'
  | [], _, _, _, _, hl, h => hQ _ _ _ hl h
  | o :: l, k, a, G, G', hl, h => by
    obtain ⟨h1, h2⟩ := h
    unfold Ob at h1
    refine ⟨?_, fun v p hy hc => ?_⟩
    · intro hw
      have h3 := h1 hw
      cases hs : spec k with
      | none => rw [hs] at h3; exact let ⟨v, hv⟩ := h3; ⟨v, fun W hC hk => hv W hC (hl.knows hk)⟩
      | some S => rw [hs] at h3; exact fun W hC hk => h3 W hC (hl.knows hk)
    · by_cases hw : Region.wanted o (yielded ops a.tmps) = true
      · have h3 := h1 hw
        unfold Yl at hy
        rw [if_pos hw] at hy
        cases hs : spec k with
        | none =>
          rw [hs] at h3 hy
          obtain ⟨v0, hv0⟩ := h3
          obtain ⟨hv, rfl⟩ := hy
          obtain ⟨W, hC, hH⟩ := hc
          have hk' : knows ops o G' W := fun t q hq _ => hH t q (.inr hq)
          obtain rfl := upPure_unique (hv W hC hk') (hv0 W hC (hl.knows hk'))
          have hle := hl.add o.dst (p := knows ops o G) (p' := knows ops o G') fun _ h => hl.knows h
          exact wpK_weaken hQ l (k + 1) _ _ _ hle (h2 v _ (Yl_pure hw hs hv0) (hle.cons ⟨W, hC, hH⟩))
        | some S =>
          rw [hs] at hy
          obtain rfl : p = clo S v := hy
          have hle := hl.add o.dst (p := clo S v) (p' := clo S v) fun _ h => h
          exact wpK_weaken hQ l (k + 1) _ _ _ hle (h2 v _ (Yl_many hw hs v) (hle.cons hc))
      · unfold Yl at hy
        rw [if_neg hw] at hy
        obtain ⟨rfl, rfl⟩ := hy
        have hle := hl.add o.dst (p := fun _ => True) (p' := fun _ => True) fun _ h => h
        exact wpK_weaken hQ l (k + 1) _ _ _ hle (h2 _ _ (Yl_not hw) (hle.cons hc))
/-- Operations that are no calls of a Go function. -/
def plain (o : Oper) : Bool := match o.op with
  | .move _ | .assign _ | .load _ _ | .binOp _ _ _ _ _ | .unOp _ _ _ | .convert _ _ _ | .slice _ _ _ _ _ | .fieldAddr _ _ _ | .field _ _ _ | .indexAddr _ _ _ | .index _ _ _ | .extract _ _ | .build _ _ | .pick _ _ _ => true
  | .call c => match c.callee with | .builtin .len | .builtin .cap | .builtin .min | .builtin .max => true | _ => false
  | _ => false
theorem no_enter_v {s : Sem Value} {w w' : World} {f : FuncId} {args : Array Value} : ¬ (do pure (Next.value (← s)) : Sem Next).run P w = .ok (.enter f args) w' := by
  intro h
  have e : (do pure (Next.value (← s)) : Sem Next).run P w = (s.run P w).andThen fun x w' => .ok (.value x) w' := by simp
  rw [e] at h
  cases hs : s.run P w <;> rw [hs] at h <;> simp [Result.andThen] at h
theorem pure_of_quiet {o : Oper} {a : Act} {C' : World → Prop} {W : World} {v : Value} (hp : plain o = true) (h : o.quietAt P a C' W v) : upPure W v ((execOp a.eval o).run P W) := by
  unfold Oper.quietAt at h
  have hne : ∀ f args w', ¬ (execOp a.eval o).run P W = .ok (.enter f args) w' := by
    intro f args w'
    unfold plain at hp
    unfold execOp
    split at hp <;> rename_i ho <;> try cases hp
    case h_1 => rw [ho]; simp
    case h_2 => rw [ho]; simp
    case h_14 =>
      rw [ho]
      intro h
      rename_i c x y
      cases hs : (asBool (a.eval c)).run P W <;> simp [hs, Result.andThen] at h
    case h_15 =>
      rename_i c
      split at hp <;> rename_i hcc <;> try cases hp
      all_goals
        intro h
        simp [ho, resolve, hcc, invoke, builtin] at h
        revert h
        generalize Sem.run P _ W = r
        cases r <;> simp [Result.andThen]
    all_goals
      rw [ho]
      exact no_enter_v
  generalize (execOp a.eval o).run P W = r at *
  cases r with
  | halt x w' => exact h.elim
  | ok n w' =>
    cases n <;> try exact h.elim
    case value x => exact h
    case skip => exact h
    case enter f args => exact absurd rfl (hne f args w')
/-- What is given of the callees: by the operations' numbers. -/
def lookS : List (Nat × Spec) → Nat → Option Spec
  | [], _ => none
  | (j, S) :: r, i => if j = i then some S else lookS r i
theorem lookS_none : ∀ (L : List (Nat × Spec)) (k n : Nat), (L.map Prod.fst).all (fun j => decide (j < k) || decide (k + n ≤ j)) = true → ∀ i, i < n → lookS L (k + i) = none
  | [], _, _, _, _, _ => rfl
  | (j, S) :: r, k, n, h, i, hi => by
    simp only [List.map_cons, List.all_cons, Bool.and_eq_true, Bool.or_eq_true, decide_eq_true_eq] at h
    unfold lookS
    rw [if_neg (by omega)]
    exact lookS_none r k n h.2 i hi
/-- What is asked behind the region. -/
def Qf (Q' : Exit → Act → World → Prop) (w : World) : Act → Facts → Prop := fun a' G => ∀ w', Below w.heap.size w w' → Holds G w' → Q' .normal a' w'
theorem Qf_le (Q' : Exit → Act → World → Prop) (w : World) : ∀ a G G', Le G G' → Qf Q' w a G → Qf Q' w a G' := fun _ _ _ hl h w' hb hH => h w' hb (hl.holds hH)
def wpR (P : Program) (ops : Array Oper) (w : World) (L : List (Nat × Spec)) (Q' : Exit → Act → World → Prop) (l : List Oper) (k : Nat) (a : Act) (G : Facts) : Prop := wpK P ops (later w) (lookS L) (Qf Q' w) l k a G
theorem wp_region_R {id : Nat} {Q : Exit → Act → World → Prop} {a : Act} {w : World} {l : List Oper} (L : List (Nat × Spec)) (hm : P.follows .mixedOrders = true) (hB : Region.lexB .any l.toArray = true)
    (h : wpR P l.toArray w L Q l 0 a noFacts) : (Code.region id l.toArray true).wp P Q a w := wp_region_K (lookS L) hm hB h
section
variable {w : World} {L : List (Nat × Spec)} {Q' : Exit → Act → World → Prop}
theorem wpR_nil {k : Nat} {a : Act} {G : Facts} (h : ∀ w', Below w.heap.size w w' → Holds G w' → Q' .normal a w') : wpR P ops w L Q' [] k a G := h
theorem wpR_skip {o : Oper} {l : List Oper} {k : Nat} {a : Act} {G : Facts} (hw : Region.wanted o (yielded ops a.tmps) = false) (h : wpR P ops w L Q' l (k + 1) (a.put o.dst undef) G) : wpR P ops w L Q' (o :: l) k a G := by
  refine ⟨fun hw' => absurd (hw'.symm.trans hw) (by simp), fun v p hy hc => ?_⟩
  unfold Yl at hy
  rw [hw, if_neg (by simp)] at hy
  obtain ⟨rfl, rfl⟩ := hy
  exact wpK_weaken (Qf_le Q' w) _ _ _ _ _ ((Le.refl G).add_right _ _) h
theorem wpR_seg1 {o : Oper} {l : List Oper} {k : Nat} {a : Act} {G : Facts} (hp : plain o = true) (hs : lookS L k = none)
    (h : if Region.wanted o (yielded ops a.tmps) then o.quiet P a (later w) (fun a' => wpR P ops w L Q' l (k + 1) a' G) else wpR P ops w L Q' l (k + 1) (a.put o.dst undef) G) : wpR P ops w L Q' (o :: l) k a G := by
  by_cases hw : Region.wanted o (yielded ops a.tmps) = true
  · rw [if_pos hw] at h
    obtain ⟨v, h1, h2⟩ := h
    have hv : ∀ W, later w W → knows ops o G W → upPure W v ((execOp a.eval o).run P W) := fun W hC _ => pure_of_quiet hp (h1 W hC)
    refine ⟨fun _ => by rw [hs]; exact ⟨v, hv⟩, fun v' p hy hc => ?_⟩
    unfold Yl at hy
    rw [if_pos hw, hs] at hy
    obtain ⟨hv', rfl⟩ := hy
    obtain ⟨W, hC, hH⟩ := hc
    have hk : knows ops o G W := fun t q hq _ => hH t q (.inr hq)
    obtain rfl := upPure_unique (hv W hC hk) (hv' W hC hk)
    exact wpK_weaken (Qf_le Q' w) _ _ _ _ _ ((Le.refl G).add_right _ _) h2
  · rw [if_neg hw] at h
    exact wpR_skip (by simpa using hw) h
/-- Operations that are the same in every world. -/
theorem wpR_seg' : ∀ (n : Nat) (l : List Oper) (k : Nat) (a : Act) (G : Facts), (l.take n).all plain = true → (∀ i, i < n → lookS L (k + i) = none) →
    wpQuiet P ops (later w) (fun a' => wpR P ops w L Q' (l.drop n) (k + n) a' G) (l.take n) a → wpR P ops w L Q' l k a G
  | 0, l, k, a, G, _, _, h => h
  | n + 1, [], k, a, G, _, _, h => h
  | n + 1, o :: l, k, a, G, hp, hs, h => by
    rw [List.take_succ_cons, List.all_cons, Bool.and_eq_true] at hp
    have hrec : ∀ a', wpQuiet P ops (later w) (fun a' => wpR P ops w L Q' (l.drop n) (k + (n + 1)) a' G) (l.take n) a' → wpR P ops w L Q' l (k + 1) a' G := fun a' h' =>
      wpR_seg' n l (k + 1) a' G hp.2 (fun i hi => by have := hs (i + 1) (by omega); rwa [show k + (i + 1) = k + 1 + i by omega] at this) (by rw [show k + 1 + n = k + (n + 1) by omega]; exact h')
    refine wpR_seg1 hp.1 (hs 0 (by omega)) ?_
    change (if Region.wanted o (yielded ops a.tmps) = true then o.quiet P a (later w) (wpQuiet P ops (later w) (fun a' => wpR P ops w L Q' (l.drop n) (k + (n + 1)) a' G) (l.take n)) else wpQuiet P ops (later w) (fun a' => wpR P ops w L Q' (l.drop n) (k + (n + 1)) a' G) (l.take n) (a.put o.dst undef)) at h
    split at h
    · rename_i hw; rw [if_pos hw]; exact Oper.quiet_mono hrec h
    · rename_i hw; rw [if_neg hw]; exact hrec _ h
theorem wpR_seg (n : Nat) {l seg rest : List Oper} {k k' : Nat} {a : Act} {G : Facts} (h1 : l.take n = seg) (h2 : l.drop n = rest) (h3 : k + n = k') (hp : seg.all plain = true) (hs : (L.map Prod.fst).all (fun j => decide (j < k) || decide (k + n ≤ j)) = true)
    (h : wpQuiet P ops (later w) (fun a' => wpR P ops w L Q' rest k' a' G) seg a) : wpR P ops w L Q' l k a G := by
  subst h1 h2 h3
  exact wpR_seg' n l k a G hp (lookS_none L k n hs) h
theorem wpR_one {o : Oper} {l : List Oper} {k : Nat} {a : Act} {G : Facts} (hp : plain o = true) (hs : lookS L k = none)
    (h : wpQuiet P ops (fun w' => ∃ p : Regrown, w' = Go.Sort.grow (redrawn w p.d) p.os) (fun a' => wpR P ops w L Q' l (k + 1) a' G) [o] a) : wpR P ops w L Q' (o :: l) k a G := wpR_seg1 hp hs h
theorem wpR_pass {o : Oper} {l : List Oper} {k : Nat} {a : Act} {G : Facts} (hw : Region.wanted o (yielded ops a.tmps) = false)
    (h : wpQuiet P ops (fun w' => ∃ p : Regrown, w' = Go.Sort.grow (redrawn w p.d) p.os) (fun a' => wpR P ops w L Q' l (k + 1) a' G) [o] a) : wpR P ops w L Q' (o :: l) k a G := by
  unfold wpQuiet at h
  rw [hw] at h
  exact wpR_skip hw h
theorem upMany_enter {S : Spec} {W : World} {f : FuncId} {args : Array Value} (h : Calls P f args W fun e w'' => ∃ v, e = .returned v ∧ S v w'' ∧ Below W.heap.size W w'') : upMany P S W (.ok (.enter f args) W) := ⟨rfl, h⟩
/-- A call: what its contract says. -/
theorem wpR_call {o : Oper} {l : List Oper} {k : Nat} {a : Act} {G : Facts} (S : Spec) {d : Tmp} (hd : o.dst = some d) (hs : lookS L k = some S) (hw : Region.wanted o (yielded ops a.tmps) = true)
    (hob : ∀ W, later w W → knows ops o G W → upMany P S W ((execOp a.eval o).run P W))
    (h : ∀ v, (∃ W, Below w.heap.size w W ∧ Holds G W ∧ clo S v W) → wpR P ops w L Q' l (k + 1) (a.put o.dst v) (addG o.dst (clo S v) G)) : wpR P ops w L Q' (o :: l) k a G := by
  refine ⟨fun _ => by rw [hs]; exact hob, fun v p hy hc => ?_⟩
  unfold Yl at hy
  rw [if_pos hw, hs] at hy
  obtain rfl : p = clo S v := hy
  obtain ⟨W, hC, hH⟩ := hc
  exact h v ⟨W, later_iff.1 hC, fun t q hq => hH t q (.inr hq), hH d _ (.inl ⟨hd, rfl⟩)⟩
/-- An operation that looks at what is known of a value; what is known of it goes on to its own. -/
theorem wpR_fact {o : Oper} {l : List Oper} {k : Nat} {a : Act} {G : Facts} (hs : lookS L k = none) (hw : Region.wanted o (yielded ops a.tmps) = true) (v : Value)
    (hv : ∀ W, later w W → knows ops o G W → upPure W v ((execOp a.eval o).run P W)) (h : wpR P ops w L Q' l (k + 1) (a.put o.dst v) (addG o.dst (knows ops o G) G)) : wpR P ops w L Q' (o :: l) k a G := by
  refine ⟨fun _ => by rw [hs]; exact ⟨v, hv⟩, fun v' p hy hc => ?_⟩
  unfold Yl at hy
  rw [if_pos hw, hs] at hy
  obtain ⟨hv', rfl⟩ := hy
  obtain ⟨W, hC, hH⟩ := hc
  have hk : knows ops o G W := fun t q hq _ => hH t q (.inr hq)
  obtain rfl := upPure_unique (hv W hC hk) (hv' W hC hk)
  exact h
end
end
end Go.Proofs.Ytcacgbdnegmfnaa.Kr
