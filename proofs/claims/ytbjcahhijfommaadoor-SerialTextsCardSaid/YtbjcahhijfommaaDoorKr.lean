/- Regions that draw their order and whose callees make memory and hand back values that differ from world to world: one walk in the order of the text serves every order. Of each callee a property of its value and of the world behind it is given ahead of the walk; what is known of a value is known wherever that value is looked at. -/
import Derived.Lib.QuietBelow
import Derived.BigQuiet
import Derived.StillTail
namespace Go.Proofs.YtbjcahhijfommaaDoor.Kr
open Go Go.RowKit

abbrev Facts := Tmp → (World → Prop) → Prop
abbrev Spec := Value → World → Prop
/-- The property, in every later world. -/
def clo (S : Spec) (v : Value) (W : World) : Prop := ∃ W0, S v W0 ∧ Below W0.heap.size W0 W
def addG (d : Option Tmp) (p : World → Prop) (G : Facts) : Facts := fun t q => (d = some t ∧ q = p) ∨ G t q
def Holds (G : Facts) (W : World) : Prop := ∀ t q, G t q → q W
def knows (ops : Array Oper) (o : Oper) (G : Facts) (W : World) : Prop := ∀ t q, G t q → t ∈ o.looksAt ops → q W
def Cons (C : World → Prop) (G : Facts) : Prop := ∃ W, C W ∧ Holds G W
def MonoP (q : World → Prop) : Prop := ∀ W W', q W → Below W.heap.size W W' → q W'
def MonoG (G : Facts) : Prop := ∀ t q, G t q → MonoP q

def upPure (w : World) (v : Value) : Result Next → Prop
  | .ok (.value u) w' => w' = w ∧ u = v
  | .ok .skip w' => w' = w ∧ v = undef
  | _ => False
def upMany (P : Program) (S : Spec) (w : World) : Result Next → Prop
  | .ok (.value u) w' => S u w' ∧ Below w.heap.size w w'
  | .ok (.enter f args) w' => w' = w ∧ Calls P f args w fun e w'' => ∃ v, e = .returned v ∧ S v w'' ∧ Below w.heap.size w w''
  | _ => False

section
variable (P : Program) (ops : Array Oper) (C : World → Prop) (spec : Nat → Option Spec)
def Ob (i : Nat) (o : Oper) (a : Act) (G : Facts) : Prop :=
  Region.wanted o (yielded ops a.tmps) = true → match spec i with
    | none => ∃ v, ∀ W, C W → knows ops o G W → upPure W v ((execOp a.eval o).run P W)
    | some S => ∀ W, C W → knows ops o G W → upMany P S W ((execOp a.eval o).run P W)
def Yl (i : Nat) (o : Oper) (a : Act) (G : Facts) (v : Value) (p : World → Prop) : Prop :=
  if Region.wanted o (yielded ops a.tmps) = true then match spec i with
    | none => (∀ W, C W → knows ops o G W → upPure W v ((execOp a.eval o).run P W)) ∧ p = knows ops o G
    | some S => p = clo S v
  else v = undef ∧ p = fun _ => True
def opK (i : Nat) (K : Act → Facts → Prop) (a : Act) (G : Facts) : Prop :=
  match ops[i]? with
  | none => K a G
  | some o => Ob P ops C spec i o a G ∧ ∀ v p, Yl P ops C spec i o a G v p → Cons C (addG o.dst p G) → K (a.put o.dst v) (addG o.dst p G)
def wpAnyK (md : Region.Mode) (Q : Act → Facts → Prop) : Nat → Array Bool → Act → Facts → Prop
  | 0, listed, a, G => Region.ready md ops listed = [] ∧ Q a G
  | fuel + 1, listed, a, G =>
    (Region.ready md ops listed = [] → Q a G) ∧
    ∀ i ∈ Region.ready md ops listed, opK P ops C spec i (wpAnyK md Q fuel (listed.setIfInBounds i true)) a G
/-- The walk in the order of the text. -/
def wpK (Q : Act → Facts → Prop) : List Oper → Nat → Act → Facts → Prop
  | [], _, a, G => Q a G
  | o :: rest, k, a, G => Ob P ops C spec k o a G ∧ ∀ v p, Yl P ops C spec k o a G v p → Cons C (addG o.dst p G) → wpK Q rest (k + 1) (a.put o.dst v) (addG o.dst p G)
end

section
variable {P : Program} {ops : Array Oper} {C : World → Prop} {spec : Nat → Option Spec} {md : Region.Mode}
theorem below_trans {W0 W W' : World} (h : Below W0.heap.size W0 W) (h' : Below W.heap.size W W') : Below W0.heap.size W0 W' := h.trans (h'.mono h.size)
theorem clo_mono (S : Spec) (v : Value) : MonoP (clo S v) := fun _ _ ⟨W0, h, hb⟩ hb' => ⟨W0, h, below_trans hb hb'⟩
theorem clo_of {S : Spec} {v : Value} {W : World} (h : S v W) : clo S v W := ⟨W, h, Below.refl _ _⟩
theorem knows_of_holds {o : Oper} {G : Facts} {W : World} (h : Holds G W) : knows ops o G W := fun t q hq _ => h t q hq
theorem knows_mono {o : Oper} {G : Facts} (h : MonoG G) : MonoP (knows ops o G) := fun W W' hk hb t q hq ht => h t q hq W W' (hk t q hq ht) hb
theorem monoG_add {d : Option Tmp} {p : World → Prop} {G : Facts} (h : MonoG G) (hp : MonoP p) : MonoG (addG d p G) := by
  rintro t q (⟨_, rfl⟩ | hq)
  · exact hp
  · exact h t q hq
theorem holds_add {d : Option Tmp} {p : World → Prop} {G : Facts} {W : World} (h : Holds G W) (hp : p W) : Holds (addG d p G) W := by
  rintro t q (⟨_, rfl⟩ | hq)
  · exact hp
  · exact h t q hq
theorem holds_mono {G : Facts} {W W' : World} (hm : MonoG G) (h : Holds G W) (hb : Below W.heap.size W W') : Holds G W' := fun t q hq => hm t q hq W W' (h t q hq) hb
theorem addG_comm (d e : Option Tmp) (p q : World → Prop) (G : Facts) : addG d p (addG e q G) = addG e q (addG d p G) := by
  funext t r
  unfold addG
  exact propext ⟨fun h => by rcases h with h | h | h <;> simp [h], fun h => by rcases h with h | h | h <;> simp [h]⟩
theorem cons_sub {G G' : Facts} (hs : ∀ t q, G t q → G' t q) (h : Cons C G') : Cons C G := let ⟨W, hC, hH⟩ := h; ⟨W, hC, fun t q hq => hH t q (hs t q hq)⟩
theorem knows_add {o : Oper} {d : Option Tmp} (h : ∀ t, d = some t → t ∉ o.looksAt ops) (p : World → Prop) (G : Facts) : knows ops o (addG d p G) = knows ops o G := by
  funext W
  refine propext ⟨fun hk t q hq ht => hk t q (.inr hq) ht, fun hk t q hq ht => ?_⟩
  rcases hq with ⟨hd, _⟩ | hq
  · exact absurd ht (h t hd)
  · exact hk t q hq ht
theorem Ob_put {i : Nat} {o : Oper} (hs : ∀ cs b, o.op ≠ .select cs b) {d : Option Tmp} (h : ∀ t, d = some t → t ∉ o.looksAt ops) (a : Act) (u : Value) (p : World → Prop) (G : Facts) :
    Ob P ops C spec i o (a.put d u) (addG d p G) = Ob P ops C spec i o a G := by
  unfold Ob
  rw [wanted_put o a d u h, execOp_put o hs a d u h, knows_add h]
theorem Yl_put {i : Nat} {o : Oper} (hs : ∀ cs b, o.op ≠ .select cs b) {d : Option Tmp} (h : ∀ t, d = some t → t ∉ o.looksAt ops) (a : Act) (u : Value) (p : World → Prop) (G : Facts) :
    Yl P ops C spec i o (a.put d u) (addG d p G) = Yl P ops C spec i o a G := by
  funext v q
  unfold Yl
  rw [wanted_put o a d u h, execOp_put o hs a d u h, knows_add h]
theorem calls_some {f : FuncId} {args : Array Value} {w : World} {R : Ending → World → Prop} (h : Calls P f args w R) : ∃ e w', R e w' := let ⟨e, w', _, r, _⟩ := h []; ⟨e, w', r⟩
theorem opK_mono {i : Nat} {a : Act} {G : Facts} {K K' : Act → Facts → Prop} (h : ∀ a G, K a G → K' a G) (hh : opK P ops C spec i K a G) : opK P ops C spec i K' a G := by
  unfold opK at *
  split
  · rename_i ho; simp only [ho] at hh; exact h _ _ hh
  · rename_i o ho; simp only [ho] at hh; exact ⟨hh.1, fun v p hy hc => h _ _ (hh.2 v p hy hc)⟩
theorem Yl_pure {i : Nat} {o : Oper} {a : Act} {G : Facts} (hw : Region.wanted o (yielded ops a.tmps) = true) (hs : spec i = none) {v : Value} (hv : ∀ W, C W → knows ops o G W → upPure W v ((execOp a.eval o).run P W)) : Yl P ops C spec i o a G v (knows ops o G) := by
  unfold Yl; rw [if_pos hw, hs]; exact ⟨hv, rfl⟩
theorem Yl_many {i : Nat} {o : Oper} {a : Act} {G : Facts} (hw : Region.wanted o (yielded ops a.tmps) = true) {S : Spec} (hs : spec i = some S) (v : Value) : Yl P ops C spec i o a G v (clo S v) := by
  unfold Yl; rw [if_pos hw, hs]
theorem Yl_not {i : Nat} {o : Oper} {a : Act} {G : Facts} (hw : ¬ Region.wanted o (yielded ops a.tmps) = true) : Yl P ops C spec i o a G undef (fun _ => True) := by
  unfold Yl; rw [if_neg hw]; exact ⟨rfl, rfl⟩
theorem Yl_mono {i : Nat} {o : Oper} {a : Act} {G : Facts} (hm : MonoG G) {v : Value} {p : World → Prop} (h : Yl P ops C spec i o a G v p) : MonoP p := by
  unfold Yl at h
  split at h
  · cases hs : spec i with
    | none => rw [hs] at h; rw [h.2]; exact knows_mono hm
    | some S => rw [hs] at h; rw [show p = clo S v from h]; exact clo_mono S v
  · rw [h.2]; exact fun _ _ _ _ => trivial
theorem opK_mono' {i : Nat} {a : Act} {G : Facts} (hm : MonoG G) (hc : Cons C G) {K K' : Act → Facts → Prop} (h : ∀ a G, MonoG G → Cons C G → K a G → K' a G) (hh : opK P ops C spec i K a G) : opK P ops C spec i K' a G := by
  unfold opK at *
  split
  · rename_i ho; simp only [ho] at hh; exact h _ _ hm hc hh
  · rename_i o ho; simp only [ho] at hh; exact ⟨hh.1, fun v p hy hc' => h _ _ (monoG_add hm (Yl_mono hm hy)) hc' (hh.2 v p hy hc')⟩
variable (hCup : ∀ W W', C W → Below W.heap.size W W' → C W')
include hCup
/-- There is a value. -/
theorem Yl_some {i : Nat} {o : Oper} {a : Act} {G : Facts} (hm : MonoG G) (hc : Cons C G) (hob : Ob P ops C spec i o a G) : ∃ v p, Yl P ops C spec i o a G v p ∧ MonoP p ∧ Cons C (addG o.dst p G) := by
  obtain ⟨W, hW, hH⟩ := hc
  unfold Ob at hob
  by_cases hw : Region.wanted o (yielded ops a.tmps) = true
  · have h := hob hw
    cases hs : spec i with
    | none =>
      rw [hs] at h
      obtain ⟨v, hv⟩ := h
      exact ⟨v, _, Yl_pure hw hs hv, knows_mono hm, W, hW, holds_add hH (knows_of_holds hH)⟩
    | some S =>
      rw [hs] at h
      have h1 := h W hW (knows_of_holds hH)
      generalize (execOp a.eval o).run P W = r at h1
      cases r with
      | halt x w' => exact h1.elim
      | ok n w' =>
        cases n <;> try exact h1.elim
        case value u => exact ⟨u, _, Yl_many hw hs u, clo_mono S u, w', hCup _ _ hW h1.2, holds_add (holds_mono hm hH h1.2) (clo_of h1.1)⟩
        case enter f args =>
          obtain ⟨rfl, h2⟩ := h1
          obtain ⟨e, w2, v, _, h3, h4⟩ := calls_some h2
          exact ⟨v, _, Yl_many hw hs v, clo_mono S v, w2, hCup _ _ hW h4, holds_add (holds_mono hm hH h4) (clo_of h3)⟩
  · exact ⟨undef, _, Yl_not hw, fun _ _ _ _ => trivial, W, hW, holds_add hH trivial⟩
/-- Two operations that are apart, the other way round. -/
theorem opK_swap {i j : Nat} {oi oj : Oper} (hi : ops[i]? = some oi) (hj : ops[j]? = some oj) (hap : oi.apart ops oj = true) (hsi : ∀ cs b, oi.op ≠ .select cs b) (hsj : ∀ cs b, oj.op ≠ .select cs b)
    {K : Act → Facts → Prop} {a : Act} {G : Facts} (hm : MonoG G) (hc : Cons C G)
    (h : opK P ops C spec i (fun a' G' => opK P ops C spec j K a' G') a G) : opK P ops C spec j (fun a' G' => opK P ops C spec i K a' G') a G := by
  obtain ⟨h1, h2, h3⟩ := Oper.apart_spec hap
  unfold opK at *
  simp only [hi, hj] at *
  obtain ⟨ho, hk⟩ := h
  refine ⟨?_, fun u q hu hcu => ⟨?_, fun v p hv hcv => ?_⟩⟩
  · obtain ⟨v, p, hv, _, hcv⟩ := Yl_some hCup hm hc ho
    have := (hk v p hv hcv).1
    rwa [Ob_put hsj h1] at this
  · rw [Ob_put hsi h3]; exact ho
  · rw [Yl_put hsi h3] at hv
    have hc1 : Cons C (addG oi.dst p G) := cons_sub (fun t r hr => by rcases hr with hr | hr; exact .inl hr; exact .inr (.inr hr)) hcv
    have h4 := (hk v p hv hc1).2 u q (by rw [Yl_put hsj h1]; exact hu) (by rw [addG_comm]; exact hcv)
    rw [addG_comm, Act.put_comm a v u h2] at h4
    exact h4
theorem opK_some {i : Nat} {K : Act → Facts → Prop} {a : Act} {G : Facts} (hm : MonoG G) (hc : Cons C G) (h : opK P ops C spec i K a G) : ∃ a' G', K a' G' := by
  unfold opK at h
  split at h
  · exact ⟨_, _, h⟩
  · obtain ⟨v, p, hv, _, hcv⟩ := Yl_some hCup hm hc h.1
    exact ⟨_, _, h.2 v p hv hcv⟩
theorem wpAnyK_first {Q : Act → Facts → Prop} {i : Nat} {oi : Oper} (hi : ops[i]? = some oi) (hsel : ∀ (j : Nat) (o : Oper) cs b, ops[j]? = some o → o.op ≠ .select cs b) :
    ∀ (fuel : Nat) (listed : Array Bool) (a : Act) (G : Facts), MonoG G → Cons C G →
      (∀ j oj, ops[j]? = some oj → j ≠ i → listed.getD j true = false → (∀ e ∈ oj.after, Region.binds md e = true → e.on ≠ i) → oi.apart ops oj = true) →
      i ∈ Region.ready md ops listed → opK P ops C spec i (wpAnyK P ops C spec md Q fuel (listed.setIfInBounds i true)) a G → wpAnyK P ops C spec md Q (fuel + 1) listed a G := by
  intro fuel
  induction fuel with
  | zero =>
    intro listed a G hm hc _ hr H
    refine ⟨fun h => (by rw [h] at hr; cases hr), fun j hj => ?_⟩
    by_cases hji : j = i
    · subst hji; exact H
    · obtain ⟨a', G', h⟩ := opK_some hCup hm hc H
      have := ready_mono hj hji
      rw [h.1] at this
      cases this
  | succ fuel ih =>
    intro listed a G hm hc hfree hr H
    refine ⟨fun h => (by rw [h] at hr; cases hr), fun j hj => ?_⟩
    by_cases hji : j = i
    · subst hji; exact H
    · have h1 : opK P ops C spec i (fun a' G' => opK P ops C spec j (wpAnyK P ops C spec md Q fuel ((listed.setIfInBounds i true).setIfInBounds j true)) a' G') a G := opK_mono (fun a' G' h => h.2 j (ready_mono hj hji)) H
      obtain ⟨hjun, oj, hoj, hall⟩ := mem_ready.1 hj
      have hnot : ∀ e ∈ oj.after, Region.binds md e = true → e.on ≠ i := fun e he hb heq => by
        have h1 := hall e he hb
        have h0 := (mem_ready.1 hr).1
        rw [heq] at h1
        rcases Nat.lt_or_ge i listed.size with h' | h'
        · simp [h'] at h0 h1; rw [h0] at h1; cases h1
        · simp [Array.getElem?_eq_none h'] at h1
      have h2 := opK_swap hCup hi hoj (hfree j oj hoj hji hjun hnot) (fun cs b => hsel i oi cs b hi) (fun cs b => hsel j oj cs b hoj) hm hc h1
      have hfree' : ∀ k ok, ops[k]? = some ok → k ≠ i → (listed.setIfInBounds j true).getD k true = false →
          (∀ e ∈ ok.after, Region.binds md e = true → e.on ≠ i) → oi.apart ops ok = true := fun k ok hk hki hun hno => by
        refine hfree k ok hk hki ?_ hno
        by_cases hjk : j = k
        · subst hjk; exact hjun
        · rw [getD_set_ne true hjk] at hun; exact hun
      refine opK_mono' hm hc (fun a' G' hm' hc' h3 => ih (listed.setIfInBounds j true) a' G' hm' hc' hfree' (ready_mono hr (Ne.symm hji)) ?_) h2
      rw [Array.setIfInBounds_comm _ _ hji]
      exact h3
theorem wpAnyK_lex {Q : Act → Facts → Prop} (hs : Region.noSelect ops = true) : ∀ (l : List Oper) (k : Nat) (listed : Array Bool) (a : Act) (G : Facts), MonoG G → Cons C G → (∀ j, l[j]? = ops[k + j]?) →
    Region.lexFrom md ops l.length k listed = true → wpK P ops C spec Q l k a G → wpAnyK P ops C spec md Q l.length listed a G
  | [], _, _, _, _, _, _, _, hB, h => ⟨by simpa [Region.lexFrom] using hB, h⟩
  | o :: l, k, listed, a, G, hm, hc, hl, hB, h => by
    have h0 : ops[k]? = some o := by simpa using (hl 0).symm
    simp only [List.length_cons, Region.lexFrom, Bool.and_eq_true] at hB
    obtain ⟨⟨hr, hf⟩, hB'⟩ := hB
    refine wpAnyK_first hCup h0 (Region.noSelect_spec hs) l.length listed a G hm hc (Region.free_spec h0 hf) (by simpa using hr) ?_
    unfold opK
    simp only [h0]
    exact ⟨h.1, fun v p hy hc' => wpAnyK_lex hs l (k + 1) _ _ _ (monoG_add hm (Yl_mono hm hy)) hc' (fun j => by have := hl (j + 1); simpa [Nat.add_assoc, Nat.add_comm 1 j] using this) hB' (h.2 v p hy hc')⟩
theorem wpOp_of_opK {i : Nat} {a : Act} {G : Facts} {K : Act → Facts → Prop} {K' : Act → World → Prop} {Q' : Exit → Act → World → Prop} {w : World} (hm : MonoG G) (hC : C w) (hH : Holds G w)
    (h : ∀ a G w, MonoG G → C w → Holds G w → K a G → K' a w) (hh : opK P ops C spec i K a G) : wpOp P ops Q' i K' a w := by
  unfold opK at hh
  unfold wpOp
  split
  · rename_i ho; simp only [ho] at hh; exact h _ _ _ hm hC hH hh
  · rename_i o ho
    simp only [ho] at hh
    obtain ⟨h1, h2⟩ := hh
    unfold Ob at h1
    split
    · rename_i hw
      refine .inl ?_
      have h1 := h1 hw
      cases hs : spec i with
      | none =>
        rw [hs] at h1
        obtain ⟨v, hv⟩ := h1
        have hy : Yl P ops C spec i o a G v (knows ops o G) := Yl_pure hw hs hv
        have h3 := h2 v _ hy ⟨w, hC, holds_add hH (knows_of_holds hH)⟩
        have h4 := hv w hC (knows_of_holds hH)
        unfold Oper.wp
        generalize (execOp a.eval o).run P w = r at *
        cases r with
        | halt x w' => exact h4.elim
        | ok n w' =>
          cases n <;> try exact h4.elim
          case value u => obtain ⟨rfl, rfl⟩ := h4; exact h _ _ _ (monoG_add hm (knows_mono hm)) hC (holds_add hH (knows_of_holds hH)) h3
          case skip => obtain ⟨rfl, rfl⟩ := h4; exact h _ _ _ (monoG_add hm (knows_mono hm)) hC (holds_add hH (knows_of_holds hH)) h3
      | some S =>
        rw [hs] at h1
        have hy : ∀ v, Yl P ops C spec i o a G v (clo S v) := fun v => Yl_many hw hs v
        have h4 := h1 w hC (knows_of_holds hH)
        unfold Oper.wp
        generalize (execOp a.eval o).run P w = r at *
        cases r with
        | halt x w' => exact h4.elim
        | ok n w' =>
          cases n <;> try exact h4.elim
          case value u =>
            have h5 := holds_add (d := o.dst) (holds_mono hm hH h4.2) (clo_of h4.1)
            have h6 := hCup _ _ hC h4.2
            exact h _ _ _ (monoG_add hm (clo_mono S u)) h6 h5 (h2 u _ (hy u) ⟨w', h6, h5⟩)
          case enter f args =>
            obtain ⟨rfl, h7⟩ := h4
            refine Calls.mono h7 ?_
            rintro e w'' ⟨v, rfl, h8, h9⟩
            have h5 := holds_add (d := o.dst) (holds_mono hm hH h9) (clo_of h8)
            have h6 := hCup _ _ hC h9
            exact h _ _ _ (monoG_add hm (clo_mono S v)) h6 h5 (h2 v _ (hy v) ⟨w'', h6, h5⟩)
    · rename_i hw
      have hy : Yl P ops C spec i o a G undef (fun _ => True) := Yl_not hw
      exact h _ _ _ (monoG_add hm fun _ _ _ _ => trivial) hC (holds_add hH trivial) (h2 _ _ hy ⟨w, hC, holds_add hH trivial⟩)
theorem wpAny_of_K {Q : Act → Facts → Prop} {Q' : Exit → Act → World → Prop} (hQ : ∀ a G w, C w → Holds G w → Q a G → Q' .normal a w) : ∀ (fuel : Nat) (listed : Array Bool) (a : Act) (G : Facts) (w : World), MonoG G → C w → Holds G w →
    wpAnyK P ops C spec md Q fuel listed a G → wpAny P md ops Q' fuel listed a w
  | 0, _, _, _, _, _, hw, hH, h => ⟨h.1, hQ _ _ _ hw hH h.2⟩
  | fuel + 1, _, _, _, _, hm, hw, hH, h => ⟨fun h0 => hQ _ _ _ hw hH (h.1 h0), fun i hi => wpOp_of_opK hCup hm hw hH (fun a' G' w' hm' hw' hH' => wpAny_of_K hQ fuel _ a' G' w' hm' hw' hH') (h.2 i hi)⟩
omit hCup
def noFacts : Facts := fun _ _ => False
/-- The worlds that w may become. -/
def later (w : World) : World → Prop := fun w' => ∃ p : Regrown, w' = Go.Sort.grow (redrawn w p.d) p.os
theorem later_iff {w w' : World} : later w w' ↔ Below w.heap.size w w' := ⟨fun ⟨p, h⟩ => h ▸ below_regrown w p.d p.os, regrown_of_below⟩
/-- One walk in the order of the text. -/
theorem wp_region_K {id : Nat} {Q : Exit → Act → World → Prop} {a : Act} {w : World} {l : List Oper} (spec : Nat → Option Spec) (hm : P.follows .mixedOrders = true) (hB : Region.lexB .any l.toArray = true)
    (h : wpK P l.toArray (later w) spec (fun a' G => ∀ w', Below w.heap.size w w' → Holds G w' → Q .normal a' w') l 0 a noFacts) : (Code.region id l.toArray true).wp P Q a w := by
  simp only [Region.lexB, Bool.and_eq_true] at hB
  have hup : ∀ W W', later w W → Below W.heap.size W W' → later w W' := fun W W' h1 h2 => later_iff.2 (below_trans (later_iff.1 h1) h2)
  have h0 : later w { w with drawn := w.drawn + 1 } := ⟨⟨w.drawn + 1, #[]⟩, by rw [Go.Sort.grow_empty]; rfl⟩
  have hN : MonoG noFacts := fun _ _ h => h.elim
  have hH : Holds noFacts { w with drawn := w.drawn + 1 } := fun _ _ h => h.elim
  refine wp_region_any hm (wpAny_of_K (spec := spec) hup (Q := fun a' G => ∀ w', Below w.heap.size w w' → Holds G w' → Q .normal a' w') (fun _ _ w' hw' hG hq => hq w' (later_iff.1 hw') hG) _ _ _ noFacts _ hN h0 hH ?_)
  have := wpAnyK_lex (md := .any) (C := later w) (spec := spec) hup hB.1 l 0 (Array.replicate l.toArray.size false) a noFacts hN ⟨_, h0, hH⟩ (by simp) (by simpa using hB.2) h
  simpa using this
/-! ### The steps of the walk -/
def Le (G G' : Facts) : Prop := ∀ t q, G t q → ∃ q', G' t q' ∧ ∀ W, q' W → q W
theorem Le.refl (G : Facts) : Le G G := fun _ q h => ⟨q, h, fun _ h => h⟩
theorem Le.add_right {G G' : Facts} (h : Le G G') (d : Option Tmp) (p : World → Prop) : Le G (addG d p G') := fun t q hq => let ⟨q', h1, h2⟩ := h t q hq; ⟨q', .inr h1, h2⟩
theorem Le.add {G G' : Facts} (h : Le G G') (d : Option Tmp) {p p' : World → Prop} (hp : ∀ W, p' W → p W) : Le (addG d p G) (addG d p' G') := by
  rintro t q (⟨hd, rfl⟩ | hq)
  · exact ⟨p', .inl ⟨hd, rfl⟩, hp⟩
  · obtain ⟨q', h1, h2⟩ := h t q hq; exact ⟨q', .inr h1, h2⟩
theorem Le.holds {G G' : Facts} (h : Le G G') {W : World} (hH : Holds G' W) : Holds G W := fun t q hq => let ⟨_, h1, h2⟩ := h t q hq; h2 _ (hH t _ h1)
theorem Le.knows {G G' : Facts} (h : Le G G') {o : Oper} {W : World} (hk : knows ops o G' W) : knows ops o G W := fun t q hq ht => let ⟨_, h1, h2⟩ := h t q hq; h2 _ (hk t _ h1 ht)
theorem Le.cons {G G' : Facts} (h : Le G G') (hc : Cons C G') : Cons C G := let ⟨W, hC, hH⟩ := hc; ⟨W, hC, h.holds hH⟩
theorem upPure_unique {w : World} {v u : Value} {r : Result Next} (h : upPure w v r) (h' : upPure w u r) : v = u := by
  cases r with
  | halt x w' => exact h.elim
  | ok n w' =>
    cases n <;> try exact h.elim
    case value x => exact h.2.symm.trans h'.2
    case skip => exact h.2.trans h'.2.symm
theorem wpK_weaken {Q : Act → Facts → Prop} (hQ : ∀ a G G', Le G G' → Q a G → Q a G') : ∀ (l : List Oper) (k : Nat) (a : Act) (G G' : Facts), Le G G' → wpK P ops C spec Q l k a G → wpK P ops C spec Q l k a G'
  | [], _, _, _, _, hl, h => hQ _ _ _ hl h
  | o :: l, k, a, G, G', hl, h => by
    obtain ⟨h1, h2⟩ := h
    unfold Ob at h1
    refine ⟨?_, fun v p hy hc => ?_⟩
    · intro hw
      have h3 := h1 hw
      cases hs : spec k with
      | none => rw [hs] at h3; exact let ⟨v, hv⟩ := h3; ⟨v, fun W hC hk => hv W hC (hl.knows hk)⟩
      | some S => rw [hs] at h3; exact fun W hC hk => h3 W hC (hl.knows hk)
    · by_cases hw : Region.wanted o (yielded ops a.tmps) = true
      · have h3 := h1 hw
        unfold Yl at hy
        rw [if_pos hw] at hy
        cases hs : spec k with
        | none =>
          rw [hs] at h3 hy
          obtain ⟨v0, hv0⟩ := h3
          obtain ⟨hv, rfl⟩ := hy
          obtain ⟨W, hC, hH⟩ := hc
          have hk' : knows ops o G' W := fun t q hq _ => hH t q (.inr hq)
          obtain rfl := upPure_unique (hv W hC hk') (hv0 W hC (hl.knows hk'))
          have hle := hl.add o.dst (p := knows ops o G) (p' := knows ops o G') fun _ h => hl.knows h
          exact wpK_weaken hQ l (k + 1) _ _ _ hle (h2 v _ (Yl_pure hw hs hv0) (hle.cons ⟨W, hC, hH⟩))
        | some S =>
          rw [hs] at hy
          obtain rfl : p = clo S v := hy
          have hle := hl.add o.dst (p := clo S v) (p' := clo S v) fun _ h => h
          exact wpK_weaken hQ l (k + 1) _ _ _ hle (h2 v _ (Yl_many hw hs v) (hle.cons hc))
      · unfold Yl at hy
        rw [if_neg hw] at hy
        obtain ⟨rfl, rfl⟩ := hy
        have hle := hl.add o.dst (p := fun _ => True) (p' := fun _ => True) fun _ h => h
        exact wpK_weaken hQ l (k + 1) _ _ _ hle (h2 _ _ (Yl_not hw) (hle.cons hc))
/-- Operations that are no calls of a Go function. -/
def plain (o : Oper) : Bool := match o.op with
  | .move _ | .assign _ | .load _ _ | .binOp _ _ _ _ _ | .unOp _ _ _ | .convert _ _ _ | .slice _ _ _ _ _ | .fieldAddr _ _ _ | .field _ _ _ | .indexAddr _ _ _ | .index _ _ _ | .extract _ _ | .build _ _ | .pick _ _ _ | .nilCheck _ => true
  | .call c => match c.callee with | .builtin .len | .builtin .cap | .builtin .min | .builtin .max => true | _ => false
  | _ => false
theorem no_enter_v {s : Sem Value} {w w' : World} {f : FuncId} {args : Array Value} : ¬ (do pure (Next.value (← s)) : Sem Next).run P w = .ok (.enter f args) w' := by
  intro h
  have e : (do pure (Next.value (← s)) : Sem Next).run P w = (s.run P w).andThen fun x w' => .ok (.value x) w' := by simp
  rw [e] at h
  cases hs : s.run P w <;> rw [hs] at h <;> simp [Result.andThen] at h
theorem pure_of_quiet {o : Oper} {a : Act} {C' : World → Prop} {W : World} {v : Value} (hp : plain o = true) (h : o.quietAt P a C' W v) : upPure W v ((execOp a.eval o).run P W) := by
  unfold Oper.quietAt at h
  have hne : ∀ f args w', ¬ (execOp a.eval o).run P W = .ok (.enter f args) w' := by
    intro f args w'
    unfold plain at hp
    unfold execOp
    split at hp <;> rename_i ho <;> try cases hp
    case h_1 => rw [ho]; simp
    case h_2 => rw [ho]; simp
    case h_14 =>
      rw [ho]
      intro h
      rename_i c x y
      cases hs : (asBool (a.eval c)).run P W <;> simp [hs, Result.andThen] at h
    case h_15 =>
      rw [ho]
      intro h
      dsimp only at h
      split at h
      · simp [runtimePanic] at h
      · simp [runtimePanic] at h
      · simp [runtimePanic] at h
      · split at h
        · simp [runtimePanic] at h
        · revert h
          simp
          generalize Sem.run P (nilAhead _ _ _ _) W = r
          cases r with
          | halt y w2 => simp [Result.andThen]
          | ok y w2 => simp only [Result.andThen]; split <;> simp
        · simp at h
      · simp at h
    case h_16 =>
      rename_i c
      split at hp <;> rename_i hcc <;> try cases hp
      all_goals
        intro h
        simp [ho, resolve, hcc, invoke, builtin] at h
        revert h
        generalize Sem.run P _ W = r
        cases r <;> simp [Result.andThen]
    all_goals
      rw [ho]
      exact no_enter_v
  generalize (execOp a.eval o).run P W = r at *
  cases r with
  | halt x w' => exact h.elim
  | ok n w' =>
    cases n <;> try exact h.elim
    case value x => exact h
    case skip => exact h
    case enter f args => exact absurd rfl (hne f args w')
/-- What is given of the callees: by the operations' numbers. -/
def lookS : List (Nat × Spec) → Nat → Option Spec
  | [], _ => none
  | (j, S) :: r, i => if j = i then some S else lookS r i
theorem lookS_none : ∀ (L : List (Nat × Spec)) (k n : Nat), (L.map Prod.fst).all (fun j => decide (j < k) || decide (k + n ≤ j)) = true → ∀ i, i < n → lookS L (k + i) = none
  | [], _, _, _, _, _ => rfl
  | (j, S) :: r, k, n, h, i, hi => by
    simp only [List.map_cons, List.all_cons, Bool.and_eq_true, Bool.or_eq_true, decide_eq_true_eq] at h
    unfold lookS
    rw [if_neg (by omega)]
    exact lookS_none r k n h.2 i hi
/-- What is asked behind the region. -/
def Qf (Q' : Exit → Act → World → Prop) (w : World) : Act → Facts → Prop := fun a' G => ∀ w', Below w.heap.size w w' → Holds G w' → Q' .normal a' w'
theorem Qf_le (Q' : Exit → Act → World → Prop) (w : World) : ∀ a G G', Le G G' → Qf Q' w a G → Qf Q' w a G' := fun _ _ _ hl h w' hb hH => h w' hb (hl.holds hH)
def wpR (P : Program) (ops : Array Oper) (w : World) (L : List (Nat × Spec)) (Q' : Exit → Act → World → Prop) (l : List Oper) (k : Nat) (a : Act) (G : Facts) : Prop := wpK P ops (later w) (lookS L) (Qf Q' w) l k a G
theorem wp_region_R {id : Nat} {Q : Exit → Act → World → Prop} {a : Act} {w : World} {l : List Oper} (L : List (Nat × Spec)) (hm : P.follows .mixedOrders = true) (hB : Region.lexB .any l.toArray = true)
    (h : wpR P l.toArray w L Q l 0 a noFacts) : (Code.region id l.toArray true).wp P Q a w := wp_region_K (lookS L) hm hB h
section
variable {w : World} {L : List (Nat × Spec)} {Q' : Exit → Act → World → Prop}
theorem wpR_nil {k : Nat} {a : Act} {G : Facts} (h : ∀ w', Below w.heap.size w w' → Holds G w' → Q' .normal a w') : wpR P ops w L Q' [] k a G := h
theorem wpR_skip {o : Oper} {l : List Oper} {k : Nat} {a : Act} {G : Facts} (hw : Region.wanted o (yielded ops a.tmps) = false) (h : wpR P ops w L Q' l (k + 1) (a.put o.dst undef) G) : wpR P ops w L Q' (o :: l) k a G := by
  refine ⟨fun hw' => absurd (hw'.symm.trans hw) (by simp), fun v p hy hc => ?_⟩
  unfold Yl at hy
  rw [hw, if_neg (by simp)] at hy
  obtain ⟨rfl, rfl⟩ := hy
  exact wpK_weaken (Qf_le Q' w) _ _ _ _ _ ((Le.refl G).add_right _ _) h
theorem wpR_seg1 {o : Oper} {l : List Oper} {k : Nat} {a : Act} {G : Facts} (hp : plain o = true) (hs : lookS L k = none)
    (h : if Region.wanted o (yielded ops a.tmps) then o.quiet P a (later w) (fun a' => wpR P ops w L Q' l (k + 1) a' G) else wpR P ops w L Q' l (k + 1) (a.put o.dst undef) G) : wpR P ops w L Q' (o :: l) k a G := by
  by_cases hw : Region.wanted o (yielded ops a.tmps) = true
  · rw [if_pos hw] at h
    obtain ⟨v, h1, h2⟩ := h
    have hv : ∀ W, later w W → knows ops o G W → upPure W v ((execOp a.eval o).run P W) := fun W hC _ => pure_of_quiet hp (h1 W hC)
    refine ⟨fun _ => by rw [hs]; exact ⟨v, hv⟩, fun v' p hy hc => ?_⟩
    unfold Yl at hy
    rw [if_pos hw, hs] at hy
    obtain ⟨hv', rfl⟩ := hy
    obtain ⟨W, hC, hH⟩ := hc
    have hk : knows ops o G W := fun t q hq _ => hH t q (.inr hq)
    obtain rfl := upPure_unique (hv W hC hk) (hv' W hC hk)
    exact wpK_weaken (Qf_le Q' w) _ _ _ _ _ ((Le.refl G).add_right _ _) h2
  · rw [if_neg hw] at h
    exact wpR_skip (by simpa using hw) h
/-- Operations that are the same in every world. -/
theorem wpR_seg' : ∀ (n : Nat) (l : List Oper) (k : Nat) (a : Act) (G : Facts), (l.take n).all plain = true → (∀ i, i < n → lookS L (k + i) = none) →
    wpQuiet P ops (later w) (fun a' => wpR P ops w L Q' (l.drop n) (k + n) a' G) (l.take n) a → wpR P ops w L Q' l k a G
  | 0, l, k, a, G, _, _, h => h
  | n + 1, [], k, a, G, _, _, h => h
  | n + 1, o :: l, k, a, G, hp, hs, h => by
    rw [List.take_succ_cons, List.all_cons, Bool.and_eq_true] at hp
    have hrec : ∀ a', wpQuiet P ops (later w) (fun a' => wpR P ops w L Q' (l.drop n) (k + (n + 1)) a' G) (l.take n) a' → wpR P ops w L Q' l (k + 1) a' G := fun a' h' =>
      wpR_seg' n l (k + 1) a' G hp.2 (fun i hi => by have := hs (i + 1) (by omega); rwa [show k + (i + 1) = k + 1 + i by omega] at this) (by rw [show k + 1 + n = k + (n + 1) by omega]; exact h')
    refine wpR_seg1 hp.1 (hs 0 (by omega)) ?_
    change (if Region.wanted o (yielded ops a.tmps) = true then o.quiet P a (later w) (wpQuiet P ops (later w) (fun a' => wpR P ops w L Q' (l.drop n) (k + (n + 1)) a' G) (l.take n)) else wpQuiet P ops (later w) (fun a' => wpR P ops w L Q' (l.drop n) (k + (n + 1)) a' G) (l.take n) (a.put o.dst undef)) at h
    split at h
    · rename_i hw; rw [if_pos hw]; exact Oper.quiet_mono hrec h
    · rename_i hw; rw [if_neg hw]; exact hrec _ h
theorem wpR_seg (n : Nat) {l seg rest : List Oper} {k k' : Nat} {a : Act} {G : Facts} (h1 : l.take n = seg) (h2 : l.drop n = rest) (h3 : k + n = k') (hp : seg.all plain = true) (hs : (L.map Prod.fst).all (fun j => decide (j < k) || decide (k + n ≤ j)) = true)
    (h : wpQuiet P ops (later w) (fun a' => wpR P ops w L Q' rest k' a' G) seg a) : wpR P ops w L Q' l k a G := by
  subst h1 h2 h3
  exact wpR_seg' n l k a G hp (lookS_none L k n hs) h
theorem wpR_one {o : Oper} {l : List Oper} {k : Nat} {a : Act} {G : Facts} (hp : plain o = true) (hs : lookS L k = none)
    (h : wpQuiet P ops (fun w' => ∃ p : Regrown, w' = Go.Sort.grow (redrawn w p.d) p.os) (fun a' => wpR P ops w L Q' l (k + 1) a' G) [o] a) : wpR P ops w L Q' (o :: l) k a G := wpR_seg1 hp hs h
theorem wpR_pass {o : Oper} {l : List Oper} {k : Nat} {a : Act} {G : Facts} (hw : Region.wanted o (yielded ops a.tmps) = false)
    (h : wpQuiet P ops (fun w' => ∃ p : Regrown, w' = Go.Sort.grow (redrawn w p.d) p.os) (fun a' => wpR P ops w L Q' l (k + 1) a' G) [o] a) : wpR P ops w L Q' (o :: l) k a G := by
  unfold wpQuiet at h
  rw [hw] at h
  exact wpR_skip hw h
theorem upMany_enter {S : Spec} {W : World} {f : FuncId} {args : Array Value} (h : Calls P f args W fun e w'' => ∃ v, e = .returned v ∧ S v w'' ∧ Below W.heap.size W w'') : upMany P S W (.ok (.enter f args) W) := ⟨rfl, h⟩
/-- A call: what its contract says. -/
theorem wpR_call {o : Oper} {l : List Oper} {k : Nat} {a : Act} {G : Facts} (S : Spec) {d : Tmp} (hd : o.dst = some d) (hs : lookS L k = some S) (hw : Region.wanted o (yielded ops a.tmps) = true)
    (hob : ∀ W, later w W → knows ops o G W → upMany P S W ((execOp a.eval o).run P W))
    (h : ∀ v, (∃ W, Below w.heap.size w W ∧ Holds G W ∧ clo S v W) → wpR P ops w L Q' l (k + 1) (a.put o.dst v) (addG o.dst (clo S v) G)) : wpR P ops w L Q' (o :: l) k a G := by
  refine ⟨fun _ => by rw [hs]; exact hob, fun v p hy hc => ?_⟩
  unfold Yl at hy
  rw [if_pos hw, hs] at hy
  obtain rfl : p = clo S v := hy
  obtain ⟨W, hC, hH⟩ := hc
  exact h v ⟨W, later_iff.1 hC, fun t q hq => hH t q (.inr hq), hH d _ (.inl ⟨hd, rfl⟩)⟩
/-- An operation that looks at what is known of a value; what is known of it goes on to its own. -/
theorem wpR_fact {o : Oper} {l : List Oper} {k : Nat} {a : Act} {G : Facts} (hs : lookS L k = none) (hw : Region.wanted o (yielded ops a.tmps) = true) (v : Value)
    (hv : ∀ W, later w W → knows ops o G W → upPure W v ((execOp a.eval o).run P W)) (h : wpR P ops w L Q' l (k + 1) (a.put o.dst v) (addG o.dst (knows ops o G) G)) : wpR P ops w L Q' (o :: l) k a G := by
  refine ⟨fun _ => by rw [hs]; exact ⟨v, hv⟩, fun v' p hy hc => ?_⟩
  unfold Yl at hy
  rw [if_pos hw, hs] at hy
  obtain ⟨hv', rfl⟩ := hy
  obtain ⟨W, hC, hH⟩ := hc
  have hk : knows ops o G W := fun t q hq _ => hH t q (.inr hq)
  obtain rfl := upPure_unique (hv W hC hk) (hv' W hC hk)
  exact h
end
end
/-! ### With a tail: what waits for all the others (appends, stores, assignments) -/
section
variable {P : Program} {ops : Array Oper} {C : World → Prop} {spec : Nat → Option Spec} {md : Region.Mode} {n : Nat}
def blocksB (md : Region.Mode) (ops : Array Oper) : Nat → Nat → Nat → Bool
  | 0, t, i => Region.waitsFor md ops t i
  | f + 1, t, i => Region.waitsFor md ops t i || (List.range ops.size).any fun j => Region.waitsFor md ops t j && blocksB md ops f j i
def Closed (md : Region.Mode) (ops : Array Oper) (listed : Array Bool) : Prop := ∀ j oj, ops[j]? = some oj → listed.getD j false = true → ∀ e ∈ oj.after, Region.binds md e = true → listed.getD e.on false = true
def closedB (md : Region.Mode) (ops : Array Oper) (listed : Array Bool) : Bool := (List.range ops.size).all fun j => !(listed.getD j false) || match ops[j]? with | some oj => oj.after.all fun e => !(Region.binds md e) || listed.getD e.on false | none => true
theorem closed_of {listed : Array Bool} (h : closedB md ops listed = true) : Closed md ops listed := by
  intro j oj hj hl e he hb
  have hlt : j < ops.size := (Array.getElem?_eq_some_iff.1 hj).1
  have h1 := List.all_eq_true.1 h j (List.mem_range.2 hlt)
  rw [hl, hj] at h1
  simp only [Bool.not_true, Bool.false_or] at h1
  have h2 := Array.all_eq_true_iff_forall_mem.1 h1 e he
  rw [hb] at h2
  simpa using h2
theorem closed_set {listed : Array Bool} (h : Closed md ops listed) {i : Nat} (hi : i ∈ Region.ready md ops listed) : Closed md ops (listed.setIfInBounds i true) := by
  obtain ⟨_, oi, hoi, hall⟩ := mem_ready.1 hi
  intro j oj hj hl e he hb
  by_cases hij : i = j
  · subst hij
    have : oj = oi := Option.some.inj (hj.symm.trans hoi)
    subst this
    exact getD_set_true (hall e he hb)
  · rw [getD_set_ne false hij] at hl
    exact getD_set_true (h j oj hj hl e he hb)
theorem listed_of_blocks {listed : Array Bool} (h : Closed md ops listed) : ∀ (f j i : Nat), listed.getD j false = true → blocksB md ops f j i = true → listed.getD i false = true
  | 0, j, i, hl, hb => by
    obtain ⟨oj, hj, e, he, hbi, rfl⟩ := Region.waitsFor_spec hb
    exact h j oj hj hl e he hbi
  | f + 1, j, i, hl, hb => by
    unfold blocksB at hb
    rcases Bool.or_eq_true_iff.1 hb with hb | hb
    · obtain ⟨oj, hj, e, he, hbi, rfl⟩ := Region.waitsFor_spec hb
      exact h j oj hj hl e he hbi
    · obtain ⟨k, _, hk⟩ := List.any_eq_true.1 hb
      obtain ⟨hk1, hk2⟩ := Bool.and_eq_true_iff.1 hk
      obtain ⟨oj, hj, e, he, hbi, rfl⟩ := Region.waitsFor_spec hk1
      exact listed_of_blocks h f e.on i (h j oj hj hl e he hbi) hk2
theorem not_ready_of_blocks {listed : Array Bool} (h : Closed md ops listed) {f t i : Nat} (hb : blocksB md ops f t i = true) (hun : listed.getD i true = false) : t ∉ Region.ready md ops listed := by
  intro ht
  obtain ⟨_, ot, hot, hall⟩ := mem_ready.1 ht
  have key : listed.getD i false = true := by
    cases f with
    | zero =>
      obtain ⟨oj, hj, e, he, hbi, rfl⟩ := Region.waitsFor_spec hb
      have : oj = ot := Option.some.inj (hj.symm.trans hot)
      subst this
      exact hall e he hbi
    | succ f =>
      unfold blocksB at hb
      rcases Bool.or_eq_true_iff.1 hb with hb | hb
      · obtain ⟨oj, hj, e, he, hbi, rfl⟩ := Region.waitsFor_spec hb
        have : oj = ot := Option.some.inj (hj.symm.trans hot)
        subst this
        exact hall e he hbi
      · obtain ⟨k, _, hk⟩ := List.any_eq_true.1 hb
        obtain ⟨hk1, hk2⟩ := Bool.and_eq_true_iff.1 hk
        obtain ⟨oj, hj, e, he, hbi, rfl⟩ := Region.waitsFor_spec hk1
        have : oj = ot := Option.some.inj (hj.symm.trans hot)
        subst this
        exact listed_of_blocks h f e.on i (hall e he hbi) hk2
  rw [getD_both hun] at key
  cases key
/-- The tail's operations, that wait for all of the head's. -/
def Tail (md : Region.Mode) (ops : Array Oper) (n : Nat) (ts : List Nat) (listed : Array Bool) : Prop := Closed md ops listed ∧ ∀ t, n ≤ t → t ∈ Region.ready md ops listed → t ∈ ts
def wpAnyT (P : Program) (ops : Array Oper) (C : World → Prop) (spec : Nat → Option Spec) (md : Region.Mode) (n : Nat) (Lq : Array Bool → Act → Facts → Prop) : Nat → Array Bool → Act → Facts → Prop
  | 0, listed, a, G => Lq listed a G
  | f + 1, listed, a, G => Region.ready md ops listed ≠ [] ∧ ∀ i ∈ Region.ready md ops listed, i < n ∧ opK P ops C spec i (wpAnyT P ops C spec md n Lq f (listed.setIfInBounds i true)) a G
variable {Lq : Array Bool → Act → Facts → Prop} {ts : List Nat} {fu : Nat}
def waitB (md : Region.Mode) (ops : Array Oper) (n fu : Nat) (ts : List Nat) : Bool := ts.all fun t => (List.range n).all fun i => blocksB md ops fu t i
theorem tail_not (hw : waitB md ops n fu ts = true) {listed : Array Bool} (hT : Closed md ops listed) (hun' : ∀ j, n ≤ j → listed.getD j true = false → j ∈ ts) {i : Nat} (hi : i < n) (hun : listed.getD i true = false) : ∀ t ∈ Region.ready md ops listed, t < n := by
  intro t ht
  rcases Nat.lt_or_ge t n with h | h
  · exact h
  · exfalso
    have h1 := hun' t h (mem_ready.1 ht).1
    have h2 := List.all_eq_true.1 (List.all_eq_true.1 hw t h1) i (List.mem_range.2 hi)
    exact not_ready_of_blocks hT h2 hun ht
variable (hCup : ∀ W W', C W → Below W.heap.size W W' → C W')
include hCup
theorem wpAny_of_T {g : Nat} {Q' : Exit → Act → World → Prop} (hL : ∀ listed a G w, C w → Holds G w → Lq listed a G → wpAny P md ops Q' g listed a w) :
    ∀ (f : Nat) (listed : Array Bool) (a : Act) (G : Facts) (w : World), MonoG G → C w → Holds G w → wpAnyT P ops C spec md n Lq f listed a G → wpAny P md ops Q' (f + g) listed a w
  | 0, listed, a, G, w, _, hw, hH, h => by rw [Nat.zero_add]; exact hL _ _ _ _ hw hH h
  | f + 1, listed, a, G, w, hm, hw, hH, h => by
    rw [show f + 1 + g = (f + g) + 1 by omega]
    exact ⟨fun h0 => absurd h0 h.1, fun i hi => wpOp_of_opK hCup hm hw hH (fun a' G' w' hm' hw' hH' => wpAny_of_T hL f _ a' G' w' hm' hw' hH') (h.2 i hi).2⟩
theorem wpAnyT_first {i : Nat} {oi : Oper} (hi : ops[i]? = some oi) (hsel : ∀ (j : Nat) (o : Oper) cs b, ops[j]? = some o → o.op ≠ .select cs b)
    (hs : waitB md ops n fu ts = true) (hin : i < n) (hdone : ∀ listed a G, Lq listed a G → ∀ j ∈ Region.ready md ops listed, n ≤ j) :
    ∀ (fuel : Nat) (listed : Array Bool) (a : Act) (G : Facts), MonoG G → Cons C G → Closed md ops listed → (∀ j, n ≤ j → listed.getD j true = false → j ∈ ts) →
      (∀ j oj, ops[j]? = some oj → j ≠ i → listed.getD j true = false → (∀ e ∈ oj.after, Region.binds md e = true → e.on ≠ i) → oi.apart ops oj = true) →
      i ∈ Region.ready md ops listed → opK P ops C spec i (wpAnyT P ops C spec md n Lq fuel (listed.setIfInBounds i true)) a G → wpAnyT P ops C spec md n Lq (fuel + 1) listed a G := by
  intro fuel
  induction fuel with
  | zero =>
    intro listed a G hm hc hT hT' _ hr H
    have hun := (mem_ready.1 hr).1
    refine ⟨fun h => (by rw [h] at hr; cases hr), fun j hj => ⟨tail_not hs hT hT' hin hun j hj, ?_⟩⟩
    by_cases hji : j = i
    · subst hji; exact H
    · obtain ⟨a', G', h⟩ := opK_some hCup hm hc H
      have h1 := hdone _ _ _ h j (ready_mono hj hji)
      have h2 := tail_not hs hT hT' hin hun j hj
      omega
  | succ fuel ih =>
    intro listed a G hm hc hT hT' hfree hr H
    have hun := (mem_ready.1 hr).1
    refine ⟨fun h => (by rw [h] at hr; cases hr), fun j hj => ⟨tail_not hs hT hT' hin hun j hj, ?_⟩⟩
    by_cases hji : j = i
    · subst hji; exact H
    · have h1 : opK P ops C spec i (fun a' G' => opK P ops C spec j (wpAnyT P ops C spec md n Lq fuel ((listed.setIfInBounds i true).setIfInBounds j true)) a' G') a G := opK_mono (fun a' G' h => (h.2 j (ready_mono hj hji)).2) H
      obtain ⟨hjun, oj, hoj, hall⟩ := mem_ready.1 hj
      have hnot : ∀ e ∈ oj.after, Region.binds md e = true → e.on ≠ i := fun e he hb heq => by
        have h1 := hall e he hb
        rw [heq, getD_both hun] at h1
        cases h1
      have h2 := opK_swap hCup hi hoj (hfree j oj hoj hji hjun hnot) (fun cs b => hsel i oi cs b hi) (fun cs b => hsel j oj cs b hoj) hm hc h1
      have hfree' : ∀ k ok, ops[k]? = some ok → k ≠ i → (listed.setIfInBounds j true).getD k true = false →
          (∀ e ∈ ok.after, Region.binds md e = true → e.on ≠ i) → oi.apart ops ok = true := fun k ok hk hki hun hno => by
        refine hfree k ok hk hki ?_ hno
        by_cases hjk : j = k
        · subst hjk; exact hjun
        · rw [getD_set_ne true hjk] at hun; exact hun
      have hTj : ∀ k, n ≤ k → (listed.setIfInBounds j true).getD k true = false → k ∈ ts := fun k hk hl => hT' k hk (by
        by_cases hjk : j = k
        · subst hjk; exact hjun
        · rw [getD_set_ne true hjk] at hl; exact hl)
      refine opK_mono' hm hc (fun a' G' hm' hc' h3 => ih (listed.setIfInBounds j true) a' G' hm' hc' (closed_set hT hj) hTj hfree' (ready_mono hr (Ne.symm hji)) ?_) h2
      rw [Array.setIfInBounds_comm _ _ hji]
      exact h3
omit hCup
def seqI (md : Region.Mode) (ops : Array Oper) : List Nat → Array Bool → Bool
  | [], listed => (Region.ready md ops listed).isEmpty
  | t :: ts, listed => decide (Region.ready md ops listed = [t]) && seqI md ops ts (listed.setIfInBounds t true)
def headI (md : Region.Mode) (ops : Array Oper) (ts : List Nat) : Nat → Nat → Array Bool → Bool
  | 0, _, listed => seqI md ops ts listed
  | f + 1, k, listed => (Region.ready md ops listed).contains k && Region.free md ops listed k && headI md ops ts f (k + 1) (listed.setIfInBounds k true)
theorem seqI_ready {listed : Array Bool} (hts : ∀ t ∈ ts, n ≤ t) (h : seqI md ops ts listed = true) : ∀ j ∈ Region.ready md ops listed, n ≤ j := by
  cases ts with
  | nil => intro j hj; simp only [seqI, List.isEmpty_iff] at h; rw [h] at hj; cases hj
  | cons t ts =>
    intro j hj
    simp only [seqI, Bool.and_eq_true, decide_eq_true_eq] at h
    rw [h.1] at hj
    have : j = t := by simpa using hj
    subst this
    exact hts _ (by simp)
def takeI (l : List Oper) : List Nat → List Oper
  | [] => []
  | i :: is => match l[i]? with | some o => o :: takeI l is | none => []
theorem wpAny_of_seqI {Q' : Exit → Act → World → Prop} {l : List Oper} : ∀ (ts : List Nat) (listed : Array Bool) (a : Act) (w : World),
    seqI md l.toArray ts listed = true → wpList P l.toArray Q' (takeI l ts) a w → (∀ t ∈ ts, t < l.length) → wpAny P md l.toArray Q' ts.length listed a w
  | [], listed, a, w, hB, h, _ => ⟨by simpa [seqI] using hB, h⟩
  | t :: ts, listed, a, w, hB, h, hl => by
    simp only [seqI, Bool.and_eq_true, decide_eq_true_eq] at hB
    refine ⟨fun h1 => (by rw [hB.1] at h1; cases h1), fun i hi => ?_⟩
    rw [hB.1] at hi
    have hik : i = t := by simpa using hi
    subst hik
    have hlt := hl i (by simp)
    have h0 : l[i]? = some l[i] := List.getElem?_eq_getElem hlt
    rw [takeI, h0] at h
    have hw : wpOp P l.toArray Q' i (wpList P l.toArray Q' (takeI l ts)) a w := by
      unfold wpOp
      rw [List.getElem?_toArray, h0]
      exact h
    exact wpOp_mono (fun a' w' h' => wpAny_of_seqI ts _ a' w' hB.2 h' (fun t ht => hl t (List.mem_cons_of_mem _ ht))) hw
include hCup
theorem wpAnyT_lex {Q : Act → Facts → Prop} (hsel : Region.noSelect ops = true) (hs : waitB md ops n fu ts = true) (hts : ∀ t ∈ ts, n ≤ t) : ∀ (l : List Oper) (k : Nat) (listed : Array Bool) (a : Act) (G : Facts), MonoG G → Cons C G → Closed md ops listed → (∀ j, n ≤ j → listed.getD j true = false → j ∈ ts) →
    (∀ j, j < l.length → l[j]? = ops[k + j]?) → k + l.length = n → headI md ops ts l.length k listed = true → wpK P ops C spec Q l k a G →
    wpAnyT P ops C spec md n (fun listed' a' G' => seqI md ops ts listed' = true ∧ Q a' G') l.length listed a G
  | [], k, listed, a, G, _, _, _, _, _, hk, hB, h => by
    have : k = n := by simpa using hk
    subst this
    exact ⟨by simpa [headI] using hB, h⟩
  | o :: l, k, listed, a, G, hm, hc, hT, hT', hl, hk, hB, h => by
    have h0 : ops[k]? = some o := by simpa using (hl 0 (by simp)).symm
    simp only [List.length_cons, headI, Bool.and_eq_true] at hB
    obtain ⟨⟨hr, hf⟩, hB'⟩ := hB
    have hkn : k < n := by simp only [List.length_cons] at hk; omega
    have hr' : k ∈ Region.ready md ops listed := by simpa using hr
    refine wpAnyT_first hCup h0 (Region.noSelect_spec hsel) hs hkn (fun listed' a' G' hL => seqI_ready hts hL.1) l.length listed a G hm hc hT hT' (Region.free_spec h0 hf) hr' ?_
    unfold opK
    simp only [h0]
    exact ⟨h.1, fun v p hy hc' => wpAnyT_lex hsel hs hts l (k + 1) _ _ _ (monoG_add hm (Yl_mono hm hy)) hc' (closed_set hT hr') (fun j hj hl' => hT' j hj (by rw [getD_set_ne true (by omega)] at hl'; exact hl')) (fun j hj => by have := hl (j + 1) (by simp; omega); simpa [Nat.add_assoc, Nat.add_comm 1 j] using this) (by simp only [List.length_cons] at hk; omega) hB' (h.2 v p hy hc')⟩
omit hCup
/-- An operation that yields the same in whatever world, taken first. -/
theorem wpAny_take1 {Q : Exit → Act → World → Prop} (i : Nat) (v : Value) {oi : Oper} {fuel : Nat} {listed : Array Bool} {a : Act} {w : World} (hi : ops[i]? = some oi)
    (hs : Region.noSelect ops = true) (hf : Region.free md ops listed i = true) (hr : (Region.ready md ops listed).contains i = true)
    (hQ : ∀ c a w, Q (.panic c) (a.put oi.dst v) w → Q (.panic c) a w) (hw : Region.wanted oi (yielded ops a.tmps) = true) (hv : ∀ W, (execOp a.eval oi).run P W = .ok (.value v) W)
    (h : wpAny P md ops Q fuel (listed.setIfInBounds i true) (a.put oi.dst v) w) : wpAny P md ops Q (fuel + 1) listed a w := wpAny_take hi hs hf hr hQ (.inl ⟨hw, hv⟩) h
/-- All that is checked of the region: n operations ahead, in whatever order; then ts, one behind the other. -/
def tailB (md : Region.Mode) (ops : Array Oper) (n : Nat) (ts : List Nat) (listed : Array Bool) : Bool :=
  Region.noSelect ops && closedB md ops listed && waitB md ops n 6 ts && (ts.all fun t => decide (n ≤ t) && decide (t < ops.size)) && ((List.range ops.size).all fun j => decide (j < n) || listed.getD j true || ts.contains j) && decide (listed.size = ops.size) && decide (n ≤ ops.size) && headI md ops ts n 0 listed
theorem wpAny_T {Q : Exit → Act → World → Prop} {a : Act} {w : World} {l : List Oper} (n : Nat) (ts : List Nat) (L : List (Nat × Spec)) {listed : Array Bool} {hd tl : List Oper} (h1 : l.take n = hd) (h2 : takeI l ts = tl) (hB : tailB md l.toArray n ts listed = true)
    (h : wpR P l.toArray w L (fun _ a' w' => wpList P l.toArray Q tl a' w') hd 0 a noFacts) : wpAny P md l.toArray Q (n + ts.length) listed a w := by
  subst h1 h2
  simp only [tailB, Bool.and_eq_true, decide_eq_true_eq] at hB
  obtain ⟨⟨⟨⟨⟨⟨⟨hsel, hcl⟩, hs⟩, hts⟩, hun⟩, hsz⟩, hn⟩, hlex⟩ := hB
  have hts1 : ∀ t ∈ ts, n ≤ t := fun t ht => by have := List.all_eq_true.1 hts t ht; simp at this; exact this.1
  have hts2 : ∀ t ∈ ts, t < l.length := fun t ht => by have := List.all_eq_true.1 hts t ht; simp at this; exact this.2
  have hn' : n ≤ l.length := by simpa using hn
  have htl : (l.take n).length = n := by simp; omega
  have hup : ∀ W W', later w W → Below W.heap.size W W' → later w W' := fun W W' h1 h2 => later_iff.2 (below_trans (later_iff.1 h1) h2)
  have h0 : later w w := later_iff.2 (Below.refl _ _)
  have hN : MonoG noFacts := fun _ _ h => h.elim
  have hH : Holds noFacts w := fun _ _ h => h.elim
  have hT' : ∀ j, n ≤ j → listed.getD j true = false → j ∈ ts := fun j hj hl => by
    have hjs : j < l.toArray.size := by
      rcases Nat.lt_or_ge j listed.size with h | h
      · omega
      · simp [Array.getElem?_eq_none h] at hl
    have := List.all_eq_true.1 hun j (List.mem_range.2 hjs)
    simp only [Bool.or_eq_true, decide_eq_true_eq, hl] at this
    rcases this with (h | h) | h
    · omega
    · cases h
    · simpa using h
  have H := wpAnyT_lex (n := n) (ts := ts) (md := md) (C := later w) (spec := lookS L) hup hsel hs hts1 (l.take n) 0 listed a noFacts hN ⟨_, h0, hH⟩ (closed_of hcl) hT' (fun j hj => by
    have hj' : j < n := by rw [htl] at hj; exact hj
    simp [hj']) (by simpa using htl) (by rw [htl]; exact hlex) h
  have := wpAny_of_T (Q' := Q) (g := ts.length) hup (fun listed a' G' w' hw' hH' hL => wpAny_of_seqI ts listed a' w' hL.1 (hL.2 w' (later_iff.1 hw') hH') hts2) _ _ _ noFacts _ hN h0 hH H
  rwa [htl] at this
theorem wp_region_T {id : Nat} {Q : Exit → Act → World → Prop} {a : Act} {w : World} {l : List Oper} (n : Nat) (ts : List Nat) (L : List (Nat × Spec)) {hd tl : List Oper} (h1 : l.take n = hd) (h2 : takeI l ts = tl) (hm : P.follows .mixedOrders = true)
    (hB : (tailB .any l.toArray n ts (Array.replicate l.toArray.size false) && decide (n + ts.length = l.toArray.size)) = true)
    (h : wpR P l.toArray w.drew L (fun _ a' w' => wpList P l.toArray Q tl a' w') hd 0 a noFacts) : (Code.region id l.toArray true).wp P Q a w := by
  simp only [Bool.and_eq_true, decide_eq_true_eq] at hB
  refine wp_region_any hm ?_
  have := wpAny_T (w := w.drew) n ts L h1 h2 hB.1 h
  rw [hB.2] at this
  exact this
end
end Go.Proofs.YtbjcahhijfommaaDoor.Kr
