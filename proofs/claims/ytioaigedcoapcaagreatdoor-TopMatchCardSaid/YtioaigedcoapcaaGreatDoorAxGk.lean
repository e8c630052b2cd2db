/- The functions that the executor does not go through: their table; which others it goes through. -/
import Derived.Test.YtioaigedcoapcaaGreatDoorAxGi
import Derived.Test.YtioaigedcoapcaaGreatDoorAxGj
namespace Go.Ax
open Go Go.Proofs Go.RowKit

noncomputable def sel (f n : Nat) (a b : Prim) : Prim := @Bool.rec (fun _ => Prim) b a (Nat.beq f n)
noncomputable def primA (f : Nat) : Prim := sel f 391 ⟨some pIbs⟩ (sel f 360 ⟨some pFields⟩ (sel f 219 ⟨some pEsc⟩ (sel f 221 ⟨some pNo⟩ (sel f 303 ⟨some pNamed⟩ (sel f 6 ⟨some pSix⟩ ⟨none⟩)))))
theorem sel_run {f n : Nat} {a b : Prim} {p : CK → List AV → Hp → RC} (h : (sel f n a b).run = some p) : (f = n ∧ a.run = some p) ∨ b.run = some p := by
  unfold sel at h
  cases hb : Nat.beq f n with
  | true => rw [hb] at h; exact .inl ⟨nat_beq hb, h⟩
  | false => rw [hb] at h; exact .inr h
theorem mixed : Tryz.prog.follows .mixedOrders = true := by kernel_rfl
theorem primA_ok : PrimOk Tryz.prog primA := by
  intro f p hp ck hck φ h w args vs r h' hR hv he
  unfold primA at hp
  rcases sel_run hp with ⟨rfl, h1⟩ | hp
  · cases h1; exact ok_pIbs hR hv he
  rcases sel_run hp with ⟨rfl, h1⟩ | hp
  · cases h1; exact ok_pFields hR hv he
  rcases sel_run hp with ⟨rfl, h1⟩ | hp
  · cases h1; exact ok_pEsc hR hv he
  rcases sel_run hp with ⟨rfl, h1⟩ | hp
  · cases h1; exact ok_pNo hR hv he
  rcases sel_run hp with ⟨rfl, h1⟩ | hp
  · cases h1; exact ok_pNamed hR hv he
  rcases sel_run hp with ⟨rfl, h1⟩ | hp
  · cases h1; exact ok_pSix hck mixed hR hv he
  · cases hp
/-- The functions that are gone through, a bit each. -/
noncomputable def setU : Nat := 19701304335484013090645823398262848515724985320440461118244501245233657600120690824701102138438492695856792639373240
noncomputable def lookU : Nat → List Func → Bool
  | _, [] => true
  | i, fn :: l => (match bit setU i, fn.body with
    | true, some c => allDraw Tryz.prog c && !(fn.name == "runtime.NumGoroutine")
    | _, _ => true) && lookU (i + 1) l
theorem lookU_ok : ∀ {l : List Func} {i : Nat}, lookU i l = true → ∀ j fn c, l[j]? = some fn → bit setU (i + j) = true → fn.body = some c → allDraw Tryz.prog c = true ∧ (fn.name == "runtime.NumGoroutine") = false
  | [], _, _, j, fn, c, h, _, _ => by cases h
  | g :: l, i, h, j, fn, c, hj, hb, hc => by
    have h : ((match bit setU i, g.body with
      | true, some c => allDraw Tryz.prog c && !(g.name == "runtime.NumGoroutine")
      | _, _ => true) && lookU (i + 1) l) = true := h
    rw [Bool.and_eq_true] at h
    cases j with
    | zero =>
      cases hj
      have h1 := h.1
      rw [Nat.add_zero] at hb
      rw [hb, hc] at h1
      dsimp only at h1
      rw [Bool.and_eq_true, Bool.not_eq_true'] at h1
      exact h1
    | succ j => exact lookU_ok h.2 j fn c hj (by rw [show i + 1 + j = i + (j + 1) by omega]; exact hb) hc
theorem looked : lookU 0 Tryz.prog.funcs.toList = true := by kernel_rfl
theorem setU_ok : UOk Tryz.prog setU := fun f fn c hb hf hc => lookU_ok looked f fn c (by rw [Array.getElem?_toList]; exact hf) (by rw [Nat.zero_add]; exact hb) hc
noncomputable def ckA : CK := callAt Tryz.prog setU primA 60
theorem ckA_ok : CKOk Tryz.prog ckA := callAt_ok setU_ok primA_ok mixed 60
end Go.Ax
namespace Go.Ax
open Go Go.Proofs Go.RowKit

/-- strings.asciiSpace, as the executor has it. -/
noncomputable def tabL : List AV := (List.range 256).map fun c => .int .u8 (if Lib.isSp (UInt8.ofNat c) then 1 else 0)
theorem tabL_eq {l : List AV} (h : tabB 0 l = true) : l = tabL := by
  obtain ⟨h1, h2⟩ := tabB_at h
  apply List.ext_getElem?
  intro j
  by_cases hj : j < l.length
  · rw [h2 j hj, Nat.zero_add]
    unfold tabL
    rw [List.getElem?_map, List.getElem?_range (by omega)]
    rfl
  · rw [List.getElem?_eq_none (by omega), List.getElem?_eq_none (by unfold tabL; rw [List.length_map, List.length_range]; omega)]
theorem tabL_any {φ ψ : Phi} : ∀ {l : List AV} {vs : List Value}, (∀ a ∈ l, ∃ k n, a = .int k n) → VL φ l vs → VL ψ l vs
  | [], _, _, h => h
  | a :: l, _, hi, h => by
    obtain ⟨v, r, rfl, h1, h2⟩ := h
    obtain ⟨k, n, rfl⟩ := hi _ (List.mem_cons_self ..)
    exact ⟨v, r, rfl, h1, tabL_any (fun a ha => hi a (List.mem_cons_of_mem _ ha)) h2⟩
theorem tabL_ints : ∀ a ∈ tabL, ∃ k n, a = .int k n := fun a ha => by
  obtain ⟨c, _, rfl⟩ := List.mem_map.1 ha
  exact ⟨_, _, rfl⟩
/-- The package's variables alone; of them strings.asciiSpace may be read. -/
noncomputable def hpT : Hp := Hp.put (idOfGlobal 3) (.one 0 256 tabL true) ⟨N16.fill (N16.fill (N16.fill (N16.fill Blk.none))), ⟨.d0, .d1, .d0, .d0⟩⟩
noncomputable def phiT : Phi := fun i => match i with
  | ⟨.d0, .d0, .d0, d⟩ => (match Nat.ble 9 d.num with
    | true => none
    | false => some ⟨d.num, 0, 0, 0⟩)
  | _ => none
theorem sel_fill {α : Type} (d : Dg) (x : α) : N16.sel d (N16.fill x) = x := by cases d <;> rfl
theorem hpT_get (i : Id) : hpT.get i = if i = idOfGlobal 3 then .one 0 256 tabL true else .none := by
  unfold hpT
  rw [Hp.get_put]
  split
  · rfl
  · obtain ⟨a, b, c, d⟩ := i
    show T4.get ⟨a, b, c, d⟩ _ = _
    rw [T4.get_eq, sel_fill, sel_fill, sel_fill, sel_fill]
theorem phiT_glob : GRel phiT := fun g hg => by
  have : g = 0 ∨ g = 1 ∨ g = 2 ∨ g = 3 ∨ g = 4 ∨ g = 5 ∨ g = 6 ∨ g = 7 ∨ g = 8 := by omega
  rcases this with rfl | rfl | rfl | rfl | rfl | rfl | rfl | rfl | rfl <;> rfl
theorem phiT_some {i : Id} {p : Pl} (h : phiT i = some p) : ∃ g, g < 9 ∧ i = idOfGlobal g ∧ p = ⟨g, 0, 0, 0⟩ := by
  unfold phiT at h
  split at h
  · rename_i d
    split at h
    · cases h
    · rename_i hb
      cases h
      have hlt := nat_nble hb
      refine ⟨d.num, hlt, ?_, rfl⟩
      revert hlt
      cases d <;> first | (intro _; rfl) | (intro h; exact absurd h (by decide))
  · cases h
/-- In a world that knows strings.asciiSpace, the package's variables alone. -/
theorem relT {w : World} (hsz : 9 ≤ w.heap.size) (ht : ∃ c fr ty, w.heap[3]? = some (.cells c ty fr) ∧ VL phiT tabL c.toList) : Rel phiT hpT w := by
  refine ⟨⟨fun i hi => ?_, fun i j p q hi hj hp hq e => ?_, phiT_glob⟩, fun i p hp => ?_⟩
  · rw [hpT_get] at hi ⊢
    split at hi
    · rename_i e
      subst e
      rw [if_pos rfl]
      obtain ⟨c, fr, ty, h1, h2⟩ := ht
      exact ⟨_, phiT_glob 3 (by decide), c, fr, ty, h1, rfl, by unfold tabL; simp, h2, fun a ha => (by obtain ⟨k, n, rfl⟩ := tabL_ints a ha; rfl), fun e => by cases e⟩
    · exact absurd rfl hi
  · rw [hpT_get] at hi
    split at hi <;> cases hi
  · obtain ⟨g, hg, rfl, rfl⟩ := phiT_some hp
    refine ⟨by show g < _; omega, ?_⟩
    have : g = 0 ∨ g = 1 ∨ g = 2 ∨ g = 3 ∨ g = 4 ∨ g = 5 ∨ g = 6 ∨ g = 7 ∨ g = 8 := by omega
    rcases this with rfl | rfl | rfl | rfl | rfl | rfl | rfl | rfl | rfl <;> decide
theorem relT_of {φ : Phi} {h : Hp} {w : World} (hR : Rel φ h w) (ht : tabH h = true) : Rel phiT hpT w := by
  have h9 := (hR.fresh (idOfGlobal 8) _ (hR.f.glob 8 (by decide))).1
  refine relT (by have h9 : 8 < w.heap.size := h9; omega) ?_
  unfold tabH at ht
  split at ht
  · rename_i ty m l hg
    obtain ⟨p, hp, hb⟩ := hR.f.live (idOfGlobal 3) (by rw [hg]; exact fun e => by cases e)
    rw [hR.f.glob 3 (by decide)] at hp
    cases hp
    rw [hg] at hb
    obtain ⟨cs, fr, ty', h3, h4, h5, h6, h7, h8⟩ := hb
    have hl := tabL_eq ht
    subst hl
    exact ⟨cs, fr, ty', h3, tabL_any tabL_ints h6⟩
  · cases ht
noncomputable def isT : RC → Bool
  | .ok (.bool true) _ => true
  | _ => false
theorem isT_ok {x : RC} (h : isT x = true) : ∃ h', x = .ok (.bool true) h' := by
  unfold isT at h
  split at h
  · exact ⟨_, rfl⟩
  · cases h
end Go.Ax
namespace Go.Ax
open Go Go.Proofs Go.RowKit

set_option maxRecDepth 1000000 in
theorem awake_run : isT (ckA.run 9 [] hpT) = true := by kernel_rfl
end Go.Ax
namespace Go.Ax
open Go Go.Proofs Go.RowKit

noncomputable def pAwake : CK → List AV → Hp → RC := fun _ args h => match args, tabH h with
  | [], true => .ok (.bool true) h
  | _, _ => .bad
theorem Step.below_of {h : Hp} {φ φ' : Phi} {h' : Hp} {w w' : World} (s : Step φ h w φ' h' w') (hno : ∀ b, ¬ Own φ h.get b) : Below w.heap.size w w' :=
  ⟨s.keep.os, s.keep.tape, s.keep.output, s.keep.size, fun k hk => s.keep.block k hk (hno k)⟩
theorem hpT_own (b : Nat) : ¬ Own phiT hpT.get b := fun ⟨i, p, h1, _, _⟩ => by
  have h1 : isRw (hpT.get i) = true := h1
  rw [hpT_get] at h1
  split at h1 <;> cases h1
theorem ok_pAwake {ck : CK} {φ : Phi} {h : Hp} {w : World} {args : List AV} {vs : List Value} {r : AV} {h' : Hp} (hR : Rel φ h w) (hv : VL φ args vs) (he : pAwake ck args h = .ok r h') : Inv Tryz.prog 9 vs.toArray w (Res φ h w r h') := by
  unfold pAwake at he
  split at he
  · rename_i ht
    cases he
    obtain ⟨hA, hrun⟩ := isT_ok awake_run
    have hvs : vs = [] := hv
    subst hvs
    have hin := ckA_ok.run phiT hpT w 9 [] [] _ _ (relT_of hR ht) rfl hrun
    rcases hin with ⟨h1, h2⟩ | ⟨h1, _⟩
    · refine .inl ⟨h1, fun n => fw_calls (ro := none) (h2 n) ?_⟩
      intro e w' hr
      cases e with
      | returned v =>
        obtain ⟨φ', h3, h4⟩ := hr
        exact ⟨φ, h3, Step.below hR (h4.below_of hpT_own)⟩
      | _ => exact hr.elim
    · cases h1
  · cases he
noncomputable def primC (f : Nat) : Prim := sel f 9 ⟨some pAwake⟩ (primA f)
theorem primC_ok : PrimOk Tryz.prog primC := by
  intro f p hp ck hck φ h w args vs r h' hR hv he
  unfold primC at hp
  rcases sel_run hp with ⟨rfl, h1⟩ | hp
  · cases h1; exact ok_pAwake hR hv he
  · exact primA_ok f p hp ck hck φ h w args vs r h' hR hv he
noncomputable def ckC : CK := callAt Tryz.prog setU primC 60
theorem ckC_ok : CKOk Tryz.prog ckC := callAt_ok setU_ok primC_ok mixed 60
end Go.Ax
