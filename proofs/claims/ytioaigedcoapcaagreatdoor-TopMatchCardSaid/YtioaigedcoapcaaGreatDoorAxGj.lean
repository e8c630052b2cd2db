/- strings.Fields, charref.Escape and token.named: what the executor takes of them. -/
import Derived.Test.YtioaigedcoapcaaGreatDoorAxGi
import Derived.Test.YtioaigedcoapcaaGreatDoorAxGh
import Derived.Test.YtioaigedcoapcaaGreatDoorAxTm
import Derived.Test.YtioaigedcoapcaaGreatDoorEsc
import Derived.Test.YtioaigedcoapcaaGreatDoorLays
namespace Go.Ax
open Go Go.Proofs Go.RowKit

/-! ### charref.Escape -/
/-- No byte that charref.Escape turns. -/
noncomputable def dryB (b : UInt8) : Bool := Nat.ble b.toNat 127 && !(Nat.beq b.toNat 34) && !(Nat.beq b.toNat 38) && !(Nat.beq b.toNat 60) && !(Nat.beq b.toNat 62)
noncomputable def allB (p : UInt8 → Bool) : List UInt8 → Bool
  | [] => true
  | b :: l => p b && allB p l
theorem allB_iff {p : UInt8 → Bool} : ∀ {l : List UInt8}, allB p l = true → ∀ b ∈ l, p b = true
  | [], _, b, hb => by cases hb
  | a :: l, h, b, hb => by
    have h : (p a && allB p l) = true := h
    rw [Bool.and_eq_true] at h
    rcases List.mem_cons.1 hb with rfl | hb
    · exact h.1
    · exact allB_iff h.2 b hb
noncomputable def pEsc : CK → List AV → Hp → RC := fun _ args h => match args with
  | [.str s, .bool _] => (match allB dryB s, Nat.ble (len s) 1000 with
    | true, true => .ok (.str s) h
    | _, _ => .bad)
  | _ => .bad
open Go.Proofs.YtioaigedcoapcaaGreatDoor.Gr in
theorem dry_rep (attr : Bool) : ∀ (l : List UInt8), (∀ b ∈ l, dryB b = true) → Rep (kOf attr) l l
  | [], _ => Rep.nil
  | c :: l, h => by
    refine Rep.skip c l l ?_ (dry_rep attr l fun b hb => h b (List.mem_cons_of_mem _ hb))
    have hc := h c (List.mem_cons_self ..)
    unfold dryB at hc
    simp only [Bool.and_eq_true, Bool.not_eq_true', ] at hc
    obtain ⟨⟨⟨⟨h1, h2⟩, h3⟩, h4⟩, h5⟩ := hc
    have h1 := nat_ble h1
    have n2 : c ≠ 34 := fun e => by subst e; cases h2
    have n3 : c ≠ 38 := fun e => by subst e; cases h3
    have n4 : c ≠ 60 := fun e => by subst e; cases h4
    have n5 : c ≠ 62 := fun e => by subst e; cases h5
    have n6 : c ≠ 194 := fun e => by subst e; revert h1; decide
    unfold hitOf
    rw [List.find?_eq_none]
    intro p hp
    have hp' : p ∈ k5 := by
      cases attr with
      | true => exact hp
      | false => exact List.mem_append.2 (.inl hp)
    unfold k5 k4 at hp'
    simp only [List.cons_append, List.nil_append, List.mem_cons, List.not_mem_nil, or_false] at hp'
    rcases hp' with rfl | rfl | rfl | rfl | rfl <;> simp [List.isPrefixOf, Ne.symm n2, Ne.symm n3, Ne.symm n4, Ne.symm n5, Ne.symm n6]
theorem ok_pEsc {ck : CK} {φ : Phi} {h : Hp} {w : World} {args : List AV} {vs : List Value} {r : AV} {h' : Hp} (hR : Rel φ h w) (hv : VL φ args vs) (he : pEsc ck args h = .ok r h') : Inv Tryz.prog 219 vs.toArray w (Res φ h w r h') := by
  unfold pEsc at he
  split at he
  · rename_i s attr
    split at he
    · rename_i h1 h2
      cases he
      obtain ⟨v, u, rfl, h3, h4⟩ := hv.two
      have h3 : v = .string ⟨⟨s⟩⟩ := h3
      have h4 : u = .bool attr := h4
      subst h3; subst h4
      have hl : s.length ≤ 1000 := by
        have := nat_ble h2
        rwa [len_eq] at this
      have hc := Go.Proofs.YtioaigedcoapcaaGreatDoor.Gr.escape_calls ⟨⟨s⟩⟩ attr (show s.length ≤ 1000000 by omega) w
      have e : Go.Proofs.YtioaigedcoapcaaGreatDoor.Gr.escB attr ⟨⟨s⟩⟩ = ⟨⟨s⟩⟩ := (Go.Proofs.YtioaigedcoapcaaGreatDoor.Gr.escB_of (s := ⟨⟨s⟩⟩) (dry_rep attr s (allB_iff h1))).symm
      rw [e] at hc
      exact inv_calls Tryz.func219 rfl rfl hR (show V φ (.str s) _ from rfl) hc
    · cases he
  · cases he

/-! ### token.named -/
noncomputable def lowerB (b : UInt8) : Bool := Nat.ble 97 b.toNat && Nat.ble b.toNat 122
noncomputable def pNamed : CK → List AV → Hp → RC := fun _ args h => match args with
  | [.str s] => (match allB lowerB s, Nat.ble (len s) 1000 with
    | true, true => .ok (.str s) h
    | _, _ => .bad)
  | _ => .bad
theorem named_lower (s : List UInt8) (hs : ∀ b ∈ s, lowerB b = true) : Go.Proofs.YtioaigedcoapcaaGreatDoor.Tk.namedP ⟨⟨s⟩⟩ = ⟨⟨s⟩⟩ := by
  unfold Go.Proofs.YtioaigedcoapcaaGreatDoor.Tk.namedP
  have e : (Go.Proofs.YtioaigedcoapcaaGreatDoor.Ru.lower s).map Go.Proofs.YtioaigedcoapcaaGreatDoor.Tk.nameB = s := by
    unfold Go.Proofs.YtioaigedcoapcaaGreatDoor.Ru.lower
    rw [List.map_map]
    conv => rhs; rw [← List.map_id s]
    apply List.map_congr_left
    intro b hb
    have h := hs b hb
    unfold lowerB at h
    rw [Bool.and_eq_true] at h
    have h1 := nat_ble h.1
    have h2 := nat_ble h.2
    have e1 : Go.Proofs.YtioaigedcoapcaaGreatDoor.Ru.lowB b = b := by
      rw [← UInt8.toNat_inj, Go.Proofs.YtioaigedcoapcaaGreatDoor.Ru.lowB_nat, if_neg (by omega)]
    show Go.Proofs.YtioaigedcoapcaaGreatDoor.Tk.nameB (Go.Proofs.YtioaigedcoapcaaGreatDoor.Ru.lowB b) = b
    rw [e1]
    unfold Go.Proofs.YtioaigedcoapcaaGreatDoor.Tk.nameB
    refine if_neg ?_
    rintro (rfl | rfl | rfl | rfl) <;> revert h1 <;> decide
  show (⟨(List.map Go.Proofs.YtioaigedcoapcaaGreatDoor.Tk.nameB (Go.Proofs.YtioaigedcoapcaaGreatDoor.Ru.lower s)).toArray⟩ : ByteArray) = _
  rw [e]
theorem ok_pNamed {ck : CK} {φ : Phi} {h : Hp} {w : World} {args : List AV} {vs : List Value} {r : AV} {h' : Hp} (hR : Rel φ h w) (hv : VL φ args vs) (he : pNamed ck args h = .ok r h') : Inv Tryz.prog 303 vs.toArray w (Res φ h w r h') := by
  unfold pNamed at he
  split at he
  · rename_i s
    split at he
    · rename_i h1 h2
      cases he
      obtain ⟨v, rfl, h3⟩ := hv.one
      have h3 : v = .string ⟨⟨s⟩⟩ := h3
      subst h3
      have hl : s.length ≤ 1000 := by
        have := nat_ble h2
        rwa [len_eq] at this
      have hc := Go.Proofs.YtioaigedcoapcaaGreatDoor.Br.named_calls ⟨⟨s⟩⟩ (show s.length ≤ 1000000 by omega) w
      rw [named_lower s (allB_iff h1)] at hc
      exact inv_calls Tryz.func303 rfl rfl hR (show V φ (.str s) _ from rfl) hc
    · cases he
  · cases he
end Go.Ax
namespace Go.Ax
open Go Go.Proofs Go.RowKit

noncomputable def spB (c : Nat) : AV → Bool
  | .int .u8 (.ofNat n) => Nat.beq n (match Lib.isSp (UInt8.ofNat c) with | true => 1 | false => 0)
  | _ => false
/-- The cells of strings.asciiSpace, from byte c on. -/
noncomputable def tabB : Nat → List AV → Bool
  | c, [] => Nat.beq c 256
  | c, a :: l => spB c a && tabB (c + 1) l
noncomputable def tabH (h : Hp) : Bool := match h.get (idOfGlobal 3) with
  | .one _ _ l true => tabB 0 l
  | _ => false
theorem tabB_at : ∀ {l : List AV} {c : Nat}, tabB c l = true → l.length + c = 256 ∧ ∀ j, j < l.length → l[j]? = some (.int .u8 (if Lib.isSp (UInt8.ofNat (c + j)) then 1 else 0))
  | [], c, h => ⟨by rw [List.length_nil, Nat.zero_add]; exact nat_beq h, fun j hj => absurd hj (Nat.not_lt_zero j)⟩
  | a :: l, c, h => by
    have h : (spB c a && tabB (c + 1) l) = true := h
    rw [Bool.and_eq_true] at h
    obtain ⟨h1, h2⟩ := h
    obtain ⟨h3, h4⟩ := tabB_at h2
    refine ⟨by rw [List.length_cons]; omega, fun j hj => ?_⟩
    cases j with
    | zero =>
      unfold spB at h1
      split at h1
      · rename_i n
        have := nat_beq h1
        rw [List.getElem?_cons_zero, this]
        cases Lib.isSp (UInt8.ofNat c) <;> rfl
      · cases h1
    | succ j =>
      rw [List.getElem?_cons_succ, h4 j (by simpa using hj), show c + 1 + j = c + (j + 1) by omega]
theorem VL.at_ {φ : Phi} : ∀ {l : List AV} {vs : List Value}, VL φ l vs → ∀ (j : Nat) (a : AV), l[j]? = some a → ∃ v, vs[j]? = some v ∧ V φ a v
  | [], _, _, j, a, h => by cases h
  | x :: l, _, hv, j, a, h => by
    obtain ⟨v, r, rfl, h1, h2⟩ := hv
    cases j with
    | zero => cases h; exact ⟨v, rfl, h1⟩
    | succ j => exact VL.at_ h2 j a h
theorem tab_cell {φ : Phi} {h : Hp} {w : World} (hR : Rel φ h w) (ht : tabH h = true) (c : Nat) (hc : c < 256) : w.cell? ⟨3, c, none⟩ = some (.int .u8 (if Lib.isSp (UInt8.ofNat c) then 1 else 0)) := by
  unfold tabH at ht
  split at ht
  · rename_i ty m l hg
    obtain ⟨h1, h2⟩ := tabB_at ht
    obtain ⟨p, hp, hb⟩ := hR.f.live (idOfGlobal 3) (by rw [hg]; exact fun e => by cases e)
    rw [hR.f.glob 3 (by decide)] at hp
    cases hp
    rw [hg] at hb
    obtain ⟨cs, fr, ty', h3, h4, h5, h6, h7, h8⟩ := hb
    have e := h2 c (by omega)
    rw [Nat.zero_add] at e
    obtain ⟨v, h9, h10⟩ := VL.at_ h6 c _ e
    rw [cell_row h3, ← Array.getElem?_toList, h9]
    exact congrArg some h10
  · cases ht
noncomputable def asciiB (b : UInt8) : Bool := Nat.ble b.toNat 127
noncomputable def pFields : CK → List AV → Hp → RC := fun _ args h => match args with
  | [.str s] => (match tabH h, allB asciiB s, Nat.ble (len s) 100000 with
    | true, true, true => okB (mkArr 9 1 (len (Lib.fields s)) false ((Lib.fields s).map fun x => [.str x])) h fun i => .sl i 0 (len (Lib.fields s)) (some (len (Lib.fields s)))
    | _, _, _ => .bad)
  | _ => .bad
theorem vels_strs {φ : Phi} : ∀ (L : List (List UInt8)), VEls φ 1 (L.map fun x => [AV.str x]) (L.map fun l => Value.string ⟨l.toArray⟩)
  | [] => VEls.nil
  | x :: L => by
    have := VEls.cons (φ := φ) (es := 1) (l := [AV.str x]) (vs := [Value.string ⟨x.toArray⟩]) ⟨_, _, rfl, rfl, rfl⟩ rfl (fun a ha => by rw [List.mem_singleton.1 ha]; rfl) (vels_strs L)
    exact this
theorem info9 : (Tryz.prog.info? 9).map (fun i => (i.zero, i.size, i.bytes)) = some (some (.string ByteArray.empty), 1, 16) := by kernel_rfl
theorem ok_pFields {ck : CK} {φ : Phi} {h : Hp} {w : World} {args : List AV} {vs : List Value} {r : AV} {h' : Hp} (hR : Rel φ h w) (hv : VL φ args vs) (he : pFields ck args h = .ok r h') : Inv Tryz.prog 360 vs.toArray w (Res φ h w r h') := by
  unfold pFields at he
  split at he
  · rename_i s
    split at he
    · rename_i h1 h2 h3
      obtain ⟨v, rfl, h4⟩ := hv.one
      have h4 : v = .string ⟨⟨s⟩⟩ := h4
      subst h4
      have hl : s.length ≤ 100000 := by
        have := nat_ble h3
        rwa [len_eq] at this
      obtain ⟨b, hb, rfl, hg, hn⟩ := okB_ok he
      obtain ⟨h256, rfl⟩ := mkArr_ok hb
      rw [len_eq] at h256 hg ⊢
      have hc := Any.strings_Fields_core Go.Proofs.YtioaigedcoapcaaGreatDoor.lays157 info9 ⟨⟨s⟩⟩ w (show s.length < 4294967281 by omega) (fun j b hj => by
        have hm : b ∈ s := List.mem_of_getElem? hj
        have := nat_ble (allB_iff h2 b hm)
        omega) (fun c hc => tab_cell hR h1 c hc)
      change Calls Tryz.prog 360 #[.string ⟨⟨s⟩⟩] w _ at hc
      refine .inl ⟨run_callFunc Tryz.func360 rfl (by rfl), fun n => callsIn_wide.2 (hc.mono ?_)⟩
      rintro e w' ⟨rfl, rfl⟩
      refine ⟨upd φ h.nx ⟨w.heap.size, 0, 1, (Lib.fields s).length⟩, ⟨_, upd_same _ _ _, rfl, Nat.le_refl _⟩, ?_⟩
      refine Step.new (b := .arr 9 1 (Lib.fields s).length false (fillFrom 0 ((Lib.fields s).map fun x => [AV.str x]) els0)) (o := .cells ((Lib.fields s).map fun l => Value.string ⟨l.toArray⟩).toArray 9) hR hg hn rfl rfl rfl rfl rfl ?_
      refine BRel.row (rest := []) (fr := (0, 0)) (by decide) (by simp) h256 (vels_strs _) ?_ rfl rfl (by simp) ⟨Nat.le_refl _, fun k _ hk => by omega⟩
      rw [List.append_nil]
      exact heap_alloc_new w _
    · cases he
  · cases he
end Go.Ax
