/- Slice expressions. -/
import Derived.Test.YtioaigedcoapcaaGreatDoorAxGb
import Derived.LaidEqlPtr
import Derived.Laws.BytesString
import Derived.Laws.NewFold
namespace Go.Ax
open Go
variable {P : Program}

theorem natA_ok {φ : Phi} {a : AV} {n : Nat} {v : Value} (h : natA a = some n) (hv : V φ a v) : ∃ k, v = .int k (Int.ofNat n) := by
  obtain ⟨k, m, rfl, h1⟩ := AV.onInt_some h
  cases m with
  | ofNat m => cases h1; exact ⟨k, hv⟩
  | negSucc m => cases h1
theorem run_sliceBound {v : Value} {k : IntKind} {n y : Nat} {code : BoundsCode} {w : World} (hv : v = .int k (Int.ofNat n)) (h : n ≤ y) : (Instr.sliceBound v y code).run P w = .ok n w := by
  subst hv
  have h0 : (0 : Int) ≤ Int.ofNat n ∧ Int.ofNat n ≤ (y : Int) := ⟨Int.natCast_nonneg n, by exact Int.ofNat_le.2 h⟩
  simp only [Instr.sliceBound, asIntOf, Sem.run_bind, Sem.run_pure, Result.andThen, if_pos h0, toNat_ofNat']
/-- The bounds of a slice expression are the model's. -/
theorem bounds_ok {φ : Phi} {lo hi mx : Option Operand} {ρ : Operand → Value} {as : List AV} {d : Nat} {k : Nat → Nat → Option Nat → Option AV} {r : AV}
    (h : bounds lo.isSome hi.isSome mx.isSome as d k = some r) (hv : VL φ as ((optL lo ++ optL hi ++ optL mx).map ρ)) :
    ∃ l h' m, k l h' m = some r ∧ m.isSome = mx.isSome ∧ ∀ (isSl : Bool) (c : Nat) (w : World), (∀ m', m = some m' → m' ≤ c) → h' ≤ m.getD c → l ≤ h' →
      (Instr.sliceBounds isSl d c (lo.map ρ) (hi.map ρ) (mx.map ρ)).run P w = .ok (l, h', m.getD c) w := by
  cases lo with
  | none => cases hi with
    | none => cases mx with
      | none =>
        cases as with
        | nil => exact ⟨0, d, none, h, rfl, fun isSl c w _ _ _ => by simp [Instr.sliceBounds]⟩
        | cons a l => cases h
      | some z => cases as <;> cases h
    | some y => cases mx with
      | none =>
        match as, h, hv with
        | [a], h, hv =>
          obtain ⟨n, hn, h1⟩ := opt_some h
          obtain ⟨v, hv1, hv2⟩ := hv.one
          have hv1 : [ρ y] = [v] := hv1
          cases hv1
          obtain ⟨q, hq⟩ := natA_ok hn hv2
          refine ⟨0, n, none, h1, rfl, fun isSl c w _ h2 _ => ?_⟩
          have h2 : n ≤ c := h2
          cases isSl <;> simp [Instr.sliceBounds, Result.andThen, run_sliceBound (P := P) hq h2]
        | [], h, _ => cases h
        | _ :: _ :: _, h, _ => cases h
      | some z =>
        match as, h, hv with
        | [a, b], h, hv =>
          obtain ⟨n, hn, h1⟩ := opt_some h
          obtain ⟨m, hm, h1⟩ := opt_some h1
          obtain ⟨v, u, hv1, hv2, hv3⟩ := hv.two
          have hv1 : [ρ y, ρ z] = [v, u] := hv1
          cases hv1
          obtain ⟨q, hq⟩ := natA_ok hn hv2
          obtain ⟨q', hq'⟩ := natA_ok hm hv3
          refine ⟨0, n, some m, h1, rfl, fun isSl c w h3 h2 _ => ?_⟩
          have h2 : n ≤ m := h2
          have h3 := h3 m rfl
          cases isSl <;> simp [Instr.sliceBounds, Result.andThen, Sem.run_bind, run_sliceBound (P := P) hq h2, run_sliceBound (P := P) hq' h3]
        | [], h, _ => cases h
        | [_], h, _ => cases h
        | _ :: _ :: _ :: _, h, _ => cases h
  | some x => cases hi with
    | none => cases mx with
      | none =>
        match as, h, hv with
        | [a], h, hv =>
          obtain ⟨n, hn, h1⟩ := opt_some h
          obtain ⟨v, hv1, hv2⟩ := hv.one
          have hv1 : [ρ x] = [v] := hv1
          cases hv1
          obtain ⟨q, hq⟩ := natA_ok hn hv2
          refine ⟨n, d, none, h1, rfl, fun isSl c w _ _ h2 => ?_⟩
          simp [Instr.sliceBounds, Result.andThen, run_sliceBound (P := P) hq h2]
        | [], h, _ => cases h
        | _ :: _ :: _, h, _ => cases h
      | some z => 
        match as, h with
        | [], h => cases h
        | [_], h => cases h
        | [_, _], h => cases h
        | _ :: _ :: _ :: _, h => cases h
    | some y => cases mx with
      | none =>
        match as, h, hv with
        | [a, b], h, hv =>
          obtain ⟨n, hn, h1⟩ := opt_some h
          obtain ⟨m, hm, h1⟩ := opt_some h1
          obtain ⟨v, u, hv1, hv2, hv3⟩ := hv.two
          have hv1 : [ρ x, ρ y] = [v, u] := hv1
          cases hv1
          obtain ⟨q, hq⟩ := natA_ok hn hv2
          obtain ⟨q', hq'⟩ := natA_ok hm hv3
          refine ⟨n, m, none, h1, rfl, fun isSl c w _ h3 h2 => ?_⟩
          have h3 : m ≤ c := h3
          cases isSl <;> simp [Instr.sliceBounds, Result.andThen, Sem.run_bind, run_sliceBound (P := P) hq h2, run_sliceBound (P := P) hq' h3]
        | [], h, _ => cases h
        | [_], h, _ => cases h
        | _ :: _ :: _ :: _, h, _ => cases h
      | some z =>
        match as, h, hv with
        | [a, b, c'], h, hv =>
          obtain ⟨n, hn, h1⟩ := opt_some h
          obtain ⟨m, hm, h1⟩ := opt_some h1
          obtain ⟨m', hm', h1⟩ := opt_some h1
          obtain ⟨v, rr, hv1, hv2, hv3⟩ := hv
          obtain ⟨u, t, hv4, hv5, hv6⟩ := hv3.two
          subst hv4
          have hv1 : [ρ x, ρ y, ρ z] = [v, u, t] := hv1
          cases hv1
          obtain ⟨q, hq⟩ := natA_ok hn hv2
          obtain ⟨q', hq'⟩ := natA_ok hm hv5
          obtain ⟨q'', hq''⟩ := natA_ok hm' hv6
          refine ⟨n, m, some m', h1, rfl, fun isSl c w h4 h3 h2 => ?_⟩
          have h3 : m ≤ m' := h3
          have h4 := h4 m' rfl
          cases isSl <;> simp [Instr.sliceBounds, Result.andThen, Sem.run_bind, run_sliceBound (P := P) hq h2, run_sliceBound (P := P) hq' h3, run_sliceBound (P := P) hq'' h4]
        | [], h, _ => cases h
        | [_], h, _ => cases h
        | [_, _], h, _ => cases h
        | _ :: _ :: _ :: _ :: _, h, _ => cases h
theorem extract_mk (s : List UInt8) (l h : Nat) : (⟨⟨s⟩⟩ : ByteArray).extract l h = ⟨⟨(s.drop l).take (h - l)⟩⟩ := by
  apply ByteArray.ext
  simp
section
variable {dst : Option Tmp} {type : TypeId} {pos : String} {after : Array Edge} {guard : Option (Nat × Bool)}
theorem ok_slice_str {t : TypeId} {x : Operand} {lo hi mx : Option Operand} (ht : undl P t = .string) : Pur P ⟨dst, .slice t x lo hi mx, type, pos, after, guard⟩ (slStr lo.isSome hi.isSome mx.isSome) := by
  intro φ w ρ xs r h hv
  unfold slStr at h
  split at h
  · rename_i s as
    obtain ⟨v, rr, e, h1, h2⟩ := hv
    have e : ρ x :: (optL lo ++ optL hi ++ optL mx).map ρ = v :: rr := e
    cases e
    have hx : ρ x = .string ⟨⟨s⟩⟩ := h1
    obtain ⟨l, h', m, hk, hm, hb⟩ := bounds_ok (P := P) h h2
    cases m with
    | some m => cases hk
    | none =>
      obtain ⟨h3, hk⟩ := bool_some hk
      obtain ⟨h4, hk⟩ := bool_some hk
      cases hk
      have h3 := nat_ble h3
      have h4 := nat_ble h4
      cases mx with
      | some z => cases hm
      | none =>
        have hd := undl_run ht (by intro e; cases e) w
        have hs : (⟨⟨s⟩⟩ : ByteArray).size = len s := (len_eq s).symm
        have hb := hb false (len s) w (fun _ e => by cases e) h4 h3
        refine ⟨_, rfl, run_v ?_⟩
        rw [hx]
        have hb : (Instr.sliceBounds false (len s) (len s) (lo.map ρ) (hi.map ρ) none).run P w = .ok (l, h', len s) w := hb
        simp only [Instr.sliceAt, Instr.slice, Sem.run_bind, hd, Result.andThen, hs, Option.map_none, Option.isSome_none]
        simp [hb, Result.andThen, extract_mk, dropB_eq, takeB_eq]
  · cases h
theorem sliceAt_slice {t : TypeId} {e : TypeId} (ht : undl P t = .slice e) (hz : Nat.beq (szOf P e) 0 = false) {a : Option Addr} {n c : Nat} {lo hi mx : Option Value} {l h m : Nat} {w : World}
    (hb : (Instr.sliceBounds true n c lo hi mx).run P w = .ok (l, h, m) w) : (Instr.sliceAt t (.slice a n c) lo hi mx).run P w = .ok (.slice (if m = l then a else a.map (·.add (l * szOf P e))) (h - l) (m - l)) w := by
  have hd := undl_run ht (by intro e; cases e) w
  obtain ⟨i', hi'⟩ := szOf_pos hz
  simp only [Instr.sliceAt, Instr.slice, Sem.run_bind, hd, Result.andThen]
  simp [hb, sizeOf_run hi']
theorem ok_slice_sl {t : TypeId} {x : Operand} {lo hi mx : Option Operand} {e : TypeId} (ht : undl P t = .slice e) (hz : Nat.beq (szOf P e) 0 = false) :
    Red P ⟨dst, .slice t x lo hi mx, type, pos, after, guard⟩ (slSl (szOf P e) lo.isSome hi.isSome mx.isSome) := by
  intro φ hp w ρ xs r hR h hv
  unfold slSl at h
  split at h
  · rename_i i o n cap as
    obtain ⟨v, rr, e1, h1, h2⟩ := hv
    have e1 : ρ x :: (optL lo ++ optL hi ++ optL mx).map ρ = v :: rr := e1
    cases e1
    cases cap with
    | some c =>
      obtain ⟨p, hp1, hx, hnc⟩ := h1
      obtain ⟨l, h', m, hk, hm, hb⟩ := bounds_ok (P := P) h h2
      obtain ⟨h3, hk⟩ := bool_some hk
      have h3 := nat_ble h3
      have fin : ∀ M, h' ≤ M → (Instr.sliceBounds true n c (lo.map ρ) (hi.map ρ) (mx.map ρ)).run P w = .ok (l, h', M) w →
          (some (AV.sl i (@Bool.rec (fun _ => Nat) (Nat.add o (Nat.mul l (szOf P e))) o (Nat.beq M l)) (Nat.sub h' l) (some (Nat.sub M l))) = some r) →
          ∃ v, V φ r v ∧ (execOp ρ ⟨dst, .slice t x lo hi mx, type, pos, after, guard⟩).run P w = .ok (.value v) w := by
        intro M hM hbb hr
        cases hr
        refine ⟨_, ?_, run_v (by rw [hx]; exact sliceAt_slice ht hz hbb)⟩
        refine ⟨p, hp1, ?_, by show h' - l ≤ M - l; omega⟩
        cases hq : Nat.beq M l with
        | true => rw [if_pos (nat_beq hq)]; rfl
        | false => rw [if_neg (nat_nbeq hq)]; show Value.slice (some ((p.at o).add _)) _ _ = _; rw [Pl.at_add]; rfl
      cases m with
      | none =>
        obtain ⟨h4, hk⟩ := bool_some hk
        exact fin c (nat_ble h4) (hb true c w (fun _ e => by cases e) (nat_ble h4) h3) hk
      | some m =>
        obtain ⟨h4, hk⟩ := bool_some hk
        obtain ⟨h5, hk⟩ := bool_some hk
        exact fin m (nat_ble h4) (hb true c w (fun _ e => by cases e; exact nat_ble h5) (nat_ble h4) h3) hk
    | none =>
      rcases onCells_some h with ⟨ty, m, l0, ro, hb0, hh⟩ | ⟨ty, es', m0, d, tt, hb0, hh⟩
      · cases hh
      obtain ⟨hes, h⟩ := bool_some hh
      have hes := nat_beq hes
      obtain ⟨p, c, hp1, hx, hnc, hlim, hpes⟩ := h1
      have hpe : p.es = szOf P e := by
        obtain ⟨q, hq, hB⟩ := hR.live i (by rw [hb0]; exact fun e => by cases e)
        rw [hp1] at hq
        cases hq
        rw [hb0] at hB
        obtain ⟨_, _, _, _, h9, _⟩ := hB
        rw [h9, hes]
      obtain ⟨l, h', m, hk, hm, hb⟩ := bounds_ok (P := P) h h2
      obtain ⟨h3, hk⟩ := bool_some hk
      have h3 := nat_ble h3
      cases m with
      | none =>
        obtain ⟨h4, hk⟩ := bool_some hk
        have h4 := nat_ble h4
        have hbb := hb true c w (fun _ e => by cases e) (by show h' ≤ c; omega) h3
        have hbb : (Instr.sliceBounds true n c (lo.map ρ) (hi.map ρ) (mx.map ρ)).run P w = .ok (l, h', c) w := hbb
        rcases bool_rec hk with ⟨h5, hk⟩ | ⟨h5, hk⟩
        · cases hk
          have h5 := nat_nbeq h5
          refine ⟨_, ?_, run_v (by rw [hx]; exact sliceAt_slice ht hz hbb)⟩
          refine ⟨p, c - l, hp1, ?_, by show h' - l ≤ c - l; omega, ?_, hpes⟩
          · rw [if_neg (by omega)]; show Value.slice (some ((p.at o).add _)) _ _ = _; rw [Pl.at_add]; rfl
          · show o + l * szOf P e + (c - l) * p.es = p.lim
            rw [← hlim, hpe, Nat.add_assoc, ← Nat.add_mul]
            congr 2
            omega
        · cases hk
          have h5 := nat_beq h5
          refine ⟨_, ?_, run_v (by rw [hx]; exact sliceAt_slice ht hz hbb)⟩
          have e0 : h' - l = 0 := by omega
          rw [e0]
          by_cases hcl : c = l
          · rw [if_pos hcl]; exact ⟨_, _, rfl⟩
          · rw [if_neg hcl]; exact ⟨_, _, rfl⟩
      | some m =>
        obtain ⟨h4, hk⟩ := bool_some hk
        obtain ⟨h5, hk⟩ := bool_some hk
        have h4 := nat_ble h4
        have h5 := nat_ble h5
        have hbb := hb true c w (fun _ e => by cases e; omega) h4 h3
        have hbb : (Instr.sliceBounds true n c (lo.map ρ) (hi.map ρ) (mx.map ρ)).run P w = .ok (l, h', m) w := hbb
        cases hk
        refine ⟨_, ?_, run_v (by rw [hx]; exact sliceAt_slice ht hz hbb)⟩
        refine ⟨p, hp1, ?_, by show h' - l ≤ m - l; omega⟩
        cases hq : Nat.beq m l with
        | true => rw [if_pos (nat_beq hq)]; rfl
        | false => rw [if_neg (nat_nbeq hq)]; show Value.slice (some ((p.at o).add _)) _ _ = _; rw [Pl.at_add]; rfl
  · rename_i as
    obtain ⟨v, rr, e1, h1, h2⟩ := hv
    have e1 : ρ x :: (optL lo ++ optL hi ++ optL mx).map ρ = v :: rr := e1
    cases e1
    have hx : ρ x = .slice none 0 0 := h1
    obtain ⟨l, h', m, hk, hm, hb⟩ := bounds_ok (P := P) h h2
    have fin : ∀ M, M = 0 → h' = 0 → l ≤ h' → (Instr.sliceBounds true 0 0 (lo.map ρ) (hi.map ρ) (mx.map ρ)).run P w = .ok (l, h', M) w → r = .nils →
          ∃ v, V φ r v ∧ (execOp ρ ⟨dst, .slice t x lo hi mx, type, pos, after, guard⟩).run P w = .ok (.value v) w := by
      intro M h6 h7 h8 hbb hr
      subst hr
      refine ⟨_, ?_, run_v (by rw [hx]; exact sliceAt_slice ht hz hbb)⟩
      have e1 : h' - l = 0 := by omega
      have e2 : M - l = 0 := by omega
      rw [e1, e2]
      split <;> rfl
    split at hk
    · cases hk
      exact fin 0 rfl rfl (Nat.le_refl _) (hb true 0 w (fun _ e => by cases e) (Nat.le_refl _) (Nat.le_refl _)) rfl
    · cases hk
      exact fin 0 rfl rfl (Nat.le_refl _) (hb true 0 w (fun _ e => by cases e; exact Nat.le_refl _) (Nat.le_refl _) (Nat.le_refl _)) rfl
    · cases hk
  · cases h
end
end Go.Ax
namespace Go.Ax
open Go
variable {P : Program}
section
variable {dst : Option Tmp} {type : TypeId} {pos : String} {after : Array Edge} {guard : Option (Nat × Bool)}
theorem sliceAt_arr {t : TypeId} {e : TypeId} {an : Nat} (ht : undl P t = .array an e) (hz : Nat.beq (szOf P e) 0 = false) {a : Addr} {lo hi mx : Option Value} {l h m : Nat} {w : World}
    (hb : (Instr.sliceBounds false an an lo hi mx).run P w = .ok (l, h, m) w) : (Instr.sliceAt t (.pointer (some a)) lo hi mx).run P w = .ok (.slice (some (if m = l then a else a.add (l * szOf P e))) (h - l) (m - l)) w := by
  have hd := undl_run ht (by intro e; cases e) w
  obtain ⟨i', hi'⟩ := szOf_pos hz
  simp only [Instr.sliceAt, Sem.run_bind, hd, Result.andThen, Instr.sureAddr, Sem.run_pure, hb, sizeOf_run hi']
theorem ok_slice_arr {t : TypeId} {x : Operand} {lo hi mx : Option Operand} {e : TypeId} {an : Nat} (ht : undl P t = .array an e) (hz : Nat.beq (szOf P e) 0 = false) :
    Pur P ⟨dst, .slice t x lo hi mx, type, pos, after, guard⟩ (slArr (szOf P e) an lo.isSome hi.isSome mx.isSome) := by
  intro φ w ρ xs r h hv
  unfold slArr at h
  split at h
  · rename_i i o as
    obtain ⟨v, rr, e1, h1, h2⟩ := hv
    have e1 : ρ x :: (optL lo ++ optL hi ++ optL mx).map ρ = v :: rr := e1
    cases e1
    obtain ⟨p, hp1, hx⟩ := h1
    obtain ⟨l, h', m, hk, hm, hb⟩ := bounds_ok (P := P) h h2
    obtain ⟨h3, hk⟩ := bool_some hk
    have h3 := nat_ble h3
    have fin : ∀ M, h' ≤ M → (Instr.sliceBounds false an an (lo.map ρ) (hi.map ρ) (mx.map ρ)).run P w = .ok (l, h', M) w →
        (some (AV.sl i (@Bool.rec (fun _ => Nat) (Nat.add o (Nat.mul l (szOf P e))) o (Nat.beq M l)) (Nat.sub h' l) (some (Nat.sub M l))) = some r) →
        ∃ v, V φ r v ∧ (execOp ρ ⟨dst, .slice t x lo hi mx, type, pos, after, guard⟩).run P w = .ok (.value v) w := by
      intro M hM hbb hr
      cases hr
      refine ⟨_, ?_, run_v (by rw [hx]; exact sliceAt_arr ht hz hbb)⟩
      refine ⟨p, hp1, ?_, by show h' - l ≤ M - l; omega⟩
      cases hq : Nat.beq M l with
      | true => rw [if_pos (nat_beq hq)]; rfl
      | false => rw [if_neg (nat_nbeq hq), Pl.at_add]; rfl
    cases m with
    | none =>
      obtain ⟨h4, hk⟩ := bool_some hk
      exact fin an (nat_ble h4) (hb false an w (fun _ e => by cases e) (nat_ble h4) h3) hk
    | some m =>
      obtain ⟨h4, hk⟩ := bool_some hk
      obtain ⟨h5, hk⟩ := bool_some hk
      exact fin m (nat_ble h4) (hb false an w (fun _ e => by cases e; exact nat_ble h5) (nat_ble h4) h3) hk
  · cases h
theorem undlO_ok {o : Option Nat} {d : TypeDesc} (h : undlO P o = d) (hd : d ≠ .invalid) : ∃ t, o = some t ∧ undl P t = d := by
  cases o with
  | some t => exact ⟨t, rfl, h⟩
  | none => exact absurd h.symm hd
theorem lnth0 {ts : Array TypeId} {t : Nat} {i : Nat} (h : lnth ts.toList i = some t) : ts[i]? = some t := by
  rw [lnth_eq] at h; simpa using h
theorem run_builtin {ρ : Operand → Value} {b : Builtin} {args : Array Operand} {ts : Array TypeId} :
    execOp ρ ⟨dst, .call ⟨.builtin b, args, ts⟩, type, pos, after, guard⟩ = builtin b ts type (args.map fun | .const _ => true | _ => false) (args.map ρ) := rfl
theorem args_one {φ : Phi} {ρ : Operand → Value} {args : Array Operand} {ts : Array TypeId} {b : Builtin} {a : AV} (h : VL φ [a] ((opsOf (Op.call ⟨.builtin b, args, ts⟩)).map ρ)) : ∃ v, args.map ρ = #[v] ∧ V φ a v := by
  obtain ⟨v, h1, h2⟩ := h.one
  have h1 : args.toList.map ρ = [v] := h1
  refine ⟨v, ?_, h2⟩
  apply Array.toList_inj.1
  rw [Array.toList_map, h1]
theorem args_two {φ : Phi} {ρ : Operand → Value} {args : Array Operand} {ts : Array TypeId} {b : Builtin} {a c : AV} (h : VL φ [a, c] ((opsOf (Op.call ⟨.builtin b, args, ts⟩)).map ρ)) : ∃ v u, args.map ρ = #[v, u] ∧ V φ a v ∧ V φ c u := by
  obtain ⟨v, u, h1, h2, h3⟩ := h.two
  have h1 : args.toList.map ρ = [v, u] := h1
  refine ⟨v, u, ?_, h2, h3⟩
  apply Array.toList_inj.1
  rw [Array.toList_map, h1]
theorem on1_some {α : Type} {f : AV → Option α} {xs : List AV} {r : α} (h : on1 none f xs = some r) : ∃ a, xs = [a] ∧ f a = some r := by
  match xs, h with
  | [a], h => exact ⟨a, rfl, h⟩
  | [], h => cases h
  | _ :: _ :: _, h => cases h
theorem on2_some {α : Type} {f : AV → AV → Option α} {xs : List AV} {r : α} (h : on2 none f xs = some r) : ∃ a b, xs = [a, b] ∧ f a b = some r := by
  match xs, h with
  | [a, b], h => exact ⟨a, b, rfl, h⟩
  | [], h => cases h
  | [_], h => cases h
  | _ :: _ :: _ :: _, h => cases h
theorem get0 (v : Value) : (#[v] : Array Value)[0]? = some v := rfl
theorem ok_len {args : Array Operand} {ts : Array TypeId} {f : AV → Option AV}
    (h : ∀ (φ : Phi) (w : World) (a r : AV) (v : Value), f a = some r → V φ a v → ∃ u, V φ r u ∧ (Builtin.len_ ts type #[v]).run P w = .ok u w) :
    Pur P ⟨dst, .call ⟨.builtin .len, args, ts⟩, type, pos, after, guard⟩ (on1 none f) := by
  intro φ w ρ xs r hf hv
  obtain ⟨a, rfl, hf⟩ := on1_some hf
  obtain ⟨v, h1, h2⟩ := args_one hv
  obtain ⟨u, h3, h4⟩ := h φ w a r v hf h2
  refine ⟨u, h3, ?_⟩
  rw [run_builtin, h1]
  exact run_v h4
theorem ok_len_arr {args : Array Operand} {ts : Array TypeId} {t n : Nat} {e : TypeId} (ht : ts[0]? = some t) (hu : undl P t = .array n e) :
    Pur P ⟨dst, .call ⟨.builtin .len, args, ts⟩, type, pos, after, guard⟩ (on1 none fun _ => some (.int .i64 (.ofNat n))) :=
  ok_len fun φ w a r v hf hv => by
    cases hf
    have hd := undl_run hu (by intro e; cases e) w
    refine ⟨_, rfl, ?_⟩
    simp only [Builtin.len_, ht, get0, Sem.run_bind, hd, Result.andThen]
    rfl
theorem ok_len_str {args : Array Operand} {ts : Array TypeId} {t : Nat} (ht : ts[0]? = some t) (hu : undl P t = .string) :
    Pur P ⟨dst, .call ⟨.builtin .len, args, ts⟩, type, pos, after, guard⟩ (on1 none fun x => AV.onStr x none fun s => some (.int .i64 (.ofNat (len s)))) :=
  ok_len fun φ w a r v hf hv => by
    obtain ⟨s, rfl, h1⟩ := AV.onStr_some hf
    cases h1
    have hv : v = .string ⟨⟨s⟩⟩ := hv
    subst hv
    have hd := undl_run hu (by intro e; cases e) w
    refine ⟨_, rfl, ?_⟩
    rw [len_eq]
    simp only [Builtin.len_, ht, get0, Sem.run_bind, hd, Result.andThen]
    rfl
theorem ok_len_sl {args : Array Operand} {ts : Array TypeId} {t : Nat} {e : TypeId} (ht : ts[0]? = some t) (hu : undl P t = .slice e) :
    Pur P ⟨dst, .call ⟨.builtin .len, args, ts⟩, type, pos, after, guard⟩ (on1 none lenSl) :=
  ok_len fun φ w a r v hf hv => by
    have hd := undl_run hu (by intro e; cases e) w
    rcases AV.onSl_some hf with ⟨i, o, n, c, rfl, h1⟩ | ⟨_, h1⟩
    · cases h1
      have hs : ∃ b c', v = .slice b n c' := by
        cases c with
        | some c => obtain ⟨pl, h2, h3, _⟩ := hv; exact ⟨_, _, h3⟩
        | none => obtain ⟨pl, c', h2, h3, _⟩ := hv; exact ⟨_, _, h3⟩
      obtain ⟨b, c', rfl⟩ := hs
      refine ⟨_, rfl, ?_⟩
      simp only [Builtin.len_, ht, get0, Sem.run_bind, hd, Result.andThen]
      rfl
    · split at h1
      · cases h1
        have hv : v = .slice none 0 0 := hv
        subst hv
        refine ⟨_, rfl, ?_⟩
        simp only [Builtin.len_, ht, get0, Sem.run_bind, hd, Result.andThen]
        rfl
      · cases h1
        obtain ⟨b, c', rfl⟩ := hv
        refine ⟨_, rfl, ?_⟩
        simp only [Builtin.len_, ht, get0, Sem.run_bind, hd, Result.andThen]
        rfl
      · cases h1
theorem run_max2 (k : IntKind) (a b : Int) (w : World) : (Builtin.max2 (.int k a) (.int k b)).run P w = .ok (.int k (@Bool.rec (fun _ => Int) a b (iltB a b))) w := by
  rw [iltB_eq, Builtin.max2]
  by_cases h : a < b
  · rw [decide_eq_true h, if_pos h]; rfl
  · rw [decide_eq_false h, if_neg h]; rfl
end
end Go.Ax
namespace Go.Ax
open Go
variable {P : Program}
section
variable {dst : Option Tmp} {type : TypeId} {pos : String} {after : Array Edge} {guard : Option (Nat × Bool)}
theorem run_max2' (k k' : IntKind) (a b : Int) (w : World) : (Builtin.max2 (.int k a) (.int k' b)).run P w = .ok (.int k (@Bool.rec (fun _ => Int) a b (iltB a b))) w := by
  rw [iltB_eq, Builtin.max2]
  by_cases h : a < b
  · rw [decide_eq_true h, if_pos h]; rfl
  · rw [decide_eq_false h, if_neg h]; rfl
theorem run_min2' (k k' : IntKind) (a b : Int) (w : World) : (Builtin.min2 (.int k a) (.int k' b)).run P w = .ok (.int k (@Bool.rec (fun _ => Int) a b (iltB b a))) w := by
  rw [iltB_eq, Builtin.min2]
  by_cases h : b < a
  · rw [decide_eq_true h, if_pos h]; rfl
  · rw [decide_eq_false h, if_neg h]; rfl
theorem ok_max {args : Array Operand} {ts : Array TypeId} : Pur P ⟨dst, .call ⟨.builtin .max, args, ts⟩, type, pos, after, guard⟩ (on2 none maxF) := by
  intro φ w ρ xs r hf hv
  obtain ⟨a, b, rfl, hf⟩ := on2_some hf
  obtain ⟨v, u, h1, h2, h3⟩ := args_two hv
  obtain ⟨k, n, rfl, h4⟩ := AV.onInt_some hf
  obtain ⟨k', m, rfl, h5⟩ := AV.onInt_some h4
  cases h5
  have h2 : v = .int k n := h2
  have h3 : u = .int k' m := h3
  subst h2 h3
  refine ⟨_, rfl, ?_⟩
  rw [run_builtin, h1]
  refine run_v ?_
  simp only [Builtin.max_, List.foldlM, Sem.run_bind, run_max2', Result.andThen]
  rfl
theorem min2_ok {φ : Phi} {x y r : AV} {v u : Value} (h : minF x y = some r) (hv : V φ x v) (hu : V φ y u) (w : World) : ∃ z, V φ r z ∧ (Builtin.min2 v u).run P w = .ok z w := by
  obtain ⟨k, n, rfl, h4⟩ := AV.onInt_some h
  obtain ⟨k', m, rfl, h5⟩ := AV.onInt_some h4
  cases h5
  have h2 : v = .int k n := hv
  have h3 : u = .int k' m := hu
  subst h2 h3
  exact ⟨_, rfl, run_min2' _ _ _ _ _⟩
theorem args_three {φ : Phi} {ρ : Operand → Value} {args : Array Operand} {ts : Array TypeId} {b : Builtin} {a c d : AV} (h : VL φ [a, c, d] ((opsOf (Op.call ⟨.builtin b, args, ts⟩)).map ρ)) : ∃ v u t, args.map ρ = #[v, u, t] ∧ V φ a v ∧ V φ c u ∧ V φ d t := by
  obtain ⟨v, rr, h1, h2, h3⟩ := h
  obtain ⟨u, t, h4, h5, h6⟩ := h3.two
  subst h4
  have h1 : args.toList.map ρ = [v, u, t] := h1
  refine ⟨v, u, t, ?_, h2, h5, h6⟩
  apply Array.toList_inj.1
  rw [Array.toList_map, h1]
theorem ok_min {args : Array Operand} {ts : Array TypeId} : Pur P ⟨dst, .call ⟨.builtin .min, args, ts⟩, type, pos, after, guard⟩ fun as => match as with
    | [x, y] => minF x y
    | [x, y, z] => @Option.rec _ (fun _ => Option AV) none (fun r => minF r z) (minF x y)
    | _ => none := by
  intro φ w ρ xs r hf hv
  dsimp only at hf
  split at hf
  · rename_i x y
    obtain ⟨v, u, h1, h2, h3⟩ := args_two hv
    obtain ⟨z, h4, h5⟩ := min2_ok (P := P) hf h2 h3 w
    refine ⟨z, h4, ?_⟩
    rw [run_builtin, h1]
    refine run_v ?_
    simp only [Builtin.min_, List.foldlM, Sem.run_bind, h5, Result.andThen]
    rfl
  · rename_i x y z
    obtain ⟨v, u, t, h1, h2, h3, h4⟩ := args_three hv
    obtain ⟨q, hq, hf⟩ := opt_some hf
    obtain ⟨z1, h5, h6⟩ := min2_ok (P := P) hq h2 h3 w
    obtain ⟨z2, h7, h8⟩ := min2_ok (P := P) hf h5 h4 w
    refine ⟨z2, h7, ?_⟩
    rw [run_builtin, h1]
    refine run_v ?_
    simp only [Builtin.min_, List.foldlM, Sem.run_bind, h6, Result.andThen, h8]
    rfl
  · cases hf
theorem ok_sliceData {args : Array Operand} {ts : Array TypeId} : Pur P ⟨dst, .call ⟨.builtin .unsafeSliceData, args, ts⟩, type, pos, after, guard⟩ (on1 none fun x => match x with
    | .nils => some .nilp
    | .sl i o n _ => (match n with
      | 0 => none
      | _ => some (.ptr i o))
    | _ => none) := by
  intro φ w ρ xs r hf hv
  obtain ⟨a, rfl, hf2⟩ := on1_some hf
  obtain ⟨v, h1, h2⟩ := args_one hv
  split at hf2
  · cases hf2
    have h2 : v = .slice none 0 0 := h2
    subst h2
    refine ⟨_, rfl, ?_⟩
    rw [run_builtin, h1]
    exact run_v rfl
  · rename_i i o n c
    have hs : ∃ p c', φ i = some p ∧ v = .slice (some (p.at o)) n c' ∧ n ≤ c' := by
      cases c with
      | some c => obtain ⟨pl, h2, h3, h4⟩ := h2; exact ⟨_, _, h2, h3, h4⟩
      | none => obtain ⟨pl, c', h2, h3, h4, _⟩ := h2; exact ⟨_, _, h2, h3, h4⟩
    obtain ⟨p, c', hp, rfl, hle⟩ := hs
    split at hf2
    · cases hf2
    · rename_i hn
      cases hf2
      have hn : n ≠ 0 := hn
      refine ⟨_, ⟨p, hp, rfl⟩, ?_⟩
      rw [run_builtin, h1]
      refine run_v ?_
      have hc : c' ≠ 0 := by omega
      rw [show Builtin.unsafeSliceData_ ts type #[Value.slice (some (p.at o)) n c'] = ite (c' ≠ 0) (pure (Value.pointer (some (p.at o)))) _ from rfl, if_pos hc]
      rfl
  · cases hf2
end
end Go.Ax
namespace Go.Ax
open Go
variable {P : Program}
section
variable {dst : Option Tmp} {type : TypeId} {pos : String} {after : Array Edge} {guard : Option (Nat × Bool)}
/-- Values that are compared by Op.equal. -/
def byEqual (op : BinOp) (t : TypeId) (x y : Operand) (a b : Value) : Prop :=
  binOp .eql t a b = (do pure (Value.bool (← Op.equal t a b))) ∧ binOp .neq t a b = (do pure (Value.bool (!(← Op.equal t a b)))) ∧ ∀ w, (eqGuard op t x y a b).run P w = .ok () w
def negOf (op : BinOp) (neg : Bool) : Prop := (op = .eql ∧ neg = false) ∨ (op = .neq ∧ neg = true)
theorem eq_fin {op : BinOp} {neg r : Bool} {t c : TypeId} {x y : Operand} {a b : Value} {w : World} {ρ : Operand → Value} {φ : Phi} {v : AV} (ho : negOf op neg) (hx : ρ x = a) (hy : ρ y = b)
    (hb : byEqual (P := P) op t x y a b) (he : (Op.equal t a b).run P w = .ok r w) (hout : eqOut neg (some r) = some v) :
    ∃ u, V φ v u ∧ (execOp ρ ⟨dst, .binOp op t x y c, type, pos, after, guard⟩).run P w = .ok (.value u) w := by
  obtain ⟨h1, h2, h3⟩ := hb
  rcases ho with ⟨rfl, rfl⟩ | ⟨rfl, rfl⟩
  · cases hout
    refine ⟨_, rfl, run_v ?_⟩
    rw [hx, hy, Sem.run_bind, h3]
    show (binOp .eql t a b).run P w = _
    rw [h1, Sem.run_bind, he]
    rfl
  · cases hout
    refine ⟨_, rfl, run_v ?_⟩
    rw [hx, hy, Sem.run_bind, h3]
    show (binOp .neq t a b).run P w = _
    rw [h2, Sem.run_bind, he, notB_eq]
    rfl
theorem equal_of {t : TypeId} {a b : Value} {r : Bool} {w : World} (h : ∀ d : Nat, (Op.equalIn (d + 1) t a b).run P w = .ok r w) : (Op.equal t a b).run P w = .ok r w := by
  simp only [Op.equal, Op.maxDepth]
  exact h 9999
theorem equal_ptr {t te : TypeId} {j : TypeInfo} {a b : Addr} {w : World} {r : Bool} (hp : P.underlying t = some (.pointer te)) (hte : P.info? te = some j) (hsz : j.size ≠ 0) (h : (sameAddr a b).run P w = .ok r w) :
    (Op.equal t (.pointer (some a)) (.pointer (some b))).run P w = .ok r w :=
  equal_of fun d => by simp [Op.equalIn, run_underlying hp, sizeOf, typeInfo, hte, hsz, h]
theorem same_block {a b : Addr} {w : World} (h : a.block = b.block) : (sameAddr a b).run P w = .ok (a == b) w := by
  simp [sameAddr, h]
theorem isOne_some {b : Blk} (h : isOne b = true) : ∃ ty m l, b = .one ty m l false := by
  cases b with
  | one ty m l ro => cases ro with
    | false => exact ⟨ty, m, l, rfl⟩
    | true => cases h
  | _ => cases h
theorem Id.beq_iff (i j : Id) : Id.beq i j = decide (i = j) := by
  obtain ⟨a, b, c, d⟩ := i
  obtain ⟨a', b', c', d'⟩ := j
  have hd : ∀ x y : Dg, Dg.beq x y = decide (x = y) := by intro x y; cases x <;> cases y <;> rfl
  have e : Id.beq ⟨a, b, c, d⟩ ⟨a', b', c', d'⟩ = @Bool.rec (fun _ => Bool) false (@Bool.rec (fun _ => Bool) false (@Bool.rec (fun _ => Bool) false (Dg.beq a a') (Dg.beq b b')) (Dg.beq c c')) (Dg.beq d d') := rfl
  rw [e, hd, hd, hd, hd]
  by_cases h1 : d = d'
  · by_cases h2 : c = c'
    · by_cases h3 : b = b'
      · by_cases h4 : a = a'
        · subst h1 h2 h3 h4; simp
        · simp [h1, h2, h3, h4]
      · simp [h1, h2, h3]
    · simp [h1, h2]
  · simp [h1]
theorem ok_eq_ptr {op : BinOp} {neg : Bool} {t c e : TypeId} {x y : Operand} (ho : negOf op neg) (ht : undl P t = .pointer e) (hz : Nat.beq (szOf P e) 0 = false) :
    Red P ⟨dst, .binOp op t x y c, type, pos, after, guard⟩ fun xs h => on2 none (fun a b => eqOut neg (eqP a b h)) xs :=
  Red.of2 (f := fun a b h => eqOut neg (eqP a b h)) rfl fun φ h w ρ a b r hR hf hv hu => by
    obtain ⟨i', hi'⟩ := szOf_pos hz
    have hp := undl_ok ht (by intro e; cases e)
    have hI := infoAt_ok hi'
    have hsz : i'.size ≠ 0 := by rw [← szOf_info hi']; exact nat_nbeq hz
    have hby : ∀ a b : Option Addr, byEqual (P := P) op t x y (.pointer a) (.pointer b) := fun a b => by
      refine ⟨rfl, rfl, fun w => ?_⟩
      cases op <;> rfl
    obtain ⟨q, hq, hf⟩ : ∃ q, eqP a b h = some q ∧ eqOut neg (some q) = some r := by
      cases he : eqP a b h with
      | none => rw [he] at hf; cases hf
      | some q => rw [he] at hf; exact ⟨q, rfl, hf⟩
    unfold eqP at hq
    split at hq
    · rename_i i o j q'
      obtain ⟨h1, hq⟩ := bool_some hq
      obtain ⟨h2, hq⟩ := bool_some hq
      cases hq
      obtain ⟨ty1, m1, l1, h1⟩ := isOne_some h1
      obtain ⟨ty2, m2, l2, h2⟩ := isOne_some h2
      obtain ⟨p1, hp1, hb1, hx⟩ := hR.ptr rfl (by rw [h1]; exact fun e => by cases e) hv
      obtain ⟨p2, hp2, hb2, hy⟩ := hR.ptr rfl (by rw [h2]; exact fun e => by cases e) hu
      refine eq_fin ho hx hy (hby _ _) ?_ hf
      have hinj := hR.inj i j p1 p2 (by rw [h1]; rfl) (by rw [h2]; exact fun e => by cases e) hp1 hp2
      rw [h1] at hb1
      rw [h2] at hb2
      obtain ⟨c1, fr1, ty1', hw1, hbase1, _, _, _, hro1⟩ := hb1
      obtain ⟨c2, fr2, ty2', hw2, hbase2, _, _, _, hro2⟩ := hb2
      obtain ⟨rfl, _⟩ := hro1 rfl
      obtain ⟨rfl, _⟩ := hro2 rfl
      rw [Id.beq_iff]
      by_cases hij : i = j
      · subst hij
        rw [hp1] at hp2
        cases hp2
        by_cases hoq : o = q'
        · subst hoq
          have e1 : Nat.beq o o = true := Nat.beq_refl o
          rw [show decide (i = i) = true from decide_eq_true rfl, e1]
          refine equal_ptr hp hI hsz ?_
          rw [same_block rfl]
          simp
        · have e1 : Nat.beq o q' = false := by
            cases hh : Nat.beq o q' with
            | true => exact absurd (nat_beq hh) hoq
            | false => rfl
          have hne : p1.at o ≠ p1.at q' := fun e => hoq (by unfold Pl.at at e; injection e; omega)
          rw [show decide (i = i) = true from decide_eq_true rfl, e1]
          refine equal_ptr hp hI hsz ?_
          rw [same_block (a := p1.at o) (b := p1.at q') rfl, beq_eq_false_iff_ne.2 hne]
      · have hne : p1.at o ≠ p2.at q' := fun e => hij (hinj (by unfold Pl.at at e; injection e))
        rw [decide_eq_false hij]
        refine equal_ptr hp hI hsz ?_
        exact run_sameAddr_other w hne hw1 hw2
    · cases hq
      have hx : ρ x = .pointer none := hv
      have hy : ρ y = .pointer none := hu
      exact eq_fin ho hx hy (hby _ _) (equal_of fun d => by simp [Op.equalIn, run_underlying hp]) hf
    · cases hq
      have hx : ρ x = .pointer none := hv
      obtain ⟨p, _, hy⟩ := hu
      exact eq_fin ho hx hy (hby _ _) (equal_of fun d => by simp [Op.equalIn, run_underlying hp]) hf
    · cases hq
      have hy : ρ y = .pointer none := hu
      obtain ⟨p, _, hx⟩ := hv
      exact eq_fin ho hx hy (hby _ _) (equal_of fun d => by simp [Op.equalIn, run_underlying hp]) hf
    · cases hq
theorem ok_eq_bool {op : BinOp} {neg : Bool} {t c : TypeId} {x y : Operand} (ho : negOf op neg) (ht : undl P t = .bool) :
    Pur P ⟨dst, .binOp op t x y c, type, pos, after, guard⟩ (on2 none fun x y => AV.onBool x none fun a => AV.onBool y none fun b => eqOut neg (some (boolEq a b))) :=
  Pur.of2 rfl fun φ w ρ a b r hf hv hu => by
    obtain ⟨a, rfl, h1⟩ := AV.onBool_some hf
    obtain ⟨b, rfl, h2⟩ := AV.onBool_some h1
    have hp := undl_ok ht (by intro e; cases e)
    have hx : ρ x = .bool a := hv
    have hy : ρ y = .bool b := hu
    have hby : byEqual (P := P) op t x y (.bool a) (.bool b) := by
      refine ⟨rfl, rfl, fun w => ?_⟩
      cases op <;> rfl
    rw [boolEq_eq] at h2
    exact eq_fin ho hx hy hby (equal_of fun d => by simp [Op.equalIn, run_underlying hp]) h2
theorem V.slice {φ : Phi} {i : Id} {o n : Nat} {c : Option Nat} {v : Value} (h : V φ (.sl i o n c) v) : ∃ p c', φ i = some p ∧ v = .slice (some (p.at o)) n c' ∧ n ≤ c' := by
  cases c with
  | some c => obtain ⟨pl, h2, h3, h4⟩ := h; exact ⟨_, _, h2, h3, h4⟩
  | none => obtain ⟨pl, c', h2, h3, h4, _⟩ := h; exact ⟨_, _, h2, h3, h4⟩
theorem ok_eq_sl {op : BinOp} {neg : Bool} {t c e : TypeId} {x y : Operand} (ho : negOf op neg) (ht : undl P t = .slice e) :
    Pur P ⟨dst, .binOp op t x y c, type, pos, after, guard⟩ (on2 none fun x y => match x, y with
    | .nils, .nils => eqOut neg (some true)
    | .nils, .sl _ _ _ _ => eqOut neg (some false)
    | .sl _ _ _ _, .nils => eqOut neg (some false)
    | _, _ => none) :=
  Pur.of2 rfl fun φ w ρ a b r hf hv hu => by
    have hp := undl_ok ht (by intro e; cases e)
    have hby : ∀ a n c a' n' c', byEqual (P := P) op t x y (.slice a n c) (.slice a' n' c') := fun a n c a' n' c' => by
      refine ⟨rfl, rfl, fun w => ?_⟩
      cases op <;> rfl
    split at hf
    · have hx : ρ x = .slice none 0 0 := hv
      have hy : ρ y = .slice none 0 0 := hu
      exact eq_fin ho hx hy (hby _ _ _ _ _ _) (equal_of fun d => by simp [Op.equalIn, run_underlying hp]) hf
    · have hx : ρ x = .slice none 0 0 := hv
      obtain ⟨p, c', _, hy, _⟩ := V.slice hu
      exact eq_fin ho hx hy (hby _ _ _ _ _ _) (equal_of fun d => by simp [Op.equalIn, run_underlying hp]) hf
    · have hy : ρ y = .slice none 0 0 := hu
      obtain ⟨p, c', _, hx, _⟩ := V.slice hv
      exact eq_fin ho hx hy (hby _ _ _ _ _ _) (equal_of fun d => by simp [Op.equalIn, run_underlying hp]) hf
    · cases hf
theorem ok_eq_fn {op : BinOp} {neg : Bool} {t c : TypeId} {x y : Operand} {ps rs : Array TypeId} {va : Bool} (ho : negOf op neg) (ht : undl P t = .func ps rs va) :
    Pur P ⟨dst, .binOp op t x y c, type, pos, after, guard⟩ (on2 none fun x y => match x, y with
    | .nilf, .nilf => eqOut neg (some true)
    | .nilf, .fn _ _ _ => eqOut neg (some false)
    | .fn _ _ _, .nilf => eqOut neg (some false)
    | _, _ => none) :=
  Pur.of2 rfl fun φ w ρ a b r hf hv hu => by
    have hp := undl_ok ht (by intro e; cases e)
    split at hf
    · have hx : ρ x = .nilFunc := hv
      have hy : ρ y = .nilFunc := hu
      exact eq_fin ho hx hy ⟨rfl, rfl, fun w => by cases op <;> rfl⟩ (equal_of fun d => by simp [Op.equalIn, run_underlying hp]) hf
    · have hx : ρ x = .nilFunc := hv
      obtain ⟨xs, ys, hy, _⟩ := hu
      exact eq_fin ho hx hy ⟨rfl, rfl, fun w => by cases op <;> rfl⟩ (equal_of fun d => by simp [Op.equalIn, run_underlying hp]) hf
    · have hy : ρ y = .nilFunc := hu
      obtain ⟨xs, ys, hx, _⟩ := hv
      exact eq_fin ho hx hy ⟨rfl, rfl, fun w => by cases op <;> rfl⟩ (equal_of fun d => by simp [Op.equalIn, run_underlying hp]) hf
    · cases hf
end
end Go.Ax
namespace Go.Ax
open Go
variable {P : Program}
section
variable {dst : Option Tmp} {type : TypeId} {pos : String} {after : Array Edge} {guard : Option (Nat × Bool)}
theorem ok_conv_ii {s t : TypeId} {x : Operand} {k q : IntKind} (hs : undl P s = .int k) (ht : undl P t = .int q) :
    Pur P ⟨dst, .convert s t x, type, pos, after, guard⟩ (on1 none fun x => AV.onInt x none fun _ n => some (.int q (wrapI q n))) :=
  Pur.of1 rfl fun φ w ρ a r hf hv => by
    obtain ⟨k', n, rfl, h1⟩ := AV.onInt_some hf
    cases h1
    have hx : ρ x = .int k' n := hv
    have h2 := undl_run hs (by intro e; cases e) w
    have h3 := undl_run ht (by intro e; cases e) w
    refine ⟨_, rfl, run_v ?_⟩
    rw [hx, wrapI_eq]
    simp only [convert, Sem.run_bind, h2, h3, Result.andThen]
    rfl
theorem ok_conv_is {s t : TypeId} {x : Operand} {k : IntKind} (hs : undl P s = .int k) (ht : undl P t = .string) :
    Pur P ⟨dst, .convert s t x, type, pos, after, guard⟩ (on1 none fun x => AV.onInt x none fun _ n => some (.str (Utf8.encode n).data.toList)) :=
  Pur.of1 rfl fun φ w ρ a r hf hv => by
    obtain ⟨k', n, rfl, h1⟩ := AV.onInt_some hf
    cases h1
    have hx : ρ x = .int k' n := hv
    have h2 := undl_run hs (by intro e; cases e) w
    have h3 := undl_run ht (by intro e; cases e) w
    refine ⟨_, rfl, run_v ?_⟩
    rw [hx]
    simp only [convert, Sem.run_bind, h2, h3, Result.andThen]
    rfl
theorem ok_conv_ss {s t : TypeId} {x : Operand} (hs : undl P s = .string) (ht : undl P t = .string) :
    Pur P ⟨dst, .convert s t x, type, pos, after, guard⟩ (on1 none fun x => AV.onStr x none fun s => some (.str s)) :=
  Pur.of1 rfl fun φ w ρ a r hf hv => by
    obtain ⟨l, rfl, h1⟩ := AV.onStr_some hf
    cases h1
    have hx : ρ x = .string ⟨⟨l⟩⟩ := hv
    have h2 := undl_run hs (by intro e; cases e) w
    have h3 := undl_run ht (by intro e; cases e) w
    refine ⟨_, hv, run_v ?_⟩
    rw [hx]
    simp only [convert, Sem.run_bind, h2, h3, Result.andThen]
    rfl
/-- The bytes of a row of numbers. -/
theorem bytesOf_ok {φ : Phi} : ∀ {ls : List (List AV)} {s : List UInt8} {vs : List Value}, bytesOf ls = some s → VL φ ls.flatten vs → ∃ ns : List Nat, vs = ns.map (fun n => Value.int .u8 (Int.ofNat n)) ∧ s = ns.map UInt8.ofNat
  | [], s, vs, h, hv => by
    cases h
    have hv : vs = [] := hv
    exact ⟨[], hv, rfl⟩
  | l :: ls, s, vs, h, hv => by
    unfold bytesOf at h
    split at h
    · rename_i n
      obtain ⟨r, h1, h2⟩ := opt_some h
      cases h2
      have hv : VL φ (.int .u8 (.ofNat n) :: ls.flatten) vs := hv
      obtain ⟨v, us, rfl, h3, h4⟩ := hv
      obtain ⟨ns, h5, h6⟩ := bytesOf_ok h1 h4
      have h3 : v = .int .u8 (.ofNat n) := h3
      exact ⟨n :: ns, by rw [h3, h5]; rfl, by rw [h6]; rfl⟩
    · cases h
theorem RelF.any {φ : Phi} {H : Id → Blk} {w : World} (r : RelF φ H w) {i : Id} {p : Pl} (hp : φ i = some p) : BRel φ w (H i) p := by
  by_cases h : H i = .none
  · rw [h]; trivial
  · obtain ⟨q, h1, h2⟩ := r.live i h
    rw [hp] at h1
    cases h1
    exact h2
theorem push_fold : ∀ (ns : List Int) (acc : List UInt8), ns.foldl (fun r n => r.push (UInt8.ofNat n.toNat)) (⟨⟨acc⟩⟩ : ByteArray) = ⟨⟨acc ++ ns.map fun n => UInt8.ofNat n.toNat⟩⟩
  | [], acc => by simp
  | n :: ns, acc => by
    have e : (⟨⟨acc⟩⟩ : ByteArray).push (UInt8.ofNat n.toNat) = ⟨⟨acc ++ [UInt8.ofNat n.toNat]⟩⟩ := by
      apply ByteArray.ext
      simp [ByteArray.push]
    rw [List.foldl_cons, e, push_fold ns]
    simp
theorem ok_conv_bytes {s t e : TypeId} {x : Operand} (hs : undl P s = .slice e) (ht : undl P t = .string) (he : undl P e = .int .u8) :
    Red P ⟨dst, .convert s t x, type, pos, after, guard⟩ fun xs h => on1 none (fun x => match x with
        | .sl i q n _ => (match elems (h.get i) 1 q n with
          | some ls => (match bytesOf ls with
            | some s => some (.str s)
            | none => none)
          | none => none)
        | .nils => some (.str [])
        | _ => none) xs :=
  Red.of1 (f := fun x h => match x with
        | .sl i q n _ => (match elems (h.get i) 1 q n with
          | some ls => (match bytesOf ls with
            | some s => some (.str s)
            | none => none)
          | none => none)
        | .nils => some (.str [])
        | _ => none) rfl fun φ h w ρ a r hR hf hv => by
    have h2 := undl_ok hs (by intro e; cases e)
    have h3 := undl_ok ht (by intro e; cases e)
    have h4 := undl_ok he (by intro e; cases e)
    split at hf
    · rename_i i q n c
      obtain ⟨p, c', hp, hx, hle⟩ := V.slice hv
      cases hel : elems (h.get i) 1 q n with
      | none => rw [hel] at hf; cases hf
      | some ls =>
        rw [hel] at hf
        dsimp only at hf
        cases hb : bytesOf ls with
        | none => rw [hb] at hf; cases hf
        | some s' =>
          rw [hb] at hf
          cases hf
          obtain ⟨vs, h5, h6, h7⟩ := elems_ok (P := P) (by omega) (hR.any hp) hel
          obtain ⟨ns, h8, h9⟩ := bytesOf_ok hb h6.v
          rw [Nat.mul_one] at h5
          refine ⟨_, rfl, run_v ?_⟩
          rw [hx, run_convert_bytes_string w s t e _ _ _ h2 h4 h3, run_bytesToString w (p.at q) n c' (ns.map Int.ofNat) (by rw [h5, h8]; simp [Function.comp_def])]
          rw [show ByteArray.empty = (⟨⟨[]⟩⟩ : ByteArray) from rfl, push_fold, h9]
          simp [Function.comp_def]
    · cases hf
      have hx : ρ x = .slice none 0 0 := hv
      refine ⟨_, rfl, run_v ?_⟩
      rw [hx, run_convert_bytes_string w s t e _ _ _ h2 h4 h3]
      rfl
    · cases hf
end
end Go.Ax
namespace Go.Ax
open Go
variable {P : Program}
/-- A row pushed, and the place behind it frozen. -/
theorem freeze_push (w : World) (c : Array Value) (e : TypeId) :
    ({ w with heap := w.heap.push (.cells c e) } : World).freeze ⟨w.heap.size, c.size, none⟩ 1 = { w with heap := w.heap.push (.cells c e (c.size, c.size + 1)) } := by
  unfold World.freeze
  rw [if_neg (by decide)]
  congr 1
  apply Array.ext_getElem?
  intro k
  rw [Array.getElem?_modify]
  simp only [Array.getElem?_push]
  by_cases h : w.heap.size = k
  · subst h; simp
  · simp [h, Ne.symm h]
theorem run_stringToBytes (e : TypeId) (s : ByteArray) (w : World) : ∃ x, (Conv.stringToBytes e s).run P w = .ok (.slice (some ⟨w.heap.size, 0, none⟩) s.size (s.size + x))
    { w.drew with heap := w.heap.push (.cells ((s.data.map fun b => Value.int .u8 b.toNat) ++ Array.replicate x (.int .u8 0)) e (s.size + x, s.size + x + 1)) } := by
  refine ⟨w.tape w.drawn (.appendCap s.size 0 e) % (2 ^ 63 - s.size), ?_⟩
  generalize hx : w.tape w.drawn (.appendCap s.size 0 e) % (2 ^ 63 - s.size) = x
  have hc : (choose (.appendCap s.size 0 e)).run P w = .ok (s.size + x) w.drew := by
    rw [run_choose_drew, if_neg (by intro h; cases h)]
    simp only [Question.cut, hx]
  have hd : s.size + x - s.size = x := by omega
  unfold Conv.stringToBytes
  rw [Sem.run_bind, hc]
  simp only [Result.andThen, hd]
  rw [Sem.run_bind]
  have hn : ∀ (c : Array Value) (w : World), (newRow e c).run P w = .ok ⟨w.heap.size, 0, none⟩ { w with heap := w.heap.push (.cells c e) } := fun _ _ => rfl
  rw [hn]
  simp only [Result.andThen]
  rw [Sem.run_bind]
  have hsz : ((s.data.map fun b => Value.int .u8 b.toNat) ++ Array.replicate x (Value.int .u8 0) : Array Value).size = s.size + x := by
    rw [Array.size_append, Array.size_map, Array.size_replicate]; rfl
  generalize (((s.data.map fun b => Value.int .u8 b.toNat) ++ Array.replicate x (Value.int .u8 0)) : Array Value) = C at hsz ⊢
  have hm : (markStringish ⟨w.drew.heap.size, 0, none⟩).run P { w.drew with heap := w.drew.heap.push (.cells C e) } = .ok () { w.drew with heap := w.drew.heap.push (.cells C e (C.size, C.size + 1)) } := by
    have hs : ({ w.drew with heap := w.drew.heap.push (.cells C e) } : World).shape? w.drew.heap.size = some (e, C.size) := by
      unfold World.shape?
      simp only [Array.getElem?_push_size]
    unfold markStringish
    rw [Sem.run_bind, show (shape w.drew.heap.size).run P { w.drew with heap := w.drew.heap.push (.cells C e) } = .ok (some (e, C.size)) { w.drew with heap := w.drew.heap.push (.cells C e) } from by rw [← hs]; rfl]
    show Result.ok () (World.freeze _ _ _) = _
    rw [freeze_push w.drew C e]
  rw [hm, hsz]
  rfl
theorem bytesEls_ok (φ : Phi) : ∀ s : List UInt8, VEls φ 1 (bytesEls s) (s.map fun b => Value.int .u8 (b.toNat : Int))
  | [] => VEls.nil
  | b :: s => VEls.cons (l := [byteAv b]) (vs := [Value.int .u8 (b.toNat : Int)]) (VL.mk1 (show V φ (byteAv b) _ from rfl)) rfl (fun x hx => by rw [List.mem_singleton.1 hx]; rfl) (bytesEls_ok φ s)
section
variable {dst : Option Tmp} {type : TypeId} {pos : String} {after : Array Edge} {guard : Option (Nat × Bool)}
theorem ok_conv_sb {s t e : TypeId} {x : Operand} (hs : undl P s = .string) (ht : undl P t = .slice e) (he : undl P e = .int .u8) :
    Nw P ⟨dst, .convert s t x, type, pos, after, guard⟩ (on1 NewR.bad fun x => AV.onStr x NewR.bad fun s => @Option.rec _ (fun _ => NewR) NewR.bad (fun b => NewR.ok b fun i => .sl i 0 (len s) none) (mkArr e 1 (len s) true (bytesEls s))) := by
  intro φ w ρ xs b g hf hv
  match xs, hv, hf with
  | [.str l], hv, hf =>
    obtain ⟨v, hv, hv2⟩ := hv.one
    cases hv
    have hx : ρ x = .string ⟨⟨l⟩⟩ := hv2
    have hf : @Option.rec _ (fun _ => NewR) NewR.bad (fun b => NewR.ok b fun i => .sl i 0 (len l) none) (@Bool.rec (fun _ => Option Blk) none (some (.arr e 1 (len l) true (fillFrom 0 (bytesEls l) els0))) (Nat.ble (len l) 256)) = .ok b g := hf
    cases hb : Nat.ble (len l) 256 with
    | false => rw [hb] at hf; cases hf
    | true =>
      rw [hb] at hf
      cases hf
      have h256 := nat_ble hb
      obtain ⟨y, hrun⟩ := run_stringToBytes (P := P) e ⟨⟨l⟩⟩ w
      have h2 := undl_run hs (by intro e; cases e) w
      have h3 := undl_run ht (by intro e; cases e) w
      have h4 := undl_run he (by intro e; cases e) w
      have hsz : (⟨⟨l⟩⟩ : ByteArray).size = l.length := rfl
      rw [hsz] at hrun
      rw [len_eq] at h256 ⊢
      obtain ⟨W, hrun, hh, ho, htp, hout⟩ : ∃ W : World, (Conv.stringToBytes e ⟨⟨l⟩⟩).run P w = .ok (.slice (some ⟨w.heap.size, 0, none⟩) l.length (l.length + y)) W ∧
          W.heap = w.heap.push (.cells (((⟨⟨l⟩⟩ : ByteArray).data.map fun b => Value.int .u8 b.toNat) ++ Array.replicate y (Value.int .u8 0)) e (l.length + y, l.length + y + 1)) ∧ W.os = w.os ∧ W.tape = w.tape ∧ W.output = w.output := ⟨_, hrun, rfl, rfl, rfl, rfl⟩
      refine ⟨.slice (some ⟨w.heap.size, 0, none⟩) l.length (l.length + y), W, ⟨w.heap.size, 0, 1, l.length + y⟩, run_v ?_, ?_⟩
      · rw [hx]
        simp only [convert, Sem.run_bind, h2, h3, h4, Result.andThen]
        exact hrun
      · refine ⟨⟨_, hh⟩, ho, htp, hout, rfl, fun ψ i _ hi => ⟨_, l.length + y, hi, rfl, Nat.le_add_right _ _, (by show 0 + (l.length + y) * 1 = l.length + y; omega), Nat.one_pos⟩, fun ψ _ => ?_, fun e => by cases e⟩
        refine BRel.row (vs := l.map fun b => Value.int .u8 (b.toNat : Int)) (rest := List.replicate y (Value.int .u8 0)) (fr := (l.length + y, l.length + y + 1)) (by omega) (by simp [bytesEls]) h256 (bytesEls_ok ψ l) ?_ rfl rfl (by simp) ⟨by simp, fun k hk hc => by simp at hk; omega⟩
        rw [hh]
        simp only [Array.getElem?_push_size]
        congr 2
        apply Array.toList_inj.1
        simp
  | [], _, hf => cases hf
  | _ :: _ :: _, _, hf => cases hf
  | [.bool _], _, hf => cases hf
  | [.int _ _], _, hf => cases hf
  | [.nilp], _, hf => cases hf
  | [.ptr _ _], _, hf => cases hf
  | [.nils], _, hf => cases hf
  | [.sl _ _ _ _], _, hf => cases hf
  | [.emp], _, hf => cases hf
  | [.nilm], _, hf => cases hf
  | [.mp _], _, hf => cases hf
  | [.nilf], _, hf => cases hf
  | [.fn _ _ _], _, hf => cases hf
  | [.yld _], _, hf => cases hf
  | [.nili], _, hf => cases hf
  | [.agg _], _, hf => cases hf
  | [.tup _], _, hf => cases hf
end
end Go.Ax
namespace Go.Ax
open Go
variable {P : Program}
section
variable {dst : Option Tmp} {type : TypeId} {pos : String} {after : Array Edge} {guard : Option (Nat × Bool)}
theorem Made.map {φ : Phi} {w : World} : Made φ w { w with heap := w.heap.push (.map #[] 0) } (.mp [] 0) .mp (.map (some w.heap.size)) ⟨w.heap.size, 0, 0, 0⟩ where
  heap := ⟨_, rfl⟩
  os := rfl
  tape := rfl
  output := rfl
  place := rfl
  val := fun ψ i _ hi => ⟨_, hi, rfl⟩
  blk := fun ψ _ => ⟨#[], by simp, rfl⟩
  there := fun e => by cases e
theorem ok_makeMap0 {t : TypeId} : Nw P ⟨dst, .makeMap t none, type, pos, after, guard⟩ (on0 NewR.bad (NewR.ok (.mp [] 0) .mp)) := by
  intro φ w ρ xs b g hf hv
  cases xs with
  | cons x l => cases hf
  | nil =>
    cases hf
    exact ⟨_, _, _, run_v rfl, Made.map⟩
theorem ok_makeMap1 {t k e : TypeId} {r : Operand} (ht : undl P t = .map k e) : Nw P ⟨dst, .makeMap t (some r), type, pos, after, guard⟩ (on1 NewR.bad fun x => match x with | .int _ _ => NewR.ok (.mp [] 0) .mp | _ => NewR.bad) := by
  intro φ w ρ xs b g hf hv
  match xs, hv, hf with
  | [a], hv, hf2 =>
    obtain ⟨v, hv, hv2⟩ := hv.one
    cases hv
    have hf3 : (match a with | .int _ _ => NewR.ok (.mp [] 0) .mp | _ => NewR.bad) = .ok b g := hf2
    split at hf3
    · rename_i q n
      cases hf3
      have hx : ρ r = .int q n := hv2
      refine ⟨_, _, _, run_v ?_, Made.map⟩
      have h2 := undl_run ht (by intro e; cases e) w
      simp only [Option.map_some, hx, Instr.makeMap, Sem.run_bind, h2, Result.andThen, asInt, asIntOf, Sem.run_pure]
      rfl
    · cases hf3
  | [], _, hf => cases hf
  | _ :: _ :: _, _, hf => cases hf
theorem ok_range {t : TypeId} {r : Operand} (ht : undl P t = .string) : Nw P ⟨dst, .range t r, type, pos, after, guard⟩ (on1 NewR.bad fun x => match x with | .str s => NewR.ok (.sit s 0) fun i => .ptr i 0 | _ => NewR.bad) := by
  intro φ w ρ xs b g hf hv
  match xs, hv, hf with
  | [a], hv, hf2 =>
    obtain ⟨v, hv, hv2⟩ := hv.one
    cases hv
    have hf3 : (match a with | .str s => NewR.ok (.sit s 0) fun i => AV.ptr i 0 | _ => NewR.bad) = .ok b g := hf2
    split at hf3
    · rename_i s
      cases hf3
      have hx : ρ r = .string ⟨⟨s⟩⟩ := hv2
      have h2 := undl_run ht (by intro e; cases e) w
      refine ⟨.pointer (some ⟨w.heap.size, 0, none⟩), { w with heap := w.heap.push (.stringIter ⟨⟨s⟩⟩ 0) }, ⟨w.heap.size, 0, 0, 0⟩, run_v ?_, ⟨_, rfl⟩, rfl, rfl, rfl, rfl, fun ψ i _ hi => ⟨_, hi, rfl⟩, fun ψ _ => ⟨rfl, by simp⟩, fun e => by cases e⟩
      simp only [hx, Instr.range, Sem.run_bind, h2, Result.andThen, Sem.run_pure]
      rfl
    · cases hf3
  | [], _, hf => cases hf
  | _ :: _ :: _, _, hf => cases hf
end
end Go.Ax
namespace Go.Ax
open Go
variable {P : Program}
theorem rep_eq {α : Type} : ∀ (n : Nat) (x : α), rep n x = List.replicate n x
  | 0, _ => rfl
  | n + 1, x => by show x :: rep n x = _; rw [rep_eq n x]; rfl
theorem zeros_list (z : Array Value) (c : Nat) : ((List.range (c * z.size)).map fun k => z[k % z.size]!) = (List.replicate c z.toList).flatten := by
  induction c with
  | zero => simp
  | succ c ih =>
    rw [Nat.succ_mul, List.range_add, List.map_append, ih, List.replicate_succ', List.flatten_append]
    congr 1
    apply List.ext_getElem?
    intro k
    simp only [List.map_map, List.getElem?_map, List.flatten_cons, List.flatten_nil, List.append_nil]
    by_cases hk : k < z.size
    · rw [List.getElem?_range hk]
      simp only [Option.map_some, Function.comp_apply, Nat.mul_add_mod_self_right, Nat.mod_eq_of_lt hk]
      rw [Array.getElem?_toList, getElem!_pos z k hk, getElem?_pos z k hk]
    · rw [List.getElem?_eq_none (by simp; omega), List.getElem?_eq_none (by simp; omega)]
      rfl
theorem zeros_ok {φ : Phi} {es : Nat} {l : List AV} {z : Array Value} (hv : VL φ l z.toList) (hl : l.length = es) (hc : areCells l) : ∀ c, VEls φ es (rep c l) (List.replicate c z.toList).flatten
  | 0 => VEls.nil
  | c + 1 => by
    rw [List.replicate_succ, List.flatten_cons]
    exact VEls.cons hv hl hc (zeros_ok hv hl hc c)
section
variable {dst : Option Tmp} {type : TypeId} {pos : String} {after : Array Edge} {guard : Option (Nat × Bool)}
theorem ok_makeSlice {t e : TypeId} {x y : Operand} {z : List AV} (ht : undl P t = .slice e) (hz : zeroCs P e = some z) (h0 : Nat.beq (szOf P e) 0 = false) (hl : Nat.beq (len z) (szOf P e) = true) (hb : Nat.ble (P.bytesOf e) 1000000 = true) :
    Nw P ⟨dst, .makeSlice t x y, type, pos, after, guard⟩ fun as => match as with
          | [.int _ (.ofNat n), .int _ (.ofNat c)] => (match Nat.ble n c, mkArr e (szOf P e) c false (rep c z) with
            | true, some b => NewR.ok b fun i => .sl i 0 n (some c)
            | _, _ => NewR.bad)
          | _ => NewR.bad := by
  intro φ w ρ xs b g hf hv
  dsimp only at hf
  split at hf
  · rename_i k n k' c
    split at hf
    · rename_i b' hnc hm
      cases hf
      obtain ⟨v, u, e1, h1, h2⟩ := hv.two
      have e1 : [ρ x, ρ y] = [v, u] := e1
      cases e1
      have hx : ρ x = .int k (n : Int) := h1
      have hy : ρ y = .int k' (c : Int) := h2
      have hm : @Bool.rec (fun _ => Option Blk) none (some (.arr e (szOf P e) c false (fillFrom 0 (rep c z) els0))) (Nat.ble c 256) = some b := hm
      obtain ⟨h256, hm⟩ := bool_some hm
      cases hm
      have h256 := nat_ble h256
      have hnc := nat_ble hnc
      have hl := nat_beq hl
      rw [len_eq] at hl
      have h0 := nat_nbeq h0
      have hb := nat_ble hb
      obtain ⟨zv, i, hi, hvz, hcz, hzr⟩ := zeroCs_ok hz φ
      have hu := undl_run ht (by intro e; cases e) w
      have hB : i.bytes = P.bytesOf e := by unfold Program.bytesOf; rw [infoAt_ok hi]; rfl
      have hzs : zv.cells.size = szOf P e := by rw [← hl, hvz.length]; simp
      have w1 : IntKind.wrap .i64 (n : Int) = n := wrap64 _ (by omega) (by omega)
      have w2 : IntKind.wrap .i64 (c : Int) = c := wrap64 _ (by omega) (by omega)
      have hle : P.bytesOf e * c ≤ 1000000 * 256 := Nat.mul_le_mul hb h256
      have hbc : ¬ ((P.bytesOf e : Int) * (c : Int) > 2 ^ 48) := by
        have e1 : (P.bytesOf e : Int) * (c : Int) = ((P.bytesOf e * c : Nat) : Int) := by rw [Int.natCast_mul]
        rw [e1]
        have e2 : (2 : Int) ^ 48 = 281474976710656 := by decide
        rw [e2]
        omega
      have hrow : ((Array.range (c * szOf P e)).map (fun k => zv.cells[k % zv.cells.size]!)) = (List.replicate c zv.cells.toList).flatten.toArray := by
        apply Array.toList_inj.1
        rw [← zeros_list, Array.toList_map, Array.toList_range, hzs]
      have hVE := fun ψ (hψ : Phi.le φ ψ) => zeros_ok (VL.mono hψ _ _ hvz) hl hcz c
      refine ⟨.slice (some ⟨w.heap.size, 0, none⟩) n c, { w with heap := w.heap.push (.cells (List.replicate c zv.cells.toList).flatten.toArray e) }, ⟨w.heap.size, 0, szOf P e, c * szOf P e⟩, run_v ?_, ⟨_, rfl⟩, rfl, rfl, rfl, rfl, fun ψ i _ hi => ⟨_, hi, rfl, hnc⟩, fun ψ hψ => ?_, fun e => by cases e⟩
      · rw [hx, hy]
        have hti := run_typeInfo w (infoAt_ok hi)
        have hne : ¬ (c * szOf P e = 0 ∧ False) := fun h => h.2
        have hc0 : ¬ ((c : Int) < 0) := by omega
        have hlt : ¬ ((n : Int) < 0) := by omega
        have hgt : ¬ ((n : Int) > (c : Int)) := by omega
        simp only [Instr.makeSlice, Sem.run_bind, hu, Result.andThen, asInt, asIntOf, Sem.run_pure, hti, w1, w2, hB, hc0, hlt, hgt, hbc, decide_false, Bool.or_false, Bool.false_or, Bool.false_eq_true, if_false, run_askRoom, Int.toNat_natCast, sizeOf_run hi]
        by_cases hz0 : c * szOf P e = 0
        · have hc1 : c = 0 := by
            rcases Nat.mul_eq_zero.1 hz0 with h | h
            · exact h
            · exact absurd h h0
          subst hc1
          simp only [hz0, if_true, show Array.range 0 = #[] from rfl, Array.map_empty]
          rfl
        · simp only [if_neg hz0, Sem.run_bind, hzr, Sem.run_pure, Result.andThen, hrow]
          rfl
      · refine BRel.row (rest := []) (fr := (0, 0)) (by omega) (by rw [rep_eq]; simp) h256 (hVE ψ hψ) ?_ rfl rfl (by simp) (noFz_zero _)
        simp
    · cases hf
  · cases hf
end
end Go.Ax
namespace Go.Ax
open Go
variable {P : Program}
theorem ML.length {φ : Phi} : ∀ {es : List (AV × AV × Nat)} {ents : List MapEntry}, ML φ es ents → es.length = ents.length
  | [], _, h => by have h : _ = [] := h; rw [h]; rfl
  | _ :: _, _, h => by obtain ⟨e, r, rfl, _, _, _, h5⟩ := h; simp [ML.length h5]
theorem onMap_some {α : Type} {b : Blk} {f : List (AV × AV × Nat) → Nat → Option α} {r : α} (h : Blk.onMap b none f = some r) : ∃ es c, b = .mp es c ∧ f es c = some r := by
  cases b with
  | mp es c => exact ⟨es, c, rfl, h⟩
  | _ => cases h
theorem RelF.map {φ : Phi} {H : Id → Blk} {w : World} (r : RelF φ H w) {i : Id} {es : List (AV × AV × Nat)} {c : Nat} {v : Value} (hb : H i = .mp es c) (hv : V φ (.mp i) v) :
    ∃ p ents, φ i = some p ∧ v = .map (some p.b) ∧ w.heap[p.b]? = some (.map ents c) ∧ ML φ es ents.toList := by
  obtain ⟨p, h1, h2⟩ := hv
  have h3 := r.any h1
  rw [hb] at h3
  obtain ⟨ents, h4, h5⟩ := h3
  exact ⟨p, ents, h1, h2, h4, h5⟩
section
variable {dst : Option Tmp} {type : TypeId} {pos : String} {after : Array Edge} {guard : Option (Nat × Bool)}
theorem ok_len_map {args : Array Operand} {ts : Array TypeId} {t : Nat} {k e : TypeId} (ht : ts[0]? = some t) (hu : undl P t = .map k e) :
    Red P ⟨dst, .call ⟨.builtin .len, args, ts⟩, type, pos, after, guard⟩ fun xs h => on1 none (fun x => AV.onMp x (match x with | .nilm => some (.int .i64 (.ofNat 0)) | _ => none) fun i => Blk.onMap (h.get i) none fun es _ => some (.int .i64 (.ofNat (len es)))) xs := by
  intro φ h w ρ xs r hR hf hv
  obtain ⟨a, rfl, hf2⟩ := on1_some hf
  obtain ⟨v, h1, h2⟩ := args_one hv
  have hd := undl_run hu (by intro e; cases e) w
  rcases AV.onMp_some hf2 with ⟨i, rfl, h3⟩ | ⟨_, h3⟩
  · obtain ⟨es, c, h4, h5⟩ := onMap_some h3
    cases h5
    obtain ⟨p, ents, _, rfl, h6, h7⟩ := hR.map h4 h2
    refine ⟨_, rfl, ?_⟩
    rw [run_builtin, h1]
    refine run_v ?_
    rw [len_eq, h7.length]
    simp only [Builtin.len_, ht, get0, Sem.run_bind, hd, Result.andThen]
    have hg : (getObj p.b).run P w = .ok (.map ents c) w := by
      show Sem.run P (.getObj p.b .pure) w = _
      unfold Sem.run
      rw [h6]
      rfl
    rw [hg]
    rfl
  · split at h3
    · cases h3
      have h2 : v = .map none := h2
      subst h2
      refine ⟨_, rfl, ?_⟩
      rw [run_builtin, h1]
      refine run_v ?_
      simp only [Builtin.len_, ht, get0, Sem.run_bind, hd, Result.andThen]
      rfl
    · cases h3
end
end Go.Ax
namespace Go.Ax
open Go
variable {P : Program}
/-- What an operation that ends by itself leaves. -/
def Ends (P : Program) (o : Oper) (ρ : Operand → Value) (w : World) (v : Value) (w' : World) : Prop := (execOp ρ o).run P w = .ok (.value v) w' ∨ ((execOp ρ o).run P w = .ok .skip w' ∧ v = Go.undef)
def Ef (P : Program) (o : Oper) (f : List AV → Hp → RC) : Prop :=
  ∀ (φ : Phi) (h : Hp) (w : World) (ρ : Operand → Value) (xs : List AV) (r : AV) (h' : Hp), Rel φ h w → f xs h = .ok r h' → VL φ xs ((opsOf o.op).map ρ) →
    ∃ φ' w' v, Ends P o ρ w v w' ∧ V φ' r v ∧ Step φ h w φ' h' w'
theorem V.undef {φ : Phi} : V φ undef Go.undef := ⟨#[], rfl, rfl⟩
theorem putB_ok {i : Id} {h h' : Hp} {v r : AV} {ob : Option Blk} (hp : putB i h v ob = .ok r h') : ∃ b, ob = some b ∧ r = v ∧ h' = h.put i b := by
  cases ob with
  | none => cases hp
  | some b => cases hp; exact ⟨b, rfl, rfl, rfl⟩
theorem run_u {s : Sem Unit} {w w' : World} (h : s.run P w = .ok () w') : (do s; pure Next.skip : Sem Next).run P w = .ok .skip w' := by
  rw [Sem.run_bind, h]; rfl
section
variable {dst : Option Tmp} {type : TypeId} {pos : String} {after : Array Edge} {guard : Option (Nat × Bool)}
theorem on2_ok {f : AV → AV → RC} {xs : List AV} {r : AV} {h' : Hp} (h : on2 RC.bad f xs = .ok r h') : ∃ a b, xs = [a, b] ∧ f a b = .ok r h' := by
  match xs, h with
  | [a, b], h => exact ⟨a, b, rfl, h⟩
  | [], h => cases h
  | [_], h => cases h
  | _ :: _ :: _ :: _, h => cases h
theorem onPtr_ok {x : AV} {f : Id → Nat → RC} {r : AV} {h' : Hp} (h : AV.onPtr x RC.bad f = .ok r h') : ∃ i o, x = .ptr i o ∧ f i o = .ok r h' := by
  cases x with
  | ptr i o => exact ⟨i, o, rfl, h⟩
  | _ => cases h
theorem ok_store_agg {t : TypeId} {x y : Operand} (hz : Nat.beq (szOf P t) 0 = false) :
    Ef P ⟨dst, .store t x y, type, pos, after, guard⟩ fun xs h => on2 RC.bad (fun x v => AV.onPtr x RC.bad fun i q => AV.onAgg v RC.bad fun l => @Bool.rec (fun _ => RC) RC.bad (putB i h undef (storeN (h.get i) q (szOf P t) l)) (Nat.beq (len l) (szOf P t))) xs := by
  intro φ h w ρ xs r h' hR hf hv
  obtain ⟨a, b, rfl, hf⟩ := on2_ok hf
  obtain ⟨v, u, e1, h1, h2⟩ := hv.two
  have e1 : [ρ x, ρ y] = [v, u] := e1
  cases e1
  obtain ⟨i, o, rfl, hf⟩ := onPtr_ok hf
  cases b with
  | agg l =>
    have hf : @Bool.rec (fun _ => RC) RC.bad (putB i h undef (storeN (h.get i) o (szOf P t) l)) (Nat.beq (len l) (szOf P t)) = .ok r h' := hf
    cases hl : Nat.beq (len l) (szOf P t) with
    | false => rw [hl] at hf; cases hf
    | true =>
      rw [hl] at hf
      obtain ⟨b', hb, rfl, rfl⟩ := putB_ok hf
      have hl := nat_beq hl
      rw [len_eq] at hl
      obtain ⟨vs, hy, h3, h4⟩ := h2
      obtain ⟨p, hp, hx⟩ := h1
      have h0 := nat_nbeq hz
      obtain ⟨i', hi'⟩ := szOf_pos hz
      obtain ⟨w', h5, h6, h7, h8, h9⟩ := storeN_ok (P := P) (hR.f.any hp) hb h3 h4 hl (by omega)
      refine ⟨φ, w', Go.undef, .inr ⟨run_u ?_, rfl⟩, V.undef, Step.wrote hR h8 hp h6 fun _ => ⟨h7, h9⟩⟩
      have hsz : vs.size = szOf P t := by rw [← hl, h3.length]; simp
      rw [hx, hy]
      have hne : ¬ ((Value.agg vs).cells.size ≠ szOf P t) := fun h => h hsz
      simp only [Instr.storeAt, Instr.sureAddr, storeVar, Sem.run_bind, Sem.run_pure, sizeOf_run hi', Result.andThen, if_neg hne]
      exact h5
  | _ => cases hf
theorem ok_store_one {t : TypeId} {x y : Operand} (hz : Nat.beq (szOf P t) 1 = true) :
    Ef P ⟨dst, .store t x y, type, pos, after, guard⟩ fun xs h => on2 RC.bad (fun x v => AV.onPtr x RC.bad fun i q => AV.ifCell v RC.bad (putB i h undef (store1 (h.get i) q v))) xs := by
  intro φ h w ρ xs r h' hR hf hv
  obtain ⟨a, b, rfl, hf⟩ := on2_ok hf
  obtain ⟨v, u, e1, h1, h2⟩ := hv.two
  have e1 : [ρ x, ρ y] = [v, u] := e1
  cases e1
  obtain ⟨i, o, rfl, hf⟩ := onPtr_ok hf
  have hc : isCell b = true ∧ putB i h undef (store1 (h.get i) o b) = .ok r h' := by cases b <;> first | exact ⟨rfl, hf⟩ | cases hf
  obtain ⟨hc, hf⟩ := hc
  obtain ⟨b', hb, rfl, rfl⟩ := putB_ok hf
  obtain ⟨p, hp, hx⟩ := h1
  have hz := nat_beq hz
  obtain ⟨i', hi'⟩ := szOf_pos (P := P) (t := t) (by rw [hz]; rfl)
  obtain ⟨w', h5, h6, h7, h8, h9⟩ := store1_ok (P := P) (hR.f.any hp) hb h2 hc
  refine ⟨φ, w', Go.undef, .inr ⟨run_u ?_, rfl⟩, V.undef, Step.wrote hR h8 hp h6 fun _ => ⟨h7, h9⟩⟩
  rw [hx]
  have hcl := h2.cells_one hc
  have hne : ¬ ((ρ y).cells.size ≠ szOf P t) := fun h => h (by rw [hcl, hz]; rfl)
  simp only [Instr.storeAt, Instr.sureAddr, storeVar, Sem.run_bind, Sem.run_pure, sizeOf_run hi', Result.andThen, if_neg hne]
  rw [hcl]
  exact h5
end
end Go.Ax
namespace Go.Ax
open Go
variable {P : Program}
section
variable {dst : Option Tmp} {type : TypeId} {pos : String} {after : Array Edge} {guard : Option (Nat × Bool)}
theorem lenS_ok {φ : Phi} {x : AV} {n : Nat} {v : Value} (h : lenS x = some n) (hv : V φ x v) :
    (∃ s, x = .str s ∧ v = .string ⟨⟨s⟩⟩ ∧ n = s.length) ∨ (∃ a c, v = .slice a n c ∧ n ≤ c ∧ ((n = 0 ∧ ∀ i o m d, x ≠ .sl i o m d) ∨ ∃ i o d p, x = .sl i o n d ∧ φ i = some p ∧ a = some (p.at o))) := by
  unfold lenS at h
  split at h
  · rename_i s
    cases h
    exact .inl ⟨s, rfl, hv, len_eq s⟩
  · cases h
    have hv : v = .slice none 0 0 := hv
    exact .inr ⟨none, 0, hv, Nat.le_refl _, .inl ⟨rfl, fun _ _ _ _ e => by cases e⟩⟩
  · rename_i i o m c
    cases h
    obtain ⟨p, c', h1, h2, h3⟩ := V.slice hv
    exact .inr ⟨_, c', h2, h3, .inr ⟨i, o, c, p, rfl, h1, rfl⟩⟩
  · cases h
    obtain ⟨a, c, hv⟩ := hv
    exact .inr ⟨some a, c, hv, Nat.zero_le _, .inl ⟨rfl, fun _ _ _ _ e => by cases e⟩⟩
  · cases h
theorem VEls.take {φ : Phi} {es : Nat} {ls : List (List AV)} {vs : List Value} (h : VEls φ es ls vs) (n : Nat) : VEls φ es (ls.take n) (vs.take (n * es)) := by
  induction n generalizing ls vs with
  | zero => simp; exact VEls.nil
  | succ n ih =>
    cases ls with
    | nil =>
      have hv : vs = [] := h.v
      subst hv
      simp
      exact VEls.nil
    | cons l ls =>
      have h1 : l.length = es := h.len l (List.mem_cons_self ..)
      have hfl : VL φ (l ++ ls.flatten) vs := h.v
      have hv1 := VL.take es hfl
      have hv2 := VL.drop es hfl
      rw [← h1, List.take_left, h1] at hv1
      rw [← h1, List.drop_left, h1] at hv2
      have ht : VEls φ es ls (vs.drop es) := ⟨hv2, fun x hx => h.len x (List.mem_cons_of_mem _ hx), fun x hx => h.cells x (List.mem_cons_of_mem _ hx)⟩
      have e : vs.take ((n + 1) * es) = vs.take es ++ (vs.drop es).take (n * es) := by
        rw [Nat.succ_mul, Nat.add_comm, List.take_add]
      rw [List.take_succ_cons, e]
      exact VEls.cons hv1 h1 (h.cells l (List.mem_cons_self ..)) (ih ht)
theorem newEls_succ (es n : Nat) (x : AV) (h : Hp) : newEls es (n + 1) x h = (match x with | .sl i o _ _ => elems (h.get i) es o (n + 1) | .str s => (match Nat.beq es 1 with | true => some (takeB (bytesEls s) (n + 1)) | false => none) | _ => none) := rfl
theorem newEls_ok {φ : Phi} {h : Hp} {w : World} {es n m : Nat} {x : AV} {v : Value} {ls : List (List AV)} (hR : RelF φ h.get w) (hes : 0 < es) (hl : newEls es n x h = some ls) (hm : lenS x = some m) (hnm : n ≤ m) (hv : V φ x v) :
    ∃ vs, (Builtin.firstCells es n v).run P w = .ok vs.toArray w ∧ VEls φ es ls vs ∧ ls.length = n := by
  have hlen := lenS_ok hm hv
  cases n with
  | zero =>
    have hl : some [] = some ls := hl
    cases hl
    rcases hlen with ⟨s, _, rfl, _⟩ | ⟨a, c, rfl, _⟩
    · refine ⟨[], ?_, VEls.nil, rfl⟩
      simp [Builtin.firstCells]
    · refine ⟨[], ?_, VEls.nil, rfl⟩
      cases a with
      | none => rfl
      | some a => simp only [Builtin.firstCells, Nat.zero_mul]; rfl
  | succ n =>
    rw [newEls_succ] at hl
    split at hl
    · rename_i i o d c
      obtain ⟨p, c', hp, rfl, _⟩ := V.slice hv
      obtain ⟨vs, h1, h2, h3⟩ := elems_ok (P := P) hes (hR.any hp) hl
      exact ⟨vs, h1, h2, h3⟩
    · rename_i s
      split at hl
      · rename_i he
        cases hl
        cases nat_beq he
        have hv : v = .string ⟨⟨s⟩⟩ := hv
        subst hv
        have hms : m = s.length := by cases hm; exact len_eq s
        refine ⟨(s.map fun b => Value.int .u8 (b.toNat : Int)).take ((n + 1) * 1), ?_, ?_, ?_⟩
        · simp [Builtin.firstCells, extract_mk, List.map_take]
        · rw [takeB_eq]; exact (bytesEls_ok φ s).take (n + 1)
        · rw [takeB_eq, List.length_take]; simp [bytesEls]; omega
      · cases hl
    · cases hl
end
end Go.Ax
namespace Go.Ax
open Go
variable {P : Program}
/-- A block put where it lies. -/
theorem Step.reput {φ : Phi} {h : Hp} {w : World} (r : Rel φ h w) (i : Id) : Step φ h w φ (h.put i (h.get i)) w := by
  have hg : ∀ j, (h.put i (h.get i)).get j = h.get j := fun j => by
    rw [Hp.get_put]
    split
    · rename_i e; rw [e]
    · rfl
  have hge : (h.put i (h.get i)).get = h.get := funext hg
  have s := Step.refl r
  refine ⟨s.le, ⟨?_, fun j p hp => by rw [Hp.put_nx]; exact r.fresh j p hp⟩, s.keep, fun b hb => ?_, by rw [Hp.put_nx]; exact Nat.le_refl _, s.names, fun j hj hl => by rw [hg] at hl; exact hl⟩
  · exact hge ▸ r.f
  · obtain ⟨j, p, h1, h2, h3⟩ := hb
    rw [show (fun i_1 => Hp.get i_1 (h.put i (h.get i))) j = h.get j from hg j] at h1
    exact .inl ⟨j, p, h1, h2, h3⟩
theorem storeN_rw {b b' : Blk} {o n : Nat} {l : List AV} (h : storeN b o n l = some b') : isRw b = true := by
  rcases onCells_some h with ⟨ty, m, l0, ro, rfl, h1⟩ | ⟨ty, es, m, d, t, rfl, h1⟩
  · cases ro with
    | true => cases h1
    | false => rfl
  · rfl
section
variable {dst : Option Tmp} {type : TypeId} {pos : String} {after : Array Edge} {guard : Option (Nat × Bool)}
theorem optC_ok {α : Type} {o : Option α} {f : α → RC} {r : AV} {h' : Hp} (h : @Option.rec _ (fun _ => RC) RC.bad f o = .ok r h') : ∃ x, o = some x ∧ f x = .ok r h' := by
  cases o with
  | none => cases h
  | some x => exact ⟨x, rfl, h⟩
theorem copyF_ok {es : Nat} {d x : AV} {h h' : Hp} {r : AV} (hf : copyF es d x h = .ok r h') : ∃ n m ls, lenS x = some n ∧ lenS d = some m ∧ newEls es (minN n m) x h = some ls ∧
    ((∃ i o l c, d = .sl i o l c ∧ putB i h (.int .i64 (.ofNat (minN n m))) (storeEls (h.get i) es o ls) = .ok r h') ∨ (d = .nils ∧ r = .int .i64 (.ofNat 0) ∧ h' = h)) := by
  unfold copyF at hf
  obtain ⟨n, hn, hf⟩ := optC_ok hf
  obtain ⟨m, hm, hf⟩ := optC_ok hf
  obtain ⟨ls, hl, hf⟩ := optC_ok hf
  refine ⟨n, m, ls, hn, hm, hl, ?_⟩
  split at hf
  · exact .inl ⟨_, _, _, _, rfl, hf⟩
  · cases hf; exact .inr ⟨rfl, rfl, rfl⟩
  · cases hf
theorem minN_eq (a b : Nat) : minN a b = min a b := by
  have e : minN a b = @Bool.rec (fun _ => Nat) b a (Nat.ble a b) := rfl
  rw [e]
  cases h : Nat.ble a b with
  | true => have := nat_ble h; exact (Nat.min_eq_left this).symm
  | false => have hlt := nat_nble h; exact (Nat.min_eq_right (Nat.le_of_lt hlt)).symm
theorem lenOf_run {φ : Phi} {x : AV} {n : Nat} {v : Value} (h : lenS x = some n) (hv : V φ x v) (w : World) : (Builtin.lenOf v).run P w = .ok n w := by
  rcases lenS_ok h hv with ⟨s, _, rfl, rfl⟩ | ⟨a, c, rfl, _⟩ <;> rfl
theorem ok_copy {args : Array Operand} {ts : Array TypeId} {t : Nat} {e : TypeId} (ht : ts[0]? = some t) (hu : undl P t = .slice e) (hz : Nat.beq (szOf P e) 0 = false) :
    Ef P ⟨dst, .call ⟨.builtin .copy, args, ts⟩, type, pos, after, guard⟩ fun xs h => on2 RC.bad (fun x y => copyF (szOf P e) x y h) xs := by
  intro φ h w ρ xs r h' hR hf hv
  obtain ⟨d, x, rfl, hf⟩ := on2_ok hf
  obtain ⟨dv, xv, e1, h1, h2⟩ := args_two hv
  obtain ⟨n, m, ls, hn, hm, hl, hf3⟩ := copyF_ok hf
  have hes : 0 < szOf P e := Nat.pos_of_ne_zero (nat_nbeq hz)
  obtain ⟨vs, h3, h4, h5⟩ := newEls_ok (P := P) hR.f hes hl hn (by rw [minN_eq]; exact Nat.min_le_left _ _) h2
  rw [minN_eq] at h3 h5 hf3
  have hd := undl_run hu (by intro e; cases e) w
  obtain ⟨i', hi'⟩ := szOf_pos hz
  have hlen := lenOf_run (P := P) hn h2 w
  rcases hf3 with ⟨i, o, l, c, rfl, hf3⟩ | ⟨rfl, rfl, rfl⟩
  · obtain ⟨p, c', hp, rfl, _⟩ := V.slice h1
    obtain ⟨b', hb, rfl, rfl⟩ := putB_ok hf3
    have hml : m = l := by cases hm; rfl
    subst hml
    have key : ∃ w', (storeCells (p.at o) vs).run P w = .ok () w' ∧ Step φ h w φ (h.put i b') w' := by
      cases ls with
      | nil =>
        cases hb
        have hvs : vs = [] := h4.v
        subst hvs
        exact ⟨w, rfl, Step.reput hR i⟩
      | cons l1 ls =>
        have hb2 := hb
        rw [storeEls_eq] at hb2
        obtain ⟨b1, hb3, _⟩ := opt_some hb2
        have hrw := storeN_rw hb3
        obtain ⟨w', h6, h7, h8, h9⟩ := storeEls_ok (P := P) hes (hR.f.any hp) hrw hb h4
        exact ⟨w', h6, Step.wrote hR hrw hp h7 fun _ => ⟨h8, h9⟩⟩
    obtain ⟨w', h6, h7⟩ := key
    refine ⟨φ, w', .int .i64 ((min n m : Nat) : Int), .inl ?_, rfl, h7⟩
    rw [run_builtin, e1]
    refine run_v ?_
    have h3 : (Builtin.firstCells (szOf P e) (Nat.min n m) xv).run P w = .ok vs.toArray w := h3
    simp only [Builtin.copy_, ht, show (#[Value.slice (some (p.at o)) m c', xv] : Array Value)[0]? = some (.slice (some (p.at o)) m c') from rfl, show (#[Value.slice (some (p.at o)) m c', xv] : Array Value)[1]? = some xv from rfl, Sem.run_bind, hd, Result.andThen, hlen, sizeOf_run hi', h3, h6]
    rfl
  · have h1 : dv = .slice none 0 0 := h1
    subst h1
    have hm0 : m = 0 := by cases hm; rfl
    subst hm0
    refine ⟨φ, w, .int .i64 0, .inl ?_, rfl, Step.refl hR⟩
    rw [run_builtin, e1]
    refine run_v ?_
    have h3 : (Builtin.firstCells (szOf P e) (Nat.min n 0) xv).run P w = .ok vs.toArray w := h3
    simp only [Builtin.copy_, ht, show (#[Value.slice none 0 0, xv] : Array Value)[0]? = some (.slice none 0 0) from rfl, show (#[Value.slice none 0 0, xv] : Array Value)[1]? = some xv from rfl, Sem.run_bind, hd, Result.andThen, hlen, sizeOf_run hi', h3]
    have hmin : Nat.min n 0 = 0 := Nat.min_zero n
    rw [hmin]
    rfl
end
end Go.Ax
namespace Go.Ax
open Go
variable {P : Program}
section
variable {dst : Option Tmp} {type : TypeId} {pos : String} {after : Array Edge} {guard : Option (Nat × Bool)}
theorem clearF_ok {es : Nat} {z : List AV} {ck : CK} {as : List AV} {h h' : Hp} {r : AV} (hf : clearF es z ck as h = .ok r h') : r = undef ∧
    ((∃ i o c, as = [.sl i o 0 c] ∧ h' = h) ∨ (∃ i o n c, as = [.sl i o (n + 1) c] ∧ putB i h undef (storeEls (h.get i) es o (rep (n + 1) z)) = .ok r h') ∨ (as = [.nils] ∧ h' = h) ∨ (as = [.emp] ∧ h' = h)) := by
  unfold clearF at hf
  split at hf
  · split at hf
    · cases hf; exact ⟨rfl, .inl ⟨_, _, _, rfl, rfl⟩⟩
    · rename_i i o n c _ hn
      cases n with
      | zero => exact absurd rfl hn
      | succ n =>
        refine ⟨?_, .inr (.inl ⟨_, _, _, _, rfl, hf⟩)⟩
        obtain ⟨b, _, h2, _⟩ := putB_ok hf
        exact h2
  · cases hf; exact ⟨rfl, .inr (.inr (.inl ⟨rfl, rfl⟩))⟩
  · cases hf; exact ⟨rfl, .inr (.inr (.inr ⟨rfl, rfl⟩))⟩
  · cases hf
theorem ok_clear {args : Array Operand} {ts : Array TypeId} {t : Nat} {e : TypeId} {z : List AV} {ck : CK} (ht : ts[0]? = some t) (hu : undl P t = .slice e) (hz : Nat.beq (szOf P e) 0 = false) (hzc : zeroCs P e = some z) (hlz : z.length = szOf P e) :
    Ef P ⟨dst, .call ⟨.builtin .clear, args, ts⟩, type, pos, after, guard⟩ (clearF (szOf P e) z ck) := by
  intro φ h w ρ xs r h' hR hf hv
  obtain ⟨rfl, hf⟩ := clearF_ok hf
  have hd := undl_run hu (by intro e; cases e) w
  obtain ⟨zv, i', hi', hvz, hcz, hzr⟩ := zeroCs_ok hzc φ
  have fin : ∀ (v : Value) (w' : World) (h' : Hp), args.map ρ = #[v] → (Builtin.clear_ ts type #[v]).run P w = .ok (.tuple #[]) w' → Step φ h w φ h' w' →
      ∃ φ' w' v, Ends P ⟨dst, .call ⟨.builtin .clear, args, ts⟩, type, pos, after, guard⟩ ρ w v w' ∧ V φ' undef v ∧ Step φ h w φ' h' w' := by
    intro v w' h' h1 h2 h3
    refine ⟨φ, w', .tuple #[], .inl ?_, V.undef, h3⟩
    rw [run_builtin, h1]
    exact run_v h2
  rcases hf with ⟨i, o, c, rfl, rfl⟩ | ⟨i, o, n, c, rfl, hf⟩ | ⟨rfl, rfl⟩ | ⟨rfl, rfl⟩
  · obtain ⟨v, h1, h2⟩ := args_one hv
    obtain ⟨p, c', _, rfl, _⟩ := V.slice h2
    refine fin _ w _ h1 ?_ (Step.refl hR)
    simp only [Builtin.clear_, ht, get0, Sem.run_bind, hd, Result.andThen]
    rfl
  · obtain ⟨v, h1, h2⟩ := args_one hv
    obtain ⟨p, c', hp, rfl, _⟩ := V.slice h2
    obtain ⟨b', hb, _, rfl⟩ := putB_ok hf
    have hb2 := hb
    rw [show rep (n + 1) z = z :: rep n z from rfl, storeEls_eq] at hb2
    obtain ⟨b1, hb3, _⟩ := opt_some hb2
    have hrw := storeN_rw hb3
    obtain ⟨w', h6, h7, h8, h9⟩ := storeEls_ok (P := P) (Nat.pos_of_ne_zero (nat_nbeq hz)) (hR.f.any hp) hrw hb (zeros_ok hvz hlz hcz (n + 1))
    refine fin _ w' _ h1 ?_ (Step.wrote hR hrw hp h7 fun _ => ⟨h8, h9⟩)
    have hrow : (Builtin.zeroCells zv.cells (n + 1)).toList = (List.replicate (n + 1) zv.cells.toList).flatten := by
      unfold Builtin.zeroCells
      rw [← zeros_list, Array.toList_map, Array.toList_range]
    simp only [Builtin.clear_, ht, get0, Sem.run_bind, hd, Result.andThen, hzr, hrow, h6]
    rfl
  · obtain ⟨v, h1, h2⟩ := args_one hv
    have h2 : v = .slice none 0 0 := h2
    subst h2
    refine fin _ w _ h1 ?_ (Step.refl hR)
    simp only [Builtin.clear_, ht, get0, Sem.run_bind, hd, Result.andThen]
    rfl
  · obtain ⟨v, h1, h2⟩ := args_one hv
    obtain ⟨a, c', rfl⟩ := h2
    refine fin _ w _ h1 ?_ (Step.refl hR)
    simp only [Builtin.clear_, ht, get0, Sem.run_bind, hd, Result.andThen]
    rfl
end
end Go.Ax
