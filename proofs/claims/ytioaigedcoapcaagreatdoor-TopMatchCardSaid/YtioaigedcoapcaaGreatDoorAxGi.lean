/- slices.SortFunc at pairs of numbers, by their first. -/
import Derived.Test.YtioaigedcoapcaaGreatDoorAxGh
import Derived.Test.YtioaigedcoapcaaGreatDoorLays
import Derived.Shelf.SlSortCmp.WholeK
import Derived.Shelf.SlSortCmp.NoneTotal
import Derived.Shelf.SlGeneric
import Derived.Ground.SlsfProg
import Derived.Sort.Walk0
import Derived.Test.YtioaigedcoapcaaGreatDoorAxGg
import Derived.Test.YtioaigedcoapcaaGreatDoorProg
import Derived.KernelRfl
import Derived.Below
import Derived.Laws.Externs
namespace Go.Proofs
open Go Go.Shelf
def Tryz.sortL_ren : Go.Shelf.Ren := ⟨fun | 6 => 21 | 15 => 48 | 14 => 47 | 28 => 74 | 29 => 75 | 20 => 66 | 21 => 67 | 22 => 68 | 23 => 69 | 24 => 70 | 25 => 71 | 26 => 72 | 27 => 73 | 46 => 111 | 47 => 112 | 48 => 113 | 49 => 114 | 50 => 115 | 57 => 148 | n => n, fun | 22 => 28 | 24 => 33 | 25 => 62 | 3 => 3 | 39 => 104 | 0 => 0 | 53 => 140 | 55 => 90 | 4 => 4 | 46 => 134 | 45 => 133 | 50 => 59 | 5 => 5 | 9 => 9 | 66 => 185 | 70 => 189 | 76 => 234 | 77 => 235 | n => n, fun | n => n⟩
theorem Tryz.sortL : Go.Proofs.SlLaysF0.n6 Tryz.prog Tryz.sortL_ren := {
  mixed := by kernel_rfl
  f6 := ⟨Tryz.f21.name, by decide, Tryz.func21.trans (congrArg some (by kernel_rfl))⟩
  f14 := ⟨Tryz.f47.name, by decide, Tryz.func47.trans (congrArg some (by kernel_rfl))⟩
  f15 := Tryz.func48.trans (congrArg some (by kernel_rfl))
  f20 := ⟨Tryz.f66.name, by decide, Tryz.func66.trans (congrArg some (by kernel_rfl))⟩
  f21 := ⟨Tryz.f67.name, by decide, Tryz.func67.trans (congrArg some (by kernel_rfl))⟩
  f22 := ⟨Tryz.f68.name, by decide, Tryz.func68.trans (congrArg some (by kernel_rfl))⟩
  f23 := ⟨Tryz.f69.name, by decide, Tryz.func69.trans (congrArg some (by kernel_rfl))⟩
  f24 := ⟨Tryz.f70.name, by decide, Tryz.func70.trans (congrArg some (by kernel_rfl))⟩
  f25 := ⟨Tryz.f71.name, by decide, Tryz.func71.trans (congrArg some (by kernel_rfl))⟩
  f26 := ⟨Tryz.f72.name, by decide, Tryz.func72.trans (congrArg some (by kernel_rfl))⟩
  f27 := ⟨Tryz.f73.name, by decide, Tryz.func73.trans (congrArg some (by kernel_rfl))⟩
  f28 := Tryz.func74.trans (congrArg some (by kernel_rfl))
  f29 := Tryz.func75.trans (congrArg some (by kernel_rfl))
  f46 := ⟨Tryz.f111.name, by decide, Tryz.func111.trans (congrArg some (by kernel_rfl))⟩
  f47 := Tryz.func112.trans (congrArg some (by kernel_rfl))
  f48 := Tryz.func113.trans (congrArg some (by kernel_rfl))
  f49 := ⟨Tryz.f114.name, by decide, Tryz.func114.trans (congrArg some (by kernel_rfl))⟩
  f50 := ⟨Tryz.f115.name, by decide, Tryz.func115.trans (congrArg some (by kernel_rfl))⟩
  f57 := ⟨Tryz.f148.name, by decide, Tryz.func148.trans (congrArg some (by kernel_rfl))⟩
  t0 := Tryz.underlying0
  a0 := Tryz.isAgg0
  z0 := Tryz.sizeOf0
  v0 := Tryz.zeroValue0
  t3 := Tryz.underlying3
  a3 := Tryz.isAgg3
  z3 := Tryz.sizeOf3
  v3 := Tryz.zeroValue3
  t4 := Tryz.underlying4
  a4 := Tryz.isAgg4
  z4 := Tryz.sizeOf4
  v4 := Tryz.zeroValue4
  t5 := Tryz.underlying5
  a5 := Tryz.isAgg5
  z5 := Tryz.sizeOf5
  v5 := Tryz.zeroValue5
  t9 := Tryz.underlying9
  a9 := Tryz.isAgg9
  z9 := Tryz.sizeOf9
  v9 := Tryz.zeroValue9
  t22 := Tryz.underlying28
  a22 := Tryz.isAgg28
  z22 := Tryz.sizeOf28
  v22 := Tryz.zeroValue28
  t25 := Tryz.underlying62
  a25 := Tryz.isAgg62
  z25 := Tryz.sizeOf62
  v25 := Tryz.zeroValue62
  t39 := Tryz.underlying104
  a39 := Tryz.isAgg104
  z39 := Tryz.sizeOf104
  v39 := Tryz.zeroValue104
  t45 := Tryz.underlying133
  a45 := Tryz.isAgg133
  z45 := Tryz.sizeOf133
  v45 := Tryz.zeroValue133
  t46 := Tryz.underlying134
  a46 := Tryz.isAgg134
  z46 := Tryz.sizeOf134
  v46 := Tryz.zeroValue134
  t50 := Tryz.underlying59
  a50 := Tryz.isAgg59
  z50 := Tryz.sizeOf59
  v50 := Tryz.zeroValue59
  t53 := Tryz.underlying140
  a53 := Tryz.isAgg140
  z53 := Tryz.sizeOf140
  v53 := Tryz.zeroValue140
  t55 := Tryz.underlying90
  a55 := Tryz.isAgg90
  z55 := Tryz.sizeOf90
  v55 := Tryz.zeroValue90
  t66 := Tryz.underlying185
  a66 := Tryz.isAgg185
  z66 := Tryz.sizeOf185
  v66 := Tryz.zeroValue185
  t70 := Tryz.underlying189
  a70 := Tryz.isAgg189
  z70 := Tryz.sizeOf189
  v70 := Tryz.zeroValue189
  t76 := Tryz.underlying234
  a76 := Tryz.isAgg234
  z76 := Tryz.sizeOf234
  v76 := Tryz.zeroValue234
  t77 := Tryz.underlying235
  a77 := Tryz.isAgg235
  z77 := Tryz.sizeOf235
  v77 := Tryz.zeroValue235 }
end Go.Proofs
namespace Go.Ax
open Go Go.RowKit Go.Shelf Go.Sort Go.Proofs
set_option linter.unusedVariables false
set_option maxRecDepth 100000

/-- The row at off holds the pairs L. -/
def HoldsP (c : Array Value) (off : Nat) (L : List (Int × Int)) : Prop := ∀ q x, L[q]? = some x → c[off + q * 2]? = some (.int .i64 x.1) ∧ c[off + (q * 2 + 1)]? = some (.int .i64 x.2)
def encP (x : Int × Int) : List Value := [.int .i64 x.1, .int .i64 x.2]
def cfP (x y : Int × Int) : Int := Lib.compareInt x.1 y.1
theorem ltP (x y : Int × Int) : ltOf cfP x y = decide (x.1 < y.1) := by
  unfold ltOf cfP Lib.compareInt
  by_cases h : x.1 < y.1
  · simp [h]
  · by_cases h2 : y.1 < x.1 <;> simp [h, h2]
theorem swoP : SWO (ltOf cfP) where
  irrefl x := by rw [ltP]; simp
  trans x y z h1 h2 := by rw [ltP] at *; simp at *; omega
  ntrans x y z h1 h2 := by rw [ltP] at *; simp at *; omega
set_option maxHeartbeats 2000000 in
theorem closure_cmp (x y : Int × Int) (W : World) : Calls Tryz.prog 22 #[.agg #[.int .i64 x.1, .int .i64 x.2], .agg #[.int .i64 y.1, .int .i64 y.2]] W fun e w' => e = .returned (.int .i64 (cfP x y)) ∧ ∃ q os', w' = grow (W.drewN q) os' := by
  have hcon := fun W' => Any.cmp_Compare_int Go.Proofs.YtioaigedcoapcaaGreatDoor.lays122 x.1 y.1 W'
  change ∀ W', Calls Tryz.prog 23 _ _ _ at hcon
  unfold cfP
  generalize Lib.compareInt x.1 y.1 = r at hcon ⊢
  go_enter Tryz.func22, Tryz.ntmps22
  go_wp2_with (go_at_call 23; refine (hcon _).mono ?_; rintro e w' ⟨rfl, rfl⟩)
  go_ret
  exact ⟨rfl, 0, _, by rw [alloc_eq_grow, alloc_eq_grow, grow_grow]; rfl⟩
theorem holds_P {W : World} {g off : Nat} {c : Array Value} {fr : Nat × Nat} {L : List (Int × Int)} (hb : W.heap[g]? = some (.cells c 33 fr)) (hf : noFz fr c.size) (hx : HoldsP c off L) : HoldsK encP 2 W g off L.toArray := by
  intro j hj
  rw [size_flatK] at hj
  have hj' : j < L.length * 2 := by simpa using hj
  rw [get_flatK encP 2 _ j hj]
  have hq : L[j / 2]? = some L.toArray[j / 2]! := by
    rw [getElem!_pos L.toArray (j / 2) (by simpa using (by omega : j / 2 < L.length)), List.getElem?_eq_getElem (by omega)]
    simp
  obtain ⟨h1, h2⟩ := hx _ _ hq
  have hc : c[off + j]? = some ((encP L.toArray[j / 2]!)[j % 2]!) := by
    rcases Nat.mod_two_eq_zero_or_one j with h | h
    · rw [h]
      rw [show off + j / 2 * 2 = off + j by omega] at h1
      exact h1
    · rw [h]
      rw [show off + (j / 2 * 2 + 1) = off + j by omega] at h2
      exact h2
  refine ⟨by rw [cell_row hb]; exact hc, frozen_row hb hf ?_⟩
  exact (Array.getElem?_eq_some_iff.1 hc).1
theorem holdsP_of {W : World} {g off : Nat} {c : Array Value} {fr : Nat × Nat} {d : Array (Int × Int)} (hb : W.heap[g]? = some (.cells c 33 fr)) (h : HoldsK encP 2 W g off d) : HoldsP c off d.toList := by
  intro q x hq
  have hq' : d[q]? = some x := by rw [← Array.getElem?_toList]; exact hq
  obtain ⟨hlt, hget⟩ := Array.getElem?_eq_some_iff.1 hq'
  have b1 : q * 2 < d.size * 2 := by omega
  have b2 : q * 2 + 1 < d.size * 2 := by omega
  have a1 := (h (q * 2) (by rw [size_flatK]; exact b1)).1
  have a2 := (h (q * 2 + 1) (by rw [size_flatK]; exact b2)).1
  rw [get_flatK encP 2 d _ b1, show q * 2 / 2 = q by omega, show q * 2 % 2 = 0 by omega, getElem!_pos d q hlt, hget, id, cell_row hb] at a1
  rw [get_flatK encP 2 d _ b2, show (q * 2 + 1) / 2 = q by omega, show (q * 2 + 1) % 2 = 1 by omega, getElem!_pos d q hlt, hget, id, cell_row hb] at a2
  exact ⟨a1, a2⟩
theorem sorted_world {W : World} {g off n : Nat} {c : Array Value} {fr : Nat × Nat} {d : Array (Int × Int)} {os : Array Obj} (hb : W.heap[g]? = some (.cells c 33 fr)) :
    ∃ c', (sortWorldK encP 2 W g off n d os).heap[g]? = some (.cells c' 33 fr) ∧ c'.size = c.size ∧ ∀ k, k < W.heap.size → k ≠ g → (sortWorldK encP 2 W g off n d os).heap[k]? = W.heap[k]? := by
  have hlt : g < W.heap.size := (Array.getElem?_eq_some_iff.1 hb).1
  refine ⟨putCells id off (flatK encP 2 d) c, ?_, by simp [putCells], fun k hk hne => ?_⟩
  · show ((W.heap.modify g (onCells (putCells id off (flatK encP 2 d)))) ++ os)[g]? = _
    rw [Array.getElem?_append_left (by simpa using hlt), Array.getElem?_modify, if_pos rfl, hb]
    rfl
  · show ((W.heap.modify g (onCells (putCells id off (flatK encP 2 d)))) ++ os)[k]? = _
    rw [Array.getElem?_append_left (by simpa using hk), Array.getElem?_modify, if_neg (fun e => hne e.symm)]
/-- What slices.SortFunc does to a row of pairs. -/
theorem sorts_P {W : World} {g off cap : Nat} {c : Array Value} {fr : Nat × Nat} {L : List (Int × Int)} (hb : W.heap[g]? = some (.cells c 33 fr)) (hf : noFz fr c.size) (hx : HoldsP c off L) (hl : L.length ≤ 1000) :
    Calls Tryz.prog 21 #[.slice (some ⟨g, off, none⟩) L.length cap, .func (.func 22) #[] #[]] W fun e w' => e = .returned (.tuple #[]) ∧ ∃ L' c', L'.Perm L ∧ L'.Pairwise (fun x y => ¬ y.1 < x.1) ∧ w'.heap[g]? = some (.cells c' 33 fr) ∧ c'.size = c.size ∧ HoldsP c' off L' ∧
      (∀ k, k < W.heap.size → k ≠ g → w'.heap[k]? = W.heap[k]?) ∧ W.heap.size ≤ w'.heap.size ∧ w'.os = W.os ∧ w'.tape = W.tape ∧ w'.output = W.output := by
  have hlt : g < W.heap.size := (Array.getElem?_eq_some_iff.1 hb).1
  have hH := holds_P hb hf hx
  have eg : ∀ args w, (callFunc 22 args).run Tryz.prog w = .ok (.enter 22 args) w := enters_of Tryz.func22 (by kernel_rfl) rfl
  have hcon := AnyQ.slices_SortFunc Tryz.sortL 2 Tryz.isAgg33 Tryz.sizeOf33 encP (fun _ => rfl) (fun x u hu => by simp [encP] at hu; rcases hu with rfl | rfl <;> rfl) cfP swoP 22 #[] g off cap L.toArray W eg (fun _ _ _ _ x y => closure_cmp x y _) hH hlt (by simp; omega)
  refine Calls.mono hcon ?_
  rintro e w' ⟨he, d', n, os, hp, hs, rfl⟩
  obtain ⟨p1, _, p3⟩ := hp
  have e1 : (d'.extract 0 L.toArray.size) = d' := by rw [← p1]; simp
  have e2 : (L.toArray.extract 0 L.toArray.size) = L.toArray := by simp
  rw [e1, e2] at p3
  have p3' : d'.toList.Perm L := by simpa using p3
  obtain ⟨c', w1, w2, w3⟩ := sorted_world (off := off) (n := n) (d := d') (os := os) hb
  refine ⟨he, d'.toList, c', p3', ?_, w1, w2, holdsP_of w1 (holdsK_sortWorldK encP 2 W g off n L.toArray d' os hlt hH p1), w3, size_sortWorldK_c encP 2 W g off n d' os, rfl, rfl, rfl⟩
  rw [List.pairwise_iff_getElem]
  intro i j hi hj hij
  have h := hs i j (Nat.zero_le _) hij (by rw [← p1]; simpa using hj)
  rw [ltP] at h
  simp only [decide_eq_false_iff_not] at h
  rw [getElem!_pos d' i (by simpa using hi), getElem!_pos d' j (by simpa using hj)] at h
  simpa using h
theorem sorts_none (p : Option Addr) (cap : Nat) (fv : Value) (W : World) : Calls Tryz.prog 21 #[.slice p 0 cap, fv] W fun e w' => e = .returned (.tuple #[]) ∧ w' = W :=
  AnyF.slices_SortFunc_none Tryz.sortL p cap fv W
end Go.Ax
namespace Go.Ax
open Go Go.Proofs Go.RowKit
/-- The world has grown, and nothing else. -/
theorem Step.below {φ : Phi} {h : Hp} {w w' : World} (r : Rel φ h w) (hb : Below w.heap.size w w') : Step φ h w φ h w' := by
  refine ⟨Phi.le_refl φ, ⟨⟨fun i hi => ?_, r.f.inj, r.f.glob⟩, fun i p hp => ⟨Nat.lt_of_lt_of_le (r.fresh i p hp).1 hb.size, (r.fresh i p hp).2⟩⟩,
    ⟨hb.os, hb.tape, hb.output, hb.size, fun k hk _ => hb.block k hk⟩, fun _ h => .inl h, Nat.le_refl _, fun _ _ h => .inl h, fun _ _ h => h⟩
  obtain ⟨p, h1, h2⟩ := r.f.live i hi
  exact ⟨p, h1, h2.mono (Phi.le_refl φ) (.inr (hb.block _ (r.fresh i p h1).1))⟩
theorem inv_calls {P : Program} {f : Nat} {fn : Func} {vs : Array Value} {w : World} {v : Value} {φ : Phi} {h : Hp} {r : AV} (hf : P.funcs[f]? = some fn) (hb : fn.body.isSome = true) (hn : (fn.name == "runtime.NumGoroutine") = false) (hR : Rel φ h w) (hv : V φ r v)
    (hc : Calls P f vs w fun e w' => e = .returned v ∧ Below w.heap.size w w') : Inv P f vs w (Res φ h w r h) := by
  obtain ⟨c, hb⟩ := Option.isSome_iff_exists.1 hb
  refine .inl ⟨run_callFunc hf hb hn, fun n => callsIn_wide.2 (hc.mono ?_)⟩
  rintro e w' ⟨rfl, hbel⟩
  exact ⟨φ, hv, Step.below hR hbel⟩
theorem inv_row {P : Program} {f : Nat} {vs : Array Value} {w : World} {v : Value} {φ : Phi} {h : Hp} {r : AV} (hx : isExt f = true) (hR : Rel φ h w) (hv : V φ r v) (hc : (callFunc f vs).run P w = .ok (.value v) w) : Inv P f vs w (Res φ h w r h) :=
  .inr ⟨hx, v, w, hc, φ, hv, Step.refl hR⟩

/-! ### internal/abi.NoEscape, internal/bytealg.IndexByteString -/
noncomputable def pNo : CK → List AV → Hp → RC := fun _ args h => match args with
  | [x] => .ok x h
  | _ => .bad
theorem run_no (v : Value) (w : World) : (callFunc 221 #[v]).run Tryz.prog w = .ok (.value v) w := by kernel_rfl
noncomputable def ibs (c : Nat) (n : Nat) : List UInt8 → Int
  | [] => .negSucc 0
  | b :: l => @Bool.rec (fun _ => Int) (ibs c (Nat.succ n) l) (.ofNat n) (Nat.beq b.toNat c)
noncomputable def pIbs : CK → List AV → Hp → RC := fun _ args h => match args with
  | [.str s, .int .u8 (.ofNat c)] => (match Nat.ble c 255 with
    | true => .ok (.int .i64 (ibs c 0 s)) h
    | false => .bad)
  | _ => .bad
theorem run_ibs (s : ByteArray) (c : Int) (w : World) : (callFunc 391 #[.string s, .int .u8 c]).run Tryz.prog w = .ok (.value (.int .i64 (firstIdx s c.toNat.toUInt8))) w := by
  have e : (callFunc 391 #[.string s, .int .u8 c]).run Tryz.prog w = (do pure (Next.value (← Extern.BytealgIndexByte.indexByte #[.string s, .int .u8 c])) : Sem Next).run Tryz.prog w := by kernel_rfl
  rw [e, Sem.run_bind, run_indexByte_string]
  rfl
theorem find_congr {l : List Nat} {p q : Nat → Bool} (h : ∀ i ∈ l, p i = q i) : l.find? p = l.find? q := by
  induction l with
  | nil => rfl
  | cons x l ih => rw [List.find?_cons, List.find?_cons, h x (List.mem_cons_self ..), ih fun i hi => h i (List.mem_cons_of_mem _ hi)]
theorem ibs_ok (c : Nat) (hc : c ≤ 255) : ∀ (s : List UInt8) (n : Nat), ibs c n s = (match (List.range' n s.length).find? fun i => s[i - n]! == UInt8.ofNat c with | some i => (i : Int) | none => -1)
  | [], n => rfl
  | b :: l, n => by
    have e : ibs c n (b :: l) = @Bool.rec (fun _ => Int) (ibs c (n + 1) l) (.ofNat n) (Nat.beq b.toNat c) := rfl
    have hbc : (b == UInt8.ofNat c) = Nat.beq b.toNat c := by
      rw [Bool.eq_iff_iff, beq_iff_eq]
      constructor
      · rintro rfl
        have : (UInt8.ofNat c).toNat = c := by simp; omega
        rw [this]
        exact Nat.beq_refl _
      · intro h
        have := nat_beq h
        subst this
        simp
    rw [e, List.length_cons, List.range'_succ, List.find?_cons]
    have h0 : ((b :: l)[n - n]! == UInt8.ofNat c) = Nat.beq b.toNat c := by rw [Nat.sub_self]; exact hbc
    rw [h0]
    cases hb : Nat.beq b.toNat c with
    | true => rfl
    | false =>
      rw [ibs_ok c hc l (n + 1)]
      have : (List.range' (n + 1) l.length).find? (fun i => (b :: l)[i - n]! == UInt8.ofNat c) = (List.range' (n + 1) l.length).find? (fun i => l[i - (n + 1)]! == UInt8.ofNat c) := by
        apply find_congr
        intro i hi
        have := List.mem_range'_1.1 hi
        have e2 : i - n = (i - (n + 1)) + 1 := by omega
        rw [e2]
        rfl
      rw [this]
theorem ok_pNo {ck : CK} {φ : Phi} {h : Hp} {w : World} {args : List AV} {vs : List Value} {r : AV} {h' : Hp} (hR : Rel φ h w) (hv : VL φ args vs) (he : pNo ck args h = .ok r h') : Inv Tryz.prog 221 vs.toArray w (Res φ h w r h') := by
  unfold pNo at he
  split at he
  · cases he
    obtain ⟨v, rfl, h1⟩ := hv.one
    exact inv_row rfl hR h1 (run_no v w)
  · cases he
theorem ok_pIbs {ck : CK} {φ : Phi} {h : Hp} {w : World} {args : List AV} {vs : List Value} {r : AV} {h' : Hp} (hR : Rel φ h w) (hv : VL φ args vs) (he : pIbs ck args h = .ok r h') : Inv Tryz.prog 391 vs.toArray w (Res φ h w r h') := by
  unfold pIbs at he
  split at he
  · rename_i s c
    split at he
    · rename_i hc
      cases he
      obtain ⟨v, u, rfl, h1, h2⟩ := hv.two
      have h1 : v = .string ⟨⟨s⟩⟩ := h1
      have h2 : u = .int .u8 (c : Int) := h2
      subst h1; subst h2
      refine inv_row rfl hR ?_ (run_ibs ⟨⟨s⟩⟩ c w)
      have e := ibs_ok c (nat_ble hc) s 0
      have hs : (⟨⟨s⟩⟩ : ByteArray).size = s.length := rfl
      rw [e]
      have hf : (List.range' 0 s.length).find? (fun i => (⟨⟨s⟩⟩ : ByteArray)[i]! == ((c : Int).toNat).toUInt8) = (List.range' 0 s.length).find? (fun i => s[i - 0]! == UInt8.ofNat c) := by
        apply find_congr
        intro i hi
        have := List.mem_range'_1.1 hi
        have hi' : i < s.length := by omega
        have e1 : (⟨⟨s⟩⟩ : ByteArray)[i]! = s[i]! := by
          rw [getElem!_pos (⟨⟨s⟩⟩ : ByteArray) i hi', getElem!_pos s i hi']
          rfl
        rw [e1, Nat.sub_zero]
        rfl
      rw [firstIdx, hs, List.range_eq_range', hf]
      cases (List.range' 0 s.length).find? (fun i => s[i - 0]! == UInt8.ofNat c) with
      | none => rfl
      | some i => rfl
    · cases he
  · cases he
end Go.Ax
namespace Go.Ax
open Go Go.Proofs Go.RowKit

noncomputable def rowP (L : List (Int × Int)) : Els := fillFrom 0 (L.map fun x => pr x.1 x.2) els0
theorem rowP_at {L : List (Int × Int)} (hl : L.length ≤ 256) {q : Nat} {x : Int × Int} (hq : L[q]? = some x) : el2 q (rowP L) = pr x.1 x.2 := by
  have hlt := (List.getElem?_eq_some_iff.1 hq).1
  unfold rowP
  rw [fillFrom_get _ _ _ _ (by simp; omega) (by omega), if_pos (by simp; omega), Nat.sub_zero, List.getD_eq_getElem?_getD, List.getElem?_map, hq]
  rfl
theorem sorted_uniq {A B : List (Int × Int)} (hp : A.Perm B) (h1 : A.Pairwise fun x y => ¬ y.1 < x.1) (h2 : B.Pairwise fun x y => x.1 < y.1) : A = B := by
  refine List.Perm.eq_of_pairwise (le := fun x y : Int × Int => ¬ y.1 < x.1) ?_ h1 (h2.imp fun h => by omega) hp
  intro a b ha hb h3 h4
  have ha' := hp.mem_iff.1 ha
  obtain ⟨i, hi, rfl⟩ := List.getElem_of_mem ha'
  obtain ⟨j, hj, rfl⟩ := List.getElem_of_mem hb
  rcases Nat.lt_trichotomy i j with h | h | h
  · have := List.pairwise_iff_getElem.1 h2 i j hi hj h
    omega
  · subst h; rfl
  · have := List.pairwise_iff_getElem.1 h2 j i hj hi h
    omega
theorem holdsP_arr {φ : Phi} {w : World} {n : Nat} {d : Bool} {t : Els} {p : Pl} {L : List (Int × Int)} {c : Array Value} {fr : Nat × Nat} (hb : BRel φ w (.arr 33 2 n d t) p) (hc : w.heap[p.b]? = some (.cells c 33 fr)) (hn : n = L.length) (ht : ∀ q x, L[q]? = some x → el2 q t = pr x.1 x.2) :
    HoldsP c p.base L := by
  intro q x hq
  have hlt := (List.getElem?_eq_some_iff.1 hq).1
  obtain ⟨c', fr', h1, h2, h3, h4, h5, h6, h7, h8⟩ := hb
  rw [hc] at h1
  cases h1
  obtain ⟨_, h9, _⟩ := h8 q (by omega)
  rw [ht q x hq] at h9
  obtain ⟨a, r1, e1, e2, h10⟩ := h9
  obtain ⟨b, r2, e3, e4, e5⟩ := h10
  have e2 : a = .int .i64 x.1 := e2
  have e4 : b = .int .i64 x.2 := e4
  subst e2; subst e4; subst e3
  have g0 : (((c.toList.drop (p.base + q * 2)).take 2))[0]? = some (.int .i64 x.1) := by rw [e1]; rfl
  have g1 : (((c.toList.drop (p.base + q * 2)).take 2))[1]? = some (.int .i64 x.2) := by rw [e1]; rfl
  rw [List.getElem?_take_of_lt (by omega), List.getElem?_drop, Array.getElem?_toList] at g0 g1
  exact ⟨g0, by rw [← Nat.add_assoc]; exact g1⟩
theorem arr_holdsP {φ : Phi} {w w' : World} {n : Nat} {d d' : Bool} {t : Els} {p : Pl} {L : List (Int × Int)} {c c' : Array Value} {fr : Nat × Nat} (hb : BRel φ w (.arr 33 2 n d t) p) (hc : w.heap[p.b]? = some (.cells c 33 fr)) (hc' : w'.heap[p.b]? = some (.cells c' 33 fr)) (hs : c'.size = c.size)
    (hn : n = L.length) (hl : HoldsP c' p.base L) : BRel φ w' (.arr 33 2 n d' (rowP L)) p := by
  obtain ⟨c1, fr1, h1, h2, h3, h4, h5, h6, h7, h8⟩ := hb
  rw [hc] at h1
  cases h1
  refine ⟨c', fr, hc', h2, h3, h4, by omega, by rw [hs]; exact h6, h7, fun q hq => ?_⟩
  have hlt : q < L.length := by omega
  have hx : L[q]? = some L[q] := List.getElem?_eq_getElem hlt
  obtain ⟨g0, g1⟩ := hl q _ hx
  rw [rowP_at (by omega) hx]
  have b1 := (Array.getElem?_eq_some_iff.1 g1).1
  have e : (c'.toList.drop (p.base + q * 2)).take 2 = [.int .i64 L[q].1, .int .i64 L[q].2] := by
    apply List.ext_getElem?
    intro i
    rw [List.getElem?_take]
    split
    · rw [List.getElem?_drop, Array.getElem?_toList]
      rename_i hi
      rcases (by omega : i = 0 ∨ i = 1) with rfl | rfl
      · exact g0
      · rw [Nat.add_assoc, g1]; rfl
    · rw [List.getElem?_eq_none (by simp; omega)]
  rw [e]
  exact ⟨rfl, ⟨_, _, rfl, rfl, ⟨_, _, rfl, rfl, rfl⟩⟩, fun a ha => by rcases List.mem_cons.1 ha with rfl | ha; rfl; rw [List.mem_singleton.1 ha]; rfl⟩
/-- The executor's call of slices.SortFunc: the pairs A become B. -/
noncomputable def ckS (A B : List (Int × Int)) : CK := ⟨fun f args h => match Nat.beq f 21, args with
    | true, [s, .fn 22 [] []] => (match s with
      | .nils => (match A with
        | [] => .ok (.tup []) h
        | _ => .bad)
      | .sl i 0 n none => @dite _ (n = A.length ∧ A ≠ [] ∧ ∃ t, h.get i = .arr 33 2 n true t ∧ ∀ q x, A[q]? = some x → el2 q t = pr x.1 x.2) (Classical.propDecidable _) (fun _ => .ok (.tup []) (h.put i (.arr 33 2 n true (rowP B)))) fun _ => .bad
      | _ => .bad)
    | _, _ => .bad, fun _ _ _ => .bad⟩
theorem ckS_ok {A B : List (Int × Int)} (hp : A.Perm B) (hs : B.Pairwise fun x y => x.1 < y.1) (hl : A.length ≤ 256) : CKOk Tryz.prog (ckS A B) := by
  refine ⟨fun φ h w f args vs r h' hR hv he => ?_, fun φ h w l args vs r h' p _ _ _ he => by cases he⟩
  unfold ckS at he
  dsimp only at he
  split at he
  · rename_i s hf
    have hf := nat_beq hf
    subst hf
    obtain ⟨v, u, rfl, h1, h2⟩ := hv.two
    obtain ⟨xs, ys, rfl, h3, h4⟩ := h2
    have h3 : xs.toList = [] := h3
    have h4 : ys.toList = [] := h4
    obtain rfl : xs = #[] := by rw [← Array.toList_inj]; exact h3
    obtain rfl : ys = #[] := by rw [← Array.toList_inj]; exact h4
    have hin : (callFunc 21 #[v, .func (.func 22) #[] #[]]).run Tryz.prog w = .ok (.enter 21 #[v, .func (.func 22) #[] #[]]) w := run_callFunc Tryz.func21 rfl rfl
    split at he
    · split at he
      · cases he
        have h1 : v = .slice none 0 0 := h1
        subst h1
        refine .inl ⟨hin, fun n => callsIn_wide.2 ((sorts_none none 0 (.func (.func 22) #[] #[]) w).mono ?_)⟩
        rintro e w' ⟨rfl, rfl⟩
        exact ⟨φ, ⟨_, rfl, rfl⟩, Step.refl hR⟩
      · cases he
    · rename_i i n
      split at he
      · rename_i hc
        obtain ⟨hn, hne, t, hg, ht⟩ := hc
        cases he
        obtain ⟨p, c, h5, rfl, h6, h7, h8⟩ := h1
        obtain ⟨p', h9, h10⟩ := hR.f.live i (by rw [hg]; exact fun e => by cases e)
        rw [h5] at h9
        cases h9
        rw [hg] at h10
        have hcells := h10
        obtain ⟨cs, fr, hcs, _, _, _, _, hfz, _, _⟩ := hcells
        have hH := holdsP_arr h10 hcs hn ht
        have hcon := sorts_P (cap := c) hcs hfz hH (by omega)
        rw [← hn] at hcon
        refine .inl ⟨hin, fun m => callsIn_wide.2 (Calls.mono hcon ?_)⟩
        rintro e w' ⟨rfl, L', c', q1, q2, q3, q4, q5, q6, q7, q8, q9, q10⟩
        have hLB := sorted_uniq (q1.trans hp) q2 hs
        subst hLB
        have hlt : p.b < w.heap.size := (hR.fresh i p h5).1
        let w1 : World := { w' with heap := w'.heap.setIfInBounds p.b (.cells cs 33 fr) }
        have hw1 : ∀ k, k ≠ p.b → w1.heap[k]? = w'.heap[k]? := fun k hk => Array.getElem?_setIfInBounds_ne (fun e => hk e.symm)
        have hb : Below w.heap.size w w1 := by
          refine ⟨q8, q9, q10, by show _ ≤ (w'.heap.setIfInBounds p.b _).size; rw [Array.size_setIfInBounds]; exact q7, fun k hk => ?_⟩
          by_cases e : k = p.b
          · subst e
            rw [hcs]
            show (w'.heap.setIfInBounds p.b _)[p.b]? = _
            rw [Array.getElem?_setIfInBounds_self_of_lt (by omega)]
          · rw [hw1 k e, q6 k hk e]
        have s1 := Step.below hR hb
        have hrw : isRw (h.get i) = true := by rw [hg]; rfl
        have s2 : Step φ h w1 φ (h.put i (.arr 33 2 n true (rowP L'))) w' := Step.put s1.rel hrw h5 (by show _ = (w'.heap.setIfInBounds p.b _).size; rw [Array.size_setIfInBounds]) (fun k hk => (hw1 k hk).symm) rfl rfl rfl fun _ =>
          ⟨arr_holdsP h10 hcs q3 q4 (by rw [hn]; exact hp.length_eq) q5, rfl⟩
        exact ⟨φ, ⟨_, rfl, rfl⟩, s1.trans s2⟩
      · cases he
    · cases he
  · cases he
end Go.Ax
namespace Go.Ax
open Go Go.Proofs

/-- The pairs of a map of numbers, with their stamps. -/
noncomputable def numsOf : List (AV × AV × Nat) → Option (List (Int × Int × Nat))
  | [] => some []
  | e :: l => (match e.1, e.2.1, numsOf l with
    | .int .i64 a, .int .i64 b, some r => some ((a, b, e.2.2) :: r)
    | _, _, _ => none)
theorem nums_es : ∀ {es : List (AV × AV × Nat)} {l : List (Int × Int × Nat)}, numsOf es = some l → es = esOf l
  | [], l, h => by cases h; rfl
  | e :: es, l, h => by
    obtain ⟨k, v, b⟩ := e
    unfold numsOf at h
    split at h
    · rename_i a c r h1 h2 h3
      cases h
      have h1 : k = .int .i64 a := h1
      have h2 : v = .int .i64 c := h2
      subst h1; subst h2
      rw [nums_es h3]
      rfl
    · cases h
noncomputable def bornB.memB (b : Nat) : List (Int × Int × Nat) → Bool
  | [] => false
  | x :: l => Nat.beq x.2.2 b || bornB.memB b l
noncomputable def bornB (clock : Nat) : List (Int × Int × Nat) → Bool
  | [] => true
  | x :: l => Nat.ble (x.2.2 + 1) clock && !(bornB.memB x.2.2 l) && bornB clock l
theorem memB_false {b : Nat} : ∀ {l : List (Int × Int × Nat)}, bornB.memB b l = false → b ∉ l.map (·.2.2)
  | [], _, h => by cases h
  | x :: l, hm, h => by
    have hm : (Nat.beq x.2.2 b || bornB.memB b l) = false := hm
    rw [Bool.or_eq_false_iff] at hm
    rw [List.map_cons] at h
    rcases List.mem_cons.1 h with e | h
    · have := hm.1
      rw [e] at this
      rw [Nat.beq_refl] at this
      cases this
    · exact memB_false hm.2 h
theorem bornB_ok {clock : Nat} : ∀ {l : List (Int × Int × Nat)}, bornB clock l = true → (∀ x ∈ l, x.2.2 < clock) ∧ (l.map (·.2.2)).Nodup
  | [], _ => ⟨fun _ h => (by cases h), List.nodup_nil⟩
  | x :: l, h => by
    have h : (Nat.ble (x.2.2 + 1) clock && !(bornB.memB x.2.2 l) && bornB clock l) = true := h
    rw [Bool.and_eq_true, Bool.and_eq_true, Bool.not_eq_true'] at h
    obtain ⟨⟨h1, h2⟩, h3⟩ := h
    obtain ⟨h4, h5⟩ := bornB_ok h3
    refine ⟨fun y hy => ?_, List.nodup_cons.2 ⟨memB_false h2, h5⟩⟩
    rcases List.mem_cons.1 hy with rfl | hy
    · exact nat_ble h1
    · exact h4 y hy
/-- Strictly ascending. -/
noncomputable def ascB : List (Int × Int) → Bool
  | [] => true
  | x :: l => (match l with
    | [] => true
    | y :: _ => iltB x.1 y.1) && ascB l
theorem ascB_ok : ∀ {l : List (Int × Int)}, ascB l = true → l.Pairwise fun x y => x.1 < y.1
  | [], _ => List.Pairwise.nil
  | [x], _ => List.pairwise_singleton ..
  | x :: y :: l, h => by
    have h : (iltB x.1 y.1 && ascB (y :: l)) = true := h
    rw [Bool.and_eq_true] at h
    have h1 : x.1 < y.1 := of_decide_eq_true ((iltB_eq ..).symm.trans h.1)
    have h2 := ascB_ok h.2
    refine List.pairwise_cons.2 ⟨fun z hz => ?_, h2⟩
    rcases List.mem_cons.1 hz with rfl | hz
    · exact h1
    · exact Int.lt_trans h1 ((List.pairwise_cons.1 h2).1 z hz)
theorem insI_perm (x : Int × Int) : ∀ (l : List (Int × Int)), (insI x l).Perm (x :: l)
  | [] => List.Perm.refl _
  | y :: l => by
    unfold insI
    split
    · exact List.Perm.refl _
    · exact ((insI_perm x l).cons y).trans (List.Perm.swap x y l)
theorem sortI_perm : ∀ (l : List (Int × Int)), (sortI l).Perm l
  | [] => List.Perm.refl _
  | x :: l => (insI_perm x (sortI l)).trans ((sortI_perm l).cons x)
/-- n names that lead to nothing. -/
noncomputable def names : Nat → Hp → (Hp → RC) → RC
  | 0, h, k => k h
  | n + 1, h, k => alloc .none h RC.bad fun _ h => names n h k
theorem names_inv {k : Hp → RC} {r : RC} (hr : r ≠ RC.bad) : ∀ {n : Nat} {h : Hp}, (∀ i, h.nx.num ≤ i.num → h.get i = .none) → names n h k = r → ∃ h1, k h1 = r ∧ h1.nx.num = h.nx.num + n ∧ (∀ i, h1.get i = h.get i)
  | 0, h, hd, he => ⟨h, he, rfl, fun _ => rfl⟩
  | n + 1, h, hd, he => by
    obtain ⟨h2, e2, g2, n2⟩ := alloc_eq (show alloc .none h RC.bad (fun _ h => names n h k) = r from he) hr
    have g2' : ∀ i, h2.get i = h.get i := fun i => by
      rw [g2]
      split
      · rename_i e; rw [e, hd _ (Nat.le_refl _)]
      · rfl
    obtain ⟨h1, e1, n1, g1⟩ := names_inv hr (fun i hi => by rw [g2', hd i (by omega)]) e2
    exact ⟨h1, e1, by omega, fun i => (g1 i).trans (g2' i)⟩
/-- What match.Match gives of its map. -/
noncomputable def tailP (hf : Hp) (clock : Nat) (l : List (Int × Int × Nat)) : RC :=
  match bornB clock l, Nat.ble l.length 200, Nat.ble (hf.nx.num + 501) 61440, ascB (sortI (l.map two)) with
  | true, true, true, true => (match l with
    | [] => names 1 hf fun h => .ok .nils h
    | _ => names (2 * l.length) hf fun h => alloc (.arr 33 2 l.length true (rowP (sortI (l.map two)))) h RC.bad fun i h => .ok (.sl i 0 l.length none) h)
  | _, _, _, _ => .bad
noncomputable def afterP (r : R) : RC := match r with
  | .norm tm hf => (match (rgGet 5).get tm, (rgGet 16).get tm with
    | .ptr i o, .nils => (match load1 (hf.get i) (Nat.add o 14) with
      | some (.mp im) => (match hf.get im with
        | .mp es clock => (match numsOf es with
          | some l => tailP hf clock l
          | none => .bad)
        | _ => .bad)
      | _ => .bad)
    | _, _ => .bad)
  | _ => .bad
noncomputable def pSix : CK → List AV → Hp → RC := fun ck args h => match Nat.ble (len args) 143 with
  | true => afterP ((cFront Tryz.prog 143 kEnd 9 c6).run ck (setArgs 0 tm0 args) h)
  | false => .bad
end Go.Ax
namespace Go.Ax
open Go Go.Proofs
section
variable {P : Program}
/-- The first statements of a body, more behind. -/
theorem front_ok {N : Nat} {φ0 : Phi} {h0 : Hp} {w0 : World} {n : Nat} {ck : CK} (hck : CKOk P ck) (hmix : P.follows .mixedOrders = true) {Q : Exit → Act → World → Prop} {tm' : TM} {h' : Hp} : ∀ (m : Nat) (c : Code), allDraw P c = true →
    (∀ a w, At N φ0 h0 w0 tm' h' a w → (restC m c).wpIn (FW none) n P Q a w) → ∀ tm h a w, At N φ0 h0 w0 tm h a w → (cFront P N kEnd m c).run ck tm h = R.norm tm' h' → c.wpIn (FW none) n P Q a w
  | 0, c, _, hQ, tm, h, a, w, ha, he => by
    have he : R.norm tm h = R.norm tm' h' := he
    cases he
    exact hQ a w ha
  | m + 1, .seq x y, hd, hQ, tm, h, a, w, ha, he => by
    have hd : (allDraw P x && allDraw P y) = true := hd
    rw [Bool.and_eq_true] at hd
    have he : (cCode P N true [] (cFront P N kEnd m y) x).run ck tm h = R.norm tm' h' := he
    refine wpIn_seq (wpIn_mono (code_ok (n := n) (ro := none) (rd := true) hck hmix (fun _ => rfl) x (fun _ => hd.1) [] (cFront P N kEnd m y) _ (by intro e; cases e) tm h a w ha he) fun e a w hq => ?_)
    cases e with
    | normal =>
      obtain ⟨tm1, h1, ha1, he1⟩ := hq
      exact front_ok hck hmix m y hd.2 hQ tm1 h1 a w ha1 he1
    | ret => obtain ⟨tm1, h1, ha1, he1⟩ := hq; cases he1
    | exit i => obtain ⟨tm1, h1, ha1, he1⟩ := hq; rw [goOn_none] at he1; cases he1
    | _ => exact hq.elim
  | m + 1, .skip, _, _, _, _, _, _, _, he => by cases he
  | m + 1, .label _, _, _, _, _, _, _, _, he => by cases he
  | m + 1, .region _ _ _, _, _, _, _, _, _, _, he => by cases he
  | m + 1, .cond _ _ _, _, _, _, _, _, _, _, he => by cases he
  | m + 1, .block _ _, _, _, _, _, _, _, _, he => by cases he
  | m + 1, .loop _, _, _, _, _, _, _, _, he => by cases he
  | m + 1, .scope _, _, _, _, _, _, _, _, he => by cases he
  | m + 1, .rangeFunc _ _ _ _, _, _, _, _, _, _, _, he => by cases he
  | m + 1, .exit _, _, _, _, _, _, _, _, he => by cases he
  | m + 1, .ret, _, _, _, _, _, _, _, he => by cases he
  | m + 1, .goto _, _, _, _, _, _, _, _, he => by cases he
  | m + 1, .refuse _, _, _, _, _, _, _, _, he => by cases he
end
theorem tm_eta5 (tm : TM) : (rgPut 5).put ((rgGet 5).get tm) tm = tm := by kernel_rfl
theorem tm_eta16 (tm : TM) : (rgPut 16).put ((rgGet 16).get tm) tm = tm := by kernel_rfl
noncomputable def tm34 (tm : TM) (s : AV) : TM := (rgPut 4).put s ((rgPut 142).put s ((rgPut 141).put (.tup []) ((rgPut 140).put s tm)))
theorem run34 (ck : CK) (tm : TM) (h : Hp) (s : AV) : (cCode Tryz.prog 143 true [] kEnd (.seq (.region 34 a34 false) (.seq (.region 35 a35 false) .ret))).run ck ((rgPut 16).put s tm) h =
    @RC.rec (fun _ => R) R.bad (fun v h2 => R.ret ((rgPut 4).put s ((rgPut 142).put s ((rgPut 141).put v ((rgPut 140).put s ((rgPut 16).put s tm))))) h2) (ck.run 21 [s, .fn 22 [] []] h) := by kernel_rfl
theorem draw34 : allDraw Tryz.prog (.seq (.region 34 a34 false) (.seq (.region 35 a35 false) .ret)) = true := by kernel_rfl
theorem draw6 : allDraw Tryz.prog c6 = true := by kernel_rfl
theorem map49 : ∃ k e, Tryz.prog.underlying 49 = some (.map k e) := ⟨_, _, Tryz.underlying49⟩
theorem res6 (tm : TM) (s : AV) (h : Hp) : resGo Tryz.prog 143 Tryz.f6.results.toList (tm34 tm s) h = .ok s h := by kernel_rfl
end Go.Ax
namespace Go.Ax
open Go Go.Proofs

/-- What tailP answers, against what the last loop gathered. -/
theorem tailP_ok {φ0 φ φ4 : Phi} {h0 hf h4 h' : Hp} {w0 wf w4 : World} {im : Id} {pm : Pl} {clock : Nat} {l acc : List (Int × Int × Nat)} {rr : Nat} {d : List Deferred} {tm4 : TM} {a4 : Act} {r : AV} (hR : Rel φ hf wf) (he : tailP hf clock l = .ok r h')
    (L : Lp φ0 h0 w0 hf im pm clock l rr d (acc.map (·.2.2)) acc φ4 tm4 h4 a4 w4) (hp : l.Perm acc) :
    ∃ h5, (ckS (acc.map two) (sortI (l.map two))).run 21 [(rgGet 16).get tm4, .fn 22 [] []] h4 = .ok (.tup []) h5 ∧ r = (rgGet 16).get tm4 ∧ (∀ i, h'.get i ≠ .none → h'.get i = h5.get i) ∧ h5.nx.num ≤ h'.nx.num := by
  have hdead : ∀ i, hf.nx.num ≤ i.num → hf.get i = .none := fun i hi => by
    cases hg : hf.get i with
    | none => rfl
    | _ =>
      obtain ⟨p, h1, _⟩ := hR.f.live i (by rw [hg]; exact fun e => by cases e)
      have := (hR.fresh i p h1).2
      omega
  have hold : ∀ i, hf.get i ≠ .none → h4.get i = hf.get i := fun i hi => L.old i (Nat.lt_of_not_le fun hle => hi (hdead i hle))
  have hlen := hp.length_eq
  have hnx := L.nx
  unfold tailP at he
  split at he
  · split at he
    · obtain ⟨h1, e1, n1, g1⟩ := names_inv (by intro e; cases e) hdead he
      cases e1
      have hacc : acc = [] := List.eq_nil_of_length_eq_zero (by simpa using hlen.symm)
      subst hacc
      have hs : (rgGet 16).get tm4 = .nils := by
        rcases L.sl with ⟨_, h2⟩ | ⟨_, _, h2, _⟩
        · exact h2
        · exact absurd rfl h2
      refine ⟨h4, ?_, hs.symm, fun i hi => ?_, by rw [hnx, n1]; simp⟩
      · rw [hs]; rfl
      · rw [g1] at hi ⊢
        exact (hold i hi).symm
    · rename_i hne
      obtain ⟨h1, e1, n1, g1⟩ := names_inv (by intro e; cases e) hdead he
      obtain ⟨h2, e2, g2, n2⟩ := alloc_eq e1 (by intro e; cases e)
      cases e2
      have hl0 : l ≠ [] := hne
      rcases L.sl with ⟨h3, _⟩ | ⟨i, t, h3, hs, h5, h6, h7, h8⟩
      · have : acc = [] := by simpa using h3
        subst this
        exact absurd (List.eq_nil_of_length_eq_zero (by simpa using hlen)) hl0
      · have hi : i = h1.nx := Id.num_inj (by omega)
        subst hi
        rw [List.length_map] at hs h7
        refine ⟨h4.put h1.nx (.arr 33 2 acc.length true (rowP (sortI (l.map two)))), ?_, by rw [hs, hlen], fun j hj => ?_, by rw [Hp.put_nx, hnx, n2, n1]; omega⟩
        · rw [hs]
          exact dif_pos (h := Classical.propDecidable _) ⟨by simp, h3, t, h7, h8⟩
        · rw [g2] at hj ⊢
          rw [Hp.get_put]
          by_cases e : j = h1.nx
          · rw [if_pos e, if_pos e, hlen]
          · rw [if_neg e] at hj ⊢
            rw [if_neg e, g1]
            rw [g1] at hj
            exact (hold j hj).symm
  · cases he
theorem ok_pSix {ck : CK} (hck : CKOk Tryz.prog ck) (hmix : Tryz.prog.follows .mixedOrders = true) {φ : Phi} {h : Hp} {w : World} {args : List AV} {vs : List Value} {r : AV} {h' : Hp} (hR : Rel φ h w) (hv : VL φ args vs) (he : pSix ck args h = .ok r h') : Inv Tryz.prog 6 vs.toArray w (Res φ h w r h') := by
  unfold pSix at he
  split at he
  · rename_i hl
    have hl := nat_ble hl
    rw [len_eq] at hl
    obtain ⟨tm, hf, hrun⟩ : ∃ tm hf, (cFront Tryz.prog 143 kEnd 9 c6).run ck (setArgs 0 tm0 args) h = R.norm tm hf := by
      cases hx : (cFront Tryz.prog 143 kEnd 9 c6).run ck (setArgs 0 tm0 args) h with
      | norm tm hf => exact ⟨tm, hf, rfl⟩
      | _ => rw [hx] at he; cases he
    rw [hrun] at he
    unfold afterP at he
    dsimp only at he
    split at he
    · rename_i i o h5 h16
      split at he
      · rename_i im hld
        split at he
        · rename_i es clock hes
          split at he
          · rename_i l hl3
            have hes2 := nums_es hl3
            subst hes2
            have ht := args_ok (N := 143) (by decide) hv hl
            have hat : At 143 φ h w (setArgs 0 tm0 args) h { tmps := vs.toArray ++ Array.replicate (143 - vs.toArray.size) Go.undef, defers := [] } w := ⟨φ, ht, Step.refl hR, [], rfl, List.nodup_nil, fun r hr => by cases hr⟩
            refine .inl ⟨run_callFunc Tryz.func6 rfl rfl, fun n => callsIn_of_wp_marks (F := Fence.wide) (c := c6) Tryz.func6 rfl trivial ?_⟩
            refine front_ok (n := n) hck hmix 9 c6 draw6 (fun a w1 ha => ?_) _ h _ w hat hrun
            obtain ⟨φ1, ht1, hs1, hm1⟩ := ha
            have h5e := tm_eta5 tm
            rw [h5] at h5e
            have hrun30 := run30 ckBad tm hf i o
            rw [h5e, hld] at hrun30
            have hl30 : (a30.toList.take 4).length = 4 := by rw [List.length_take, Array.length_toList, len30]; rfl
            rw [show restC 9 c6 = t6 from rfl, t6_eq]
            refine wpIn_seq (wpIn_seq (wpIn_region ?_))
            rw [List.range_eq_range', len30]
            obtain ⟨o1, o2, o3, o4⟩ := o30
            have hstep := cOps_step (P := Tryz.prog) (N := 143) (φ0 := φ1) (h0 := hf) (w0 := w1) (d := a.defers) (ro := none) (n := n) (arr := a30) (k := kEnd) (ck := ckBad) (r := _) (Q := Exit.then (Code.wpIn (FW none) n Tryz.prog (.block 6 (.loop (.seq (.region 31 a31 false) (.seq (.cond (.tmp 130) .skip (.exit 6)) (.block 7 (.seq (.region 32 a32 false) (.region 33 a33 false))))))) (Exit.then (Code.wpIn (FW none) n Tryz.prog (.seq (.region 34 a34 false) (.seq (.region 35 a35 false) .ret)) (bodyPostM Fence.wide n Tryz.prog Tryz.f6 (Ret (Res φ h w r h')))) (bodyPostM Fence.wide n Tryz.prog Tryz.f6 (Ret (Res φ h w r h'))))) (Exit.then (Code.wpIn (FW none) n Tryz.prog (.seq (.region 34 a34 false) (.seq (.region 35 a35 false) .ret)) (bodyPostM Fence.wide n Tryz.prog Tryz.f6 (Ret (Res φ h w r h')))) (bodyPostM Fence.wide n Tryz.prog Tryz.f6 (Ret (Res φ h w r h')))))
              ckBad_ok (by intro e; cases e) 1 (a30.toList.take 4) 0 (fun φ2 tm2 h2 a2 w2 t2 s2 d2 e2 => ?_) (fun j hj => ?_) φ1 tm hf a w1 ht1 (Step.refl hs1.rel) rfl hrun30
            · rw [hl30] at hstep
              exact hstep
            · have e2 : R.norm tm2 h2 = R.norm ((rgPut 127).put (.mp im) ((rgPut 126).put (.ptr i (Nat.add o 14)) ((rgPut 125).put (.ptr i o) ((rgPut 124).put (.ptr i o) tm)))) hf := e2
              cases e2
              rw [hl30]
              show wpOpsIn (FW none) n Tryz.prog a30 _ (List.range' 4 (0 + 1)) a2 w2
              rw [List.range'_succ, wpOpsIn_cons]
              obtain ⟨pm, him, hbm⟩ := s2.rel.f.live im (by rw [hes]; exact fun e => by cases e)
              have hil := (s2.rel.fresh im pm him).2
              have hmap : w2.heap[pm.b]? = some (.map (entsOf l).toArray clock) := by
                rw [hes] at hbm
                obtain ⟨ents, h3, h4⟩ := hbm
                rw [h3, ← ents_eq h4]
              have hev : a2.eval (.tmp 127) = .map (some pm.b) := by
                have hv := opd_ok (x := .tmp 127) t2 s2.rel.f.glob rfl
                have e : (cOpd 143 (.tmp 127)).get ((rgPut 127).put (.mp im) ((rgPut 126).put (.ptr i (Nat.add o 14)) ((rgPut 125).put (.ptr i o) ((rgPut 124).put (.ptr i o) tm)))) = .mp im := by kernel_rfl
                rw [e] at hv
                obtain ⟨p, h3, h4⟩ := hv
                rw [him] at h3
                cases h3
                exact h4
              obtain ⟨kt, et, h49⟩ := map49
              have hrr := run_range_map (P := Tryz.prog) w2 49 kt et pm.b (entsOf l).toArray clock h49 hmap
              refine hand_ok o1 o4 (by rw [o2]; intro c e; cases e) (v := .pointer (some ⟨w2.heap.size, 0, none⟩)) (w' := w2.alloc (.mapIter (some pm.b) clock #[] clock)) (by simp [execOp, o2, hev, hrr, Result.andThen]) ?_
              rw [o3]
              have htp := he
              unfold tailP at htp
              split at htp
              · rename_i c1 c2 c3 c4
                have hnx := nat_ble c3
                obtain ⟨hborn, hnd⟩ := bornB_ok c1
                have hasc := ascB_ok c4
                have hlen := nat_ble c2
                obtain ⟨hv3, g3, n3, _⟩ := alloc_ex .none hf (by omega)
                obtain ⟨sv, uv⟩ := Step.veil s2.rel (.mapIter (some pm.b) clock #[] clock) g3 n3
                have t3 : TRel (upd φ2 hf.nx ⟨w2.heap.size, 0, 0, 0⟩) 143 ((rgPut 128).put (.ptr hf.nx 0) ((rgPut 127).put (.mp im) ((rgPut 126).put (.ptr i (Nat.add o 14)) ((rgPut 125).put (.ptr i o) ((rgPut 124).put (.ptr i o) tm))))) (a2.put (some 128) (.pointer (some ⟨w2.heap.size, 0, none⟩))).tmps :=
                  dst_ok (d := some 128) (t2.mono sv.le) rfl ⟨_, upd_same _ _ _, rfl⟩
                have L0 : Lp φ h w hf im pm clock l w2.heap.size a.defers [] [] (upd φ2 hf.nx ⟨w2.heap.size, 0, 0, 0⟩) ((rgPut 128).put (.ptr hf.nx 0) ((rgPut 127).put (.mp im) ((rgPut 126).put (.ptr i (Nat.add o 14)) ((rgPut 125).put (.ptr i o) ((rgPut 124).put (.ptr i o) tm))))) hv3
                    (a2.put (some 128) (.pointer (some ⟨w2.heap.size, 0, none⟩))) (w2.alloc (.mapIter (some pm.b) clock #[] clock)) :=
                  { tr := t3, st := (hs1.trans s2).trans sv, df := (Act.put_defers' ..).trans d2, mr := (hm1.step hs1.rel.f s2).step s2.rel.f sv, old := fun j hj => by rw [g3, if_neg (fun e => by rw [e] at hj; omega)],
                    nx := by rw [n3]; rfl, s128 := by kernel_rfl, it := upd_same _ _ _, un := uv, lo := Nat.le_trans hs1.keep.size s2.keep.size, lt := by show _ < (w2.heap.push _).size; simp, hr := heap_alloc_new w2 _, im := sv.le _ _ him,
                    sl := .inl ⟨rfl, (show (rgGet 16).get ((rgPut 128).put (.ptr hf.nx 0) ((rgPut 127).put (.mp im) ((rgPut 126).put (.ptr i (Nat.add o 14)) ((rgPut 125).put (.ptr i o) ((rgPut 124).put (.ptr i o) tm))))) = (rgGet 16).get tm by kernel_rfl).trans h16⟩, pe := ⟨l, List.Perm.refl _⟩ }
                refine wpIn_block (loop6 (ro := none) (n := n) hes hil hborn hnd hlen (by omega) (fun acc φ4 tm4 h4 a4 w4 L hp => ?_) ⟨_, _, _, L0⟩)
                unfold Exit.inBlock
                dsimp only
                rw [if_pos rfl]
                show Code.wpIn (FW none) n Tryz.prog (.seq (.region 34 a34 false) (.seq (.region 35 a35 false) .ret)) (bodyPostM Fence.wide n Tryz.prog Tryz.f6 (Ret (Res φ h w r h'))) a4 w4
                obtain ⟨h9, hc9, hr9, hg9, hn9⟩ := tailP_ok hs1.rel he L hp
                have h16e := tm_eta16 tm4
                have hrun34 := run34 (ckS (acc.map two) (sortI (l.map two))) tm4 h4 ((rgGet 16).get tm4)
                rw [h16e, hc9] at hrun34
                have hAB : (acc.map two).Perm (sortI (l.map two)) := ((hp.map two).symm).trans (sortI_perm _).symm
                have hck2 := ckS_ok hAB hasc (by rw [List.length_map, ← hp.length_eq]; omega)
                have hat4 : At 143 φ h w tm4 h4 a4 w4 := ⟨φ4, L.tr, L.st, by rw [L.df]; exact L.mr⟩
                refine wpIn_mono (code_ok (n := n) (ro := none) (rd := true) hck2 hmix (fun _ => rfl) _ (fun _ => draw34) [] kEnd _ (by rw [hrun34]; intro e; cases e) tm4 h4 a4 w4 hat4 rfl) fun e a5 w5 hq => ?_
                rw [hrun34] at hq
                cases e with
                | ret =>
                  obtain ⟨tm5, h5', ⟨φ5, t5, s5, rs, q1, q2, q3⟩, e5⟩ := hq
                  have e5 : R.ret tm5 h5' = R.ret (tm34 tm4 ((rgGet 16).get tm4)) h9 := e5
                  cases e5
                  show LeavesInM Fence.wide n Tryz.prog Tryz.f6 a5.tmps (Ret (Res φ h w r h')) a5.defers .returning w5
                  rw [q1]
                  refine leaves_marks (φ0 := φ) (φ := φ5) (h0 := h) (h := h') (w0 := w) (fun w6 s6 => ?_) rs w5 q2 q3 (s5.less hg9 hn9)
                  obtain ⟨_, v, h7, h8⟩ := results_ok t5 s6.rel.f (res6 tm4 ((rgGet 16).get tm4) h')
                  exact ⟨v, h8, φ5, by rw [hr9]; exact h7, s6⟩
                | normal =>
                  obtain ⟨tm5, h5', _, e5⟩ := hq
                  cases e5
                | exit j =>
                  obtain ⟨tm5, h5', _, e5⟩ := hq
                  rw [goOn_none] at e5
                  cases e5
                | _ => exact hq.elim
              · cases htp
            · rw [Nat.zero_add, List.getElem?_take_of_lt (by rw [hl30] at hj; exact hj), Array.getElem?_toList]
          · cases he
        · cases he
      · cases he
    · cases he
  · cases he
end Go.Ax
