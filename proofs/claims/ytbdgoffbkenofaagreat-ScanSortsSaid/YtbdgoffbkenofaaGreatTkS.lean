/- slices.SortFunc at attributes of unlike names. -/
import Derived.Test.YtbdgoffbkenofaaGreatTkG
import Derived.Test.YtbdgoffbkenofaaGreatLays
import Derived.Shelf.SlSortCmp.WholeK
import Derived.Shelf.SlSortCmp.NoneTotal
import Derived.Shelf.SlGeneric
import Derived.Ground.SlsfProg
import Derived.Sort.Walk0
namespace Go.Proofs
open Go Go.Shelf
def Tryz.sortL_ren : Go.Shelf.Ren := ⟨fun | 6 => 90 | 15 => 111 | 14 => 110 | 28 => 132 | 29 => 133 | 20 => 81 | 21 => 125 | 22 => 126 | 23 => 127 | 24 => 128 | 25 => 129 | 26 => 130 | 27 => 131 | 46 => 137 | 47 => 138 | 48 => 139 | 49 => 140 | 50 => 141 | 57 => 148 | n => n, fun | 22 => 25 | 24 => 30 | 25 => 59 | 3 => 3 | 39 => 112 | 0 => 0 | 53 => 106 | 55 => 145 | 4 => 4 | 46 => 137 | 45 => 136 | 50 => 141 | 5 => 5 | 9 => 9 | 66 => 149 | 70 => 153 | 76 => 170 | 77 => 116 | n => n, fun | n => n⟩
theorem Tryz.sortL : Go.Proofs.SlLaysF0.n6 Tryz.prog Tryz.sortL_ren := {
  mixed := by kernel_rfl
  f6 := ⟨Tryz.f90.name, by decide, Tryz.func90.trans (congrArg some (by kernel_rfl))⟩
  f14 := ⟨Tryz.f110.name, by decide, Tryz.func110.trans (congrArg some (by kernel_rfl))⟩
  f15 := Tryz.func111.trans (congrArg some (by kernel_rfl))
  f20 := ⟨Tryz.f81.name, by decide, Tryz.func81.trans (congrArg some (by kernel_rfl))⟩
  f21 := ⟨Tryz.f125.name, by decide, Tryz.func125.trans (congrArg some (by kernel_rfl))⟩
  f22 := ⟨Tryz.f126.name, by decide, Tryz.func126.trans (congrArg some (by kernel_rfl))⟩
  f23 := ⟨Tryz.f127.name, by decide, Tryz.func127.trans (congrArg some (by kernel_rfl))⟩
  f24 := ⟨Tryz.f128.name, by decide, Tryz.func128.trans (congrArg some (by kernel_rfl))⟩
  f25 := ⟨Tryz.f129.name, by decide, Tryz.func129.trans (congrArg some (by kernel_rfl))⟩
  f26 := ⟨Tryz.f130.name, by decide, Tryz.func130.trans (congrArg some (by kernel_rfl))⟩
  f27 := ⟨Tryz.f131.name, by decide, Tryz.func131.trans (congrArg some (by kernel_rfl))⟩
  f28 := Tryz.func132.trans (congrArg some (by kernel_rfl))
  f29 := Tryz.func133.trans (congrArg some (by kernel_rfl))
  f46 := ⟨Tryz.f137.name, by decide, Tryz.func137.trans (congrArg some (by kernel_rfl))⟩
  f47 := Tryz.func138.trans (congrArg some (by kernel_rfl))
  f48 := Tryz.func139.trans (congrArg some (by kernel_rfl))
  f49 := ⟨Tryz.f140.name, by decide, Tryz.func140.trans (congrArg some (by kernel_rfl))⟩
  f50 := ⟨Tryz.f141.name, by decide, Tryz.func141.trans (congrArg some (by kernel_rfl))⟩
  f57 := ⟨Tryz.f148.name, by decide, Tryz.func148.trans (congrArg some (by kernel_rfl))⟩
  t0 := Tryz.underlying0
  a0 := Tryz.isAgg0
  z0 := Tryz.sizeOf0
  v0 := Tryz.zeroValue0
  t3 := Tryz.underlying3
  a3 := Tryz.isAgg3
  z3 := Tryz.sizeOf3
  v3 := Tryz.zeroValue3
  t4 := Tryz.underlying4
  a4 := Tryz.isAgg4
  z4 := Tryz.sizeOf4
  v4 := Tryz.zeroValue4
  t5 := Tryz.underlying5
  a5 := Tryz.isAgg5
  z5 := Tryz.sizeOf5
  v5 := Tryz.zeroValue5
  t9 := Tryz.underlying9
  a9 := Tryz.isAgg9
  z9 := Tryz.sizeOf9
  v9 := Tryz.zeroValue9
  t22 := Tryz.underlying25
  a22 := Tryz.isAgg25
  z22 := Tryz.sizeOf25
  v22 := Tryz.zeroValue25
  t25 := Tryz.underlying59
  a25 := Tryz.isAgg59
  z25 := Tryz.sizeOf59
  v25 := Tryz.zeroValue59
  t39 := Tryz.underlying112
  a39 := Tryz.isAgg112
  z39 := Tryz.sizeOf112
  v39 := Tryz.zeroValue112
  t45 := Tryz.underlying136
  a45 := Tryz.isAgg136
  z45 := Tryz.sizeOf136
  v45 := Tryz.zeroValue136
  t46 := Tryz.underlying137
  a46 := Tryz.isAgg137
  z46 := Tryz.sizeOf137
  v46 := Tryz.zeroValue137
  t50 := Tryz.underlying141
  a50 := Tryz.isAgg141
  z50 := Tryz.sizeOf141
  v50 := Tryz.zeroValue141
  t53 := Tryz.underlying106
  a53 := Tryz.isAgg106
  z53 := Tryz.sizeOf106
  v53 := Tryz.zeroValue106
  t55 := Tryz.underlying145
  a55 := Tryz.isAgg145
  z55 := Tryz.sizeOf145
  v55 := Tryz.zeroValue145
  t66 := Tryz.underlying149
  a66 := Tryz.isAgg149
  z66 := Tryz.sizeOf149
  v66 := Tryz.zeroValue149
  t70 := Tryz.underlying153
  a70 := Tryz.isAgg153
  z70 := Tryz.sizeOf153
  v70 := Tryz.zeroValue153
  t76 := Tryz.underlying170
  a76 := Tryz.isAgg170
  z76 := Tryz.sizeOf170
  v76 := Tryz.zeroValue170
  t77 := Tryz.underlying116
  a77 := Tryz.isAgg116
  z77 := Tryz.sizeOf116
  v77 := Tryz.zeroValue116 }
end Go.Proofs
namespace Go.Proofs.YtbdgoffbkenofaaGreat.Tk
open Go Go.RowKit Go.Shelf Go.Sort Go.Proofs.YtbdgoffbkenofaaGreat.Tr
set_option linter.unusedVariables false
set_option maxRecDepth 100000

abbrev At := ByteArray × ByteArray
instance : Inhabited At := ⟨(⟨#[]⟩, ⟨#[]⟩)⟩
def encAt (x : At) : List Value := [.string x.1, .string x.2]
def cfAt (x y : At) : Int := Lib.compareBytes x.1.data.toList y.1.data.toList
theorem cmp_less : ∀ a b : List UInt8, decide (Lib.compareBytes a b < 0) = Op.bytesLess a b
  | [], [] => rfl
  | [], y :: ys => rfl
  | x :: xs, [] => rfl
  | x :: xs, y :: ys => by
    have ih := cmp_less xs ys
    unfold Lib.compareBytes Op.bytesLess
    by_cases h1 : x < y
    · simp [h1]
    · by_cases h2 : y < x
      · have h3 : x ≠ y := fun e => by subst e; exact h1 h2
        simp [h1, h2, h3]
      · have h3 : x = y := UInt8.le_antisymm (UInt8.not_lt.1 h2) (UInt8.not_lt.1 h1)
        subst h3
        simp [h1]
        simpa using ih
theorem ltAt (x y : At) : ltOf cfAt x y = decide (x.1.data.toList < y.1.data.toList) := by
  unfold ltOf cfAt; rw [cmp_less, bytesLess_eq]
theorem swoAt : SWO (ltOf cfAt) where
  irrefl x := by rw [ltAt]; simp
  trans x y z h1 h2 := by rw [ltAt] at *; simp at *; exact List.lt_trans h1 h2
  ntrans x y z h1 h2 := by
    rw [ltAt] at *; simp at *
    exact List.le_trans h2 h1
set_option maxHeartbeats 2000000 in
theorem closure_cmp (x y : At) (W : World) : Calls Tryz.prog 91 #[.agg #[.string x.1, .string x.2], .agg #[.string y.1, .string y.2]] W fun e w' => e = .returned (.int .i64 (cfAt x y)) ∧ ∃ q os', w' = grow (W.drewN q) os' := by
  have hcon := fun W' => Any.strings_Compare lays106 x.1 y.1 W'
  change ∀ W', Calls Tryz.prog 32 _ _ _ at hcon
  unfold cfAt
  generalize Lib.compareBytes x.1.data.toList y.1.data.toList = r at hcon ⊢
  go_enter Tryz.func91, Tryz.ntmps91
  go_wp2_with (go_at_call 32; refine (hcon _).mono ?_; rintro e w' ⟨rfl, rfl⟩)
  go_ret
  exact ⟨rfl, 0, _, by rw [alloc_eq_grow, alloc_eq_grow, grow_grow]; rfl⟩
theorem cells_flat : ∀ (acc : List At) (j : Nat), j < acc.length * 2 → (cellsA2 acc)[j]? = some ((encAt acc[j / 2]!)[j % 2]!)
  | [], j, h => by simp at h
  | x :: r, 0, h => rfl
  | x :: r, 1, h => rfl
  | x :: r, j + 2, h => by
    have ih := cells_flat r j (by simp at h; omega)
    have e : cellsA2 (x :: r) = .string x.1 :: .string x.2 :: cellsA2 r := rfl
    rw [e, show (j + 2) / 2 = j / 2 + 1 by omega, show (j + 2) % 2 = j % 2 by omega]
    simpa using ih
theorem holds_at {W : World} {g : Nat} {cur : Array Value} {acc : List At} (hl : (cellsA2 acc).length = acc.length * 2) (hb : W.heap[g]? = some (.cells cur 30 (0, 0))) (hx : cur.toList.take (acc.length * 2) = cellsA2 acc) : HoldsK encAt 2 W g 0 acc.toArray := by
  intro j hj
  rw [size_flatK] at hj
  have hj' : j < acc.length * 2 := by simpa using hj
  rw [get_flatK encAt 2 _ j hj]
  refine ⟨?_, Lib.frozen_of_heap hb _⟩
  rw [block_cell hb, Nat.zero_add]
  have h := cells_flat acc j hj'
  rw [← hx, List.getElem?_take_of_lt hj'] at h
  rw [← Array.getElem?_toList, h]
  simp
theorem uniq_at {acc : List At} {d' : Array At} (hp : PermIn 0 acc.toArray.size acc.toArray d') (hs : SortedIn (ltOf cfAt) 0 acc.toArray.size d') (hu : acc.Pairwise fun x y => x.1 ≠ y.1) : d'.toList = sortP acc := by
  obtain ⟨p1, _, p3⟩ := hp
  have e1 : (d'.extract 0 acc.toArray.size) = d' := by rw [← p1]; simp
  have e2 : (acc.toArray.extract 0 acc.toArray.size) = acc.toArray := by simp
  rw [e1, e2] at p3
  have p3' : d'.toList.Perm acc := by simpa using p3
  have q : (sortP acc).Perm acc := List.mergeSort_perm _ _
  have hle : ∀ x y : At, leB x.1 y.1 = true ↔ ¬ y.1.data.toList < x.1.data.toList := fun x y => by
    unfold leB; rw [bytesLess_eq]; simp
  refine List.Perm.eq_of_pairwise (le := fun x y : At => leB x.1 y.1 = true) ?_ ?_ ?_ (p3'.trans q.symm)
  · intro a b ha hb h1 h2
    have ha' := p3'.mem_iff.1 ha
    have hb' := q.mem_iff.1 hb
    rw [hle] at h1 h2
    have e : a.1.data.toList = b.1.data.toList := List.le_antisymm (List.not_lt.1 h1) (List.not_lt.1 h2)
    have e' : a.1 = b.1 := Ss.bytes_eq.1 e
    obtain ⟨i, hi, rfl⟩ := List.getElem_of_mem ha'
    obtain ⟨j, hj, rfl⟩ := List.getElem_of_mem hb'
    rcases Nat.lt_trichotomy i j with h | h | h
    · exact absurd e' (List.pairwise_iff_getElem.1 hu i j hi hj h)
    · subst h; rfl
    · exact absurd e'.symm (List.pairwise_iff_getElem.1 hu j i hj hi h)
  · rw [List.pairwise_iff_getElem]
    intro i j hi hj hij
    have h := hs i j (Nat.zero_le _) hij (by rw [← p1]; simpa using hj)
    rw [ltAt] at h
    rw [hle]
    simp only [decide_eq_false_iff_not] at h
    rw [getElem!_pos d' i (by simpa using hi), getElem!_pos d' j (by simpa using hj)] at h
    simpa using h
  · refine List.pairwise_mergeSort ?_ ?_ acc
    · intro a b c h1 h2
      rw [hle] at *
      exact fun h => absurd (List.le_trans (List.not_lt.1 h1) (List.not_lt.1 h2)) (List.not_le.2 h)
    · intro a b
      rw [Bool.or_eq_true, hle, hle]
      rcases List.le_total a.1.data.toList b.1.data.toList with h | h
      · exact .inl (List.not_lt.2 h)
      · exact .inr (List.not_lt.2 h)
theorem sorted_block (W : World) (g n : Nat) (d : Array At) (os : Array Obj) (k : Nat) (hk : k < W.heap.size) (hne : k ≠ g) : (sortWorldK encAt 2 W g 0 n d os).heap[k]? = W.heap[k]? := by
  show ((W.heap.modify g _) ++ os)[k]? = _
  rw [Array.getElem?_append_left (by simpa using hk), Array.getElem?_modify, if_neg (fun e => hne e.symm)]
theorem sorts_attrs : SortsAttrs := by
  intro acc v W R hlen hsz huni hrow
  rcases hrow.2 with ⟨hv, hnil⟩ | ⟨g, cap, cur, hv, hg, hblk, hc1, hc2, hc3, hx⟩
  · have h0 : acc = [] := List.eq_nil_of_length_eq_zero hnil
    subst h0; subst hv
    refine (AnyF.slices_SortFunc_none Tryz.sortL none 0 (.func (.func 91) #[] #[]) W).mono ?_
    rintro e w' ⟨he, rfl⟩
    exact ⟨he, Fr.refl _ _ _, none, 0, rfl, by rw [show sortP [] = [] from List.mergeSort_nil]; exact isAttrs_nil _ _⟩
  · subst hv
    have hgl := lt_of_block hblk
    have hH := holds_at hrow.1 hblk hx
    have eg : ∀ args w, (callFunc 91 args).run Tryz.prog w = .ok (.enter 91 args) w := enters_of Tryz.func91 (by kernel_rfl) rfl
    have hcon := AnyQ.slices_SortFunc Tryz.sortL 2 Tryz.isAgg30 Tryz.sizeOf30 encAt (fun _ => rfl) (fun x u hu => by simp [encAt] at hu; rcases hu with rfl | rfl <;> rfl) cfAt swoAt 91 #[] g 0 cap acc.toArray W eg (fun _ _ _ _ x y => closure_cmp x y _) hH hgl (by simp; omega)
    refine Calls.mono hcon ?_
    rintro e w' ⟨he, d', n, os, hp, hs, rfl⟩
    have hd := uniq_at hp hs huni
    have hd2 : d'.size = acc.toArray.size := hp.1
    have hH2 := holdsK_sortWorldK encAt 2 W g 0 n acc.toArray d' os hgl hH hd2
    have hsize : W.heap.size ≤ (sortWorldK encAt 2 W g 0 n d' os).heap.size := size_sortWorldK_c encAt 2 W g 0 n d' os
    refine ⟨he, ⟨rfl, rfl, rfl, hsize, fun k hk hne => sorted_block W g n d' os k hk (fun e => hne (by rw [e]; rfl))⟩, some ⟨g, 0, none⟩, cap, rfl, ?_⟩
    refine ⟨by rw [sortP_len]; exact hc1, hc2, fun x hx' => ?_, fun _ => ⟨g, 0, rfl, Nat.lt_of_lt_of_le hgl hsize, fun i x hi => ?_⟩⟩
    · have := hsz x ((List.mergeSort_perm acc _).mem_iff.1 hx')
      exact ⟨small4 this.1, small4 this.2⟩
    · rw [← hd] at hi
      have hi' : d'[i]? = some x := by rw [← Array.getElem?_toList]; exact hi
      obtain ⟨hlt, hget⟩ := Array.getElem?_eq_some_iff.1 hi'
      have hb1 : i * 2 < d'.size * 2 := by omega
      have hb2 : i * 2 + 1 < d'.size * 2 := by omega
      have a1 := (hH2 (i * 2) (by rw [size_flatK]; exact hb1)).1
      have a2 := (hH2 (i * 2 + 1) (by rw [size_flatK]; exact hb2)).1
      rw [get_flatK encAt 2 d' _ hb1, show i * 2 / 2 = i by omega, show i * 2 % 2 = 0 by omega, getElem!_pos d' i hlt, hget] at a1
      rw [get_flatK encAt 2 d' _ hb2, show (i * 2 + 1) / 2 = i by omega, show (i * 2 + 1) % 2 = 1 by omega, getElem!_pos d' i hlt, hget, Nat.zero_add] at a2
      exact ⟨a1, by rw [Nat.zero_add]; exact a2⟩
end Go.Proofs.YtbdgoffbkenofaaGreat.Tk
