/- stack.Is at void elements; token.Raw. -/
import Derived.Test.YtbjcahhijfommaaGreatDoorFr
import Derived.Test.YtbjcahhijfommaaGreatDoorSay
import Derived.Test.YtbjcahhijfommaaGreatDoorLays
import Derived.WalkKit
import Derived.RegionTactic
import Derived.IntWalk
import Derived.StillTailTactics
import Derived.WalkLawsBesides
import Derived.Outline
import Derived.WalkMore
import Derived.Deep.LoopGhost
namespace Go.Proofs.YtbjcahhijfommaaGreatDoor.Tr
open Go Go.RowKit
set_option linter.unusedVariables false
/-- The names of elements that have nothing in them, as the program has them. -/
def voidS : ByteArray := ⟨#[97, 114, 101, 97, 32, 98, 97, 115, 101, 32, 98, 114, 32, 99, 111, 108, 32, 101, 109, 98, 101, 100, 32, 104, 114, 32, 105, 109, 103, 32, 105, 110, 112, 117, 116, 32, 108, 105, 110, 107, 32, 109, 101, 116, 97, 32, 112, 97, 114, 97, 109, 32, 115, 111, 117, 114, 99, 101, 32, 116, 114, 97, 99, 107, 32, 119, 98, 114]⟩
set_option maxHeartbeats 2000000 in
set_option maxRecDepth 100000 in
theorem sorts_calls (w : World) : Calls Tryz.prog 45 #[.int .i64 1] w fun e w' => e = .returned (.string voidS) ∧ Below w.heap.size w w' := by
  go_enter Tryz.func45, Tryz.ntmps45
  go_wp2_with fail
  go_ret
  exact ⟨rfl, (Below.refl _ w).alloc (Nat.le_refl _) _⟩
/-- The library's table of blanks is as it was laid. -/
def SpTab (w : World) : Prop := ∀ c : Nat, c < 256 → w.cell? ⟨0, c, none⟩ = some (.int .u8 (if Lib.isSp (UInt8.ofNat c) then 1 else 0))
theorem SpTab.lt {w : World} (h : SpTab w) : 0 < w.heap.size := World.block_lt_of_cell? _ _ (h 0 (by omega))
theorem SpTab.below {w w' : World} {B : Nat} (h : SpTab w) (hb : Below B w w') (hB : 0 < B) : SpTab w' := fun c hc => (hb.cell (p := ⟨0, c, none⟩) hB).trans (h c hc)
theorem infoStr : (Tryz.prog.info? (shelfRen.t 9)).map (fun i => (i.zero, i.size, i.bytes)) = some (some (.string ByteArray.empty), 1, 16) := by kernel_rfl
theorem voidS_ascii : ∀ (j : Nat) b, voidS.data.toList[j]? = some b → b.toNat < 128 := by
  have h : voidS.data.toList.all (fun b => decide (b.toNat < 128)) = true := by decide +kernel
  intro j b hb
  have := List.all_eq_true.1 h b (List.mem_of_getElem? hb)
  simpa using this
theorem void_fields : (Lib.fields voidS.data.toList).map (fun l => Value.string ⟨l.toArray⟩) = voidL.map Value.string := by
  have h : (Lib.fields voidS.data.toList).map (fun l => (⟨l.toArray⟩ : ByteArray)) = voidL := by decide +kernel
  have := congrArg (List.map Value.string) h
  rw [List.map_map] at this
  exact this
theorem void_fields_len : (Lib.fields voidS.data.toList).length = 14 := by
  have := congrArg List.length void_fields
  rw [List.length_map] at this
  exact this
theorem fields_calls (w : World) (hT : SpTab w) : Calls Tryz.prog 49 #[.string voidS] w fun e w' =>
    e = .returned (.slice (some ⟨w.heap.size, 0, none⟩) 14 14) ∧ w' = w.alloc (.cells (voidL.map Value.string).toArray 9) := by
  have h := Go.Proofs.Any.strings_Fields_core lays157 infoStr voidS w (by decide) voidS_ascii hT
  rw [void_fields, void_fields_len] at h
  exact h
theorem void_hit {n : ByteArray} {j : Nat} {x : ByteArray} (hx : voidL[j]? = some x) (h : x = n) : voidB n = true := by
  unfold voidB isIn
  rw [List.any_eq_true]
  exact ⟨x, List.mem_of_getElem? hx, decide_eq_true h.symm⟩
theorem void_miss {n : ByteArray} (h : ∀ (j : Nat) x, voidL[j]? = some x → ¬ x = n) : voidB n = false := by
  unfold voidB isIn
  rw [List.any_eq_false]
  intro x hx
  obtain ⟨j, hj⟩ := List.getElem?_of_mem hx
  simpa using fun e : n = x => h j x hj e.symm
theorem voidL_len : voidL.length = 14 := rfl
set_option maxHeartbeats 2000000 in
set_option maxRecDepth 100000 in
theorem among_calls (n : ByteArray) (w : World) (hT : SpTab w) : Calls Tryz.prog 44 #[.string voidS, .string n] w fun e w' => e = .returned (.bool (voidB n)) ∧ Below w.heap.size w w' := by
  have HF := Lib.hid (fields_calls w hT)
  clear hT
  generalize voidS = vs at HF ⊢
  go_enter Tryz.func44, Tryz.ntmps44
  go_wp2_with fail
  refine HF.out.mono ?_
  rintro e w1 ⟨rfl, hw1⟩
  have hc : ∀ (j : Nat) x, voidL[j]? = some x → w1.cell? ⟨w.heap.size, j, none⟩ = some (.string x) := fun j x hx => by
    rw [hw1, block_cell (alloc_new w _)]; simp [hx]
  have HB : Hid (Below w.heap.size w w1) := Lib.hid (by rw [hw1]; exact (Below.refl _ w).alloc (Nat.le_refl _) _)
  have HC := Lib.hid hc
  generalize w.heap.size = sb at HC ⊢
  clear hw1 HF hc
  go_wp2_with fail
  go_loop [10] (fun i => ∃ j : Nat, j ≤ 14 ∧ i = .int .i64 j ∧ Hid (∀ (k : Nat) x, k < j → voidL[k]? = some x → ¬ x = n)) (fun i => 14 - (intOf i).toNat)
  case atStart => exact ⟨0, by omega, rfl, Lib.hid fun k x hk => absurd hk (by omega)⟩
  case round =>
    obtain ⟨j, hj, rfl, HN⟩ := hrel
    by_cases hlt : j < 14
    · obtain ⟨x, hx⟩ : ∃ x, voidL[j]? = some x := ⟨_, List.getElem?_eq_getElem (by rw [voidL_len]; exact hlt)⟩
      have c := HC.out j x hx
      have hz : (j : Int) < 14 := by omega
      have HX := Lib.hid hx
      clear hx
      have q := Sr.str_eq x n
      by_cases he : x = n
      · rw [decide_eq_true he] at q
        have HV : Hid (voidB n = true) := Lib.hid (void_hit HX.out he)
        clear he
        go_wp2_with fail
        go_ret
        exact ⟨by rw [HV.out]; rfl, HB.out⟩
      · rw [decide_eq_false he] at q
        have HN2 : Hid (∀ (k : Nat) x, k < j + 1 → voidL[k]? = some x → ¬ x = n) := Lib.hid fun k y hk hy => by
          by_cases hkj : k = j
          · subst hkj
            rw [HX.out] at hy
            injection hy with hy
            subst hy; exact he
          · exact HN.out k y (by omega) hy
        clear he
        go_wp2_with fail
        go_round
        case rel => exact ⟨j + 1, by omega, by simp, HN2⟩
        case measure => simp [intOf]; omega
    · obtain rfl : j = 14 := by omega
      have HV : Hid (voidB n = false) := Lib.hid (void_miss fun k x hx => HN.out k x (by have := (List.getElem?_eq_some_iff.1 hx).1; rw [voidL_len] at this; exact this) hx)
      go_wp2_with fail
      go_ret
      exact ⟨by rw [HV.out]; rfl, HB.out⟩
theorem is_calls (n : ByteArray) (w : World) (hT : SpTab w) : Calls Tryz.prog 41 #[.string n, .int .i64 1] w fun e w' => e = .returned (.bool (voidB n)) ∧ Below w.heap.size w w' := by
  have HT := Lib.hid hT
  clear hT
  have HS := Lib.hid (sorts_calls w)
  generalize hvs : voidS = vs at HS
  have HVS := Lib.hid hvs
  clear hvs
  go_enter Tryz.func41, Tryz.ntmps41
  go_wp2_with fail
  refine HS.out.mono ?_
  rintro e w1 ⟨rfl, hb1⟩
  have HB := Lib.hid hb1
  have HA := Lib.hid (among_calls n w1 (HT.out.below hb1 HT.out.lt))
  rw [HVS.out] at HA
  clear hb1
  go_wp2_with fail
  refine HA.out.mono ?_
  rintro e w2 ⟨rfl, hb2⟩
  have HB2 := Lib.hid hb2
  clear hb2
  go_wp2_with fail
  go_ret
  exact ⟨rfl, HB.out.trans (HB2.out.mono HB.out.size)⟩
/-- token.Raw by its chain of questions. -/
def rawC (n : ByteArray) : Int :=
  if n = ⟨#[116, 105, 116, 108, 101]⟩ then 1 else
  if n = ⟨#[116, 101, 120, 116, 97, 114, 101, 97]⟩ then 1 else
  if n = ⟨#[115, 116, 121, 108, 101]⟩ then 2 else
  if n = ⟨#[115, 99, 114, 105, 112, 116]⟩ then 2 else
  if n = ⟨#[120, 109, 112]⟩ then 2 else
  if n = ⟨#[105, 102, 114, 97, 109, 101]⟩ then 2 else
  if n = ⟨#[110, 111, 101, 109, 98, 101, 100]⟩ then 2 else
  if n = ⟨#[110, 111, 102, 114, 97, 109, 101, 115]⟩ then 2 else
  0
theorem rawC_eq (n : ByteArray) : rawC n = rawI n := by
  unfold rawC rawI isIn titL rawL
  simp only [List.any_cons, List.any_nil, Bool.or_false, Bool.or_eq_true, decide_eq_true_eq]
  repeat' split
  all_goals simp_all
attribute [irreducible] rawC
theorem lit_eq (n : ByteArray) (l : List UInt8) (x : ByteArray) (h : x.toList = l) : (n.toList == l) = decide (n = x) := h ▸ Sr.str_eq n x
set_option maxHeartbeats 4000000 in
set_option maxRecDepth 100000 in
theorem raw_calls (n : ByteArray) (w : World) : Calls Tryz.prog 35 #[.string n] w fun e w' => e = .returned (.int .i64 (rawI n)) ∧ w' = w := by
  rw [← rawC_eq]
  have q0 := lit_eq n [116, 105, 116, 108, 101] ⟨#[116, 105, 116, 108, 101]⟩ (by decide +kernel)
  have q1 := lit_eq n [116, 101, 120, 116, 97, 114, 101, 97] ⟨#[116, 101, 120, 116, 97, 114, 101, 97]⟩ (by decide +kernel)
  have q2 := lit_eq n [115, 116, 121, 108, 101] ⟨#[115, 116, 121, 108, 101]⟩ (by decide +kernel)
  have q3 := lit_eq n [115, 99, 114, 105, 112, 116] ⟨#[115, 99, 114, 105, 112, 116]⟩ (by decide +kernel)
  have q4 := lit_eq n [120, 109, 112] ⟨#[120, 109, 112]⟩ (by decide +kernel)
  have q5 := lit_eq n [105, 102, 114, 97, 109, 101] ⟨#[105, 102, 114, 97, 109, 101]⟩ (by decide +kernel)
  have q6 := lit_eq n [110, 111, 101, 109, 98, 101, 100] ⟨#[110, 111, 101, 109, 98, 101, 100]⟩ (by decide +kernel)
  have q7 := lit_eq n [110, 111, 102, 114, 97, 109, 101, 115] ⟨#[110, 111, 102, 114, 97, 109, 101, 115]⟩ (by decide +kernel)
  go_enter Tryz.func35, Tryz.ntmps35
  by_cases d0 : n = ⟨#[116, 105, 116, 108, 101]⟩
  · rw [decide_eq_true d0] at q0
    have HV : Hid (rawC n = 1) := Lib.hid (by unfold rawC; rw [if_pos d0])
    clear d0
    go_wp2_with fail
    go_ret
    exact ⟨by rw [HV.out]; rfl, rfl⟩
  rw [decide_eq_false d0] at q0
  by_cases d1 : n = ⟨#[116, 101, 120, 116, 97, 114, 101, 97]⟩
  · rw [decide_eq_true d1] at q1
    have HV : Hid (rawC n = 1) := Lib.hid (by unfold rawC; rw [if_neg d0, if_pos d1])
    clear d0 d1
    go_wp2_with fail
    go_ret
    exact ⟨by rw [HV.out]; rfl, rfl⟩
  rw [decide_eq_false d1] at q1
  by_cases d2 : n = ⟨#[115, 116, 121, 108, 101]⟩
  · rw [decide_eq_true d2] at q2
    have HV : Hid (rawC n = 2) := Lib.hid (by unfold rawC; rw [if_neg d0, if_neg d1, if_pos d2])
    clear d0 d1 d2
    go_wp2_with fail
    go_ret
    exact ⟨by rw [HV.out]; rfl, rfl⟩
  rw [decide_eq_false d2] at q2
  by_cases d3 : n = ⟨#[115, 99, 114, 105, 112, 116]⟩
  · rw [decide_eq_true d3] at q3
    have HV : Hid (rawC n = 2) := Lib.hid (by unfold rawC; rw [if_neg d0, if_neg d1, if_neg d2, if_pos d3])
    clear d0 d1 d2 d3
    go_wp2_with fail
    go_ret
    exact ⟨by rw [HV.out]; rfl, rfl⟩
  rw [decide_eq_false d3] at q3
  by_cases d4 : n = ⟨#[120, 109, 112]⟩
  · rw [decide_eq_true d4] at q4
    have HV : Hid (rawC n = 2) := Lib.hid (by unfold rawC; rw [if_neg d0, if_neg d1, if_neg d2, if_neg d3, if_pos d4])
    clear d0 d1 d2 d3 d4
    go_wp2_with fail
    go_ret
    exact ⟨by rw [HV.out]; rfl, rfl⟩
  rw [decide_eq_false d4] at q4
  by_cases d5 : n = ⟨#[105, 102, 114, 97, 109, 101]⟩
  · rw [decide_eq_true d5] at q5
    have HV : Hid (rawC n = 2) := Lib.hid (by unfold rawC; rw [if_neg d0, if_neg d1, if_neg d2, if_neg d3, if_neg d4, if_pos d5])
    clear d0 d1 d2 d3 d4 d5
    go_wp2_with fail
    go_ret
    exact ⟨by rw [HV.out]; rfl, rfl⟩
  rw [decide_eq_false d5] at q5
  by_cases d6 : n = ⟨#[110, 111, 101, 109, 98, 101, 100]⟩
  · rw [decide_eq_true d6] at q6
    have HV : Hid (rawC n = 2) := Lib.hid (by unfold rawC; rw [if_neg d0, if_neg d1, if_neg d2, if_neg d3, if_neg d4, if_neg d5, if_pos d6])
    clear d0 d1 d2 d3 d4 d5 d6
    go_wp2_with fail
    go_ret
    exact ⟨by rw [HV.out]; rfl, rfl⟩
  rw [decide_eq_false d6] at q6
  by_cases d7 : n = ⟨#[110, 111, 102, 114, 97, 109, 101, 115]⟩
  · rw [decide_eq_true d7] at q7
    have HV : Hid (rawC n = 2) := Lib.hid (by unfold rawC; rw [if_neg d0, if_neg d1, if_neg d2, if_neg d3, if_neg d4, if_neg d5, if_neg d6, if_pos d7])
    clear d0 d1 d2 d3 d4 d5 d6 d7
    go_wp2_with fail
    go_ret
    exact ⟨by rw [HV.out]; rfl, rfl⟩
  rw [decide_eq_false d7] at q7
  have HV : Hid (rawC n = 0) := Lib.hid (by unfold rawC; rw [if_neg d0, if_neg d1, if_neg d2, if_neg d3, if_neg d4, if_neg d5, if_neg d6, if_neg d7])
  clear d0 d1 d2 d3 d4 d5 d6 d7
  go_wp2_with fail
  go_ret
  exact ⟨by rw [HV.out]; rfl, rfl⟩
end Go.Proofs.YtbjcahhijfommaaGreatDoor.Tr
