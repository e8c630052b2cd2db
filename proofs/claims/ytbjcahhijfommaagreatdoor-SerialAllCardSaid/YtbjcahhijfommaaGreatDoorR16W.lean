/- The document's source of a tree, walked. -/
import Derived.Test.YtbjcahhijfommaaGreatDoorKids
import Derived.Test.YtbjcahhijfommaaGreatDoorEl
import Derived.Test.YtbjcahhijfommaaGreatDoorRescS
import Derived.Test.YtbjcahhijfommaaGreatDoorPk
import Derived.Test.YtbjcahhijfommaaGreatDoorCopyS
namespace Go.Proofs.YtbjcahhijfommaaGreatDoor.Tr
open Go Go.RowKit
set_option linter.unusedVariables false
def voidCells : Array Value := #[.string ⟨#[97, 114, 101, 97]⟩, .string ⟨#[98, 97, 115, 101]⟩, .string ⟨#[98, 114]⟩, .string ⟨#[99, 111, 108]⟩, .string ⟨#[101, 109, 98, 101, 100]⟩, .string ⟨#[104, 114]⟩, .string ⟨#[105, 109, 103]⟩, .string ⟨#[105, 110, 112, 117, 116]⟩, .string ⟨#[108, 105, 110, 107]⟩, .string ⟨#[109, 101, 116, 97]⟩, .string ⟨#[112, 97, 114, 97, 109]⟩, .string ⟨#[115, 111, 117, 114, 99, 101]⟩, .string ⟨#[116, 114, 97, 99, 107]⟩, .string ⟨#[119, 98, 114]⟩]
theorem voidCells_is : voidCells.toList = voidL.map Value.string := rfl
set_option maxHeartbeats 2000000 in
set_option maxRecDepth 100000 in
theorem rsort_calls (w : World) : Calls Tryz.prog 32 #[.int .i64 1] w fun e w' => e = .returned (.slice (some ⟨w.heap.size, 0, none⟩) 14 14) ∧ w' = w.alloc (.cells voidCells 9) := by
  go_enter Tryz.func32, Tryz.ntmps32
  go_wp2_with fail
  go_ret
  exact ⟨rfl, rfl⟩
theorem isIn_at {l : List ByteArray} {n x : ByteArray} {j : Nat} (h : l[j]? = some x) (hx : x = n) : isIn l n = true := by
  unfold isIn
  rw [List.any_eq_true]
  exact ⟨x, List.mem_of_getElem? h, decide_eq_true hx.symm⟩
theorem isIn_no {l : List ByteArray} {n : ByteArray} (h : ∀ (j : Nat) (x : ByteArray), l[j]? = some x → x ≠ n) : isIn l n = false := by
  unfold isIn
  rw [List.any_eq_false]
  intro x hx
  obtain ⟨j, hj⟩ := List.getElem?_of_mem hx
  simp only [decide_eq_true_eq]
  intro e
  exact h j x hj e.symm
set_option maxHeartbeats 2000000 in
set_option maxRecDepth 100000 in
theorem rhas_calls (l : List ByteArray) (n : ByteArray) (b : Nat) (w : World) (hl : l.length ≤ 1000) (hb : w.heap[b]? = some (.cells (l.map Value.string).toArray 9 (0, 0))) :
    Calls Tryz.prog 31 #[.slice (some ⟨b, 0, none⟩) l.length l.length, .string n] w fun e w' => e = .returned (.bool (isIn l n)) ∧ w' = w := by
  have HB := Lib.hid hb
  clear hb
  go_enter Tryz.func31, Tryz.ntmps31
  go_wp2_with fail
  go_loopw [5] (fun i wr => ∃ j : Nat, j ≤ l.length ∧ i = .int .i64 (j : Int) ∧ wr = w ∧ Hid (∀ i x, i < j → l[i]? = some x → x ≠ n)) (fun i _ => l.length - (intOf i).toNat)
  case atStart => exact ⟨0, Nat.zero_le _, rfl, rfl, Lib.hid fun i x h => absurd h (Nat.not_lt_zero _)⟩
  case round =>
    obtain ⟨j, hj, rfl, rfl, HN⟩ := hrel
    by_cases hjl : j < l.length
    · obtain ⟨x, hx⟩ : ∃ x, l[j]? = some x := ⟨_, List.getElem?_eq_getElem hjl⟩
      have hjz : (j : Int) < (l.length : Int) := by omega
      have hc : wr.cell? ⟨b, j, none⟩ = some (.string x) := by rw [block_cell HB.out]; simp [hx]
      have q := Sr.str_eq x n
      by_cases hxn : x = n
      · have HI := Lib.hid (isIn_at hx hxn)
        rw [decide_eq_true hxn] at q
        clear hx hxn
        go_wp2_with fail
        go_ret
        exact ⟨by rw [HI.out]; rfl, rfl⟩
      · have HN2 : Hid (∀ i x, i < j + 1 → l[i]? = some x → x ≠ n) := Lib.hid fun i y hi hy => by
          rcases Nat.lt_or_ge i j with h | h
          · exact HN.out i y h hy
          · obtain rfl : i = j := by omega
            rw [hx] at hy; injection hy with hy; subst hy; exact hxn
        rw [decide_eq_false hxn] at q
        clear hx hxn
        go_wp2_with fail
        go_roundw
        case rel => exact ⟨j + 1, by omega, by go_num, (by first | rfl | trivial), HN2⟩
        case measure => simp [intOf]; omega
    · obtain rfl : j = l.length := by omega
      have hjz : ¬ ((l.length : Int) < (l.length : Int)) := by omega
      have HI := Lib.hid (isIn_no (l := l) (n := n) fun i x hi => HN.out i x (List.getElem?_eq_some_iff.1 hi).1 hi)
      go_wp2_with fail
      go_ret
      exact ⟨by rw [HI.out]; rfl, rfl⟩
theorem ris_calls (n : ByteArray) (w : World) : Calls Tryz.prog 26 #[.string n, .int .i64 1] w fun e w' => e = .returned (.bool (voidB n)) ∧ Below w.heap.size w w' := by
  have HH : Hid (Calls Tryz.prog 31 #[.slice (some ⟨w.heap.size, 0, none⟩) 14 14, .string n] (w.alloc (.cells voidCells 9)) fun e w' => e = .returned (.bool (voidB n)) ∧ w' = w.alloc (.cells voidCells 9)) :=
    Lib.hid (rhas_calls voidL n w.heap.size _ (by decide) (alloc_new w _))
  go_enter Tryz.func26, Tryz.ntmps26
  go_wp2_with fail
  refine (rsort_calls w).mono ?_
  rintro e w2 ⟨rfl, rfl⟩
  go_wp2_with fail
  refine HH.out.mono ?_
  rintro e w3 ⟨rfl, rfl⟩
  go_wp2_with fail
  go_ret
  exact ⟨rfl, (Below.refl _ w).alloc (Nat.le_refl _) _⟩
set_option maxHeartbeats 4000000 in
set_option maxRecDepth 100000 in
theorem rraw_calls (n : ByteArray) (w : World) : Calls Tryz.prog 27 #[.string n] w fun e w' => e = .returned (.int .i64 (rawI n)) ∧ w' = w := by
  rw [← rawC_eq]
  have q0 := lit_eq n [116, 105, 116, 108, 101] ⟨#[116, 105, 116, 108, 101]⟩ (by decide +kernel)
  have q1 := lit_eq n [116, 101, 120, 116, 97, 114, 101, 97] ⟨#[116, 101, 120, 116, 97, 114, 101, 97]⟩ (by decide +kernel)
  have q2 := lit_eq n [115, 116, 121, 108, 101] ⟨#[115, 116, 121, 108, 101]⟩ (by decide +kernel)
  have q3 := lit_eq n [115, 99, 114, 105, 112, 116] ⟨#[115, 99, 114, 105, 112, 116]⟩ (by decide +kernel)
  have q4 := lit_eq n [120, 109, 112] ⟨#[120, 109, 112]⟩ (by decide +kernel)
  have q5 := lit_eq n [105, 102, 114, 97, 109, 101] ⟨#[105, 102, 114, 97, 109, 101]⟩ (by decide +kernel)
  have q6 := lit_eq n [110, 111, 101, 109, 98, 101, 100] ⟨#[110, 111, 101, 109, 98, 101, 100]⟩ (by decide +kernel)
  have q7 := lit_eq n [110, 111, 102, 114, 97, 109, 101, 115] ⟨#[110, 111, 102, 114, 97, 109, 101, 115]⟩ (by decide +kernel)
  go_enter Tryz.func27, Tryz.ntmps27
  by_cases d0 : n = ⟨#[116, 105, 116, 108, 101]⟩
  · rw [decide_eq_true d0] at q0
    have HV : Hid (rawC n = 1) := Lib.hid (by unfold rawC; rw [if_pos d0])
    clear d0
    go_wp2_with fail
    go_ret
    exact ⟨by rw [HV.out]; rfl, rfl⟩
  rw [decide_eq_false d0] at q0
  by_cases d1 : n = ⟨#[116, 101, 120, 116, 97, 114, 101, 97]⟩
  · rw [decide_eq_true d1] at q1
    have HV : Hid (rawC n = 1) := Lib.hid (by unfold rawC; rw [if_neg d0, if_pos d1])
    clear d0 d1
    go_wp2_with fail
    go_ret
    exact ⟨by rw [HV.out]; rfl, rfl⟩
  rw [decide_eq_false d1] at q1
  by_cases d2 : n = ⟨#[115, 116, 121, 108, 101]⟩
  · rw [decide_eq_true d2] at q2
    have HV : Hid (rawC n = 2) := Lib.hid (by unfold rawC; rw [if_neg d0, if_neg d1, if_pos d2])
    clear d0 d1 d2
    go_wp2_with fail
    go_ret
    exact ⟨by rw [HV.out]; rfl, rfl⟩
  rw [decide_eq_false d2] at q2
  by_cases d3 : n = ⟨#[115, 99, 114, 105, 112, 116]⟩
  · rw [decide_eq_true d3] at q3
    have HV : Hid (rawC n = 2) := Lib.hid (by unfold rawC; rw [if_neg d0, if_neg d1, if_neg d2, if_pos d3])
    clear d0 d1 d2 d3
    go_wp2_with fail
    go_ret
    exact ⟨by rw [HV.out]; rfl, rfl⟩
  rw [decide_eq_false d3] at q3
  by_cases d4 : n = ⟨#[120, 109, 112]⟩
  · rw [decide_eq_true d4] at q4
    have HV : Hid (rawC n = 2) := Lib.hid (by unfold rawC; rw [if_neg d0, if_neg d1, if_neg d2, if_neg d3, if_pos d4])
    clear d0 d1 d2 d3 d4
    go_wp2_with fail
    go_ret
    exact ⟨by rw [HV.out]; rfl, rfl⟩
  rw [decide_eq_false d4] at q4
  by_cases d5 : n = ⟨#[105, 102, 114, 97, 109, 101]⟩
  · rw [decide_eq_true d5] at q5
    have HV : Hid (rawC n = 2) := Lib.hid (by unfold rawC; rw [if_neg d0, if_neg d1, if_neg d2, if_neg d3, if_neg d4, if_pos d5])
    clear d0 d1 d2 d3 d4 d5
    go_wp2_with fail
    go_ret
    exact ⟨by rw [HV.out]; rfl, rfl⟩
  rw [decide_eq_false d5] at q5
  by_cases d6 : n = ⟨#[110, 111, 101, 109, 98, 101, 100]⟩
  · rw [decide_eq_true d6] at q6
    have HV : Hid (rawC n = 2) := Lib.hid (by unfold rawC; rw [if_neg d0, if_neg d1, if_neg d2, if_neg d3, if_neg d4, if_neg d5, if_pos d6])
    clear d0 d1 d2 d3 d4 d5 d6
    go_wp2_with fail
    go_ret
    exact ⟨by rw [HV.out]; rfl, rfl⟩
  rw [decide_eq_false d6] at q6
  by_cases d7 : n = ⟨#[110, 111, 102, 114, 97, 109, 101, 115]⟩
  · rw [decide_eq_true d7] at q7
    have HV : Hid (rawC n = 2) := Lib.hid (by unfold rawC; rw [if_neg d0, if_neg d1, if_neg d2, if_neg d3, if_neg d4, if_neg d5, if_neg d6, if_pos d7])
    clear d0 d1 d2 d3 d4 d5 d6 d7
    go_wp2_with fail
    go_ret
    exact ⟨by rw [HV.out]; rfl, rfl⟩
  rw [decide_eq_false d7] at q7
  have HV : Hid (rawC n = 0) := Lib.hid (by unfold rawC; rw [if_neg d0, if_neg d1, if_neg d2, if_neg d3, if_neg d4, if_neg d5, if_neg d6, if_neg d7])
  clear d0 d1 d2 d3 d4 d5 d6 d7
  go_wp2_with fail
  go_ret
  exact ⟨by rw [HV.out]; rfl, rfl⟩
end Go.Proofs.YtbjcahhijfommaaGreatDoor.Tr
namespace Go.Proofs.YtbjcahhijfommaaGreatDoor.Tr
open Go Go.RowKit
set_option linter.unusedVariables false
def srcB (l : List UInt8) : ByteArray := ⟨l.toArray⟩
theorem srcB_size (l : List UInt8) : (srcB l).size = l.length := by show l.toArray.size = _; simp
theorem srcB_app (a b : List UInt8) : srcB a ++ srcB b = srcB (a ++ b) := by
  apply Ch.of_list
  rw [Ch.app_list]; rfl
theorem srcB_of (s : ByteArray) : srcB s.data.toList = s := by cases s; rfl
/-- A node's source, so far. -/
def RtC (mm : Nat) : Prop := ∀ (t : Nd) (raw : Bool) (v0 v1 v2 v3 v4 : Value) (w : World), cntT t ≤ mm → fitT t → IsTree w w.heap.size t v0 v1 v2 v3 v4 →
  Calls Tryz.prog 18 #[.agg #[v0, v1, v2, v3, v4], .bool raw] w fun e w' => e = .returned (.string (srcB (sayT raw t))) ∧ Below w.heap.size w w'
theorem sayL_snoc {raw : Bool} {ks : List Nd} {j : Nat} {t : Nd} (h : ks[j]? = some t) : srcB (sayL raw (ks.take j)) ++ srcB (sayT raw t) = srcB (sayL raw (ks.take (j + 1))) := by
  rw [srcB_app, List.take_add_one, h, sayL_append]
  simp [sayL]
theorem cntL_take1 (ks : List Nd) (j : Nat) : cntL (ks.take j) ≤ cntL ks := by
  induction ks generalizing j with
  | nil => simp
  | cons x xs ih =>
    cases j with
    | zero => simp [cntL]
    | succ j => simp only [List.take_succ_cons, cntL]; have := ih j; omega
theorem fitL_take1 {ks : List Nd} (h : fitL ks) (j : Nat) : fitL (ks.take j) := by
  induction ks generalizing j with
  | nil => simpa using h
  | cons x xs ih =>
    unfold fitL at h
    cases j with
    | zero => simp [fitL]
    | succ j => simp only [List.take_succ_cons, fitL]; exact ⟨h.1, ih h.2 j⟩
set_option maxHeartbeats 4000000 in
set_option maxRecDepth 100000 in
theorem rkids_calls (mm : Nat) (hmm : mm ≤ 1000) (IH : RtC mm) (k : Int) (n s : ByteArray) (al : List (ByteArray × ByteArray)) (ks : List Nd) (raw : Bool) (v0 v1 v2 v3 v4 : Value) (w : World) (hc : cntL ks ≤ mm) (hf : fitL ks) (h : IsTree w w.heap.size (.mk k n s al ks) v0 v1 v2 v3 v4) :
    Calls Tryz.prog 25 #[.agg #[v0, v1, v2, v3, v4], .bool raw] w fun e w' => e = .returned (.string (srcB (sayL raw ks))) ∧ Below w.heap.size w w' := by
  unfold IsTree at h
  obtain ⟨rfl, rfl, rfl, _, _, _, A, ac, K, kc, rfl, rfl, _, h1, h2, h3⟩ := h
  have HK := Lib.hid (kidsAt_of h3)
  have HF := Lib.hid hf
  have HIH := Lib.hid IH
  have HB1 : Hid (Below w.heap.size w (w.alloc (.cells #[.int .i64 k, .string n, .string s, .slice A al.length ac, .slice K ks.length kc] 25))) := Lib.hid ((Below.refl _ w).alloc (Nat.le_refl _) _)
  have HL1 := Lib.hid (alloc_new w (.cells #[.int .i64 k, .string n, .string s, .slice A al.length ac, .slice K ks.length kc] 25))
  clear h3 hf IH
  go_enter Tryz.func25, Tryz.ntmps25
  go_wp2_with fail
  generalize w.alloc (.cells #[.int .i64 k, .string n, .string s, .slice A al.length ac, .slice K ks.length kc] 25) = w1 at HB1 HL1 ⊢
  go_loopw [5, 6] (fun st i wr => ∃ j : Nat, j ≤ ks.length ∧ st = .string (srcB (sayL raw (ks.take j))) ∧ i = .int .i64 (j : Int) ∧ Below w1.heap.size w1 wr) (fun _ i _ => ks.length - (intOf i).toNat)
  case atStart => exact ⟨0, Nat.zero_le _, by simp [sayL, srcB], rfl, Below.refl _ _⟩
  case round =>
    obtain ⟨j, hj, rfl, rfl, hbr⟩ := hrel
    have HBR := Lib.hid (HB1.out.trans (hbr.mono HB1.out.size))
    have HBQ := Lib.hid hbr
    have q4 := (box5 ((hbr.block _ (lt_of_block HL1.out)).trans HL1.out)).2.2.2.2
    clear hbr
    by_cases hjl : j < ks.length
    · obtain ⟨t, ht⟩ : ∃ t, ks[j]? = some t := ⟨_, List.getElem?_eq_getElem hjl⟩
      obtain ⟨kb, ko, rfl, hkb, x0, x1, x2, x3, x4, c0, c1, c2, c3, c4, htr⟩ := HK.out.below HBR.out j t ht
      have hjz : (j : Int) < (ks.length : Int) := by omega
      have hw : wrap64 ((j : Int) + 1) = ((j + 1 : Nat) : Int) := by unfold maxLen at h2; unfold wrap64; omega
      have hct := cntL_mem ht
      have hft := fitL_at HF.out ht
      have hz1 : (srcB (sayL raw (ks.take j))).size ≤ 1000000000 := by
        rw [srcB_size]
        have := sayL_len raw _ (fitL_take1 HF.out j)
        have := cntL_take1 ks j
        omega
      have hz2 : (srcB (sayT raw t)).size ≤ 1000000000 := by
        rw [srcB_size]
        have := sayT_len raw t hft
        omega
      have HC := Lib.hid (HIH.out t raw _ _ _ _ _ wr (by omega) hft (htr.keep (fun p hp => rfl) HBR.out.size))
      have HSN := Lib.hid (sayL_snoc (raw := raw) ht)
      clear ht hft hct
      generalize srcB (sayT raw t) = st at *
      generalize srcB (sayL raw (ks.take j)) = sj at *
      cases t with
      | mk k' n' s' al' ks' =>
        unfold IsTree at htr
        obtain ⟨rfl, rfl, rfl, _, _, _, A', ac', K', kc', rfl, rfl, _, _, _, _⟩ := htr
        go_wp2_with fail
        refine HC.out.mono ?_
        rintro e w4 ⟨rfl, hb4⟩
        have HB4 := Lib.hid (HBQ.out.trans (hb4.mono HBQ.out.size))
        clear hb4
        go_wp2_with fail
        have HW := Lib.hid hw
        have HJL := Lib.hid hjl
        clear hz1 hz2 hw hjz h2
        go_roundw
        case rel => exact ⟨j + 1, HJL.out, by rw [HSN.out], by rw [HW.out], HB4.out⟩
        case measure => simp only [HW.out]; exact meas_lt HJL.out
    · obtain rfl : j = ks.length := by omega
      have hjz : ¬ ((ks.length : Int) < (ks.length : Int)) := by omega
      have hss : srcB (sayL raw (ks.take ks.length)) = srcB (sayL raw ks) := by rw [List.take_length]
      rw [hss]
      clear hss
      obtain ⟨sa, hsa⟩ : ∃ sa, srcB (sayL raw ks) = sa := ⟨_, rfl⟩
      have HSA := Lib.hid hsa
      rw [hsa]
      clear hsa
      go_wp2_with fail
      go_ret
      exact ⟨by rw [HSA.out]; rfl, HBR.out⟩
/-- An element's tag, so far. -/
def tagS (n : ByteArray) (al : List (ByteArray × ByteArray)) (i : Nat) : ByteArray := srcB ([60] ++ n.data.toList ++ sayAs (al.take i))
theorem sayAs_append (a b : List (ByteArray × ByteArray)) : sayAs (a ++ b) = sayAs a ++ sayAs b := by
  induction a with
  | nil => rfl
  | cons x xs ih => simp [sayAs, ih]
theorem tag_zero (n : ByteArray) (al : List (ByteArray × ByteArray)) : (⟨#[60]⟩ : ByteArray) ++ n = tagS n al 0 := by
  unfold tagS
  apply Ch.of_list
  rw [Ch.app_list]
  simp [sayAs]
theorem tag_succ {n : ByteArray} {al : List (ByteArray × ByteArray)} {i : Nat} {a : ByteArray × ByteArray} (h : al[i]? = some a) : tagS n al i ++ ⟨#[32]⟩ ++ a.1 ++ ⟨#[61, 34]⟩ ++ Gr.escB true a.2 ++ ⟨#[34]⟩ = tagS n al (i + 1) := by
  unfold tagS
  apply Ch.of_list
  simp only [Ch.app_list]
  rw [List.take_add_one, h, sayAs_append]
  simp [sayAs, sayAt, srcB]
theorem tag_size {n : ByteArray} {al : List (ByteArray × ByteArray)} (hn : n.size ≤ 6000) (hl : al.length ≤ 20) (ha : ∀ a ∈ al, a.1.size ≤ 6000 ∧ a.2.size ≤ 6000) (i : Nat) : (tagS n al i).size ≤ 1000000 := by
  unfold tagS
  rw [srcB_size]
  have h1 := sayAs_len (al.take i) fun a h => ha a (List.mem_of_mem_take h)
  have h2 : (al.take i).length ≤ 20 := by rw [List.length_take]; omega
  have h3 : n.data.toList.length = n.size := rfl
  simp only [List.length_append, List.length_cons, List.length_nil]
  omega
theorem el_void {n s : ByteArray} {al : List (ByteArray × ByteArray)} {ks : List Nd} {raw : Bool} (h : voidB n = true) : tagS n al al.length ++ ⟨#[62]⟩ = srcB (sayT raw (.mk 2 n s al ks)) := by
  unfold tagS
  refine Ch.of_list ?_
  rw [Ch.app_list, List.take_length]
  unfold sayT
  simp [h, srcB]
theorem el_full {n s : ByteArray} {al : List (ByteArray × ByteArray)} {ks : List Nd} {raw : Bool} (h : voidB n = false) : tagS n al al.length ++ ⟨#[62]⟩ ++ srcB (sayL (rawB n) ks) ++ ⟨#[60, 47]⟩ ++ n ++ ⟨#[62]⟩ = srcB (sayT raw (.mk 2 n s al ks)) := by
  unfold tagS
  refine Ch.of_list ?_
  simp only [Ch.app_list]
  rw [List.take_length]
  unfold sayT
  simp [h, srcB]
attribute [irreducible] tagS
end Go.Proofs.YtbjcahhijfommaaGreatDoor.Tr
namespace Go.Proofs.YtbjcahhijfommaaGreatDoor.Tr
open Go Go.RowKit
set_option linter.unusedVariables false
theorem rt5 {raw : Bool} {n s : ByteArray} {al : List (ByteArray × ByteArray)} {ks : List Nd} : (⟨#[60, 33, 68, 79, 67, 84, 89, 80, 69, 32]⟩ : ByteArray) ++ n ++ ⟨#[62]⟩ = srcB (sayT raw (.mk 5 n s al ks)) := by
  refine Ch.of_list ?_
  simp only [Ch.app_list]
  unfold sayT
  simp [dtH]
theorem rt4 {raw : Bool} {n s : ByteArray} {al : List (ByteArray × ByteArray)} {ks : List Nd} : (⟨#[60, 33, 45, 45]⟩ : ByteArray) ++ s ++ ⟨#[45, 45, 62]⟩ = srcB (sayT raw (.mk 4 n s al ks)) := by
  refine Ch.of_list ?_
  simp only [Ch.app_list]
  unfold sayT
  simp
theorem rt3 {n s : ByteArray} {al : List (ByteArray × ByteArray)} {ks : List Nd} : srcB (sayT true (.mk 3 n s al ks)) = s := by
  unfold sayT; simp [srcB]
theorem rt3e {n s : ByteArray} {al : List (ByteArray × ByteArray)} {ks : List Nd} : srcB (sayT false (.mk 3 n s al ks)) = Gr.escB false s := by
  unfold sayT; simp [srcB]
theorem rt1 {raw : Bool} {n s : ByteArray} {al : List (ByteArray × ByteArray)} {ks : List Nd} : sayT raw (.mk 1 n s al ks) = sayL false ks := by
  unfold sayT; rw [if_pos rfl]
set_option maxHeartbeats 8000000 in
set_option maxRecDepth 100000 in
theorem rtext_step (mm : Nat) (hmm : mm ≤ 1000) (IH : RtC mm) : RtC (mm + 1) := by
  intro t raw v0 v1 v2 v3 v4 w hc hf h
  cases t with
  | mk k n s al ks =>
  have HIT := Lib.hid h
  have hck : cntL ks ≤ mm := by unfold cntT at hc; omega
  unfold fitT at hf
  obtain ⟨f1, f2, f3, f4, f5⟩ := hf
  have HF4 := Lib.hid f4
  have HF5 := Lib.hid f5
  unfold IsTree at h
  obtain ⟨rfl, rfl, rfl, _, _, _, A, ac, K, kc, rfl, rfl, hA, h1, h2, h3⟩ := h
  have HA := Lib.hid (atsAt_of hA)
  have hac := hA.1
  have hac2 := hA.2.1
  have HB1 : Hid (Below w.heap.size w (w.alloc (.cells #[.int .i64 k, .string n, .string s, .slice A al.length ac, .slice K ks.length kc] 25))) := Lib.hid ((Below.refl _ w).alloc (Nat.le_refl _) _)
  have HL1 := Lib.hid (alloc_new w (.cells #[.int .i64 k, .string n, .string s, .slice A al.length ac, .slice K ks.length kc] 25))
  have HKC : Hid (∀ (b : Bool) (W : World), Below w.heap.size w W → Calls Tryz.prog 25 #[.agg #[.int .i64 k, .string n, .string s, .slice A al.length ac, .slice K ks.length kc], .bool b] W fun e w' => e = .returned (.string (srcB (sayL b ks))) ∧ Below W.heap.size W w') :=
    Lib.hid fun b W hb => rkids_calls mm hmm IH k n s al ks b _ _ _ _ _ W hck HF5.out (HIT.out.keep (fun p hp => hb.cell hp) hb.size)
  clear hA h1 h2 h3 f4 f5 hc
  go_enter Tryz.func18, Tryz.ntmps18
  by_cases k5 : k = 5
  · subst k5
    rw [← rt5]
    go_wp2_with fail
    go_ret
    exact ⟨rfl, HB1.out⟩
  have n5 : (k == 5) = false := beq_eq_false_iff_ne.2 k5
  by_cases k4 : k = 4
  · subst k4
    rw [← rt4]
    clear n5
    go_wp2_with fail
    go_ret
    exact ⟨rfl, HB1.out⟩
  have n4 : (k == 4) = false := beq_eq_false_iff_ne.2 k4
  by_cases k3 : k = 3
  · subst k3
    clear n5 n4
    cases raw with
    | true =>
      rw [rt3]
      go_wp2_with fail
      go_ret
      exact ⟨rfl, HB1.out⟩
    | false =>
      rw [rt3e]
      have HE := Lib.hid (fun W => Ch.rescape_calls s (by omega) false W)
      go_wp2_with fail
      refine (HE.out _).mono ?_
      rintro e w2 ⟨rfl, rfl⟩
      go_wp2_with fail
      go_ret
      exact ⟨rfl, HB1.out⟩
  have n3 : (k == 3) = false := beq_eq_false_iff_ne.2 k3
  by_cases k1 : k = 1
  · subst k1
    clear n5 n4 n3
    rw [rt1]
    go_wp2_with fail
    refine (HKC.out false _ HB1.out).mono ?_
    rintro e w2 ⟨rfl, hb2⟩
    have HB2 := Lib.hid (HB1.out.trans (hb2.mono HB1.out.size))
    clear hb2
    go_wp2_with fail
    go_ret
    exact ⟨rfl, HB2.out⟩
  have n1 : (k == 1) = false := beq_eq_false_iff_ne.2 k1
  by_cases k2 : k = 2
  · subst k2
    clear n5 n4 n3 n1 k1 k3 k4 k5
    go_upto_region 14 with (fail)
    rw [tag_zero n al]
    generalize w.alloc (.cells #[.int .i64 2, .string n, .string s, .slice A al.length ac, .slice K ks.length kc] 25) = w1 at HB1 HL1 ⊢
    go_wp2_with fail
    go_loopw [5, 6] (fun st i wr => ∃ j : Nat, j ≤ al.length ∧ st = .string (tagS n al j) ∧ i = .int .i64 (j : Int) ∧ Below w1.heap.size w1 wr) (fun _ i _ => al.length - (intOf i).toNat)
    case atStart => exact ⟨0, Nat.zero_le _, rfl, rfl, Below.refl _ _⟩
    case round =>
      obtain ⟨j, hj, rfl, rfl, hbr⟩ := hrel
      have HBR := Lib.hid hbr
      have HBZ := Lib.hid (HB1.out.trans (hbr.mono HB1.out.size))
      have HLR := Lib.hid ((hbr.block _ (lt_of_block HL1.out)).trans HL1.out)
      clear hbr
      obtain ⟨q0, q1, q2, q3, q4⟩ := box5 HLR.out
      by_cases hjl : j < al.length
      · obtain ⟨x, hx⟩ : ∃ x, al[j]? = some x := ⟨_, List.getElem?_eq_getElem hjl⟩
        obtain ⟨ab, ao, rfl, hab, c0, c1⟩ := HA.out.below HBZ.out j x hx
        have hjz : (j : Int) < (al.length : Int) := by omega
        have hxs := HF4.out x (List.mem_of_getElem? hx)
        have hx1 := hxs.1
        have HE := Lib.hid (fun W => Ch.rescape_calls x.2 (by have := hxs.2; omega) true W)
        have he : (Gr.escB true x.2).size ≤ 40000 := esc_cut true hxs.2
        have HTG := Lib.hid (tag_succ (n := n) hx)
        have hts := tag_size f2 f1 HF4.out j (n := n)
        generalize Gr.escB true x.2 = ex at *
        obtain ⟨xa, xb⟩ := x
        have hx2 : xa.size ≤ 6000 := hx1
        clear hx hxs hx1
        generalize htj : tagS n al j = tj at *
        clear htj
        go_upto_region 17 with (fail)
        replace q3 := cell_regrown q3
        replace c0 := cell_regrown c0
        replace c1 := cell_regrown c1
        clear q0 q1 q2 q4
        refine Kr.wp_region_R [(16, fun v _ => v = .string ex)] mixedY (by kernel_rfl) ?_
        repeat (refine Kr.wpR_one rfl rfl ?_; go_big_quiet_step (fail); refine wpQuiet_nil ?_)
        refine Kr.wpR_call _ rfl rfl rfl ?_ ?_
        · intro W hW hk
          go_simp
          refine Kr.upMany_enter ((HE.out W).mono ?_)
          rintro e w' ⟨rfl, rfl⟩
          exact ⟨_, rfl, rfl, Below.refl _ _⟩
        rintro v ⟨_, _, _, _, hS, _⟩
        obtain rfl := hS
        go_frame
        repeat (refine Kr.wpR_one rfl rfl ?_; go_big_quiet_step (fail); refine wpQuiet_nil ?_)
        refine Kr.wpR_nil ?_
        intro w3 hb3 _
        have HB3 := Lib.hid (HBR.out.trans (hb3.mono HBR.out.size))
        clear hb3
        go_wp2_with fail
        go_roundw
        case rel => exact ⟨j + 1, by omega, by rw [HTG.out], by go_num, HB3.out⟩
        case measure => simp [intOf]; omega
      · obtain rfl : j = al.length := by omega
        have hjz : ¬ ((al.length : Int) < (al.length : Int)) := by omega
        have hts := tag_size f2 f1 HF4.out al.length (n := n)
        cases hv : voidB n with
        | true =>
          have HEL := Lib.hid (el_void (s := s) (al := al) (ks := ks) (raw := raw) hv)
          have HI : Hid (∀ W, Calls Tryz.prog 26 #[.string n, .int .i64 1] W fun e w' => e = .returned (.bool true) ∧ Below W.heap.size W w') := Lib.hid fun W => by rw [← hv]; exact ris_calls n W
          generalize tagS n al al.length = tj at *
          clear hv
          go_wp2_with fail
          refine (HI.out _).mono ?_
          rintro e w4 ⟨rfl, hb4⟩
          have HB4 := Lib.hid (HBZ.out.trans (hb4.mono HBZ.out.size))
          clear hb4
          go_wp2_with fail
          go_ret
          exact ⟨by rw [← HEL.out]; rfl, HB4.out⟩
        | false =>
          have HEL := Lib.hid (el_full (s := s) (al := al) (ks := ks) (raw := raw) hv)
          have HI : Hid (∀ W, Calls Tryz.prog 26 #[.string n, .int .i64 1] W fun e w' => e = .returned (.bool false) ∧ Below W.heap.size W w') := Lib.hid fun W => by rw [← hv]; exact ris_calls n W
          have hss : (srcB (sayL (rawB n) ks)).size ≤ 1000000000 := by
            rw [srcB_size]
            have := sayL_len (rawB n) _ HF5.out
            omega
          have HKR : Hid (∀ (W : World), Below w.heap.size w W → Calls Tryz.prog 25 #[.agg #[.int .i64 2, .string n, .string s, .slice A al.length ac, .slice K ks.length kc], .bool (rawI n == 2)] W fun e w' => e = .returned (.string (srcB (sayL (rawB n) ks))) ∧ Below W.heap.size W w') := HKC.out (rawB n) |> Lib.hid
          have HRW := Lib.hid (rraw_calls n)
          generalize tagS n al al.length = tj at *
          generalize srcB (sayL (rawB n) ks) = ss at *
          generalize rawI n = ri at *
          clear hv HKC
          go_wp2_with fail
          refine (HI.out _).mono ?_
          rintro e w4 ⟨rfl, hb4⟩
          have HB4 := Lib.hid (HBZ.out.trans (hb4.mono HBZ.out.size))
          have hl4 := (hb4.block _ (lt_of_block HLR.out)).trans HLR.out
          clear hb4 q0 q1 q2 q3 q4
          obtain ⟨q0, q1, q2, q3, q4⟩ := box5 hl4
          replace q0 := cell_regrown q0
          replace q1 := cell_regrown q1
          replace q2 := cell_regrown q2
          replace q3 := cell_regrown q3
          replace q4 := cell_regrown q4
          clear hl4
          go_upto_region 20 with (fail)
          refine Kr.wp_region_R [(5, fun v _ => v = .int .i64 ri), (7, fun v _ => v = .string ss)] mixedY (by kernel_rfl) ?_
          repeat (refine Kr.wpR_one rfl rfl ?_; go_big_quiet_step (fail); refine wpQuiet_nil ?_)
          refine Kr.wpR_call _ rfl rfl rfl ?_ ?_
          · intro W hW hk
            go_simp
            refine Kr.upMany_enter ((HRW.out W).mono ?_)
            rintro e w' ⟨rfl, rfl⟩
            exact ⟨_, rfl, rfl, Below.refl _ _⟩
          rintro v ⟨_, _, _, _, hS, _⟩
          obtain rfl := hS
          go_frame
          repeat (refine Kr.wpR_one rfl rfl ?_; go_big_quiet_step (fail); refine wpQuiet_nil ?_)
          refine Kr.wpR_call _ rfl rfl rfl ?_ ?_
          · intro W hW hk
            have HLL := Lib.hid (HB4.out.trans ((Kr.later_iff.1 hW).mono HB4.out.size))
            go_simp
            refine Kr.upMany_enter ((HKR.out W HLL.out).mono ?_)
            rintro e w' ⟨rfl, hbb⟩
            exact ⟨_, rfl, rfl, hbb⟩
          rintro v ⟨_, _, _, _, hS, _⟩
          obtain rfl := hS
          go_frame
          repeat (refine Kr.wpR_one rfl rfl ?_; go_big_quiet_step (fail); refine wpQuiet_nil ?_)
          refine Kr.wpR_nil ?_
          intro w5 hb5 _
          have HB5 := Lib.hid (HB4.out.trans (hb5.mono HB4.out.size))
          clear hb5
          go_wp2_with fail
          go_ret
          exact ⟨by rw [← HEL.out]; rfl, HB5.out⟩
  have n2 : (k == 2) = false := beq_eq_false_iff_ne.2 k2
  have e : sayT raw (.mk k n s al ks) = [] := by unfold sayT; rw [if_neg k1, if_neg k5, if_neg k4, if_neg k3, if_neg k2]
  rw [e]
  clear k1 k2 k3 k4 k5
  go_wp2_with fail
  go_ret
  exact ⟨rfl, HB1.out⟩
theorem rtext_all : ∀ mm, mm ≤ 1000 → RtC mm
  | 0, _ => fun t _ _ _ _ _ _ _ h => by have := cntT_pos t; omega
  | mm + 1, h => rtext_step mm (by omega) (rtext_all mm (by omega))
/-- The document's source of a tree. -/
theorem rText_calls (t : Nd) (v0 v1 v2 v3 v4 : Value) (w : World) (hc : cntT t ≤ 1000) (hf : fitT t) (h : IsTree w w.heap.size t v0 v1 v2 v3 v4) :
    Calls Tryz.prog 11 #[.agg #[v0, v1, v2, v3, v4]] w fun e w' => e = .returned (.string (srcB (sayT false t))) ∧ Below w.heap.size w w' := by
  have HC : Hid (∀ o, Calls Tryz.prog 18 #[.agg #[v0, v1, v2, v3, v4], .bool false] (w.alloc o) fun e w' => e = .returned (.string (srcB (sayT false t))) ∧ Below (w.alloc o).heap.size (w.alloc o) w') := Lib.hid fun o => by
    have hb : Below w.heap.size w (w.alloc o) := (Below.refl _ w).alloc (Nat.le_refl _) _
    exact rtext_all 1000 (Nat.le_refl _) t false _ _ _ _ _ _ hc hf (h.keep (fun p hp => hb.cell hp) hb.size)
  generalize srcB (sayT false t) = ss at *
  clear hc hf
  cases t with
  | mk k n s al ks =>
  unfold IsTree at h
  obtain ⟨rfl, rfl, rfl, _, _, _, A, ac, K, kc, rfl, rfl, _, _, _, _⟩ := h
  have HB1 : Hid (Below w.heap.size w (w.alloc (.cells #[.int .i64 k, .string n, .string s, .slice A al.length ac, .slice K ks.length kc] 25))) := Lib.hid ((Below.refl _ w).alloc (Nat.le_refl _) _)
  go_enter Tryz.func11, Tryz.ntmps11
  go_wp2_with fail
  refine (HC.out _).mono ?_
  rintro e w2 ⟨rfl, hb2⟩
  have HB2 := Lib.hid (HB1.out.trans (hb2.mono HB1.out.size))
  clear hb2
  go_wp2_with fail
  go_ret
  exact ⟨rfl, HB2.out⟩
end Go.Proofs.YtbjcahhijfommaaGreatDoor.Tr
