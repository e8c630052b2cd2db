/- The program's Clean. -/
import Derived.Test.YthodiccmanjpkaaDoorPlainR
import Derived.Test.YthodiccmanjpkaaDoorBld
import Derived.WalkKit
import Derived.BigCall
import Derived.Lib.Hide
import Derived.BigQuiet
import Derived.Outline
import Derived.Deep.QuietTactic
namespace Go.Proofs.YthodiccmanjpkaaDoor.Ru
open Go Go.RowKit Go.Lib Go.Proofs.YthodiccmanjpkaaDoor.Bd
set_option linter.unusedVariables false

theorem step_zero (s : ByteArray) (pos : Nat) (hp : pos < s.size) (h : (Utf8.decode s pos).1 = 0) : cleanAt s pos = fffd ++ cleanAt s (pos + (Utf8.decode s pos).2) := by rw [cleanAt_step s pos hp, if_pos h]
theorem step_13 (s : ByteArray) (pos : Nat) (hp : pos < s.size) (h : (Utf8.decode s pos).1 = 13) : cleanAt s pos = [10] ++ cleanAt s (pos + (Utf8.decode s pos).2) := by rw [cleanAt_step s pos hp, if_neg (by omega), if_pos h]
theorem step_10 (s : ByteArray) (pos : Nat) (hp : pos < s.size) (h : (Utf8.decode s pos).1 = 10) (hq : prev s pos = true) : cleanAt s pos = cleanAt s (pos + (Utf8.decode s pos).2) := by rw [cleanAt_step s pos hp, if_neg (by omega), if_neg (by omega), if_pos ⟨h, hq⟩, List.nil_append]
theorem step_rune (s : ByteArray) (pos : Nat) (hp : pos < s.size) (h0 : (Utf8.decode s pos).1 ≠ 0) (h13 : (Utf8.decode s pos).1 ≠ 13) (h10 : (Utf8.decode s pos).1 ≠ 10 ∨ prev s pos = false) : cleanAt s pos = encodeRune ((Utf8.decode s pos).1 : Int) ++ cleanAt s (pos + (Utf8.decode s pos).2) := by
  rw [cleanAt_step s pos hp, if_neg h0, if_neg h13, if_neg (by rintro ⟨a, b⟩; rcases h10 with h | h; exact h a; rw [h] at b; cases b)]

theorem prev_succ (s : ByteArray) (k : Nat) (hk : k < s.size) : prev s (k + 1) = ((s[k].toNat : Int) == 13) := by
  unfold prev
  rw [Nat.add_sub_cancel, Lib.getD_get!', show s.get! k = s[k] from get_at s k hk]
  have : (s[k] = 13) ↔ (s[k].toNat : Int) = 13 := by
    rw [← UInt8.toNat_inj]; simp; omega
  by_cases h : s[k] = 13
  · have h2 := this.1 h
    rw [h2, h]; simp
  · have h2 : ¬ (s[k].toNat : Int) = 13 := fun e => h (this.2 e)
    rw [beq_eq_false_iff_ne.2 h2]; simp [h]

set_option maxHeartbeats 4000000 in
set_option maxRecDepth 1000000 in
theorem clean_calls (s : ByteArray) (w : World) (hs : s.size ≤ 35184372088832) :
    Calls Tryd.prog 10 #[.string s] w fun e w' => e = .returned (.string ⟨(clean s.data.toList).toArray⟩) ∧ Below w.heap.size w w' := by
  have H0 : Hid _ := Lib.hid (cleanAt_zero s)
  go_enter Tryd.func10, Tryd.ntmps10
  go_wp2
  go_loopw [] (fun wr => ∃ (pos : Nat) (acc : List UInt8), Lib.IsBuilderF 35 5 w.heap.size w.heap.size (Lib.byteCells acc) wr ∧ wr.heap[w.heap.size + 1]? = some (.stringIter s pos) ∧ Below w.heap.size w wr ∧ Hid (acc ++ cleanAt s pos = cleanAt s 0) ∧ acc.length ≤ 4 * pos) (fun wr => s.size - wr.iterPos (w.heap.size + 1))
  case atStart =>
    refine ⟨0, [], (Lib.IsBuilderF.of (Lib.fresh_isBuilder 35 5 w)).alloc _, ?_, ((Below.refl _ w).alloc (Nat.le_refl _) _).alloc (by simp) _, Lib.hid rfl, by simp⟩
    have := World.iter_heap (w.alloc (.cells #[.pointer none, .slice none 0 0] 35)) s 0
    simpa using this
  case round =>
    obtain ⟨pos, acc, hI, hit, hbw, HA, hal⟩ := hrel
    have hsz : w.heap.size + 1 < wr.heap.size := (Array.getElem?_eq_some_iff.1 hit).1
    by_cases hp : pos < s.size
    · have hnx : ∀ ty, (Instr.next (.pointer (some ⟨w.heap.size + 1, 0, none⟩)) true ty).run Tryd.prog wr = _ := fun ty => Lib.run_next_any_at wr (w.heap.size + 1) s pos ty hit hp
      have hwd := Lib.width_pos s pos
      have hd1 := decode_le s pos
      have hI2 := hI.iterAt hit (pos + (Utf8.decode s pos).2)
      have hit2 := Lib.iterAt_heap wr (w.heap.size + 1) s pos (pos + (Utf8.decode s pos).2) hit
      have hbw2 := Lib.below_iterAt hbw (k := w.heap.size + 1) (by omega) s (pos + (Utf8.decode s pos).2)
      have hsz2 : w.heap.size ≤ (wr.iterAt (w.heap.size + 1) s (pos + (Utf8.decode s pos).2)).heap.size := by rw [Lib.iterAt_size]; omega
      have HI2 := Lib.hid hit2
      have HI0 := Lib.hid hit
      have HS0 : Hid _ := Lib.hid (step_zero s pos hp)
      have HS1 : Hid _ := Lib.hid (step_13 s pos hp)
      have HS2 : Hid _ := Lib.hid (step_10 s pos hp)
      have HS3 : Hid _ := Lib.hid (step_rune s pos hp)
      clear hit hit2
      by_cases e0 : (Utf8.decode s pos).1 = 0
      · have HE := Lib.hid e0
        clear e0
        have t0 : (((Utf8.decode s pos).1 : Int) == 0) = true := by rw [HE.out]; rfl
        go_wp2_with fail
        refine (b_rune w.heap.size w.heap.size _ 65533 (by omega) (by omega) _ hI2 (by rw [Lib.byteCells_length]; omega) hsz2).mono ?_
        rintro e W1 ⟨rfl, h1, b1, k1⟩
        go_wp2
        go_roundw
        case rel =>
          refine ⟨pos + (Utf8.decode s pos).2, acc ++ fffd, ?_, k1.iter HI2.out (by omega), hbw2.trans b1, Lib.hid ?_, ?_⟩
          · rw [Lib.byteCells_append]; exact Or.inr h1
          · rw [List.append_assoc, ← HS0.out HE.out]; exact HA.out
          · rw [List.length_append, show fffd.length = 3 from rfl]; omega
        case measure =>
          simp only [World.iterPos, k1.iter HI2.out (by omega), HI0.out]
          omega
      have n0 : (((Utf8.decode s pos).1 : Int) == 0) = false := by simp; omega
      by_cases e13 : (Utf8.decode s pos).1 = 13
      · have HE := Lib.hid e13
        have HE0 := Lib.hid e0
        clear e13 e0
        have t0 : (((Utf8.decode s pos).1 : Int) == 13) = true := by rw [HE.out]; rfl
        go_wp2_with fail
        refine (b_byte w.heap.size w.heap.size _ 10 _ hI2 (by rw [Lib.byteCells_length]; omega) hsz2).mono ?_
        rintro e W1 ⟨rfl, h1, b1, k1⟩
        go_wp2
        go_roundw
        case rel =>
          refine ⟨pos + (Utf8.decode s pos).2, acc ++ [10], ?_, k1.iter HI2.out (by omega), hbw2.trans b1, Lib.hid ?_, ?_⟩
          · rw [Lib.byteCells_append]; exact Or.inr h1
          · rw [List.append_assoc, ← HS1.out HE.out]; exact HA.out
          · rw [List.length_append]; simp only [List.length_cons, List.length_nil]; omega
        case measure =>
          simp only [World.iterPos, k1.iter HI2.out (by omega), HI0.out]
          omega
      have n13 : (((Utf8.decode s pos).1 : Int) == 13) = false := by simp; omega
      have HE0 := Lib.hid e0
      have HE13 := Lib.hid e13
      clear e0 e13
      by_cases e10 : (Utf8.decode s pos).1 = 10
      · have t0 : (((Utf8.decode s pos).1 : Int) == 10) = true := by rw [e10]; rfl
        have HE := Lib.hid e10
        clear e10
        cases pos with
        | zero =>
          have HQ : Hid _ := Lib.hid (show prev s 0 = false from rfl)
          rw [Nat.zero_add] at hI2
          have hl4 := Lib.runeCells_le ((Utf8.decode s 0).1 : Int)
          rw [Lib.runeCells_length] at hl4
          go_wp2_with fail
          refine (b_rune w.heap.size w.heap.size _ _ (by omega) (by omega) _ hI2 (by rw [Lib.byteCells_length]; omega) (by simpa using hsz2)).mono ?_
          rintro e W1 ⟨rfl, h1, b1, k1⟩
          have HI3 := HI2.out
          rw [Nat.zero_add] at HI3
          have HK := Lib.hid (k1.iter HI3 (by omega))
          clear HI3
          go_wp2
          go_roundw
          case rel =>
            refine ⟨(Utf8.decode s 0).2, acc ++ Lib.encodeRune (Utf8.decode s 0).1, ?_, HK.out, ?_, Lib.hid ?_, by simp; omega⟩
            · rw [Lib.byteCells_append, Lib.byteCells_encodeRune]; exact Or.inr h1
            · rw [Nat.zero_add] at hbw2; exact hbw2.trans b1
            · have := HS3.out HE0.out HE13.out (.inr HQ.out)
              rw [Nat.zero_add] at this
              rw [List.append_assoc, ← this]; exact HA.out
          case measure =>
            simp only [World.iterPos, HK.out, HI0.out]
            omega
        | succ k =>
          have hk : k < s.size := by omega
          have HP : Hid _ := Lib.hid (prev_succ s k hk)
          have hl4 := Lib.runeCells_le ((Utf8.decode s (k + 1)).1 : Int)
          rw [Lib.runeCells_length] at hl4
          go_wp2_with fail
          · have hq : ((s[k].toNat : Int) == 13) = true := by assumption
            go_roundw
            case rel =>
              refine ⟨k + 1 + (Utf8.decode s (k + 1)).2, acc, hI2, HI2.out, hbw2, Lib.hid ?_, by omega⟩
              rw [← HS2.out HE.out (by rw [HP.out]; exact hq)]; exact HA.out
            case measure =>
              simp only [World.iterPos, HI2.out, HI0.out]
              omega
          · have hq : ((s[k].toNat : Int) == 13) = false := by assumption
            refine (b_rune w.heap.size w.heap.size _ _ (by omega) (by omega) _ hI2 (by rw [Lib.byteCells_length]; omega) hsz2).mono ?_
            rintro e W1 ⟨rfl, h1, b1, k1⟩
            go_wp2
            go_roundw
            case rel =>
              refine ⟨k + 1 + (Utf8.decode s (k + 1)).2, acc ++ Lib.encodeRune (Utf8.decode s (k + 1)).1, ?_, k1.iter HI2.out (by omega), hbw2.trans b1, Lib.hid ?_, by simp; omega⟩
              · rw [Lib.byteCells_append, Lib.byteCells_encodeRune]; exact Or.inr h1
              · rw [List.append_assoc, ← HS3.out HE0.out HE13.out (.inr (by rw [HP.out]; exact hq))]; exact HA.out
            case measure =>
              simp only [World.iterPos, k1.iter HI2.out (by omega), HI0.out]
              omega
      have n10 : (((Utf8.decode s pos).1 : Int) == 10) = false := by simp; omega
      have HE10 := Lib.hid e10
      clear e10
      have hl4 := Lib.runeCells_le ((Utf8.decode s pos).1 : Int)
      rw [Lib.runeCells_length] at hl4
      go_wp2_with fail
      refine (b_rune w.heap.size w.heap.size _ _ (by omega) (by omega) _ hI2 (by rw [Lib.byteCells_length]; omega) hsz2).mono ?_
      rintro e W1 ⟨rfl, h1, b1, k1⟩
      go_wp2
      go_roundw
      case rel =>
        refine ⟨pos + (Utf8.decode s pos).2, acc ++ Lib.encodeRune (Utf8.decode s pos).1, ?_, k1.iter HI2.out (by omega), hbw2.trans b1, Lib.hid ?_, by simp; omega⟩
        · rw [Lib.byteCells_append, Lib.byteCells_encodeRune]; exact Or.inr h1
        · rw [List.append_assoc, ← HS3.out HE0.out HE13.out (.inl HE10.out)]; exact HA.out
      case measure =>
        simp only [World.iterPos, k1.iter HI2.out (by omega), HI0.out]
        omega
    · have hnx : ∀ ty, (Instr.next (.pointer (some ⟨w.heap.size + 1, 0, none⟩)) true ty).run Tryd.prog wr = _ := fun ty => Lib.run_next_end_at wr (w.heap.size + 1) s pos ty hit hp
      have HE : Hid _ := Lib.hid (cleanAt_end s pos hp)
      go_wp2_with fail
      refine (b_string w.heap.size w.heap.size acc _ hI (by omega)).mono ?_
      rintro e W1 ⟨rfl, _, b1, _⟩
      go_wp2
      go_ret
      have e := HA.out
      rw [HE.out, List.append_nil, H0.out] at e
      subst e
      exact ⟨rfl, hbw.trans b1⟩
end Go.Proofs.YthodiccmanjpkaaDoor.Ru
