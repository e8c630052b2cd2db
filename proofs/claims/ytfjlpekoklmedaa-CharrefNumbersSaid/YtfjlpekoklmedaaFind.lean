/- Find, by the program and by the document. -/
import Derived.Test.YtfjlpekoklmedaaLook
namespace Go.Proofs.Ytfjlpekoklmedaa.Ct
open Go Go.RowKit Go.Proofs.Ytfjlpekoklmedaa.Ss

/-- What Find hands back. -/
def findV (name : ByteArray) : Value := .tuple #[.string ((rfind name).getD ByteArray.empty), .bool (rfind name).isSome]
theorem find_calls (name : ByteArray) (hn : name.size ≤ maxLen) (w : World) :
    Calls Try.prog 14 #[.string name] w fun e w' => e = .returned (.tuple #[.string ((rfind name).getD ByteArray.empty), .bool (rfind name).isSome]) ∧ Below w.heap.size w w' := by
  go_enter Try.func14, Try.ntmps14
  go_wp2_with fail
  refine (names_calls _).mono ?_
  rintro e w1 ⟨rfl, hown, hbel⟩
  have hget := get hown name hn
  rw [finds] at hget
  go_wp2
  go_ret2
  exact ⟨rfl, hbel⟩

/-! ### The document's -/
theorem rfind_fj : rfind ⟨#[102, 106, 108, 105, 103, 59]⟩ = some ⟨#[102, 106]⟩ := by unfold rfind; rw [if_pos rfl]
theorem rfind_from (name : ByteArray) (h : name ≠ ⟨#[102, 106, 108, 105, 103, 59]⟩) : rfind name = rfindFrom name 0 52 := by unfold rfind; rw [if_neg h]
theorem str_eq (a b : ByteArray) : (a.toList == b.toList) = decide (a = b) := by
  rw [← beq_toListBytes]
  by_cases h : a = b
  · rw [decide_eq_true h]; exact bytes_beq.2 h
  · rw [decide_eq_false h, ← Bool.not_eq_true, bytes_beq]; exact h
theorem rfindFrom_hit (name : ByteArray) (k n : Nat) (h : fits name k = true) : rfindFrom name k (n + 1) = some (Utf8.encode (entS k)) := by rw [rfindFrom, if_pos h]
theorem rfindFrom_miss (name : ByteArray) (k n : Nat) (h : fits name k = false) : rfindFrom name k (n + 1) = rfindFrom name (k + 1) n := by rw [rfindFrom, if_neg (by rw [h]; decide)]
theorem fits_semi {name : ByteArray} {k : Nat} (h : name = entN k ++ ⟨#[59]⟩) : fits name k = true := by
  unfold fits; rw [bytes_beq.2 h]; rfl
theorem fits_both {name : ByteArray} {k : Nat} (h : name = entN k) (hb : entB k = true) : fits name k = true := by
  unfold fits; rw [bytes_beq.2 h, hb, Bool.true_and, Bool.or_true]
theorem fits_not {name : ByteArray} {k : Nat} (h : name ≠ entN k ++ ⟨#[59]⟩) (h2 : name ≠ entN k ∨ entB k = false) : fits name k = false := by
  unfold fits
  have e1 : (name == entN k ++ (⟨#[59]⟩ : ByteArray)) = false := by rw [← Bool.not_eq_true, bytes_beq]; exact h
  rw [e1, Bool.false_or]
  rcases h2 with h2 | h2
  · have e2 : (name == entN k) = false := by rw [← Bool.not_eq_true, bytes_beq]; exact h2
    rw [e2]; rfl
  · rw [h2, Bool.and_false]
theorem rfind_calls (name : ByteArray) (w : World) :
    Calls Try.prog 15 #[.string name] w fun e w' => e = .returned (.tuple #[.string ((rfind name).getD ByteArray.empty), .bool (rfind name).isSome]) ∧ Below w.heap.size w w' := by
  by_cases hfj : name = ⟨#[102, 106, 108, 105, 103, 59]⟩
  · subst hfj
    have H : Hid _ := Lib.hid rfind_fj
    go_enter Try.func15, Try.ntmps15
    go_wp2
    go_ret2
    exact ⟨by rw [H.out]; rfl, Below.refl _ _⟩
  · have H : Hid _ := Lib.hid (rfind_from name hfj)
    have t0 : (name.toList == [102, 106, 108, 105, 103, 59]) = false := by
      have := str_eq name ⟨#[102, 106, 108, 105, 103, 59]⟩
      rw [decide_eq_false hfj] at this
      rw [ByteArray.toList_eq (⟨#[102, 106, 108, 105, 103, 59]⟩ : ByteArray)] at this; exact this
    clear hfj
    go_enter Try.func15, Try.ntmps15
    go_wp2_with fail
    refine (all_calls _).mono ?_
    rintro e w1 ⟨rfl, hw1⟩
    have htab := table_new w
    rw [← hw1] at htab
    have hbel : Below w.heap.size w w1 := by rw [hw1]; exact (Below.refl _ _).alloc (Nat.le_refl _) _
    have hbs : w.heap.size < w1.heap.size := by rw [hw1]; simp
    clear hw1
    generalize hb : w.heap.size = b at htab hbs ⊢
    go_wp2_with fail
    go_loop [5] (fun i => ∃ k : Nat, k ≤ 52 ∧ i = .int .i64 k ∧ Hid (rfindFrom name 0 52 = rfindFrom name k (52 - k))) (fun i => 52 - (intOf i).toNat)
    case atStart => exact ⟨0, by omega, rfl, Lib.hid rfl⟩
    case round =>
      obtain ⟨k, hk, rfl, hrec⟩ := hrel
      by_cases hlt : k < 52
      · have c1 := htab.name k hlt
        have c2 := htab.sign k hlt
        have c3 := htab.both k hlt
        have hs1 := (ent_small k hlt).1
        have hs2 := (ent_small k hlt).2
        rw [show 3 * k = k * 3 by omega] at c1 c2 c3
        have R1 : Hid _ := Lib.hid (rfindFrom_hit name k (52 - (k + 1)))
        have R2 : Hid _ := Lib.hid (rfindFrom_miss name k (52 - (k + 1)))
        have e52 : Hid _ := Lib.hid (show 52 - k = 52 - (k + 1) + 1 by omega)
        have q1 := str_eq name (entN k ++ ⟨#[59]⟩)
        have q2 := str_eq name (entN k)
        by_cases d1 : name = entN k ++ ⟨#[59]⟩
        · rw [decide_eq_true d1] at q1
          have F : Hid _ := Lib.hid (fits_semi (k := k) d1)
          clear d1 q2 htab
          go_wp2_with fail
          refine (rput_calls _ (by omega) (by omega) _).mono ?_
          rintro e w2 ⟨rfl, hb2⟩
          go_wp2_with fail
          go_ret2
          exact ⟨by rw [H.out, hrec.out, e52.out, R1.out F.out]; rfl, hbel.trans (hb2.mono (by omega))⟩
        · rw [decide_eq_false d1] at q1
          by_cases d2 : name = entN k
          · rw [decide_eq_true d2] at q2
            cases hB : entB k with
            | true =>
              have F : Hid _ := Lib.hid (fits_both d2 hB)
              rw [hB] at c3
              clear d1 d2 htab hB
              go_wp2_with fail
              refine (rput_calls _ (by omega) (by omega) _).mono ?_
              rintro e w2 ⟨rfl, hb2⟩
              go_wp2_with fail
              go_ret2
              exact ⟨by rw [H.out, hrec.out, e52.out, R1.out F.out]; rfl, hbel.trans (hb2.mono (by omega))⟩
            | false =>
              have F : Hid _ := Lib.hid (fits_not d1 (.inr hB))
              rw [hB] at c3
              clear d1 d2 htab hB
              go_wp2_with fail
              go_round
              case rel => exact ⟨k + 1, by omega, by go_num, Lib.hid (by rw [hrec.out, e52.out, R2.out F.out])⟩
              case measure => simp [intOf]; omega
          · rw [decide_eq_false d2] at q2
            have F : Hid _ := Lib.hid (fits_not (k := k) d1 (.inl d2))
            clear d1 d2 htab
            go_wp2_with fail
            go_round
            case rel => exact ⟨k + 1, by omega, by go_num, Lib.hid (by rw [hrec.out, e52.out, R2.out F.out])⟩
            case measure => simp [intOf]; omega
      · obtain rfl : k = 52 := by omega
        have e : Hid _ := Lib.hid (show rfindFrom name 52 (52 - 52) = none from rfl)
        go_wp2_with fail
        go_ret2
        exact ⟨by rw [H.out, hrec.out, e.out]; rfl, hb ▸ hbel⟩
end Go.Proofs.Ytfjlpekoklmedaa.Ct
