/- Names looked up, by the program and by the document: plain facts, then the contracts. -/
import Derived.Test.YtbdgoffbkenofaaGreatNam
import Derived.Test.YtbdgoffbkenofaaGreatCod
namespace Go.Proofs.YtbdgoffbkenofaaGreat.Ct
open Go Go.RowKit Go.Proofs.YtbdgoffbkenofaaGreat.Ss

/-! ### The document's search: the first entry of its table that fits -/
def fits (name : ByteArray) (k : Nat) : Bool := (name == entN k ++ ⟨#[59]⟩) || ((name == entN k) && entB k)
def rfindFrom (name : ByteArray) : Nat → Nat → Option ByteArray
  | _, 0 => none
  | k, n + 1 => if fits name k then some (Utf8.encode (entS k)) else rfindFrom name (k + 1) n
def rfind (name : ByteArray) : Option ByteArray := if name = ⟨#[102, 106, 108, 105, 103, 59]⟩ then some ⟨#[102, 106]⟩ else rfindFrom name 0 52
/-- The pairs of the document's table. -/
def rpairs : List (ByteArray × ByteArray) :=
  (⟨#[102, 106, 108, 105, 103, 59]⟩, ⟨#[102, 106]⟩) :: ents.flatMap fun p => if p.2.2 then [(p.1 ++ ⟨#[59]⟩, Utf8.encode p.2.1), (p.1, Utf8.encode p.2.1)] else [(p.1 ++ ⟨#[59]⟩, Utf8.encode p.2.1)]
theorem bytes_beq {a b : ByteArray} : (a == b) = true ↔ a = b := by
  rw [beq_toListBytes, beq_iff_eq, ByteArray.toList_eq, ByteArray.toList_eq]; exact bytes_eq
def assoc : List (ByteArray × ByteArray) → ByteArray → Option ByteArray
  | [], _ => none
  | p :: r, k => if p.1 = k then some p.2 else assoc r k
theorem assoc_mem {L : List (ByteArray × ByteArray)} {k v : ByteArray} (h : assoc L k = some v) : (k, v) ∈ L := by
  induction L with
  | nil => cases h
  | cons p r ih =>
    unfold assoc at h
    split at h
    · rename_i e; cases h; subst e; exact List.mem_cons_self
    · exact List.mem_cons_of_mem _ (ih h)
theorem look_mem {L : Pairs} {k v : ByteArray} (h : lookP L k = some v) : (k, v) ∈ L := by
  induction L with
  | nil => cases h
  | cons p r ih =>
    unfold lookP at h
    split at h
    · rename_i e; cases h; exact List.mem_cons_of_mem _ (ih e)
    · split at h
      · rename_i e; cases h; subst e; exact List.mem_cons_self
      · cases h
theorem same_maps {L : Pairs} {M : List (ByteArray × ByteArray)} (h1 : ∀ p ∈ L, assoc M p.1 = some p.2) (h2 : ∀ p ∈ M, lookP L p.1 = some p.2) (k : ByteArray) : lookP L k = assoc M k := by
  cases h : lookP L k with
  | some v => exact (h1 _ (look_mem h)).symm
  | none =>
    cases g : assoc M k with
    | none => rfl
    | some v => have := h2 _ (assoc_mem g); rw [h] at this; cases this
theorem assoc_append (L M : List (ByteArray × ByteArray)) (k : ByteArray) : assoc (L ++ M) k = match assoc L k with | some v => some v | none => assoc M k := by
  induction L with
  | nil => rfl
  | cons p r ih =>
    rw [List.cons_append, assoc, assoc]
    split
    · rfl
    · exact ih
theorem assoc_one {q k x : ByteArray} (h1 : ¬ q = k) : assoc [(q, x)] k = none := by
  rw [assoc, if_neg h1]; rfl
theorem assoc_two {q p k x y : ByteArray} (h1 : ¬ q = k) (h2 : p = k) : assoc [(q, x), (p, y)] k = some y := by
  rw [assoc, if_neg h1, assoc, if_pos h2]
theorem assoc_no2 {q p k x y : ByteArray} (h1 : ¬ q = k) (h2 : ¬ p = k) : assoc [(q, x), (p, y)] k = none := by
  rw [assoc, if_neg h1, assoc, if_neg h2]; rfl
theorem ent_getD (k : Nat) (hk : k < 52) : ents.getD k (ByteArray.empty, 0, false) = ents[k]'hk := by
  have h : k < ents.length := hk
  unfold List.getD; rw [List.getElem?_eq_getElem h]; rfl
theorem rfindFrom_is (name : ByteArray) (n k : Nat) (h : k + n = 52) :
    rfindFrom name k n = assoc ((ents.drop k).flatMap fun p => if p.2.2 then [(p.1 ++ ⟨#[59]⟩, Utf8.encode p.2.1), (p.1, Utf8.encode p.2.1)] else [(p.1 ++ ⟨#[59]⟩, Utf8.encode p.2.1)]) name := by
  induction n generalizing k with
  | zero =>
    have e : ents.drop k = [] := List.drop_eq_nil_of_le (by show 52 ≤ k; omega)
    rw [e]; rfl
  | succ n ih =>
    have hk : k < ents.length := by show k < 52; omega
    rw [rfindFrom, ih (k + 1) (by omega), List.drop_eq_getElem_cons hk, List.flatMap_cons, assoc_append]
    unfold fits entN entB entS
    rw [ent_getD k hk]
    generalize ents[k] = p
    generalize (p.1 ++ ⟨#[59]⟩ : ByteArray) = q
    by_cases h1 : name = q
    · have : (name == q) = true := bytes_beq.2 h1
      rw [this, Bool.true_or, if_pos rfl]
      cases p.2.2 <;> simp [assoc, h1]
    · have e1 : (name == q) = false := by rw [← Bool.not_eq_true, bytes_beq]; exact h1
      have e1' : ¬ q = name := fun e => h1 e.symm
      by_cases h2 : name = p.1
      · have e2 : (name == p.1) = true := bytes_beq.2 h2
        rw [e1, e2, Bool.false_or, Bool.true_and]
        cases p.2.2
        · simp [assoc, e1']
        · rw [if_pos rfl, if_pos rfl, assoc_two e1' h2.symm]
      · have e2 : (name == p.1) = false := by rw [← Bool.not_eq_true, bytes_beq]; exact h2
        have e2' : ¬ p.1 = name := fun e => h2 e.symm
        rw [e1, e2, Bool.false_or, Bool.false_and]
        rw [if_neg (by decide)]
        cases p.2.2
        · rw [if_neg (by decide), assoc_one e1']
        · rw [if_pos rfl, assoc_no2 e1' e2']
theorem rfind_is (name : ByteArray) : rfind name = assoc rpairs name := by
  unfold rfind rpairs
  rw [assoc, rfindFrom_is name 52 0 rfl, List.drop_zero]
  by_cases h : name = ⟨#[102, 106, 108, 105, 103, 59]⟩
  · rw [if_pos h, if_pos h.symm]
  · rw [if_neg h, if_neg (fun e => h e.symm)]
instance : DecidableEq ByteArray := fun a b => decidable_of_iff (a.data = b.data) ⟨fun h => by cases a; cases b; simpa using h, fun h => by rw [h]⟩
theorem pairs_assoc : ∀ p ∈ pairsTo 32, assoc rpairs p.1 = some p.2 := by decide +kernel
theorem rpairs_look : ∀ p ∈ rpairs, lookP (pairsTo 32) p.1 = some p.2 := by decide +kernel
/-- The program's map and the document's search are one. -/
theorem finds (name : ByteArray) : lookP (pairsTo 32) name = rfind name := by
  rw [rfind_is]; exact same_maps pairs_assoc rpairs_look name
end Go.Proofs.YtbdgoffbkenofaaGreat.Ct
namespace Go.Proofs.YtbdgoffbkenofaaGreat.Ct
open Go Go.RowKit Go.Proofs.YtbdgoffbkenofaaGreat.Ss

/-- What Find hands back. -/
def findV (name : ByteArray) : Value := .tuple #[.string ((rfind name).getD ByteArray.empty), .bool (rfind name).isSome]
/-! ### The document's -/
theorem rfind_fj : rfind ⟨#[102, 106, 108, 105, 103, 59]⟩ = some ⟨#[102, 106]⟩ := by unfold rfind; rw [if_pos rfl]
theorem rfind_from (name : ByteArray) (h : name ≠ ⟨#[102, 106, 108, 105, 103, 59]⟩) : rfind name = rfindFrom name 0 52 := by unfold rfind; rw [if_neg h]
theorem str_eq (a b : ByteArray) : (a.toList == b.toList) = decide (a = b) := by
  rw [← beq_toListBytes]
  by_cases h : a = b
  · rw [decide_eq_true h]; exact bytes_beq.2 h
  · rw [decide_eq_false h, ← Bool.not_eq_true, bytes_beq]; exact h
theorem rfindFrom_hit (name : ByteArray) (k n : Nat) (h : fits name k = true) : rfindFrom name k (n + 1) = some (Utf8.encode (entS k)) := by rw [rfindFrom, if_pos h]
theorem rfindFrom_miss (name : ByteArray) (k n : Nat) (h : fits name k = false) : rfindFrom name k (n + 1) = rfindFrom name (k + 1) n := by rw [rfindFrom, if_neg (by rw [h]; decide)]
theorem fits_semi {name : ByteArray} {k : Nat} (h : name = entN k ++ ⟨#[59]⟩) : fits name k = true := by
  unfold fits; rw [bytes_beq.2 h]; rfl
theorem fits_both {name : ByteArray} {k : Nat} (h : name = entN k) (hb : entB k = true) : fits name k = true := by
  unfold fits; rw [bytes_beq.2 h, hb, Bool.true_and, Bool.or_true]
theorem fits_not {name : ByteArray} {k : Nat} (h : name ≠ entN k ++ ⟨#[59]⟩) (h2 : name ≠ entN k ∨ entB k = false) : fits name k = false := by
  unfold fits
  have e1 : (name == entN k ++ (⟨#[59]⟩ : ByteArray)) = false := by rw [← Bool.not_eq_true, bytes_beq]; exact h
  rw [e1, Bool.false_or]
  rcases h2 with h2 | h2
  · have e2 : (name == entN k) = false := by rw [← Bool.not_eq_true, bytes_beq]; exact h2
    rw [e2]; rfl
  · rw [h2, Bool.and_false]
theorem rfind_calls (name : ByteArray) (w : World) :
    Calls Tryz.prog 73 #[.string name] w fun e w' => e = .returned (.tuple #[.string ((rfind name).getD ByteArray.empty), .bool (rfind name).isSome]) ∧ Below w.heap.size w w' := by
  by_cases hfj : name = ⟨#[102, 106, 108, 105, 103, 59]⟩
  · subst hfj
    have H : Hid _ := Lib.hid rfind_fj
    go_enter Tryz.func73, Tryz.ntmps73
    go_wp2
    go_ret2
    exact ⟨by rw [H.out]; rfl, Below.refl _ _⟩
  · have H : Hid _ := Lib.hid (rfind_from name hfj)
    have t0 : (name.toList == [102, 106, 108, 105, 103, 59]) = false := by
      have := str_eq name ⟨#[102, 106, 108, 105, 103, 59]⟩
      rw [decide_eq_false hfj] at this
      rw [ByteArray.toList_eq (⟨#[102, 106, 108, 105, 103, 59]⟩ : ByteArray)] at this; exact this
    clear hfj
    go_enter Tryz.func73, Tryz.ntmps73
    go_wp2_with fail
    refine (all_calls _).mono ?_
    rintro e w1 ⟨rfl, hw1⟩
    have htab := table_new w
    rw [← hw1] at htab
    have hbel : Below w.heap.size w w1 := by rw [hw1]; exact (Below.refl _ _).alloc (Nat.le_refl _) _
    have hbs : w.heap.size < w1.heap.size := by rw [hw1]; simp
    clear hw1
    generalize hb : w.heap.size = b at htab hbs ⊢
    go_wp2_with fail
    go_loop [5] (fun i => ∃ k : Nat, k ≤ 52 ∧ i = .int .i64 k ∧ Hid (rfindFrom name 0 52 = rfindFrom name k (52 - k))) (fun i => 52 - (intOf i).toNat)
    case atStart => exact ⟨0, by omega, rfl, Lib.hid rfl⟩
    case round =>
      obtain ⟨k, hk, rfl, hrec⟩ := hrel
      by_cases hlt : k < 52
      · have c1 := htab.name k hlt
        have c2 := htab.sign k hlt
        have c3 := htab.both k hlt
        have hs1 := (ent_small k hlt).1
        have hs2 := (ent_small k hlt).2
        rw [show 3 * k = k * 3 by omega] at c1 c2 c3
        have R1 : Hid _ := Lib.hid (rfindFrom_hit name k (52 - (k + 1)))
        have R2 : Hid _ := Lib.hid (rfindFrom_miss name k (52 - (k + 1)))
        have e52 : Hid _ := Lib.hid (show 52 - k = 52 - (k + 1) + 1 by omega)
        have q1 := str_eq name (entN k ++ ⟨#[59]⟩)
        have q2 := str_eq name (entN k)
        by_cases d1 : name = entN k ++ ⟨#[59]⟩
        · rw [decide_eq_true d1] at q1
          have F : Hid _ := Lib.hid (fits_semi (k := k) d1)
          clear d1 q2 htab
          go_wp2_with fail
          refine (rput_calls _ (by omega) (by omega) _).mono ?_
          rintro e w2 ⟨rfl, hb2⟩
          go_wp2_with fail
          go_ret2
          exact ⟨by rw [H.out, hrec.out, e52.out, R1.out F.out]; rfl, hbel.trans (hb2.mono (by omega))⟩
        · rw [decide_eq_false d1] at q1
          by_cases d2 : name = entN k
          · rw [decide_eq_true d2] at q2
            cases hB : entB k with
            | true =>
              have F : Hid _ := Lib.hid (fits_both d2 hB)
              rw [hB] at c3
              clear d1 d2 htab hB
              go_wp2_with fail
              refine (rput_calls _ (by omega) (by omega) _).mono ?_
              rintro e w2 ⟨rfl, hb2⟩
              go_wp2_with fail
              go_ret2
              exact ⟨by rw [H.out, hrec.out, e52.out, R1.out F.out]; rfl, hbel.trans (hb2.mono (by omega))⟩
            | false =>
              have F : Hid _ := Lib.hid (fits_not d1 (.inr hB))
              rw [hB] at c3
              clear d1 d2 htab hB
              go_wp2_with fail
              go_round
              case rel => exact ⟨k + 1, by omega, by go_num, Lib.hid (by rw [hrec.out, e52.out, R2.out F.out])⟩
              case measure => simp [intOf]; omega
          · rw [decide_eq_false d2] at q2
            have F : Hid _ := Lib.hid (fits_not (k := k) d1 (.inl d2))
            clear d1 d2 htab
            go_wp2_with fail
            go_round
            case rel => exact ⟨k + 1, by omega, by go_num, Lib.hid (by rw [hrec.out, e52.out, R2.out F.out])⟩
            case measure => simp [intOf]; omega
      · obtain rfl : k = 52 := by omega
        have e : Hid _ := Lib.hid (show rfindFrom name 52 (52 - 52) = none from rfl)
        go_wp2_with fail
        go_ret2
        exact ⟨by rw [H.out, hrec.out, e.out]; rfl, hb ▸ hbel⟩
end Go.Proofs.YtbdgoffbkenofaaGreat.Ct
namespace Go.Proofs.YtbdgoffbkenofaaGreat.Ct
open Go Go.RowKit Go.Proofs.YtbdgoffbkenofaaGreat.Ss

/-- The longest name that stands at a place, of at most n bytes. -/
def lon (s : ByteArray) (at_ : Nat) : Nat → Nat × ByteArray
  | 0 => (0, ByteArray.empty)
  | n + 1 => match rfind (s.extract at_ (at_ + (n + 1))) with
    | some v => (n + 1, v)
    | none => lon s at_ n
def longest (s : ByteArray) (a : Int) : Nat × ByteArray := if a < 0 ∨ (s.size : Int) < a then (0, ByteArray.empty) else lon s a.toNat (min 8 (s.size - a.toNat))
theorem longest_out {s : ByteArray} {a : Int} (h : a < 0 ∨ (s.size : Int) < a) : longest s a = (0, ByteArray.empty) := if_pos h
theorem longest_in (s : ByteArray) (k : Nat) (h : k ≤ s.size) : longest s k = lon s k (min 8 (s.size - k)) := by
  unfold longest; rw [if_neg (by omega)]; rfl
theorem lon_hit {s : ByteArray} {k n : Nat} {v : ByteArray} (h : rfind (s.extract k (k + (n + 1))) = some v) : lon s k (n + 1) = (n + 1, v) := by rw [lon, h]
theorem lon_miss {s : ByteArray} {k n : Nat} (h : rfind (s.extract k (k + (n + 1))) = none) : lon s k (n + 1) = lon s k n := by rw [lon, h]
theorem lon_zero (s : ByteArray) (k : Nat) : lon s k 0 = (0, ByteArray.empty) := rfl
attribute [irreducible] lon longest
theorem longest_calls (s : ByteArray) (hs : s.size ≤ maxLen) (a : Int) (h0 : -9223372036854775808 ≤ a) (h1 : a ≤ 9223372036854775807) (w : World) :
    Calls Tryz.prog 103 #[.string s, .int .i64 a] w fun e w' => e = .returned (.tuple #[.int .i64 (longest s a).1, .string (longest s a).2]) ∧ Below w.heap.size w w' := by
  have hs' := hs
  unfold maxLen at hs'
  by_cases c0 : a < 0
  · have H : Hid _ := Lib.hid (longest_out (s := s) (a := a) (.inl c0))
    go_enter Tryz.func103, Tryz.ntmps103
    go_wp2
    go_ret2
    exact ⟨by rw [H.out]; rfl, Below.refl _ _⟩
  · by_cases c1 : (s.size : Int) < a
    · have H : Hid _ := Lib.hid (longest_out (s := s) (a := a) (.inr c1))
      go_enter Tryz.func103, Tryz.ntmps103
      go_wp2
      go_ret2
      exact ⟨by rw [H.out]; rfl, Below.refl _ _⟩
    · obtain ⟨k, rfl⟩ := Int.eq_ofNat_of_zero_le (show 0 ≤ a by omega)
      have hk : k ≤ s.size := by omega
      have H : Hid _ := Lib.hid (longest_in s k hk)
      obtain ⟨m, hm⟩ : ∃ m, min 8 (s.size - k) = m := ⟨_, rfl⟩
      have M : Hid _ := Lib.hid hm
      have hm1 : m ≤ 8 := by omega
      have hm2 : k + m ≤ s.size := by omega
      clear c0 c1 h0 h1 hm
      go_enter Tryz.func103, Tryz.ntmps103
      go_wp2_with fail
      refine (names_calls _).mono ?_
      rintro e w1 ⟨rfl, hown, hbel⟩
      go_wp2_with fail
      go_loop [7] (fun n => ∃ j : Nat, j ≤ m ∧ n = .int .i64 j ∧ Hid (lon s k m = lon s k j)) (fun n => (intOf n).toNat)
      case atStart => exact ⟨m, Nat.le_refl _, by rw [show min 8 ((s.size : Int) - (k : Int)) = (m : Int) by have := M.out; omega], Lib.hid rfl⟩
      case round =>
        obtain ⟨j, hj, rfl, hrec⟩ := hrel
        by_cases hz : 0 < j
        · obtain ⟨i, rfl⟩ : ∃ i, j = i + 1 := ⟨j - 1, by omega⟩
          have hx : (s.extract k (k + (i + 1))).size ≤ maxLen := Nat.le_trans (by rw [ByteArray.size_extract]; omega) hs
          have hget := get hown (s.extract k (k + (i + 1))) hx
          rw [finds] at hget
          cases hr : rfind (s.extract k (k + (i + 1))) with
          | some v =>
            rw [hr] at hget
            have R : Hid _ := Lib.hid (lon_hit hr)
            clear hr
            go_wp2
            go_ret2
            exact ⟨by rw [H.out, M.out, hrec.out, R.out]; rfl, hbel⟩
          | none =>
            rw [hr] at hget
            have R : Hid _ := Lib.hid (lon_miss hr)
            clear hr
            go_wp2
            go_round
            case rel => exact ⟨i, by omega, by go_num, Lib.hid (by rw [hrec.out, R.out])⟩
            case measure => simp [intOf]
        · obtain rfl : j = 0 := by omega
          have Z : Hid _ := Lib.hid (lon_zero s k)
          go_wp2
          go_ret2
          exact ⟨by rw [H.out, M.out, hrec.out, Z.out]; rfl, hbel⟩
theorem rlongest_calls (s : ByteArray) (hs : s.size ≤ maxLen) (a : Int) (h0 : -9223372036854775808 ≤ a) (h1 : a ≤ 9223372036854775807) (w : World) :
    Calls Tryz.prog 43 #[.string s, .int .i64 a] w fun e w' => e = .returned (.tuple #[.int .i64 (longest s a).1, .string (longest s a).2]) ∧ Below w.heap.size w w' := by
  have hs' := hs
  unfold maxLen at hs'
  by_cases c0 : a < 0
  · have H : Hid _ := Lib.hid (longest_out (s := s) (a := a) (.inl c0))
    go_enter Tryz.func43, Tryz.ntmps43
    go_wp2
    go_ret2
    exact ⟨by rw [H.out]; rfl, Below.refl _ _⟩
  · by_cases c1 : (s.size : Int) < a
    · have H : Hid _ := Lib.hid (longest_out (s := s) (a := a) (.inr c1))
      go_enter Tryz.func43, Tryz.ntmps43
      go_wp2
      go_ret2
      exact ⟨by rw [H.out]; rfl, Below.refl _ _⟩
    · obtain ⟨k, rfl⟩ := Int.eq_ofNat_of_zero_le (show 0 ≤ a by omega)
      have hk : k ≤ s.size := by omega
      have H : Hid _ := Lib.hid (longest_in s k hk)
      obtain ⟨m, hm⟩ : ∃ m, min 8 (s.size - k) = m := ⟨_, rfl⟩
      have M : Hid _ := Lib.hid hm
      have hm1 : m ≤ 8 := by omega
      have hm2 : k + m ≤ s.size := by omega
      clear c0 c1 h0 h1 hm
      go_enter Tryz.func43, Tryz.ntmps43
      go_wp2_with fail
      go_loopw [6] (fun n wr => ∃ j : Nat, j ≤ m ∧ n = .int .i64 j ∧ Hid (lon s k m = lon s k j) ∧ Below w.heap.size w wr) (fun n _ => (intOf n).toNat)
      case atStart => exact ⟨m, Nat.le_refl _, by first | rw [show min ((s.size : Int) - (k : Int)) 8 = (m : Int) by have := M.out; omega] | rw [show min 8 ((s.size : Int) - (k : Int)) = (m : Int) by have := M.out; omega], Lib.hid rfl, Below.refl _ _⟩
      case round =>
        obtain ⟨j, hj, rfl, hrec, hbel⟩ := hrel
        by_cases hz : 0 < j
        · obtain ⟨i, rfl⟩ : ∃ i, j = i + 1 := ⟨j - 1, by omega⟩
          have hx : (s.extract k (k + (i + 1))).size ≤ maxLen := Nat.le_trans (by rw [ByteArray.size_extract]; omega) hs
          cases hr : rfind (s.extract k (k + (i + 1))) with
          | some v =>
            have R : Hid _ := Lib.hid (lon_hit hr)
            have Q : Hid _ := Lib.hid hr
            clear hr
            go_wp2_with fail
            refine (rfind_calls _ _).mono ?_
            rintro e w2 ⟨rfl, hb2⟩
            rw [Q.out]
            have hbel2 := hbel.trans (hb2.mono hbel.size)
            go_wp2
            go_ret2
            exact ⟨by rw [H.out, M.out, hrec.out, R.out]; rfl, hbel2⟩
          | none =>
            have R : Hid _ := Lib.hid (lon_miss hr)
            have Q : Hid _ := Lib.hid hr
            clear hr
            go_wp2_with fail
            refine (rfind_calls _ _).mono ?_
            rintro e w2 ⟨rfl, hb2⟩
            rw [Q.out]
            have hbel2 := hbel.trans (hb2.mono hbel.size)
            go_wp2
            go_roundw
            case rel => (repeat apply Exists.intro); refine ⟨⟨i, by omega, by go_num, Lib.hid (by rw [hrec.out, R.out]), hbel2⟩, ?_⟩; rw [decide_eq_false (Nat.not_lt.mpr hk), Bool.or_false]
            case measure => simp [intOf]
        · obtain rfl : j = 0 := by omega
          have Z : Hid _ := Lib.hid (lon_zero s k)
          go_wp2
          go_ret2
          exact ⟨by rw [H.out, M.out, hrec.out, Z.out]; rfl, hbel⟩
end Go.Proofs.YtbdgoffbkenofaaGreat.Ct
