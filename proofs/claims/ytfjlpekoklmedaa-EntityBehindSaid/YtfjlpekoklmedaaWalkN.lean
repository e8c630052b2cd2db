/- The names of the table, as the law of package entity asks for them. -/
import Derived.Test.YtfjlpekoklmedaaWalkC
namespace Go.Proofs.Ytfjlpekoklmedaa.Wk
open Go Go.RowKit Go.Proofs.Ytfjlpekoklmedaa.Ct Go.Proofs.Ytfjlpekoklmedaa.Ss

theorem nam_semi : ∀ k : Fin 52, rfind (entN k.val ++ ⟨#[59]⟩) = some (Utf8.encode (entS k.val)) := by decide +kernel
theorem nam_bare : ∀ k : Fin 52, rfind (entN k.val) = if entB k.val then some (Utf8.encode (entS k.val)) else none := by decide +kernel
theorem nam_long : ∀ k : Fin 52, longest (entN k.val ++ ⟨#[59, 59]⟩) 0 = ((entN k.val).size + 1, Utf8.encode (entS k.val)) := by decide +kernel
theorem nam_fjlig : rfind ⟨#[102, 106, 108, 105, 103]⟩ = none := by decide +kernel
theorem same_str (a : ByteArray) : (a.toList == a.toList) = true := beq_self_eq_true _
theorem find_some (name v : ByteArray) (hn : name.size ≤ maxLen) (h : rfind name = some v) (w : World) :
    Calls Try.prog 14 #[.string name] w fun e w' => e = .returned (.tuple #[.string v, .bool true]) ∧ Below w.heap.size w w' :=
  (find_calls name hn w).mono fun e w' ⟨h1, h2⟩ => ⟨by rw [h1, h]; rfl, h2⟩
theorem find_none (name : ByteArray) (hn : name.size ≤ maxLen) (h : rfind name = none) (w : World) :
    Calls Try.prog 14 #[.string name] w fun e w' => e = .returned (.tuple #[.string ByteArray.empty, .bool false]) ∧ Below w.heap.size w w' :=
  (find_calls name hn w).mono fun e w' ⟨h1, h2⟩ => ⟨by rw [h1, h]; rfl, h2⟩
theorem longest_as (s : ByteArray) (hs : s.size ≤ maxLen) (a : Int) (h0 : -9223372036854775808 ≤ a) (h1 : a ≤ 9223372036854775807) (n : Nat) (m : Int) (hm : (n : Int) = m) (v : ByteArray) (h : longest s a = (n, v)) (w : World) :
    Calls Try.prog 16 #[.string s, .int .i64 a] w fun e w' => e = .returned (.tuple #[.int .i64 m, .string v]) ∧ Below w.heap.size w w' :=
  (longest_calls s hs a h0 h1 w).mono fun e w' ⟨h1, h2⟩ => ⟨by rw [h1, h, ← hm], h2⟩
set_option maxRecDepth 10000 in
theorem entityNames (w : World) :
    Calls Try.prog 5 #[] w fun e w' => e = .returned (.bool true) ∧ Below w.heap.size w w' := by
  go_enter Try.func5, Try.ntmps5
  go_wp2_with fail
  refine (all_calls _).mono ?_
  rintro e w1 ⟨rfl, hw1⟩
  have htab := table_new w
  rw [← hw1] at htab
  have hbel : Below w.heap.size w w1 := by rw [hw1]; exact (Below.refl _ _).alloc (Nat.le_refl _) _
  have hbs : w.heap.size < w1.heap.size := by rw [hw1]; simp
  clear hw1
  generalize hb : w.heap.size = b at htab hbs hbel ⊢
  go_wp2_with fail
  go_loopw [2] (fun i wr => ∃ k : Nat, k ≤ 52 ∧ i = .int .i64 k ∧ Table wr b ∧ b < wr.heap.size ∧ Below b w wr) (fun i _ => 52 - (intOf i).toNat)
  case atStart => exact ⟨0, by omega, rfl, htab, hbs, hbel⟩
  case round =>
    obtain ⟨k, hk, rfl, htab, hbs, hbel⟩ := hrel
    by_cases hlt : k < 52
    · have c1 := htab.name k hlt
      have c2 := htab.sign k hlt
      have c3 := htab.both k hlt
      have hs0 := (ent_small k hlt).1
      have hs1 := (ent_small k hlt).2.1
      have hs2 := (ent_small k hlt).2.2
      rw [show 3 * k = k * 3 by omega] at c1 c2 c3
      have n1 := nam_semi ⟨k, hlt⟩
      have n2 := nam_bare ⟨k, hlt⟩
      have n3 := nam_long ⟨k, hlt⟩
      have z1 : (entN k ++ ⟨#[59]⟩).size ≤ maxLen := by rw [ByteArray.size_append]; show _ + 1 ≤ 9223372036854775807; omega
      have z2 : (entN k).size ≤ maxLen := by show _ ≤ 9223372036854775807; omega
      have z3 : (entN k ++ ⟨#[59, 59]⟩).size ≤ maxLen := by rw [ByteArray.size_append]; show _ + 2 ≤ 9223372036854775807; omega
      have N1 : Hid _ := Lib.hid (find_some _ _ z1 n1)
      have N3 : Hid _ := Lib.hid (longest_as _ z3 0 (by decide) (by decide) _ ((entN k).size + 1) (by show ((entN k).size : Int) + 1 = _; rfl) _ n3)
      clear n1 n3

      cases hB : entB k with
      | true =>
        rw [hB, if_pos rfl] at n2
        have N2 : Hid _ := Lib.hid (find_some _ _ z2 n2)
        clear n2
        go_wp2_with fail
        refine (rput_calls _ (by omega) (by omega) _).mono ?_
        rintro e w2 ⟨rfl, hb2⟩
        replace htab := htab.below hb2 hbs
        replace hbel := hbel.trans (hb2.mono (Nat.le_of_lt hbs))
        replace hbs := Nat.lt_of_lt_of_le hbs hb2.size
        clear hb2 c1 c2 c3
        have c1 := htab.name k hlt
        have c2 := htab.sign k hlt
        have c3 := htab.both k hlt
        rw [show 3 * k = k * 3 by omega] at c1 c2 c3
        go_wp2_with fail
        refine (N1.out _).mono ?_
        rintro e w3 ⟨rfl, hb3⟩
        replace htab := htab.below hb3 hbs
        replace hbel := hbel.trans (hb3.mono (Nat.le_of_lt hbs))
        replace hbs := Nat.lt_of_lt_of_le hbs hb3.size
        clear hb3 c1 c2 c3
        have c1 := htab.name k hlt
        have c2 := htab.sign k hlt
        have c3 := htab.both k hlt
        rw [show 3 * k = k * 3 by omega] at c1 c2 c3
        go_wp2_with fail
        refine (N2.out _).mono ?_
        rintro e w4 ⟨rfl, hb4⟩
        replace htab := htab.below hb4 hbs
        replace hbel := hbel.trans (hb4.mono (Nat.le_of_lt hbs))
        replace hbs := Nat.lt_of_lt_of_le hbs hb4.size
        clear hb4 c1 c2 c3
        have c1 := htab.name k hlt
        have c2 := htab.sign k hlt
        have c3 := htab.both k hlt
        rw [show 3 * k = k * 3 by omega] at c1 c2 c3
        go_wp2_with fail
        refine (N3.out _).mono ?_
        rintro e w5 ⟨rfl, hb5⟩
        replace htab := htab.below hb5 hbs
        replace hbel := hbel.trans (hb5.mono (Nat.le_of_lt hbs))
        replace hbs := Nat.lt_of_lt_of_le hbs hb5.size
        clear hb5 c1 c2 c3
        have c1 := htab.name k hlt
        have c2 := htab.sign k hlt
        have c3 := htab.both k hlt
        rw [show 3 * k = k * 3 by omega] at c1 c2 c3
        rw [hB] at c3
        go_wp2_with fail
        go_roundw
        case rel => exact ⟨k + 1, by omega, by go_num, htab, hbs, hbel⟩
        case measure => simp [intOf]; omega
      | false =>
        rw [hB, if_neg (by decide)] at n2
        have N2 : Hid _ := Lib.hid (find_none _ z2 n2)
        clear n2
        go_wp2_with fail
        refine (rput_calls _ (by omega) (by omega) _).mono ?_
        rintro e w2 ⟨rfl, hb2⟩
        replace htab := htab.below hb2 hbs
        replace hbel := hbel.trans (hb2.mono (Nat.le_of_lt hbs))
        replace hbs := Nat.lt_of_lt_of_le hbs hb2.size
        clear hb2 c1 c2 c3
        have c1 := htab.name k hlt
        have c2 := htab.sign k hlt
        have c3 := htab.both k hlt
        rw [show 3 * k = k * 3 by omega] at c1 c2 c3
        go_wp2_with fail
        refine (N1.out _).mono ?_
        rintro e w3 ⟨rfl, hb3⟩
        replace htab := htab.below hb3 hbs
        replace hbel := hbel.trans (hb3.mono (Nat.le_of_lt hbs))
        replace hbs := Nat.lt_of_lt_of_le hbs hb3.size
        clear hb3 c1 c2 c3
        have c1 := htab.name k hlt
        have c2 := htab.sign k hlt
        have c3 := htab.both k hlt
        rw [show 3 * k = k * 3 by omega] at c1 c2 c3
        go_wp2_with fail
        refine (N2.out _).mono ?_
        rintro e w4 ⟨rfl, hb4⟩
        replace htab := htab.below hb4 hbs
        replace hbel := hbel.trans (hb4.mono (Nat.le_of_lt hbs))
        replace hbs := Nat.lt_of_lt_of_le hbs hb4.size
        clear hb4 c1 c2 c3
        have c1 := htab.name k hlt
        have c2 := htab.sign k hlt
        have c3 := htab.both k hlt
        rw [show 3 * k = k * 3 by omega] at c1 c2 c3
        go_wp2_with fail
        refine (N3.out _).mono ?_
        rintro e w5 ⟨rfl, hb5⟩
        replace htab := htab.below hb5 hbs
        replace hbel := hbel.trans (hb5.mono (Nat.le_of_lt hbs))
        replace hbs := Nat.lt_of_lt_of_le hbs hb5.size
        clear hb5 c1 c2 c3
        have c1 := htab.name k hlt
        have c2 := htab.sign k hlt
        have c3 := htab.both k hlt
        rw [show 3 * k = k * 3 by omega] at c1 c2 c3
        rw [hB] at c3
        go_wp2_with fail
        go_roundw
        case rel => exact ⟨k + 1, by omega, by go_num, htab, hbs, hbel⟩
        case measure => simp [intOf]; omega
    · obtain rfl : k = 52 := by omega
      have F1 : Hid _ := Lib.hid (find_some _ _ (by decide) rfind_fj)
      have F2 : Hid _ := Lib.hid (find_none _ (by decide) nam_fjlig)
      go_wp2_with fail
      refine (F1.out _).mono ?_
      rintro e w2 ⟨rfl, hb2⟩
      replace hbel := hbel.trans (hb2.mono (Nat.le_of_lt hbs))
      replace hbs := Nat.lt_of_lt_of_le hbs hb2.size
      clear hb2
      go_wp2_with fail
      refine (F2.out _).mono ?_
      rintro e w3 ⟨rfl, hb2⟩
      replace hbel := hbel.trans (hb2.mono (Nat.le_of_lt hbs))
      replace hbs := Nat.lt_of_lt_of_le hbs hb2.size
      clear hb2
      go_wp2_with fail
      refine (awake_calls _).mono ?_
      rintro e w4 ⟨rfl, hb2⟩
      replace hbel := hbel.trans (hb2.mono (Nat.le_of_lt hbs))
      go_wp2_with fail
      go_ret
      exact ⟨rfl, hb ▸ hbel⟩
end Go.Proofs.Ytfjlpekoklmedaa.Wk
