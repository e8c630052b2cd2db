/- A name with its semicolon is found whatever stands ahead and behind. -/
import Derived.Test.YtfjlpekoklmedaaBehind
import Derived.Test.YtfjlpekoklmedaaPlace
namespace Go.Proofs.Ytfjlpekoklmedaa.Wk
open Go Go.RowKit Go.Proofs.Ytfjlpekoklmedaa.Ct Go.Proofs.Ytfjlpekoklmedaa.Ss

theorem behind_long (a b : ByteArray) (k : Nat) (hk : k < 52) : longest (a ++ (entN k ++ ⟨#[59]⟩) ++ b) a.size = ((entN k ++ (⟨#[59]⟩ : ByteArray)).size, Utf8.encode (entS k)) := by
  have h1 := (ent_small k hk).1
  have hs : (entN k ++ (⟨#[59]⟩ : ByteArray)).size ≤ 7 := by rw [ByteArray.size_append]; show _ + 1 ≤ 7; omega
  have hn : (entN k ++ (⟨#[59]⟩ : ByteArray)).data.toList = (entN k).data.toList ++ [59] := by rw [ByteArray.data_append, Array.toList_append]
  have hf := nam_semi ⟨k, hk⟩
  change rfind (entN k ++ (⟨#[59]⟩ : ByteArray)) = some (Utf8.encode (entS k)) at hf
  generalize (entN k ++ (⟨#[59]⟩ : ByteArray)) = n at hs hn hf ⊢
  have ht : (a ++ n ++ b).size = a.size + n.size + b.size := by rw [ByteArray.size_append, ByteArray.size_append]
  rw [longest_in _ _ (by omega), show min 8 ((a ++ n ++ b).size - a.size) = n.size + (min 8 ((a ++ n ++ b).size - a.size) - n.size) by omega]
  exact lon_down a n b _ _ hn hf _ (by omega)
theorem behind_out (a n b : ByteArray) : longest (a ++ (n ++ ⟨#[59]⟩) ++ b) ((a.size : Int) + ((n.size : Int) + 1) + b.size + 1) = (0, ByteArray.empty) :=
  longest_out (.inr (by rw [ByteArray.size_append, ByteArray.size_append, ByteArray.size_append, show (⟨#[59]⟩ : ByteArray).size = 1 from rfl]; omega))
set_option maxRecDepth 10000 in
set_option maxHeartbeats 600000 in
theorem entityBehind (a0 : Int) (a b : ByteArray) (_w0 : (Lit.int .i64 a0).wf = true) (_w1 : a.size ≤ maxLen) (_w2 : b.size ≤ maxLen) (w : World) :
    Calls Try.prog 6 #[.int .i64 a0, .string a, .string b] w fun e w' => e = .returned (.bool true) ∧ Below w.heap.size w w' := by
  by_cases c : 500 < a.size
  · go_enter Try.func6, Try.ntmps6
    go_wp2_with fail
    refine (awake_calls _).mono ?_
    rintro e w4 ⟨rfl, hb2⟩
    go_wp2_with fail
    go_ret
    exact ⟨rfl, hb2⟩
  by_cases d : 500 < b.size
  · go_enter Try.func6, Try.ntmps6
    go_wp2_with fail
    refine (awake_calls _).mono ?_
    rintro e w4 ⟨rfl, hb2⟩
    go_wp2_with fail
    go_ret
    exact ⟨rfl, hb2⟩
  go_enter Try.func6, Try.ntmps6
  go_wp2_with fail
  refine (all_calls _).mono ?_
  rintro e w1 ⟨rfl, hw1⟩
  have htab := table_new w
  rw [← hw1] at htab
  have hbel : Below w.heap.size w w1 := by rw [hw1]; exact (Below.refl _ _).alloc (Nat.le_refl _) _
  have hbs : w.heap.size < w1.heap.size := by rw [hw1]; simp
  clear hw1
  generalize hb : w.heap.size = bb at htab hbs hbel ⊢
  go_wp2_with fail
  refine (place_calls _ 52 (by decide) (by decide) _).mono ?_
  rintro e w2 ⟨⟨k, hk, rfl⟩, rfl⟩
  have hlt : k < 52 := by omega
  have c1 := htab.name k hlt
  rw [show 3 * k = k * 3 by omega] at c1
  have h1 := (ent_small k hlt).1
  have z1 : (entN k ++ (⟨#[59]⟩ : ByteArray)).size ≤ 7 := by rw [ByteArray.size_append]; show _ + 1 ≤ 7; omega
  have z2 : (entN k ++ (⟨#[59]⟩ : ByteArray)).size ≤ maxLen := by show _ ≤ 9223372036854775807; omega
  have z3 : (a ++ (entN k ++ (⟨#[59]⟩ : ByteArray)) ++ b).size ≤ maxLen := by rw [ByteArray.size_append, ByteArray.size_append]; show _ ≤ 9223372036854775807; omega
  have N1 : Hid _ := Lib.hid (longest_as _ z3 a.size (by omega) (by omega) _ ((entN k).size + 1) (by rw [ByteArray.size_append]; rfl) _ (behind_long a b k hlt))
  have N2 : Hid _ := Lib.hid (find_some _ _ z2 (nam_semi ⟨k, hlt⟩))
  have N3 : Hid _ := Lib.hid (longest_as _ z3 _ (by omega) (by omega) _ 0 rfl _ (behind_out a (entN k) b))
  go_wp2_with fail
  refine (N1.out _).mono ?_
  rintro e w3 ⟨rfl, hb3⟩
  replace hbel := hbel.trans (hb3.mono (Nat.le_of_lt hbs))
  replace hbs := Nat.lt_of_lt_of_le hbs hb3.size
  clear hb3
  go_wp2_with fail
  refine (N2.out _).mono ?_
  rintro e w4 ⟨rfl, hb4⟩
  replace hbel := hbel.trans (hb4.mono (Nat.le_of_lt hbs))
  replace hbs := Nat.lt_of_lt_of_le hbs hb4.size
  clear hb4
  go_wp2_with fail
  refine (N3.out _).mono ?_
  rintro e w5 ⟨rfl, hb5⟩
  replace hbel := hbel.trans (hb5.mono (Nat.le_of_lt hbs))
  replace hbs := Nat.lt_of_lt_of_le hbs hb5.size
  clear hb5
  go_wp2_with fail
  refine (awake_calls _).mono ?_
  rintro e w6 ⟨rfl, hb6⟩
  replace hbel := hbel.trans (hb6.mono (Nat.le_of_lt hbs))
  replace hbs := Nat.lt_of_lt_of_le hbs hb6.size
  clear hb6
  go_wp2_with fail
  go_ret
  exact ⟨rfl, hb ▸ hbel⟩
end Go.Proofs.Ytfjlpekoklmedaa.Wk
