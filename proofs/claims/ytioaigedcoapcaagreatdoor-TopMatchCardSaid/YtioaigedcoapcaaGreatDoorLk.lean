/- strings' generic replacer: what a text begins with is looked up. -/
import Derived.Test.YtioaigedcoapcaaGreatDoorBuilt
import Derived.Test.YtioaigedcoapcaaGreatDoorStr
import Derived.Deep.QuietTactic
import Derived.BigQuiet
import Derived.LoopN
namespace Go.Proofs.YtioaigedcoapcaaGreatDoor.Gr
open Go Go.RowKit Go.Proofs.YtioaigedcoapcaaGreatDoor.Tr Go.Proofs.YtioaigedcoapcaaGreatDoor.Sr
set_option linter.unusedVariables false
set_option maxRecDepth 100000

/-- The value, how many bytes, whether there is one. -/
def lookR (p : ByteArray × ByteArray) (t : ByteArray) : ByteArray × Nat × Bool := if hasPre t (rest p) then (p.2, 1 + (rest p).size, true) else (⟨#[]⟩, 0, false)
def LookEnd (v : ByteArray) (n : Nat) (f : Bool) (w : World) (e : Ending) (w' : World) : Prop := e = .returned (.tuple #[.string v, .int .i64 n, .bool f]) ∧ Below w.heap.size w w'
theorem ne_list {s : ByteArray} (h : 0 < s.size) : s.toList.isEmpty = false := by
  rw [List.isEmpty_eq_false_iff]
  intro e
  rw [ByteArray.toList_eq] at e
  have h' : s.size = s.data.toList.length := rfl
  rw [h', e] at h
  exact absurd h (by decide)
theorem below_drewN (w : World) (n : Nat) : Below w.heap.size w (w.drewN n) := ((Fr.refl noneR _ _).drewN n).below (fun _ _ h => h) (Nat.le_refl _)
theorem look_none (g tb n N : Nat) (M : List Int) (K : Prs) (w : World) (hB : Built w g tb n M N K) :
    Calls Tryz.prog 487 #[.pointer (some ⟨g, 0, none⟩), .string ⟨#[]⟩, .bool false] w (LookEnd ⟨#[]⟩ 0 false w) := by
  obtain ⟨c0, c1, c2, c3, c4, c5⟩ := hB.gen.cells
  clear hB
  go_enter Tryz.func487, Tryz.ntmps487
  go_wp2_with fail
  refine wp_loop_rounds 1 ?_
  rw [rounds_succ]
  go_wp2_with fail
  go_ret3
  exact ⟨rfl, Below.refl _ _⟩
theorem look_one (g tb n N : Nat) (M : List Int) (K : Prs) (k : Nat) (p : ByteArray × ByteArray) (s : ByteArray) (w : World) (hB : Built w g tb n M N K) (hn1 : n ≤ 100) (hk : K[k]? = some p) (hN : 2 * k < N) (hN2 : N ≤ 1000) (hs : 0 < s.size) (hs2 : s.size ≤ 1000000000) (hc : s[0].toNat = first p) (hr : rest p = ⟨#[]⟩) :
    Calls Tryz.prog 487 #[.pointer (some ⟨g, 0, none⟩), .string s, .bool false] w (LookEnd p.2 1 true w) := by
  obtain ⟨c0, c1, c2, c3, c4, c5⟩ := hB.gen.cells
  obtain ⟨Tb, q1, q2, q3, q4⟩ := hB.tab
  obtain ⟨nb, m, u1, u2, u3, u4, u5⟩ := q3 k p hk
  have ct : w.cell? ⟨tb, m, none⟩ = some (.pointer (some ⟨nb, 0, none⟩)) := (q2.at m).trans u3
  have cm := hB.gen.at (first p) u1
  rw [hr] at u5
  obtain N1 : Node w nb p.2 ((N : Int) - 2 * k) ⟨#[]⟩ (.pointer none) (.slice none 0 0) := by
    rcases u5 with ⟨_, h⟩ | ⟨h, _⟩
    · exact h
    · exact absurd rfl h
  obtain ⟨d0, d1, d2, d3, d4⟩ := N1.cells
  have hcb : first p < 256 := by have := s[0].toNat_lt; omega
  have hb0 : (0 : Int) ≤ (first p : Int) := by omega
  have hb1 : (first p : Int) < 256 := by omega
  have hm0 : (0 : Int) ≤ (m : Int) := by omega
  have hm1 : (m : Int) < (n : Int) := by omega
  have hm2 : ((m : Int) == (n : Int)) = false := by rw [beq_eq_false_iff_ne]; omega
  have hp : (0 : Int) < (N : Int) - 2 * k := by omega
  have hne := ne_list hs
  have hgn : ¬ g = nb := by have := hB.lt; omega
  generalize (N : Int) - 2 * k = pr at hp d1
  clear u5 N1 q1 q2 q3 q4 u1 u3 hB hr
  go_enter Tryz.func487, Tryz.ntmps487
  go_wp2_with fail
  refine wp_loop_rounds 2 ?_
  rw [rounds_succ]
  go_wp2_with fail
  go_quiet (fail)
  have hF : Below w.heap.size w (w.drewN nq) := below_drewN w nq
  have e0 : ∀ a : Addr, (w.drewN nq).cell? a = w.cell? a := fun _ => rfl
  have H5 := Lib.hid ((e0 _).trans c5)
  have H4 := Lib.hid ((e0 _).trans c4)
  have Ht := Lib.hid ((e0 _).trans ct)
  have D0 := Lib.hid ((e0 _).trans d0)
  have D1 := Lib.hid ((e0 _).trans d1)
  have D2 := Lib.hid ((e0 _).trans d2)
  have D3 := Lib.hid ((e0 _).trans d3)
  have D4 := Lib.hid ((e0 _).trans d4)
  clear e0 c0 c1 c2 c3 c4 c5 ct cm d0 d1 d2 d3 d4
  generalize w.drewN nq = w1 at hF H5 H4 Ht D0 D1 D2 D3 D4 ⊢
  have c5 := H5.out
  have c4 := H4.out
  have ct := Ht.out
  have d0 := D0.out
  have d1 := D1.out
  have d2 := D2.out
  have d3 := D3.out
  have d4 := D4.out
  have HF := Lib.hid hF
  clear H5 H4 Ht D0 D1 D2 D3 D4 hF
  go_wp2_with fail
  rw [rounds_succ]
  go_wp2_with fail
  all_goals (go_ret3; exact ⟨rfl, HF.out⟩)
set_option maxHeartbeats 1000000 in
theorem look_yes (g tb n N : Nat) (M : List Int) (K : Prs) (k : Nat) (p : ByteArray × ByteArray) (s : ByteArray) (w : World) (hB : Built w g tb n M N K) (hn1 : n ≤ 100) (hk : K[k]? = some p) (hN : 2 * k < N) (hN2 : N ≤ 1000) (hs : 0 < s.size) (hs2 : s.size ≤ 1000000000) (hc : s[0].toNat = first p) (hr : rest p ≠ ⟨#[]⟩) (hr2 : (rest p).size ≤ 1000) (hb : hasPre (s.extract 1 s.size) (rest p) = true) :
    Calls Tryz.prog 487 #[.pointer (some ⟨g, 0, none⟩), .string s, .bool false] w (LookEnd p.2 (1 + (rest p).size) true w) := by
  obtain ⟨c0, c1, c2, c3, c4, c5⟩ := hB.gen.cells
  obtain ⟨Tb, q1, q2, q3, q4⟩ := hB.tab
  obtain ⟨nb, m, u1, u2, u3, u4, u5⟩ := q3 k p hk
  have ct : w.cell? ⟨tb, m, none⟩ = some (.pointer (some ⟨nb, 0, none⟩)) := (q2.at m).trans u3
  have cm := hB.gen.at (first p) u1
  obtain ⟨b2, N1, N2, hb12⟩ : ∃ b2, Node w nb ⟨#[]⟩ 0 (rest p) (.pointer (some ⟨b2, 0, none⟩)) (.slice none 0 0) ∧ Node w b2 p.2 ((N : Int) - 2 * k) ⟨#[]⟩ (.pointer none) (.slice none 0 0) ∧ nb < b2 := by
    rcases u5 with ⟨h, _⟩ | ⟨_, h⟩
    · exact absurd h hr
    · exact h
  obtain ⟨d0, d1, d2, d3, d4⟩ := N1.cells
  obtain ⟨g0, g1, g2, g3, g4⟩ := N2.cells
  have hrs : 0 < (rest p).size := by
    rcases Nat.eq_zero_or_pos (rest p).size with h | h
    · exact absurd ((bytes_eq (a := rest p) (b := ⟨#[]⟩)).1 (List.eq_nil_of_length_eq_zero (l := (rest p).data.toList) h)) hr
    · exact h
  have hrn := ne_list hrs
  have hts : (s.extract 1 s.size).size ≤ 1000000000 := by rw [ByteArray.size_extract]; omega
  have hpl : (rest p).size ≤ (s.extract 1 s.size).size := (hasPre_iff.1 hb).length_le
  have htn := ne_list (Nat.lt_of_lt_of_le hrs hpl)
  have PX := Lib.hid (hasPrefix_is (s.extract 1 s.size) (rest p) (by unfold maxLen; omega) true hb)
  have hcb : first p < 256 := by have := s[0].toNat_lt; omega
  have hb0 : (0 : Int) ≤ (first p : Int) := by omega
  have hb1 : (first p : Int) < 256 := by omega
  have hm0 : (0 : Int) ≤ (m : Int) := by omega
  have hm1 : (m : Int) < (n : Int) := by omega
  have hm2 : ((m : Int) == (n : Int)) = false := by rw [beq_eq_false_iff_ne]; omega
  have hp : (0 : Int) < (N : Int) - 2 * k := by omega
  have hne := ne_list hs
  have hgn : ¬ g = nb := by have := hB.lt; omega
  generalize (N : Int) - 2 * k = pr at hp g1
  clear hb u5 N1 N2 q1 q2 q3 q4 u1 u3 hB hr
  go_enter Tryz.func487, Tryz.ntmps487
  go_wp2_with fail
  refine wp_loop_rounds 3 ?_
  rw [rounds_succ]
  go_wp2_with fail
  go_quiet (fail)
  have hF : Below w.heap.size w (w.drewN nq) := below_drewN w nq
  have e0 : ∀ a : Addr, (w.drewN nq).cell? a = w.cell? a := fun _ => rfl
  have H5 := Lib.hid ((e0 _).trans c5)
  have H4 := Lib.hid ((e0 _).trans c4)
  have Ht := Lib.hid ((e0 _).trans ct)
  have D0 := Lib.hid ((e0 _).trans d0)
  have D1 := Lib.hid ((e0 _).trans d1)
  have D2 := Lib.hid ((e0 _).trans d2)
  have D3 := Lib.hid ((e0 _).trans d3)
  have D4 := Lib.hid ((e0 _).trans d4)
  have E0 := Lib.hid ((e0 _).trans g0)
  have E1 := Lib.hid ((e0 _).trans g1)
  have E2 := Lib.hid ((e0 _).trans g2)
  have E3 := Lib.hid ((e0 _).trans g3)
  have E4 := Lib.hid ((e0 _).trans g4)
  clear e0 c0 c1 c2 c3 c4 c5 ct cm d0 d1 d2 d3 d4 g0 g1 g2 g3 g4
  generalize w.drewN nq = w1 at hF H5 H4 Ht D0 D1 D2 D3 D4 E0 E1 E2 E3 E4 ⊢
  have c5 := H5.out
  have c4 := H4.out
  have ct := Ht.out
  have d0 := D0.out
  have d1 := D1.out
  have d2 := D2.out
  have d3 := D3.out
  have d4 := D4.out
  have g0 := E0.out
  have g1 := E1.out
  have g2 := E2.out
  have g3 := E3.out
  have g4 := E4.out
  have HF := Lib.hid hF
  clear H5 H4 Ht D0 D1 D2 D3 D4 E0 E1 E2 E3 E4 hF
  go_wp2_with fail
  rw [rounds_succ]
  go_wp2_with fail
  refine (PX.out _).mono ?_
  rintro e w' ⟨rfl, rfl⟩
  go_wp2_with fail
  rw [rounds_succ]
  go_wp2_with fail
  all_goals (go_ret3; exact ⟨rfl, HF.out⟩)
set_option maxHeartbeats 1000000 in
theorem look_no (g tb n N : Nat) (M : List Int) (K : Prs) (k : Nat) (p : ByteArray × ByteArray) (s : ByteArray) (w : World) (hB : Built w g tb n M N K) (hn1 : n ≤ 100) (hk : K[k]? = some p) (hN : 2 * k < N) (hN2 : N ≤ 1000) (hs : 0 < s.size) (hs2 : s.size ≤ 1000000000) (hc : s[0].toNat = first p) (hr : rest p ≠ ⟨#[]⟩) (hr2 : (rest p).size ≤ 1000) (hb : hasPre (s.extract 1 s.size) (rest p) = false) :
    Calls Tryz.prog 487 #[.pointer (some ⟨g, 0, none⟩), .string s, .bool false] w (LookEnd ⟨#[]⟩ 0 false w) := by
  obtain ⟨c0, c1, c2, c3, c4, c5⟩ := hB.gen.cells
  obtain ⟨Tb, q1, q2, q3, q4⟩ := hB.tab
  obtain ⟨nb, m, u1, u2, u3, u4, u5⟩ := q3 k p hk
  have ct : w.cell? ⟨tb, m, none⟩ = some (.pointer (some ⟨nb, 0, none⟩)) := (q2.at m).trans u3
  have cm := hB.gen.at (first p) u1
  obtain ⟨b2, N1, N2, hb12⟩ : ∃ b2, Node w nb ⟨#[]⟩ 0 (rest p) (.pointer (some ⟨b2, 0, none⟩)) (.slice none 0 0) ∧ Node w b2 p.2 ((N : Int) - 2 * k) ⟨#[]⟩ (.pointer none) (.slice none 0 0) ∧ nb < b2 := by
    rcases u5 with ⟨h, _⟩ | ⟨_, h⟩
    · exact absurd h hr
    · exact h
  obtain ⟨d0, d1, d2, d3, d4⟩ := N1.cells
  obtain ⟨g0, g1, g2, g3, g4⟩ := N2.cells
  have hrs : 0 < (rest p).size := by
    rcases Nat.eq_zero_or_pos (rest p).size with h | h
    · exact absurd ((bytes_eq (a := rest p) (b := ⟨#[]⟩)).1 (List.eq_nil_of_length_eq_zero (l := (rest p).data.toList) h)) hr
    · exact h
  have hrn := ne_list hrs
  have hts : (s.extract 1 s.size).size ≤ 1000000000 := by rw [ByteArray.size_extract]; omega
  have PX := Lib.hid (hasPrefix_is (s.extract 1 s.size) (rest p) (by unfold maxLen; omega) false hb)
  have hcb : first p < 256 := by have := s[0].toNat_lt; omega
  have hb0 : (0 : Int) ≤ (first p : Int) := by omega
  have hb1 : (first p : Int) < 256 := by omega
  have hm0 : (0 : Int) ≤ (m : Int) := by omega
  have hm1 : (m : Int) < (n : Int) := by omega
  have hm2 : ((m : Int) == (n : Int)) = false := by rw [beq_eq_false_iff_ne]; omega
  have hp : (0 : Int) < (N : Int) - 2 * k := by omega
  have hne := ne_list hs
  have hgn : ¬ g = nb := by have := hB.lt; omega
  generalize (N : Int) - 2 * k = pr at hp g1
  clear hb u5 N1 N2 q1 q2 q3 q4 u1 u3 hB hr
  go_enter Tryz.func487, Tryz.ntmps487
  go_wp2_with fail
  refine wp_loop_rounds 3 ?_
  rw [rounds_succ]
  go_wp2_with fail
  go_quiet (fail)
  have hF : Below w.heap.size w (w.drewN nq) := below_drewN w nq
  have e0 : ∀ a : Addr, (w.drewN nq).cell? a = w.cell? a := fun _ => rfl
  have H5 := Lib.hid ((e0 _).trans c5)
  have H4 := Lib.hid ((e0 _).trans c4)
  have Ht := Lib.hid ((e0 _).trans ct)
  have D0 := Lib.hid ((e0 _).trans d0)
  have D1 := Lib.hid ((e0 _).trans d1)
  have D2 := Lib.hid ((e0 _).trans d2)
  have D3 := Lib.hid ((e0 _).trans d3)
  have D4 := Lib.hid ((e0 _).trans d4)
  have E0 := Lib.hid ((e0 _).trans g0)
  have E1 := Lib.hid ((e0 _).trans g1)
  have E2 := Lib.hid ((e0 _).trans g2)
  have E3 := Lib.hid ((e0 _).trans g3)
  have E4 := Lib.hid ((e0 _).trans g4)
  clear e0 c0 c1 c2 c3 c4 c5 ct cm d0 d1 d2 d3 d4 g0 g1 g2 g3 g4
  generalize w.drewN nq = w1 at hF H5 H4 Ht D0 D1 D2 D3 D4 E0 E1 E2 E3 E4 ⊢
  have c5 := H5.out
  have c4 := H4.out
  have ct := Ht.out
  have d0 := D0.out
  have d1 := D1.out
  have d2 := D2.out
  have d3 := D3.out
  have d4 := D4.out
  have g0 := E0.out
  have g1 := E1.out
  have g2 := E2.out
  have g3 := E3.out
  have g4 := E4.out
  have HF := Lib.hid hF
  clear H5 H4 Ht D0 D1 D2 D3 D4 E0 E1 E2 E3 E4 hF
  go_wp2_with fail
  rw [rounds_succ]
  go_wp2_with fail
  · go_ret3
    exact ⟨rfl, HF.out⟩
  · refine (PX.out _).mono ?_
    rintro e w' ⟨rfl, rfl⟩
    go_wp2_with fail
    go_ret3
    exact ⟨rfl, HF.out⟩
end Go.Proofs.YtioaigedcoapcaaGreatDoor.Gr
