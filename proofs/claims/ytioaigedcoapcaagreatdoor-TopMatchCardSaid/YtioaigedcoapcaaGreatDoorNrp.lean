/- strings.NewReplacer. -/
import Derived.Test.YtioaigedcoapcaaGreatDoorRpc
namespace Go.Proofs.YtioaigedcoapcaaGreatDoor.Gr
open Go Go.RowKit Go.Proofs.YtioaigedcoapcaaGreatDoor.Tr Go.Proofs.YtioaigedcoapcaaGreatDoor.Sr Go.Proofs.YtioaigedcoapcaaGreatDoor.On
set_option linter.unusedVariables false
set_option maxRecDepth 100000

/-- The texts in a row. -/
def strs (K : Prs) : List Value := K.flatMap fun p => [.string p.1, .string p.2]
theorem strs_len (K : Prs) : (strs K).length = 2 * K.length := by
  unfold strs
  induction K with
  | nil => rfl
  | cons p r ih => rw [List.flatMap_cons, List.length_append, ih, List.length_cons]; simp; omega
theorem strs_at : ∀ (K : Prs) (k : Nat) (p : ByteArray × ByteArray), K[k]? = some p → (strs K)[2 * k]? = some (.string p.1) ∧ (strs K)[2 * k + 1]? = some (.string p.2)
  | [], k, p, h => by simp at h
  | q :: r, 0, p, h => by
    have h' : q = p := by simpa using h
    subst h'; exact ⟨rfl, rfl⟩
  | q :: r, k + 1, p, h => by
    have ih := strs_at r k p (by simpa using h)
    have e : strs (q :: r) = .string q.1 :: .string q.2 :: strs r := rfl
    rw [e, show 2 * (k + 1) = 2 * k + 1 + 1 by omega, show 2 * k + 1 + 1 + 1 = (2 * k + 1) + 1 + 1 by omega]
    exact ⟨by simpa using ih.1, by simpa using ih.2⟩
theorem strs_one (K : Prs) : ∀ u ∈ strs K, u.oneCell' = true := by
  intro u hu
  unfold strs at hu
  obtain ⟨p, _, h⟩ := List.mem_flatMap.1 hu
  rcases List.mem_cons.1 h with rfl | h
  · rfl
  · rcases List.mem_cons.1 h with rfl | h
    · rfl
    · cases h
theorem str_info : (Tryz.prog.info? 9).map (fun i => (i.zero, i.size, i.bytes)) = some (some (.string ⟨#[]⟩), 1, 16) := by kernel_rfl
def NrpEnd (K : Prs) (N : Nat) (w : World) (e : Ending) (w' : World) : Prop := ∃ r sb cap sm, e = .returned (.pointer (some ⟨r, 0, none⟩)) ∧ w'.heap[r]? = some (.cells #[.int .u32 0, .int .i32 0, sm, .nilIface, .slice (some ⟨sb, 0, none⟩) N cap] 363 (0, 0)) ∧ Olds w' sb K ∧ sb ≠ r ∧ w.heap.size ≤ r ∧ Below w.heap.size w w'
theorem new_calls (K : Prs) (N : Nat) (hN : N = 2 * K.length) (h2 : N ≤ 1000) (h0 : 0 < N) (ad : Addr) (c : Nat) (w : World) (hc : ∀ j u, (strs K)[j]? = some u → w.cell? (ad.add j) = some u) :
    Calls Tryz.prog 273 #[.slice (some ad) N c] w (NrpEnd K N w) := by
  obtain ⟨i0, hi, hz0, hz1, hz2⟩ := info_parts str_info
  have HC := Lib.hid hc
  have HN := Lib.hid hN
  have hev : ((N : Int) % 2 == 1) = false := by rw [beq_eq_false_iff_ne]; omega
  have hev2 : ((N : Int).tmod 2 == 1) = false := by rw [beq_eq_false_iff_ne, Int.tmod_eq_emod_of_nonneg (by omega)]; omega
  have h00 : (0 : Int) ≤ (N : Int) := by omega
  clear hc hN
  go_enter Tryz.func273, Tryz.ntmps273
  go_wp2_with (at_builtin; refine wpList_append_own _ rfl _ _ 122 rfl w.heap.size 9 i0 (.string ⟨#[]⟩) 1 16 Tryz.underlying122 hi hz0 hz1 hz2 rfl (by decide) _ _ _ rfl (World.ownsRow_nil w w.heap.size 9 1) ad N c (strs K) rfl ?c1 HC.out (strs_one K) ?c3 ?c4 (Nat.le_refl _) ?_)
  case c1 => rw [strs_len]; have := HN.out; omega
  case c3 => unfold maxLen; omega
  case c4 => omega
  intro v' w2 hown' hgrow hiff
  obtain ⟨sb, cap, rfl⟩ : ∃ g cap, v' = .slice (some ⟨g, 0, none⟩) N cap := by
    rcases hown'.2 with ⟨_, h⟩ | ⟨g, cap, cur, hv, _⟩
    · omega
    · exact ⟨g, cap, hv⟩
  have hsl := hown'.lt sb rfl
  have hO : Olds w2 sb K := by
    have hcl := hown'.cells (g := sb) rfl
    have ha : ∀ j, (⟨sb, 0, none⟩ : Addr).add j = ⟨sb, j, none⟩ := fun j => by unfold Addr.add; split <;> simp_all
    exact ⟨fun k p hp => ha (2 * k) ▸ hcl _ _ (strs_at K k p hp).1, fun k p hp => ha (2 * k + 1) ▸ hcl _ _ (strs_at K k p hp).2, hsl.2⟩
  have hB : Below w.heap.size w w2 := (Below.refl _ _).grown hgrow (Nat.le_refl _) (fun k hk => by cases hk)
  have HO := Lib.hid hO
  have HB := Lib.hid hB
  clear hown' hgrow hiff hO hB
  go_wp2_with fail
  go_ret
  have hO2 : ∀ o, Olds (w2.alloc o) sb K := fun o => HO.out.below ((Below.refl w2.heap.size w2).alloc (Nat.le_refl _) o) HO.out.lt
  exact ⟨_, sb, cap, _, rfl, alloc_new w2 _, hO2 _, by have := HO.out.lt; omega, HB.out.size, HB.out.alloc HB.out.size _⟩
end Go.Proofs.YtioaigedcoapcaaGreatDoor.Gr
