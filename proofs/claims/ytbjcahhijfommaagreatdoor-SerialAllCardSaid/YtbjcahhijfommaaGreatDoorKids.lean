/- serial.kids: all kids' pieces, if each kid's come. -/
import Derived.Test.YtbjcahhijfommaaGreatDoorAlly
import Derived.Test.YtbjcahhijfommaaGreatDoorStk
namespace Go.Proofs.YtbjcahhijfommaaGreatDoor.Tr
open Go Go.RowKit
set_option linter.unusedVariables false

section
variable {l : Nat} {T : TypeId → Bool} {B N Bw : Nat} {J Jx : List Pc → World → Prop}
/-- A tree's pieces come. -/
def SayC (l : Nat) (T : TypeId → Bool) (B N : Nat) (J Jx : List Pc → World → Prop) (t : Nd) : Prop :=
  ∀ (par : ByteArray) (pre : List Pc) (w : World) (v0 v1 v2 v3 v4 : Value), J pre w → B ≤ w.heap.size → SpTab w → IsTree w B t v0 v1 v2 v3 v4 → fitT t → pre.length + (sayP (rawB par) t).length ≤ N →
    Calls Tryz.prog 29 #[.agg #[v0, v1, v2, v3, v4], .string par, .func (.yield l) #[] #[]] w (YEnd T B J Jx (pre ++ sayP (rawB par) t) w)
theorem sayQ_at {raw : Bool} {ks : List Nd} {j : Nat} {t : Nd} (h : ks[j]? = some t) : (sayQ raw (ks.take j)).length + (sayP raw t).length ≤ (sayQ raw ks).length := by
  have e : ks = ks.take (j + 1) ++ ks.drop (j + 1) := (List.take_append_drop _ _).symm
  have h2 := congrArg (fun x => (sayQ raw x).length) e
  simp only [sayQ_append, sayQ_take h, List.length_append] at h2
  omega
/-- The kids where they lie. -/
def KidsAt (w : World) (B : Nat) (K : Option Addr) (ks : List Nd) : Prop :=
  ∀ (j : Nat) (t : Nd), ks[j]? = some t → ∃ kb ko, K = some ⟨kb, ko, none⟩ ∧ kb < B ∧ ∃ v0 v1 v2 v3 v4, w.cell? ⟨kb, ko + j * 5, none⟩ = some v0 ∧ w.cell? ⟨kb, ko + j * 5 + 1, none⟩ = some v1 ∧ w.cell? ⟨kb, ko + j * 5 + 2, none⟩ = some v2 ∧ w.cell? ⟨kb, ko + j * 5 + 3, none⟩ = some v3 ∧ w.cell? ⟨kb, ko + j * 5 + 4, none⟩ = some v4 ∧ IsTree w B t v0 v1 v2 v3 v4
theorem KidsAt.below {w w' : World} {B : Nat} {K : Option Addr} {ks : List Nd} (h : KidsAt w B K ks) (hb : Below B w w') : KidsAt w' B K ks := by
  intro j t hj
  obtain ⟨kb, ko, e, hkb, v0, v1, v2, v3, v4, c0, c1, c2, c3, c4, ht⟩ := h j t hj
  have kc : ∀ o, w'.cell? ⟨kb, o, none⟩ = w.cell? ⟨kb, o, none⟩ := fun o => hb.cell (p := ⟨kb, o, none⟩) hkb
  exact ⟨kb, ko, e, hkb, v0, v1, v2, v3, v4, (kc _).trans c0, (kc _).trans c1, (kc _).trans c2, (kc _).trans c3, (kc _).trans c4, ht.keep (fun p hp => hb.cell hp) (Nat.le_refl _)⟩
theorem kidsAt_of {w : World} {B : Nat} {K : Option Addr} {ks : List Nd} (h : ks ≠ [] → ∃ b off, K = some ⟨b, off, none⟩ ∧ b < B ∧ IsKids w B ks b off) : KidsAt w B K ks := by
  intro j t hj
  obtain ⟨b, off, e, hb, hk⟩ := h (by rintro rfl; simp at hj)
  exact ⟨b, off, e, hb, hk.at_ hj⟩
set_option maxHeartbeats 4000000 in
set_option maxRecDepth 100000 in
theorem kids_calls (Y : Yd l T B N Bw J Jx) (hG : 0 < B) (k : Int) (n s : ByteArray) (al : List (ByteArray × ByteArray)) (ks : List Nd) (hS : ∀ t ∈ ks, SayC l T B N J Jx t) (nm : ByteArray) (pre : List Pc) (w : World) (v0 v1 v2 v3 v4 : Value)
    (hJ : J pre w) (hB : B ≤ w.heap.size) (hT : SpTab w) (h : IsTree w B (.mk k n s al ks) v0 v1 v2 v3 v4) (hf : fitL ks) (hN : pre.length + (sayQ (rawB nm) ks).length ≤ N) :
    Calls Tryz.prog 33 #[.agg #[v0, v1, v2, v3, v4], .string nm, .func (.yield l) #[] #[]] w (YEnd T B J Jx (pre ++ sayQ (rawB nm) ks) w) := by
  unfold IsTree at h
  obtain ⟨rfl, rfl, rfl, _, _, _, A, ac, K, kc, rfl, rfl, _, h1, h2, h3⟩ := h
  have HK := Lib.hid (kidsAt_of h3)
  have HS := Lib.hid hS
  have HF := Lib.hid hf
  have HN := Lib.hid hN
  have HT := Lib.hid hT
  have HST := Lib.hid (YRel.start (T := T) hJ hB)
  clear h3 hS hf hN hT hJ
  go_enter Tryz.func33, Tryz.ntmps33
  go_wp2_with fail
  have HBX := Lib.hid (HST.out.alloc Y (.cells #[.int .i64 k, .string n, .string s, .slice A al.length ac, .slice K ks.length kc] 25))
  go_loopw [12] (fun i wr => ∃ j : Nat, j ≤ ks.length ∧ i = .int .i64 j ∧ YRel T B J (pre ++ sayQ (rawB nm) (ks.take j)) w wr) (fun i _ => ks.length - (intOf i).toNat)
  case atStart => exact ⟨0, Nat.zero_le _, rfl, by rw [List.take_zero, show sayQ (rawB nm) [] = [] by unfold sayQ; rfl, List.append_nil]; exact HBX.out⟩
  case round =>
    obtain ⟨j, hj, rfl, hR⟩ := hrel
    by_cases hjl : j < ks.length
    · obtain ⟨t, ht⟩ : ∃ t, ks[j]? = some t := ⟨_, List.getElem?_eq_getElem hjl⟩
      obtain ⟨kb, ko, rfl, hkb, x0, x1, x2, x3, x4, c0, c1, c2, c3, c4, htr⟩ := HK.out.below hR.k.below j t ht
      have hjz : (j : Int) < (ks.length : Int) := by omega
      have hNn : (pre ++ sayQ (rawB nm) (ks.take j)).length + (sayP (rawB nm) t).length ≤ N := by
        have h4 := sayQ_at (raw := rawB nm) ht
        have h5 := HN.out
        rw [List.length_append]; omega
      have hw : wrap64 ((j : Int) + 1) = ((j + 1 : Nat) : Int) := by unfold maxLen at h2; unfold wrap64; omega
      have hal : ∀ o, Below B wr (wr.alloc o) := fun o => (Below.refl _ wr).alloc hR.sizeB o
      have HC : Hid (∀ o, Calls Tryz.prog 29 #[.agg #[x0, x1, x2, x3, x4], .string nm, .func (.yield l) #[] #[]] (wr.alloc o) (YEnd T B J Jx ((pre ++ sayQ (rawB nm) (ks.take j)) ++ sayP (rawB nm) t) (wr.alloc o))) := Lib.hid fun o =>
        HS.out t (List.mem_of_getElem? ht) nm _ _ _ _ _ _ _ (Y.alloc hR.j o) (by have := hR.sizeB; rw [World.size_alloc]; omega) ((HT.out.below hR.k.below hG).below (hal o) hG) (htr.keep (fun p hp => (hal o).cell hp) (Nat.le_refl _)) (fitL_at HF.out ht) hNn
      have HR := Lib.hid hR
      have HTK := Lib.hid (sayQ_take (raw := rawB nm) ht)
      clear hR ht hNn hal
      cases t with
      | mk k' n' s' al' ks' =>
        unfold IsTree at htr
        obtain ⟨rfl, rfl, rfl, _, _, _, A', ac', K', kc', rfl, rfl, _, _, _, _⟩ := htr
        go_wp2_with fail
        refine (HC.out _).mono ?_
        rintro e w2 (⟨rfl, hJ2, hk2⟩ | ⟨rfl, q, hq⟩)
        · have hR2 := (HR.out.alloc Y _).next hJ2 hk2
          rw [List.append_assoc, ← HTK.out] at hR2
          have HR2 := Lib.hid hR2
          clear hR2 hJ2 hk2
          go_wp2_with fail
          go_roundw
          case rel => exact ⟨j + 1, by omega, by rw [hw], HR2.out⟩
          case measure => simp only [hw]; simp [intOf]; omega
        · go_wp2_with fail
          go_ret
          exact .inr ⟨rfl, q, hq⟩
    · obtain rfl : j = ks.length := by omega
      have hjz : ¬ ((ks.length : Int) < (ks.length : Int)) := by omega
      have hR2 := hR
      rw [List.take_length] at hR2
      have HR2 := Lib.hid hR2
      clear hR hR2
      go_wp2_with fail
      go_ret
      exact HR2.out.end_
end
end Go.Proofs.YtbjcahhijfommaaGreatDoor.Tr
