/- Small: what it tells of a tree. -/
import Derived.Test.YtbjcahhijfommaaGreatDoorTr
import Derived.Test.YtbjcahhijfommaaGreatDoorFr
import Derived.OneCell
import Derived.BigQuiet
import Derived.BigGuardPart
namespace Go.Proofs.YtbjcahhijfommaaGreatDoor.Tr
open Go Go.RowKit

mutual
/-- How many nodes. -/
def cntT : Nd → Nat | .mk _ _ _ _ ks => cntL ks + 1
def cntL : List Nd → Nat | [] => 0 | t :: ts => cntT t + cntL ts
end
mutual
/-- Not too much, so deep. -/
def okT (d : Nat) : Nd → Prop | .mk _ n s al ks => d ≤ 70 ∧ al.length ≤ 20 ∧ n.size ≤ 200 ∧ s.size ≤ 6000 ∧ (∀ a ∈ al, a.1.size ≤ 200 ∧ a.2.size ≤ 6000) ∧ okL (d + 1) ks
def okL (d : Nat) : List Nd → Prop | [] => True | t :: ts => okT d t ∧ okL d ts
end
theorem cntT_pos (t : Nd) : 0 < cntT t := by cases t; unfold cntT; omega
theorem cntL_take_succ {ks : List Nd} {j : Nat} {t : Nd} (h : ks[j]? = some t) : cntL (ks.take (j + 1)) = cntL (ks.take j) + cntT t := by
  induction ks generalizing j with
  | nil => simp at h
  | cons x xs ih =>
    cases j with
    | zero => simp at h; subst h; simp [cntL]
    | succ j => have := ih (j := j) (by simpa using h); simp only [List.take_succ_cons, cntL]; omega
theorem okL_take_succ {d : Nat} {ks : List Nd} {j : Nat} {t : Nd} (h : ks[j]? = some t) (h1 : okL d (ks.take j)) (h2 : okT d t) : okL d (ks.take (j + 1)) := by
  induction ks generalizing j with
  | nil => simp at h
  | cons x xs ih =>
    cases j with
    | zero => simp at h; subst h; simp [okL]; exact h2
    | succ j => simp only [List.take_succ_cons, okL] at h1 ⊢; exact ⟨h1.1, ih (by simpa using h) h1.2⟩
theorem cntL_mem {ks : List Nd} {j : Nat} {t : Nd} (h : ks[j]? = some t) : cntT t ≤ cntL ks := by
  induction ks generalizing j with
  | nil => simp at h
  | cons x xs ih =>
    cases j with
    | zero => simp at h; subst h; simp [cntL]
    | succ j => have := ih (j := j) (by simpa using h); simp only [cntL]; omega
/-- The world behind small's first lines. -/
structure SmallW (w : World) (Bn : Nat) (n : Int) (S1 S2 : Value) (w2 : World) : Prop where
  num : w2.heap[Bn]? = some (.cells #[.int .i64 n] 3 (0, 0))
  fr : Fr (· = Bn) w.heap.size w w2
  size : w.heap.size < w2.heap.size
  c3 : w2.cell? ⟨w.heap.size, 3, none⟩ = some S1
  c4 : w2.cell? ⟨w.heap.size, 4, none⟩ = some S2
theorem small_world {w : World} {Bn : Nat} {n n' k : Int} {nm tx : ByteArray} {S1 S2 : Value} (hn : w.heap[Bn]? = some (.cells #[.int .i64 n] 3 (0, 0))) :
    SmallW w Bn n' S1 S2 ((w.setCell ⟨Bn, 0, none⟩ (.int .i64 n')).alloc (.cells #[.int .i64 k, .string nm, .string tx, S1, S2] 25)) := by
  have e : (w.setCell ⟨Bn, 0, none⟩ (.int .i64 n')).heap.size = w.heap.size := by simp
  have h := alloc_new (w.setCell ⟨Bn, 0, none⟩ (.int .i64 n')) (.cells #[.int .i64 k, .string nm, .string tx, S1, S2] 25)
  rw [e] at h
  refine ⟨alloc_old (one_setCell hn) _, ((Fr.refl (· = Bn) w.heap.size w).setCell (p := ⟨Bn, 0, none⟩) (.inr rfl) _).alloc (by simp) _, by simp, ?_, ?_⟩
  · rw [block_cell h]; rfl
  · rw [block_cell h]; rfl
def SmallEnd (w : World) (Bn d : Nat) (n : Int) (t : Nd) (e : Ending) (w' : World) : Prop :=
  ∃ (ok : Bool) (n' : Int), e = .returned (.bool ok) ∧ w'.heap[Bn]? = some (.cells #[.int .i64 n'] 3 (0, 0)) ∧ Fr (· = Bn) w.heap.size w w' ∧ (ok = true → okT d t ∧ n' = n + cntT t ∧ n' ≤ 400)
theorem small_no {w w' : World} {Bn d : Nat} {n n' : Int} {t : Nd} {S1 S2 : Value} (h : SmallW w Bn n' S1 S2 w') : SmallEnd w Bn d n t (.returned (.bool false)) w' :=
  ⟨false, n', rfl, h.num, h.fr, fun h => by cases h⟩

/-- The first j attributes are short. -/
def AttrOk (al : List (ByteArray × ByteArray)) (j : Nat) : Prop := ∀ i a, i < j → al[i]? = some a → a.1.size ≤ 200 ∧ a.2.size ≤ 6000
theorem attrOk_zero (al : List (ByteArray × ByteArray)) : AttrOk al 0 := fun i _ h => absurd h (by omega)
theorem attrOk_succ {al : List (ByteArray × ByteArray)} {j : Nat} {x : ByteArray × ByteArray} (hx : al[j]? = some x) (h : AttrOk al j) (h1 : x.1.size ≤ 200) (h2 : x.2.size ≤ 6000) : AttrOk al (j + 1) := by
  intro i a hi ha
  rcases Nat.lt_or_ge i j with hl | hl
  · exact h i a hl ha
  · obtain rfl : i = j := by omega
    rw [hx] at ha; injection ha with ha; subst ha; exact ⟨h1, h2⟩
theorem attrOk_all {al : List (ByteArray × ByteArray)} (h : AttrOk al al.length) : ∀ a ∈ al, a.1.size ≤ 200 ∧ a.2.size ≤ 6000 := by
  intro a ha
  obtain ⟨i, hi⟩ := List.mem_iff_getElem?.1 ha
  exact h i a (List.getElem?_eq_some_iff.1 hi).1 hi

/-- The first j kids are not too much. -/
def KidsOk (w : World) (Bn d : Nat) (n : Int) (ks : List Nd) (S2 : Value) (j : Nat) (wr : World) : Prop :=
  ∃ n' : Int, wr.heap[Bn]? = some (.cells #[.int .i64 n'] 3 (0, 0)) ∧ Fr (· = Bn) w.heap.size w wr ∧ w.heap.size < wr.heap.size ∧ wr.cell? ⟨w.heap.size, 4, none⟩ = some S2 ∧ n' = n + 1 + cntL (ks.take j) ∧ n' ≤ 400 ∧ okL (d + 1) (ks.take j)

set_option maxHeartbeats 1000000 in
theorem small_calls (m : Nat) : ∀ (t : Nd) (v0 v1 v2 v3 v4 : Value) (B Bn d : Nat) (D n : Int) (w : World), D = d → cntT t ≤ m → IsTree w B t v0 v1 v2 v3 v4 → B ≤ Bn → w.heap[Bn]? = some (.cells #[.int .i64 n] 3 (0, 0)) → 0 ≤ n → n ≤ 400 → d ≤ 71 →
    Calls Tryz.prog 15 #[.agg #[v0, v1, v2, v3, v4], .int .i64 D, .pointer (some ⟨Bn, 0, none⟩)] w (SmallEnd w Bn d n t) := by
  induction m with
  | zero => intro t _ _ _ _ _ _ _ _ _ _ _ _ h; have := cntT_pos t; omega
  | succ m ih =>
  rintro t v0 v1 v2 v3 v4 B Bn d _ n w rfl hm ht hB hn hn0 hn1 hd
  match t with
  | .mk k nm tx al ks =>
    unfold IsTree at ht
    obtain ⟨rfl, rfl, rfl, wk, bn, bt, A, ac, K, kc, rfl, rfl, hat, hk1, hk2, hks⟩ := ht
    have hlt : Bn < w.heap.size := lt_of_block hn
    have hc := cell_of_one hn
    have hf := free_of_one hn
    have hW := small_world (n' := n + 1) (k := k) (nm := nm) (tx := tx) (S1 := .slice A al.length ac) (S2 := .slice K ks.length kc) hn
    have ha1 := hat.1
    have ha2 := hat.2.1
    have IH := Lib.hid ih
    have HKS := Lib.hid hks
    have HN := Lib.hid hn
    clear ih hks hn
    unfold maxLen at *
    go_enter Tryz.func15, Tryz.ntmps15
    go_wp2_with fail
    · go_ret; exact small_no hW
    · go_ret; exact small_no hW
    · go_ret; exact small_no hW
    · go_ret; exact small_no hW
    · go_ret; exact small_no hW
    have q1 : n + 1 ≤ 400 := by assumption
    have q2 : (d : Int) ≤ 70 := by assumption
    have q3 : (al.length : Int) ≤ 20 := by assumption
    have q4 : (nm.size : Int) ≤ 200 := by assumption
    have q5 : (tx.size : Int) ≤ 6000 := by assumption
    generalize (w.setCell ⟨Bn, 0, none⟩ (.int .i64 (n + 1))).alloc (.cells #[.int .i64 k, .string nm, .string tx, .slice A al.length ac, .slice K ks.length kc] 25) = w2 at hW ⊢
    have hb : w.heap.size < w2.heap.size := hW.size
    have c3 := hW.c3
    have c4 := hW.c4
    have HW := Lib.hid hW
    have kp : ∀ p : Addr, p.block < B → w2.cell? p = w.cell? p := fun p hp => hW.fr.cell (by omega) (by omega)
    have HAT := Lib.hid (hat.keep kp (Nat.le_refl B))
    clear hW hc hf kp hat
    go_loop [7] (fun i => ∃ j : Nat, j ≤ al.length ∧ i = .int .i64 j ∧ AttrOk al j) (fun i => al.length - (intOf i).toNat)
    case atStart => exact ⟨0, Nat.zero_le _, rfl, attrOk_zero al⟩
    case round =>
      obtain ⟨j, hj, rfl, hok⟩ := hrel
      by_cases hlt : j < al.length
      · obtain ⟨x, hx⟩ : ∃ x, al[j]? = some x := ⟨_, List.getElem?_eq_getElem hlt⟩
        obtain ⟨_, _, z3, z4⟩ := HAT.out
        obtain ⟨b, off, rfl, hbB, hcell⟩ := z4 (by rintro rfl; simp at hlt)
        have c5 := (hcell j x hx).1
        have c6 := (hcell j x hx).2
        have s5 := (z3 x (List.mem_of_getElem? hx)).1
        have s6 := (z3 x (List.mem_of_getElem? hx)).2
        unfold maxLen at s5 s6
        have HX := Lib.hid hx
        clear z3 z4 hcell hx
        go_wp2_with fail
        · go_ret; exact small_no HW.out
        · go_ret; exact small_no HW.out
        · have r1 : x.1.size ≤ 200 := by omega
          have r2 : x.2.size ≤ 6000 := by omega
          go_round
          case rel => exact ⟨j + 1, by omega, by go_num, attrOk_succ HX.out hok (by omega) (by omega)⟩
          case measure => simp [intOf]; omega
      · obtain rfl : j = al.length := by omega
        go_wp2_with fail
        have HR : KidsOk w Bn d n ks (.slice K ks.length kc) 0 w2 := ⟨n + 1, HW.out.num, HW.out.fr, hb, c4, by simp [cntL], q1, by simp [okL]⟩
        have HA := attrOk_all hok
        have HAL : Hid _ := Lib.hid HA
        clear hok HA HW c3 c4 HAT
        go_loopw [8] (fun i wr => ∃ j : Nat, j ≤ ks.length ∧ i = .int .i64 j ∧ KidsOk w Bn d n ks (.slice K ks.length kc) j wr) (fun i _ => ks.length - (intOf i).toNat)
        case atStart => exact ⟨0, Nat.zero_le _, rfl, HR⟩
        case round =>
          obtain ⟨j, hj, rfl, hok⟩ := hrel
          obtain ⟨n', k1, k2, k3, c4, k5, k6, k7⟩ := hok
          by_cases hlt : j < ks.length
          · obtain ⟨t, hx⟩ : ∃ x, ks[j]? = some x := ⟨_, List.getElem?_eq_getElem hlt⟩
            obtain ⟨b, off, rfl, hbB, hkids⟩ := HKS.out (by rintro rfl; simp at hlt)
            have kp : ∀ p : Addr, p.block < B → wr.cell? p = w.cell? p := fun p hp => k2.cell (by omega) (by omega)
            obtain ⟨v0, v1, v2, v3, v4, d0, d1, d2, d3, d4, ht⟩ := (hkids.keep hbB kp (Nat.le_refl B)).at_ hx
            have hm' : cntT t ≤ m := by
              have := cntL_mem hx
              unfold cntT at hm; omega
            have HK5 := Lib.hid k5
            have HX := Lib.hid hx
            have HK1 := Lib.hid k1
            have HT := Lib.hid ht
            have n0 : 0 ≤ n' := by omega
            clear kp hkids k5 hx k1 ht
            go_wp2_with fail
            refine (IH.out t v0 v1 v2 v3 v4 B Bn (d + 1) _ n' _ (by omega) hm' HT.out hB HK1.out n0 k6 (by omega)).mono ?_
            rintro e w3 ⟨ok, n3, rfl, g1, g2, g3⟩
            have F3 : Fr (· = Bn) w.heap.size w w3 := k2.trans (g2.mono (by omega) (fun _ _ h => h))
            have c4' : w3.cell? ⟨w.heap.size, 4, none⟩ = some (.slice (some ⟨b, off, none⟩) ks.length kc) := (g2.cell k3 (by show ¬ w.heap.size = Bn; omega)).trans c4
            have s3 : w.heap.size < w3.heap.size := by have := g2.size; omega
            cases ok with
            | false =>
              clear g3 d0 d1 d2 d3 d4 c4'
              go_wp2_with fail
              go_ret
              exact ⟨false, n3, rfl, g1, F3, fun h => by cases h⟩
            | true =>
              obtain ⟨g3, g4, g5⟩ := g3 rfl
              have G4 := Lib.hid g4
              have G1 := Lib.hid g1
              have G3 := Lib.hid g3
              clear g4 d0 d1 d2 d3 d4 g1 g2 g3
              go_wp2_with fail
              go_roundw
              case rel => exact ⟨j + 1, by omega, by go_num, n3, G1.out, F3, s3, c4', by rw [G4.out, HK5.out, cntL_take_succ HX.out]; omega, g5, okL_take_succ HX.out k7 G3.out⟩
              case measure => simp [intOf]; omega
          · obtain rfl : j = ks.length := by omega
            rw [List.take_length] at k5 k7
            have HK5 := Lib.hid k5
            have HK7 := Lib.hid k7
            have HK1 := Lib.hid k1
            clear k5 k7 k1
            go_wp2_with fail
            go_ret
            refine ⟨true, n', rfl, HK1.out, k2, fun _ => ⟨?_, ?_, k6⟩⟩
            · unfold okT; exact ⟨by omega, by omega, by omega, by omega, HAL.out, HK7.out⟩
            · rw [HK5.out]; unfold cntT; omega
/-- A tree that Small lets by. -/
def SmallT (t : Nd) : Prop := okT 0 t ∧ cntT t ≤ 400
end Go.Proofs.YtbjcahhijfommaaGreatDoor.Tr
