/- The law SerialJoins: for every input the call returns true, and each argument reads behind the call as it read before. Its row lists unicode.White_Space and strings.asciiSpace, tied to the program's text by the given tie. No other condition. -/
import Derived.Test.YtbjcahhijfommaaGreatDoorJnP
import Derived.Test.YtbjcahhijfommaaGreatDoorSerT
import Derived.Test.YtbjcahhijfommaaGreatDoorPk
import Derived.Test.YtbjcahhijfommaaGreatDoorSizeS
import Derived.Test.YtbjcahhijfommaaGreatDoorJnW
import Derived.WalkLawsBesides
import Derived.Lib.LaidTab
import Derived.Lib.LaidU8
import Derived.Test.YtbjcahhijfommaaGreatDoorStk
import Derived.Test.YtbjcahhijfommaaGreatDoorRows
import Derived.Test.YtbjcahhijfommaaGreatDoorTie
import Derived.Test.YtbjcahhijfommaaGreatDoorCards
import Derived.WalkKit
import Derived.ProofKit
import Derived.OpenShut
import Derived.ShutString
import Derived.ChangeOld
import Derived.Below
import Derived.Lib.LaidIn
import Derived.Lib.LaidU8T
import Derived.PinnedBridge
import Derived.Deep.DeepHandedRow
import Derived.Deep.DeepWitnessRowRef
import Derived.SizedLaws
import Derived.SevenTiedAt
namespace Go.Proofs.YtbjcahhijfommaaGreatDoor.Tr
open Go Go.RowKit
set_option linter.unusedVariables false

theorem joinT_kind (t : Nd) : (joinT t).kind = t.kind := by cases t; unfold joinT; rfl
theorem joinT_text (t : Nd) : (joinT t).text = t.text := by cases t; unfold joinT; rfl
theorem addText_kind (x : Nd) (s : ByteArray) : (addText x s).kind = x.kind := by cases x; rfl
theorem addText_text (x : Nd) (s : ByteArray) : (addText x s).text = x.text ++ s := by cases x; rfl
theorem addText_join {x : Nd} (h : joinT x = x) (s : ByteArray) : joinT (addText x s) = addText x s := by
  cases x with
  | mk k n tx al ks =>
    unfold joinT at h
    unfold addText joinT
    simp only [Nd.mk.injEq, true_and] at h ⊢
    exact h
/-- What may stand behind these. -/
def okNext (l : List Nd) (y : Nd) : Prop := joinT y = y ∧ (y.kind = 3 → y.text ≠ ⟨#[]⟩ ∧ ∀ l' x, l = l' ++ [x] → fitsOn x y.text = false)
def stab (l : List Nd) : Prop := ∀ a y b, l = a ++ [y] ++ b → okNext a y
theorem stab_nil : stab [] := fun a y b h => by simp at h
theorem stab_snoc {l : List Nd} {y : Nd} (h : stab l) (hy : okNext l y) : stab (l ++ [y]) := by
  intro a z b e
  rcases nil_or_snoc b with rfl | ⟨b', w, rfl⟩
  · rw [List.append_nil] at e
    obtain ⟨h1, h2⟩ := List.append_inj' e rfl
    simp at h2
    subst h1 h2
    exact hy
  · rw [← List.append_assoc] at e
    obtain ⟨h1, h2⟩ := List.append_inj' e rfl
    exact h a z b' h1
theorem stab_init {l : List Nd} {y : Nd} (h : stab (l ++ [y])) : stab l ∧ okNext l y := by
  refine ⟨fun a z b e => h a z (b ++ [y]) (by rw [e]; simp), h l y [] (by simp)⟩
theorem stab_join (n : Nat) : ∀ l : List Nd, l.length = n → stab l → joinL l [] = l := by
  induction n with
  | zero => intro l hl _; obtain rfl := List.length_eq_zero_iff.1 hl; unfold joinL; rfl
  | succ n ih =>
    intro l hl h
    rcases nil_or_snoc l with rfl | ⟨i, y, rfl⟩
    · unfold joinL; rfl
    · obtain ⟨h1, h2, h3⟩ := stab_init h
      rw [joinL_append, ih i (by simpa using hl) h1]
      simp only [joinL]
      rw [h2]
      by_cases hk : y.kind = 3
      · obtain ⟨h4, h5⟩ := h3 hk
        rcases nil_or_snoc i with rfl | ⟨i', x, rfl⟩
        · exact joinAt_first hk h4
        · exact joinAt_off hk h4 (h5 i' x rfl)
      · exact joinAt_other hk
theorem size_ne {s : ByteArray} (h : s ≠ ⟨#[]⟩) : 0 < s.size := by
  rcases Nat.eq_zero_or_pos s.size with h0 | h0
  · exact absurd (by cases s with | mk d => simp [ByteArray.size] at h0; rw [h0]) h
  · exact h0
theorem stab_at {acc : List Nd} {k : Nd} (h : stab acc) (hk : joinT (joinT k) = joinT k) : stab (joinAt acc k (joinT k)) := by
  by_cases h3 : k.kind = 3
  · by_cases h4 : k.text = ⟨#[]⟩
    · rw [joinAt_none h3 h4]; exact h
    · rcases nil_or_snoc acc with rfl | ⟨init, x, rfl⟩
      · rw [joinAt_first h3 h4]
        refine stab_snoc (l := []) stab_nil ⟨hk, fun _ => ⟨by rw [joinT_text]; exact h4, fun l' x e => by simp at e⟩⟩
      · cases hf : fitsOn x k.text with
        | true =>
          rw [joinAt_on h3 h4 hf]
          obtain ⟨h1, h2, h5⟩ := stab_init h
          refine stab_snoc h1 ⟨addText_join h2 _, fun hx => ?_⟩
          rw [addText_kind] at hx
          obtain ⟨h6, h7⟩ := h5 hx
          rw [addText_text]
          refine ⟨fun e => ?_, fun l' z e => ?_⟩
          · have := congrArg ByteArray.size e
            rw [ByteArray.size_append] at this
            have h8 := size_ne h6
            have : x.text.size + k.text.size = 0 := this
            omega
          · have h8 := h7 l' z e
            unfold fitsOn at h8 ⊢
            have h9 := of_decide_eq_false h8
            refine decide_eq_false ?_
            rintro ⟨a1, a2⟩
            rw [ByteArray.size_append] at a2
            exact h9 ⟨a1, by omega⟩
        | false =>
          rw [joinAt_off h3 h4 hf]
          refine stab_snoc h ⟨hk, fun _ => ⟨by rw [joinT_text]; exact h4, fun l' z e => ?_⟩⟩
          obtain ⟨_, e2⟩ := List.append_inj' e rfl
          simp at e2
          subst e2
          rw [joinT_text]; exact hf
  · rw [joinAt_other h3]
    exact stab_snoc h ⟨hk, fun hx => by rw [joinT_kind] at hx; exact absurd hx h3⟩
mutual
/-- Joined twice is joined once. -/
theorem join_join : ∀ t, joinT (joinT t) = joinT t
  | .mk k n s al ks => by
    have h := joins_stab ks [] stab_nil
    unfold joinT
    simp only [joinT]
    rw [stab_join _ _ rfl h]
theorem joins_stab : ∀ ks acc, stab acc → stab (joinL ks acc)
  | [], acc, h => by unfold joinL; exact h
  | t :: ts, acc, h => by
    unfold joinL
    exact joins_stab ts _ (stab_at h (join_join t))
end
theorem cnt_add (x : Nd) (s : ByteArray) : cntT (addText x s) = cntT x := by cases x; unfold addText cntT; rfl
theorem cntL_app1 (l : List Nd) (y : Nd) : cntL (l ++ [y]) = cntL l + cntT y := by
  induction l with
  | nil => simp [cntL]
  | cons x xs ih => simp only [List.cons_append, cntL, ih]; omega
theorem cnt_at (acc : List Nd) (k jk : Nd) : cntL (joinAt acc k jk) ≤ cntL acc + cntT jk := by
  by_cases h3 : k.kind = 3
  · by_cases h4 : k.text = ⟨#[]⟩
    · rw [joinAt_none h3 h4]; omega
    · rcases nil_or_snoc acc with rfl | ⟨init, x, rfl⟩
      · rw [joinAt_first h3 h4]; simp [cntL]
      · cases hf : fitsOn x k.text with
        | true => rw [joinAt_on h3 h4 hf, cntL_app1, cntL_app1, cnt_add]; omega
        | false => rw [joinAt_off h3 h4 hf, cntL_app1]; omega
  · rw [joinAt_other h3, cntL_app1]; omega
mutual
theorem cnt_join : ∀ t, cntT (joinT t) ≤ cntT t
  | .mk k n s al ks => by unfold joinT cntT; have := cnt_joins ks []; simp [cntL] at this; omega
theorem cnt_joins : ∀ ks acc, cntL (joinL ks acc) ≤ cntL acc + cntL ks
  | [], acc => by unfold joinL; simp [cntL]
  | t :: ts, acc => by
    unfold joinL
    have h1 := cnt_joins ts (joinAt acc t (joinT t))
    have h2 := cnt_at acc t (joinT t)
    have h3 := cnt_join t
    simp only [cntL]
    omega
end
theorem attL_app {l : List Nd} {y : Nd} : attL (l ++ [y]) ↔ attL l ∧ attT y := by
  induction l with
  | nil => simp [attL]
  | cons x xs ih => simp only [List.cons_append, attL, ih]; constructor <;> intro h <;> simp_all
theorem att_add {x : Nd} (h : attT x) (s : ByteArray) : attT (addText x s) := by cases x; unfold addText; unfold attT at h ⊢; exact h
theorem att_at {acc : List Nd} {k jk : Nd} (h : attL acc) (hj : attT jk) : attL (joinAt acc k jk) := by
  by_cases h3 : k.kind = 3
  · by_cases h4 : k.text = ⟨#[]⟩
    · rw [joinAt_none h3 h4]; exact h
    · rcases nil_or_snoc acc with rfl | ⟨init, x, rfl⟩
      · rw [joinAt_first h3 h4]; unfold attL; exact ⟨hj, by unfold attL; trivial⟩
      · cases hf : fitsOn x k.text with
        | true => rw [joinAt_on h3 h4 hf]; obtain ⟨h5, h6⟩ := attL_app.1 h; exact attL_app.2 ⟨h5, att_add h6 _⟩
        | false => rw [joinAt_off h3 h4 hf]; exact attL_app.2 ⟨h, hj⟩
  · rw [joinAt_other h3]; exact attL_app.2 ⟨h, hj⟩
mutual
theorem att_join : ∀ t, attT t → attT (joinT t)
  | .mk k n s al ks, h => by unfold attT at h; unfold joinT attT; exact ⟨h.1, att_joins ks [] h.2 (by unfold attL; trivial)⟩
theorem att_joins : ∀ ks acc, attL ks → attL acc → attL (joinL ks acc)
  | [], acc, _, h => by unfold joinL; exact h
  | t :: ts, acc, hk, h => by
    unfold attL at hk
    unfold joinL
    exact att_joins ts _ hk.2 (att_at h (att_join t hk.1))
end
end Go.Proofs.YtbjcahhijfommaaGreatDoor.Tr
namespace Go.Proofs.YtbjcahhijfommaaGreatDoor.Tr
open Go Go.RowKit
set_option linter.unusedVariables false
def brT : Nd := .mk 2 ⟨#[98, 114]⟩ ⟨#[]⟩ [] []
def ltT : Nd := .mk 3 ⟨#[]⟩ ⟨#[60]⟩ [] []
theorem br_say : (⟨(sayT false brT).toArray⟩ : ByteArray) = ⟨#[60, 98, 114, 62]⟩ := by kernel_rfl
theorem lt_say : (⟨(sayT false ltT).toArray⟩ : ByteArray) = ⟨#[38, 108, 116, 59]⟩ := by kernel_rfl
theorem br_fit : fitT brT := by unfold brT fitT; simp [fitL]; decide
theorem lt_fit : fitT ltT := by unfold ltT fitT; simp [fitL]; decide
/-- serial.Text, wherever the table of blanks lies below. -/
theorem textB (t : Nd) (hf : fitT t) (hc : cntT t ≤ 1000000) (v0 v1 v2 v3 v4 : Value) (w W : World) (hT : SpTab w) (hb : Below w.heap.size w W) (h : IsTree W W.heap.size t v0 v1 v2 v3 v4) :
    Calls Tryz.prog 12 #[.agg #[v0, v1, v2, v3, v4]] W fun e w' => e = .returned (.string ⟨(sayT false t).toArray⟩) ∧ Below W.heap.size W w' :=
  text_calls t hf hc _ _ _ _ _ W (Nat.lt_of_lt_of_le hT.lt hb.size) (hT.below hb hT.lt) h
theorem awake16 (w : World) (hT : SpTab w) : Calls Tryz.prog 7 #[] w fun e w' => e = .returned (.bool true) ∧ Below w.heap.size w w' := by
  have H1 : Hid (∀ W, Below w.heap.size w W → Calls Tryz.prog 12 #[.agg #[.int .i64 2, .string ⟨#[98, 114]⟩, .string ⟨#[]⟩, .slice none 0 0, .slice none 0 0]] W fun e w' => e = .returned (.string ⟨#[60, 98, 114, 62]⟩) ∧ Below W.heap.size W w') := Lib.hid fun W hb => by
    have := textB brT br_fit (by decide) _ _ _ _ _ w W hT hb (isTree_leaf (by decide) (by decide) (by decide))
    rwa [br_say] at this
  have H2 : Hid (∀ W, Below w.heap.size w W → Calls Tryz.prog 12 #[.agg #[.int .i64 3, .string ⟨#[]⟩, .string ⟨#[60]⟩, .slice none 0 0, .slice none 0 0]] W fun e w' => e = .returned (.string ⟨#[38, 108, 116, 59]⟩) ∧ Below W.heap.size W w') := Lib.hid fun W hb => by
    have := textB ltT lt_fit (by decide) _ _ _ _ _ w W hT hb (isTree_leaf (by decide) (by decide) (by decide))
    rwa [lt_say] at this
  clear hT
  go_enter Tryz.func7, Tryz.ntmps7
  go_wp2_with fail
  refine (H1.out w (Below.refl _ _)).mono ?_
  rintro e w2 ⟨rfl, hb2⟩
  have HB2 := Lib.hid hb2
  clear hb2
  go_wp2_with fail
  refine (H2.out w2 HB2.out).mono ?_
  rintro e w3 ⟨rfl, hb3⟩
  have HB3 := Lib.hid (HB2.out.trans (hb3.mono HB2.out.size))
  clear hb3
  go_wp2_with fail
  go_ret
  exact ⟨rfl, HB3.out⟩
end Go.Proofs.YtbjcahhijfommaaGreatDoor.Tr
namespace Go.Proofs.YtbjcahhijfommaaGreatDoor.Tr
open Go Go.RowKit
def SpAny (u : Nd) (v : Value) (W : World) : Prop := ∃ x0 x1 x2 x3 x4, v = .agg #[x0, x1, x2, x3, x4] ∧ TreeIn W (fun c => c < W.heap.size) u x0 x1 x2 x3 x4
theorem spAny_later {u : Nd} {x0 x1 x2 x3 x4 : Value} {W W0 : World} (h : SpAny u (.agg #[x0, x1, x2, x3, x4]) W0) (hb : Below W0.heap.size W0 W) : IsTree W W.heap.size u x0 x1 x2 x3 x4 := by
  obtain ⟨y0, y1, y2, y3, y4, e, h1⟩ := h
  injection e with e
  injection e with e
  simp only [List.cons.injEq, and_true] at e
  obtain ⟨rfl, rfl, rfl, rfl, rfl⟩ := e
  exact (h1.is (fun c h => h)).keep (fun p hp => hb.cell hp) hb.size
end Go.Proofs.YtbjcahhijfommaaGreatDoor.Tr
namespace Go.Proofs.YtbjcahhijfommaaGreatDoor.Wk
open Go Go.RowKit Go.Proofs.YtbjcahhijfommaaGreatDoor.Tr
set_option linter.unusedVariables false
set_option maxHeartbeats 8000000 in
set_option maxRecDepth 100000 in
theorem serialJoins (t : Nd) (v0 v1 v2 v3 v4 : Value) (w : World) (ht : IsTree w w.heap.size t v0 v1 v2 v3 v4) (hT : SpTab w) :
    Calls Tryz.prog 3 #[.agg #[v0, v1, v2, v3, v4]] w fun e w' => e = .returned (.bool true) ∧ Below w.heap.size w w' := by
  have FA : Hid (∀ W', Below w.heap.size w W' → IsTree W' W'.heap.size t v0 v1 v2 v3 v4) := Lib.hid fun W' hh => ht.keep (fun p hp => hh.cell hp) hh.size
  have HTB : Hid (∀ W', Below w.heap.size w W' → SpTab W') := Lib.hid fun W' hh => hT.below hh hT.lt
  clear hT
  cases t with
  | mk k n s al ks =>
  have HFIX := Lib.hid ht
  unfold IsTree at ht
  obtain ⟨rfl, rfl, rfl, _, _, _, A, ac, K, kc, rfl, rfl, _, _, _, _⟩ := ht
  generalize htt : Nd.mk k n s al ks = t at *
  have HB2 : Hid (Below w.heap.size w (w.alloc (.cells #[.int .i64 k, .string n, .string s, .slice A al.length ac, .slice K ks.length kc] 25))) := Lib.hid ((Below.refl _ w).alloc (Nat.le_refl _) _)
  have HL2 := Lib.hid (alloc_new w (.cells #[.int .i64 k, .string n, .string s, .slice A al.length ac, .slice K ks.length kc] 25))
  go_enter Tryz.func3, Tryz.ntmps3
  go_wp2_with fail
  generalize w.alloc (.cells #[.int .i64 k, .string n, .string s, .slice A al.length ac, .slice K ks.length kc] 25) = w2 at HB2 HL2 ⊢
  refine (small0_calls t _ _ _ _ _ w2 (FA.out _ HB2.out)).mono ?_
  rintro e w3 ⟨ok, rfl, hok, hb3⟩
  have HB3 : Hid (Below w.heap.size w w3) := Lib.hid (HB2.out.trans (hb3.mono HB2.out.size))
  have HL3 := Lib.hid ((hb3.block _ (lt_of_block HL2.out)).trans HL2.out)
  clear hb3
  cases ok with
  | false =>
    go_wp2_with fail
    refine (awake16 _ (HTB.out _ HB3.out)).mono ?_
    rintro e w4 ⟨rfl, hb4⟩
    have HB4 : Hid (Below w.heap.size w w4) := Lib.hid (HB3.out.trans (hb4.mono HB3.out.size))
    clear hb4
    go_wp2_with fail
    go_ret
    exact ⟨rfl, HB4.out⟩
  | true =>
  obtain ⟨hoa1, hoa2⟩ := hok rfl
  have HOA := Lib.hid hoa1
  clear hok hoa1
  obtain ⟨b0, b1, b2, b3, b4⟩ := box5 HL3.out
  have HCN := Lib.hid hoa2
  go_wp2_with fail
  refine (size_calls 1000000 (by omega) t _ _ _ _ _ w3 (by omega) (FA.out _ HB3.out)).mono ?_
  rintro e w4 ⟨rfl, hb4⟩
  have HB4 : Hid (Below w.heap.size w w4) := Lib.hid (HB3.out.trans (hb4.mono HB3.out.size))
  have HL4 := Lib.hid ((hb4.block _ (lt_of_block HL3.out)).trans HL3.out)
  clear hb4 b0 b1 b2 b3 b4
  by_cases h40 : 40 < cntT t
  · have h41 : 40 < (cntT t : Int) := by omega
    go_wp2_with fail
    refine (awake16 _ (HTB.out _ HB4.out)).mono ?_
    rintro e w5 ⟨rfl, hb5⟩
    have HB5 : Hid (Below w.heap.size w w5) := Lib.hid (HB4.out.trans (hb5.mono HB4.out.size))
    clear hb5
    go_wp2_with fail
    go_ret
    exact ⟨rfl, HB5.out⟩
  · have h41 : ¬ (40 < (cntT t : Int)) := by omega
    obtain ⟨b0, b1, b2, b3, b4⟩ := box5 HL4.out
    have HTR := Lib.hid (tree_calls 1000000 (by omega) t _ _ _ _ _ w4 (by omega) (okT_att 0 _ HOA.out) (FA.out _ HB4.out))
    go_wp2_with fail
    refine HTR.out.mono ?_
    rintro e w5 ⟨x0, x1, x2, x3, x4, rfl, hti, hb5⟩
    have HB5 : Hid (Below w.heap.size w w5) := Lib.hid (HB4.out.trans (hb5.mono HB4.out.size))
    have HXI := Lib.hid (hti.is (B := w5.heap.size) fun c h => h.2)
    clear hb5 hti HTR b0 b1 b2 b3 b4
    have HJN := Lib.hid (join_calls 1000000 (by omega) t _ _ _ _ _ w5.heap.size w5 (by omega) HXI.out (Nat.le_refl _))
    go_wp2_with fail
    refine HJN.out.mono ?_
    rintro e w6 ⟨y0, y1, y2, y3, y4, rfl, hti, hb6⟩
    have HB6 : Hid (Below w.heap.size w w6) := Lib.hid (HB5.out.trans (hb6.mono HB5.out.size))
    have HYI := Lib.hid (hti.is (B := w6.heap.size) fun c h => h.2)
    have HYA := Lib.hid (att_join t (okT_att 0 _ HOA.out))
    have HYC : Hid (cntT (joinT t) ≤ 1000000) := Lib.hid (by have := cnt_join t; omega)
    have HJJ := Lib.hid (join_join t)
    clear hb6 HJN HXI
    generalize joinT t = j at *
    cases j with
    | mk k2 n2 s2 al2 ks2 =>
    unfold TreeIn at hti
    obtain ⟨rfl, rfl, rfl, _, _, _, A2, ac2, K2, kc2, rfl, rfl, _, _, _, _⟩ := hti
    have HB7 : Hid (Below w6.heap.size w6 (w6.alloc (.cells #[.int .i64 k2, .string n2, .string s2, .slice A2 al2.length ac2, .slice K2 ks2.length kc2] 25))) := Lib.hid ((Below.refl _ w6).alloc (Nat.le_refl _) _)
    have HL7 := Lib.hid (alloc_new w6 (.cells #[.int .i64 k2, .string n2, .string s2, .slice A2 al2.length ac2, .slice K2 ks2.length kc2] 25))
    generalize hjj : Nd.mk k2 n2 s2 al2 ks2 = j at *
    go_upto_region 4 with (fail)
    generalize w6.alloc (.cells #[.int .i64 k2, .string n2, .string s2, .slice A2 al2.length ac2, .slice K2 ks2.length kc2] 25) = w7 at HB7 HL7 ⊢
    have HBW : Hid (Below w.heap.size w w7) := Lib.hid (HB6.out.trans (HB7.out.mono HB6.out.size))
    have FJ : Hid (∀ W, Below w7.heap.size w7 W → IsTree W W.heap.size j (.int .i64 k2) (.string n2) (.string s2) (.slice A2 al2.length ac2) (.slice K2 ks2.length kc2)) := Lib.hid fun W hh => HYI.out.keep (fun p hp => (HB7.out.trans (hh.mono HB7.out.size)).cell hp) (HB7.out.trans (hh.mono HB7.out.size)).size
    have HTR : Hid (∀ W, Below w7.heap.size w7 W → Calls Tryz.prog 9 #[.agg #[.int .i64 k2, .string n2, .string s2, .slice A2 al2.length ac2, .slice K2 ks2.length kc2]] W (TreeEnd j W)) := Lib.hid fun W hW => tree_calls 1000000 (by omega) j _ _ _ _ _ W HYC.out HYA.out (FJ.out W hW)
    have HJO : Hid (∀ W z0 z1 z2 z3 z4, IsTree W W.heap.size j z0 z1 z2 z3 z4 → Calls Tryz.prog 8 #[.agg #[z0, z1, z2, z3, z4]] W (JoinEnd W.heap.size j W)) := Lib.hid fun W z0 z1 z2 z3 z4 hz => join_calls 1000000 (by omega) j _ _ _ _ _ _ W HYC.out hz (Nat.le_refl _)
    have HSA : Hid (∀ W z0 z1 z2 z3 z4, Below w7.heap.size w7 W → IsTree W W.heap.size j z0 z1 z2 z3 z4 → Calls Tryz.prog 10 #[.agg #[z0, z1, z2, z3, z4], .agg #[.int .i64 k2, .string n2, .string s2, .slice A2 al2.length ac2, .slice K2 ks2.length kc2]] W fun e w' => e = .returned (.bool true) ∧ Below W.heap.size W w') := Lib.hid fun W z0 z1 z2 z3 z4 hW hz => (same_calls j j _ _ _ _ _ _ _ _ _ _ W hz (FJ.out W hW)).mono fun e w' ⟨s, h1, h2, h3⟩ => ⟨by rw [h1, h3.2 rfl], h2⟩
    have HAW : Hid (∀ W, Below w7.heap.size w7 W → Calls Tryz.prog 7 #[] W fun e w' => e = .returned (.bool true) ∧ Below W.heap.size W w') := Lib.hid fun W hW => awake16 W (HTB.out _ (HBW.out.trans (hW.mono HBW.out.size)))
    obtain ⟨b0, b1, b2, b3, b4⟩ := box5 HL7.out
    replace b0 := cell_regrown b0
    replace b1 := cell_regrown b1
    replace b2 := cell_regrown b2
    replace b3 := cell_regrown b3
    replace b4 := cell_regrown b4
    refine Kr.wp_region_R [(1, SpAny j), (2, SpAny j), (4, fun v _ => v = .bool true), (6, fun v _ => v = .bool true)] mixed2 (by kernel_rfl) ?_
    repeat (refine Kr.wpR_one rfl rfl ?_; go_big_quiet_step (fail); refine wpQuiet_nil ?_)
    refine Kr.wpR_call _ rfl rfl rfl ?_ ?_
    · intro W hW hk
      go_simp
      refine Kr.upMany_enter ((HTR.out W (Kr.later_iff.1 hW)).mono ?_)
      rintro e w' ⟨x0, x1, x2, x3, x4, rfl, hin, hbb⟩
      exact ⟨_, rfl, ⟨x0, x1, x2, x3, x4, rfl, hin.keep fun c ⟨h1, h2⟩ => ⟨h2, fun _ => rfl⟩⟩, hbb⟩
    rintro v ⟨_, _, _, _, hS, _⟩
    obtain ⟨x0, x1, x2, x3, x4, rfl, _⟩ := hS
    go_frame
    repeat (refine Kr.wpR_one rfl rfl ?_; go_big_quiet_step (fail); refine wpQuiet_nil ?_)
    refine Kr.wpR_call _ rfl rfl rfl ?_ ?_
    · intro W hW hk
      have HTX : Hid (IsTree W W.heap.size j x0 x1 x2 x3 x4) := Lib.hid (by
        obtain ⟨W0, h1, hb⟩ := hk 17 _ (.inl ⟨rfl, rfl⟩) (by decide)
        exact spAny_later h1 hb)
      clear hk
      go_simp
      refine Kr.upMany_enter ((HJO.out W x0 x1 x2 x3 x4 HTX.out).mono ?_)
      rintro e w' ⟨z0, z1, z2, z3, z4, rfl, hin, hbb⟩
      rw [HJJ.out] at hin
      exact ⟨_, rfl, ⟨z0, z1, z2, z3, z4, rfl, hin.keep fun c ⟨h1, h2⟩ => ⟨h2, fun _ => rfl⟩⟩, hbb⟩
    rintro v ⟨_, _, _, _, hS, _⟩
    obtain ⟨z0, z1, z2, z3, z4, rfl, _⟩ := hS
    go_frame
    repeat (refine Kr.wpR_one rfl rfl ?_; go_big_quiet_step (fail); refine wpQuiet_nil ?_)
    refine Kr.wpR_call _ rfl rfl rfl ?_ ?_
    · intro W hW hk
      have HTX : Hid (IsTree W W.heap.size j z0 z1 z2 z3 z4) := Lib.hid (by
        obtain ⟨W0, h1, hb⟩ := hk 18 _ (.inl ⟨rfl, rfl⟩) (by decide)
        exact spAny_later h1 hb)
      clear hk
      have HLL := Lib.hid (Kr.later_iff.1 hW)
      go_simp
      refine Kr.upMany_enter ((HSA.out W z0 z1 z2 z3 z4 HLL.out HTX.out).mono ?_)
      rintro e w' ⟨rfl, hbb⟩
      exact ⟨_, rfl, rfl, hbb⟩
    rintro v ⟨_, _, _, _, hS, _⟩
    obtain rfl := hS
    go_frame
    repeat (refine Kr.wpR_one rfl rfl ?_; go_big_quiet_step (fail); refine wpQuiet_nil ?_)
    refine Kr.wpR_call _ rfl rfl rfl ?_ ?_
    · intro W hW hk
      go_simp
      refine Kr.upMany_enter ((HAW.out W (Kr.later_iff.1 hW)).mono ?_)
      rintro e w' ⟨rfl, hbb⟩
      exact ⟨_, rfl, rfl, hbb⟩
    rintro v ⟨_, _, _, _, hS, _⟩
    obtain rfl := hS
    go_frame
    repeat (refine Kr.wpR_one rfl rfl ?_; go_big_quiet_step (fail); refine wpQuiet_nil ?_)
    refine Kr.wpR_nil ?_
    intro w' hb _
    have HBZ : Hid (Below w.heap.size w w') := Lib.hid (HBW.out.trans (hb.mono HBW.out.size))
    clear hb
    go_wp2_with fail
    go_ret
    exact ⟨rfl, HBZ.out⟩
end Go.Proofs.YtbjcahhijfommaaGreatDoor.Wk
namespace Go.Proofs.YtbjcahhijfommaaGreatDoor.Tr
open Go Go.RowKit
set_option maxRecDepth 100000
theorem spTab_of {W : World} (h : Lib.VarReads Tryz.prog W "strings.asciiSpace" (Lib.tabData .u8 Lib.asciiSpaceTab)) : SpTab W := by
  obtain ⟨g, t, cs, fuel, p, h1, h2, h3, h4⟩ := h
  have hg : Tryz.prog.globalNamed "strings.asciiSpace" = some 0 := by kernel_rfl
  obtain rfl := Option.some.inj (hg.symm.trans h1)
  have ht : (Tryz.prog.globals[0]?).map (·.type) = some 99 := by kernel_rfl
  obtain rfl := Option.some.inj (ht.symm.trans h2)
  have ti : Lib.TabIs Tryz.prog W "strings.asciiSpace" .u8 Lib.asciiSpaceTab := by
    unfold Lib.TabIs
    rw [h3, ← Lib.cells_of_tab Tryz.underlying99 Tryz.underlying5 (by kernel_rfl) (by kernel_rfl) h4]
  intro c hc
  have := ti.cell hg c (by rw [Lib.asciiSpaceTab_length]; exact hc)
  rwa [Lib.asciiSpaceTab_at c hc] at this
end Go.Proofs.YtbjcahhijfommaaGreatDoor.Tr
namespace Go.Proofs.YtbjcahhijfommaaGreatDoor.serialJoins
open Go Go.Shelf Go.ChangeShapes Go.WideShapes Go.ChangeAt Go.RowKit Go.Lib
open Go.ChangeMaps (open_string shut_string)
set_option linter.unusedVariables false

theorem own : ownKnob Tryz.prog.godebug = none := by kernel_rfl
theorem laidOut : laidOutB Tryz.prog = true := by kernel_rfl
/-- The witness: the settled world, the two variables holding what their initialisers lay. -/
noncomputable def laidWorld (os : Os) : World :=
  let N := (World.settled Tryz.prog os).heap.size
  let w0 := World.holding Tryz.prog os ⟨#[.cells (Lib.whiteT.map fun (z : Nat) => Value.int .u16 (z : Int)).toArray 144, .cells #[.slice (some ⟨N, 0, none⟩) 7 7, .slice none 0 0, .int .i64 2] 141], #[], []⟩
  let put (h : Array Obj) (g : Nat) (cs : Array Value) : Array Obj := h.modify g fun
    | .cells _ t frozen => .cells cs t frozen
    | o => o
  let h1 := put w0.heap 0 (Lib.asciiSpaceTab.map fun z => Value.int .u8 z).toArray
  let h2 := put h1 1 #[.pointer (some ⟨N + 1, 0, none⟩)]
  { w0 with heap := h2 }
theorem laid_met (os : Os) (args : Array Value) : laidMet Tryz.prog Rows.serialJoinsRow.laid ((laidWorld os).forCall (fun _ _ => 0) ⟨#[], args, []⟩).memory :=
  (LaidIn.of_run (l := [("unicode.White_Space", Rows.laid_unicode_White_Space), ("strings.asciiSpace", Rows.laid_strings_asciiSpace)]) [1, 0, (World.settled Tryz.prog default).heap.size, (World.settled Tryz.prog default).heap.size + 1] 10 (by kernel_rfl) (by kernel_rfl) (by kernel_rfl) (by kernel_rfl)).met

theorem witness_row (os : Os) {H : Type} (enc : TypeId × Value → H) :
    (OpenSpec.ofChange Rows.serialJoinsSpec).preRow enc Tryz.prog Tryz.f3 Rows.serialJoinsRow.domain false Rows.serialJoinsRow.laid ((laidWorld os).forCall (fun _ _ => 0) ⟨#[], #[.agg #[.int .i64 0, .string ⟨#[]⟩, .string ⟨#[]⟩, .slice none 0 0, .slice none 0 0]], []⟩).memory #[.agg #[.int .i64 0, .string ⟨#[]⟩, .string ⟨#[]⟩, .slice none 0 0, .slice none 0 0]] := by
  have hw : (DataW.whole enc Tryz.prog ((laidWorld os).forCall (fun _ _ => 0) ⟨#[], #[.agg #[.int .i64 0, .string ⟨#[]⟩, .string ⟨#[]⟩, .slice none 0 0, .slice none 0 0]], []⟩).memory Tryz.f3.params.toList (OpenSpec.ofChange Rows.serialJoinsSpec).vars false (#[.agg #[.int .i64 0, .string ⟨#[]⟩, .string ⟨#[]⟩, .slice none 0 0, .slice none 0 0]] : Array Value).toList 8).map (fun x => (x.1, x.2.1)) =
      some ([.agg [.lit (.int .i64 0), .lit (.string []), .lit (.string []), .nil, .nil]], []) := by kernel_rfl
  obtain ⟨⟨x1, x2, x3⟩, hx, hx1⟩ := Option.map_eq_some_iff.1 hw
  simp only [Prod.mk.injEq] at hx1
  obtain ⟨rfl, rfl⟩ := hx1
  exact OpenSpec.preRow_of_cond 8 hx (by kernel_rfl) (fun k hk => by cases hk) (by kernel_rfl) (laid_met os _)

set_option maxRecDepth 100000 in
set_option maxHeartbeats 2000000 in
theorem lifted (os : Os) (started : os.Started) (H : Type) (enc : TypeId × Value → H) (F : Stop.Interp) :
    ReturnsInHanded {} Tryz.checked os 3 .any ((OpenSpec.ofChange Rows.serialJoinsSpec).preRow enc Tryz.prog Tryz.f3 Rows.serialJoinsRow.domain false Rows.serialJoinsRow.laid) (((OpenSpec.ofChange Rows.serialJoinsSpec).at F).post enc Tryz.prog Tryz.f3 false true false false) := by
  refine returnsInHanded_of_row (C := Tryz.checked) (s := OpenSpec.ofChange Rows.serialJoinsSpec) own started (by kernel_rfl) Tryz.func3
    (witness_row_atRef (enc := enc) (C := Tryz.checked) false (laidWorld os) #[.agg #[.int .i64 0, .string ⟨#[]⟩, .string ⟨#[]⟩, .slice none 0 0, .slice none 0 0]] rfl (by kernel_rfl) (by kernel_rfl) (by kernel_rfl) (witness_row os enc)) ?_
  intro W base args ds gs before hval0 hW _ _ _ hL _ _
  have hval : ∀ (j : Nat) t v, Tryz.f3.params[j]? = some t → args[j]? = some v → Value.okWide Tryz.prog W .any base t v := hval0
  have hW' := hW
  obtain ⟨p, q, hA0, hV, rfl, _, _⟩ := hW
  have hA : DataW.TrodAll enc Tryz.prog W 0 (fun _ => true) true Tryz.f3.params.toList args.toList ds p := hA0
  rw [Tryz.params3] at hA hval
  obtain ⟨v0, vs0, d0, ds0, p0, q0, hargs, rfl, rfl, h0, r0⟩ := trodAll_cons hA
  obtain ⟨rfl, rfl, rfl⟩ := trodAll_nil r0
  obtain rfl : args = #[v0] := by cases args; simp_all
  obtain ⟨rfl, rfl⟩ := trodVars_none hV
  obtain ⟨cs0, rfl, hsz0⟩ := okWide_struct Tryz.underlying25 (hval 0 25 v0 rfl rfl)
  have k0 := h0
  have lt0 : ∀ x ∈ p0, x.block < W.heap.size := by obtain ⟨m, hm⟩ := k0; exact DataW.trod_lt m _ _ _ hm
  obtain ⟨t0, x00, x01, x02, x03, x04, e0, w0⟩ : ∃ (t : Tr.Nd) (x0 x1 x2 x3 x4 : Value), cs0 = #[x0, x1, x2, x3, x4] ∧ Tr.IsTree W W.heap.size t x0 x1 x2 x3 x4 := by
    obtain ⟨fuel, hf⟩ := h0
    obtain ⟨t, x0, x1, x2, x3, x4, hcs, ht⟩ := Tr.open_tree hf
    exact ⟨t, x0, x1, x2, x3, x4, by cases cs0; simp_all [Value.cells], ht⟩
  subst e0
  clear hA0 hval0
  have hasc := Lib.laidMet.reads hL (.tail _ (.head _))
  have htab : Tr.SpTab W := Tr.spTab_of hasc
  refine (Wk.serialJoins t0 x00 x01 x02 x03 x04 W w0 htab).mono fun e W' ⟨he, bel⟩ => ?_
  subst he
  exact ⟨_, rfl, _, _, _, [], _, [], hW', trodAll_mk1 (shut_bool Tryz.underlying4 _), (trodAll_cons_mk (Below.trod laidOut (by kernel_rfl) (of_decide_eq_true (by kernel_rfl)) k0 bel lt0) trodAll_mk0), rfl, bel.frame _, fun h => by cases h⟩

theorem over : Rows.serialJoinsRow.holds Tryz.pinned (OpenSpec.ofChange Rows.serialJoinsSpec) :=
  OpenClaim.holds_of_cond 3 Tryz.f3 rfl rfl rfl rfl rfl rfl rfl ⟨rfl, rfl, rfl, rfl, rfl⟩ rfl rfl rfl rfl rfl (by kernel_rfl) Tryz.func3 (by kernel_rfl)
    (of_decide_eq_true (by kernel_rfl)) (by unfold Func.isWrapper; first | (rw [if_pos (by decide +kernel)]; kernel_rfl) | (rw [if_neg (by decide +kernel)]; exact ⟨rfl, rfl⟩))
    (fun os started H enc _ F0 => by rw [OpenClaim.pre_eq_preRow]; exact lifted os started H enc F0)

/-- The statement: the tied card. -/
theorem proved : Rows.SerialJoinsCardSaid :=
  Claim7.holds_tied_plain_at .later [] [.listed, .data] true (true, "e4c19e7adf5d0c9e91c6c28786a381bdc29ba6f2498fa3fdb726c0e695d0dc19") true
    over (fun _ h => by cases h) (by kernel_rfl) (fun _ h => by cases h) serialJoins_row_tie rfl ⟨rfl, rfl⟩ (by kernel_rfl) rfl
    (fun f fn hf hfn => by
      obtain rfl : f = 3 := Option.some.inj ((show Tryz.prog.funcNamed "topiary/topiarylaw16.SerialJoins" = some 3 by kernel_rfl).symm.trans hf) |>.symm
      obtain rfl : fn = Tryz.f3 := (Option.some.inj (Tryz.func3.symm.trans hfn)).symm
      refine ⟨by kernel_rfl, fun j t ht => ?_⟩
      rw [Tryz.params3] at ht
      rcases j with _ | j
      · obtain rfl : t = 25 := by simpa using ht.symm
        exact (show Tryz.prog.wantsStandIn 25 = false by kernel_rfl)
      · simp at ht)
    (by kernel_rfl)
#print axioms proved
end Go.Proofs.YtbjcahhijfommaaGreatDoor.serialJoins
