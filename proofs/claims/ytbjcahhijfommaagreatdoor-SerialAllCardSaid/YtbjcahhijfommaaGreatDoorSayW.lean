/- serial.say: a tree's pieces. -/
import Derived.Test.YtbjcahhijfommaaGreatDoorEl
namespace Go.Proofs.YtbjcahhijfommaaGreatDoor.Tr
open Go Go.RowKit
set_option linter.unusedVariables false

section
variable {l : Nat} {T : TypeId → Bool} {B N Bw : Nat} {J Jx : List Pc → World → Prop}
theorem cnt_kid {ks : List Nd} {t : Nd} (h : t ∈ ks) : cntT t ≤ cntL ks := by
  obtain ⟨j, hj⟩ := List.getElem?_of_mem h
  exact cntL_mem hj
theorem rawB_nil : rawB ⟨#[]⟩ = false := by decide +kernel
set_option maxHeartbeats 4000000 in
set_option maxRecDepth 100000 in
theorem say_step (Y : Yd l T B N Bw J Jx) (hG : 0 < B) (k : Int) (n s : ByteArray) (al : List (ByteArray × ByteArray)) (ks : List Nd) (hS : ∀ t ∈ ks, SayC l T B N J Jx t) : SayC l T B N J Jx (.mk k n s al ks) := by
  intro par pre w v0 v1 v2 v3 v4 hJ hB hT h hf hN
  have HTR := Lib.hid h
  unfold IsTree at h
  obtain ⟨rfl, rfl, rfl, hwk, _, _, A, ac, K, kc, rfl, rfl, hA, h1, h2, h3⟩ := h
  have HF := Lib.hid hf
  unfold fitT at hf
  obtain ⟨f1, f2, f3, f4, f5⟩ := hf
  have hn := le4 f2
  have hs := le4 f3
  have HF3 := Lib.hid f3
  have HF5 := Lib.hid f5
  have HS := Lib.hid hS
  have HT := Lib.hid hT
  have HST := Lib.hid (YRel.start (T := T) hJ hB)
  have HBXR := Lib.hid (HST.out.alloc Y (.cells #[.int .i64 k, .string n, .string s, .slice A al.length ac, .slice K ks.length kc] 25))
  have HBXB : Hid ((w.alloc (.cells #[.int .i64 k, .string n, .string s, .slice A al.length ac, .slice K ks.length kc] 25)).heap[w.heap.size]? = _) := Lib.hid (alloc_new w _)
  have HSZ1 : Hid ((w.alloc (.cells #[.int .i64 k, .string n, .string s, .slice A al.length ac, .slice K ks.length kc] 25)).heap.size = w.heap.size + 1) := Lib.hid (World.size_alloc _ _)
  have HN := Lib.hid hN
  have HT1 := Lib.hid (HT.out.below HBXR.out.k.below hG)
  have HTR1 := Lib.hid (HTR.out.keep (fun p hp => HBXR.out.k.below.cell hp) (Nat.le_refl _))
  clear hA h1 h2 h3 f1 f2 f3 f4 f5 hS hT hJ hN
  go_enter Tryz.func29, Tryz.ntmps29
  by_cases k1 : k = 1
  · subst k1
    have e : sayP (rawB par) (.mk 1 n s al ks) = sayQ false ks := by unfold sayP; rw [if_pos rfl]
    rw [e] at HN ⊢
    have HC := Lib.hid (kids_calls Y hG 1 n s al ks HS.out ⟨#[]⟩ pre _ _ _ _ _ _ HBXR.out.j HBXR.out.sizeB HT1.out HTR1.out HF5.out (by rw [rawB_nil]; exact HN.out))
    rw [rawB_nil] at HC
    go_wp2_with fail
    refine HC.out.mono ?_
    rintro e w2 (⟨rfl, hJ2, hk2⟩ | ⟨rfl, q, hq⟩)
    · have HR2 := Lib.hid (HBXR.out.next hJ2 hk2)
      clear hJ2 hk2
      go_wp2_with fail
      go_ret
      exact HR2.out.end_
    · go_wp2_with fail
      go_ret
      exact .inr ⟨rfl, q, hq⟩
  have n1 : (k == 1) = false := beq_eq_false_iff_ne.2 k1
  by_cases k5 : k = 5
  · subst k5
    have e : sayP (rawB par) (.mk 5 n s al ks) = [cut ⟨#[60, 33, 68, 79, 67, 84, 89, 80, 69, 32]⟩, cut n, cut ⟨#[62]⟩] := by unfold sayP; rw [if_neg (by decide), if_pos rfl]
    rw [e] at HN ⊢
    have HC := Lib.hid (all3 Y ⟨#[60, 33, 68, 79, 67, 84, 89, 80, 69, 32]⟩ n ⟨#[62]⟩ (by decide) hn (by decide) pre _ _ HSZ1.out HBXR.out.j HBXR.out.sizeB HN.out)
    clear n1
    go_wp2_with fail
    refine HC.out.mono ?_
    rintro e w2 (⟨rfl, hJ2, hk2⟩ | ⟨rfl, q, hq⟩)
    · have HR2 := Lib.hid ((HBXR.out.alloc Y _).next hJ2 hk2)
      clear hJ2 hk2
      go_wp2_with fail
      go_ret
      exact HR2.out.end_
    · go_wp2_with fail
      go_ret
      exact .inr ⟨rfl, q, hq⟩
  have n5 : (k == 5) = false := beq_eq_false_iff_ne.2 k5
  by_cases k4 : k = 4
  · subst k4
    have e : sayP (rawB par) (.mk 4 n s al ks) = [cut ⟨#[60, 33, 45, 45]⟩, cut s, cut ⟨#[45, 45, 62]⟩] := by unfold sayP; rw [if_neg (by decide), if_neg (by decide), if_pos rfl]
    rw [e] at HN ⊢
    have HC := Lib.hid (all3 Y ⟨#[60, 33, 45, 45]⟩ s ⟨#[45, 45, 62]⟩ (by decide) hs (by decide) pre _ _ HSZ1.out HBXR.out.j HBXR.out.sizeB HN.out)
    clear n1 n5
    go_wp2_with fail
    refine HC.out.mono ?_
    rintro e w2 (⟨rfl, hJ2, hk2⟩ | ⟨rfl, q, hq⟩)
    · have HR2 := Lib.hid ((HBXR.out.alloc Y _).next hJ2 hk2)
      clear hJ2 hk2
      go_wp2_with fail
      go_ret
      exact HR2.out.end_
    · go_wp2_with fail
      go_ret
      exact .inr ⟨rfl, q, hq⟩
  have n4 : (k == 4) = false := beq_eq_false_iff_ne.2 k4
  by_cases k2 : k = 2
  · subst k2
    have e : sayP (rawB par) (.mk 2 n s al ks) = elP n al ks := by unfold sayP elP; rw [if_neg (by decide), if_neg (by decide), if_neg (by decide), if_neg (by decide), if_pos rfl]
    rw [e] at HN ⊢
    have HC := Lib.hid (element_calls Y hG 2 n s al ks HS.out pre _ _ _ _ _ _ HBXR.out.j HBXR.out.sizeB HT1.out HTR1.out HF.out HN.out)
    clear n1 n5 n4
    go_wp2_with fail
    refine HC.out.mono ?_
    rintro e w2 (⟨rfl, hJ2, hk2⟩ | ⟨rfl, q, hq⟩)
    · have HR2 := Lib.hid (HBXR.out.next hJ2 hk2)
      clear hJ2 hk2
      go_wp2_with fail
      go_ret
      exact HR2.out.end_
    · go_wp2_with fail
      go_ret
      exact .inr ⟨rfl, q, hq⟩
  have n2 : (k == 2) = false := beq_eq_false_iff_ne.2 k2
  by_cases k3 : k = 3
  · subst k3
    clear n1 n5 n4 n2 k1 k2 k4 k5
    have hrc := raw_calls par (w.alloc (.cells #[.int .i64 3, .string n, .string s, .slice A al.length ac, .slice K ks.length kc] 25))
    cases hr : rawB par with
    | true =>
      have e : sayP true (.mk 3 n s al ks) = [cut s] := by unfold sayP; rw [if_neg (by decide), if_neg (by decide), if_neg (by decide), if_pos rfl, if_pos rfl]
      rw [hr, e] at HN
      rw [e]
      have q : (rawI par == 2) = true := hr
      generalize rawI par = ri at hrc q
      have HRC := Lib.hid hrc
      have hlt : pre.length < N := HN.out
      clear hrc hr
      go_wp2_with fail
      refine HRC.out.mono ?_
      rintro e w2 ⟨rfl, rfl⟩
      go_upto_region 10 with (fail)
      obtain ⟨fn, tmps, assign, body, hy, hyR⟩ := Y.yldB 2 s hs pre _ HBXR.out.j hlt
      clear hlt
      refine (wpIn_wide (n := 3)).1 ?_
      gi_wp2
      refine hyR.mono ?_
      rintro e w3 (⟨rfl, hJ3, hk3⟩ | ⟨rfl, q, hq⟩)
      · have HR3 := Lib.hid (HBXR.out.next hJ3 hk3)
        clear hJ3 hk3
        gi_wp2
        go_wp2_with fail
        go_ret
        exact HR3.out.end_
      · gi_wp2
        go_wp2_with fail
        go_ret
        exact .inr ⟨rfl, q, hq⟩
    | false =>
      have e : sayP false (.mk 3 n s al ks) = [cut (Gr.escB false s)] := by unfold sayP; rw [if_neg (by decide), if_neg (by decide), if_neg (by decide), if_pos rfl, if_neg (by decide)]
      rw [hr, e] at HN
      rw [e]
      have q : (rawI par == 2) = false := hr
      generalize rawI par = ri at hrc q
      have HRC := Lib.hid hrc
      have hlt : pre.length < N := HN.out
      clear hrc hr
      go_wp2_with fail
      refine HRC.out.mono ?_
      rintro e w2 ⟨rfl, rfl⟩
      go_upto_region 11 with (fail)
      have HLT := Lib.hid hlt
      clear hlt
      refine (wpIn_wide (n := 3)).1 ?_
      gi_wp2
      refine ⟨trivial, (callsIn_wide.2 (Gr.escape_calls s false (Nat.le_trans HF3.out (by decide)) _)).mono ?_⟩
      rintro e w3 ⟨rfl, hb3⟩
      have HR2 := Lib.hid (HBXR.out.below Y hb3)
      obtain ⟨fn, tmps, assign, body, hy, hyR⟩ := Y.yldB 2 (Gr.escB false s) (esc_cut false HF3.out) pre w3 HR2.out.j HLT.out
      clear hb3
      gi_wp2
      refine hyR.mono ?_
      rintro e w4 (⟨rfl, hJ3, hk3⟩ | ⟨rfl, q, hq⟩)
      · have HR3 := Lib.hid (HR2.out.next hJ3 hk3)
        clear hJ3 hk3
        gi_wp2
        go_wp2_with fail
        go_ret
        exact HR3.out.end_
      · gi_wp2
        go_wp2_with fail
        go_ret
        exact .inr ⟨rfl, q, hq⟩
  have n3 : (k == 3) = false := beq_eq_false_iff_ne.2 k3
  have e : sayP (rawB par) (.mk k n s al ks) = [] := by unfold sayP; rw [if_neg k1, if_neg k5, if_neg k4, if_neg k3, if_neg k2]
  rw [e, List.append_nil]
  clear k1 k2 k3 k4 k5
  go_wp2_with fail
  go_ret
  exact HBXR.out.end_
end
end Go.Proofs.YtbjcahhijfommaaGreatDoor.Tr
