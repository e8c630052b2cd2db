/- The document's Of: the same number of a tree. -/
import Derived.Test.YtcacgbdnegmfnaaRText
import Derived.Test.YtcacgbdnegmfnaaHashO
import Derived.Test.YtcacgbdnegmfnaaLawO
import Derived.Test.YtcacgbdnegmfnaaCmpT
import Derived.Lib.QuietBelow
import Derived.BigQuiet
import Derived.Outline
namespace Go.Proofs.Ytcacgbdnegmfnaa.Ha
open Go Go.RowKit Go.Proofs.Ytcacgbdnegmfnaa.Pl Go.Proofs.Ytcacgbdnegmfnaa.Tr Go.Proofs.Ytcacgbdnegmfnaa.Wk
set_option linter.unusedVariables false
theorem mixed : Try.prog.follows .mixedOrders = true := by kernel_rfl
theorem cell_of {w : World} {b : Nat} {cs : Array Value} {T : TypeId} {v : Value} (h : w.heap[b]? = some (.cells cs T (0, 0))) (i : Nat) (hv : cs[i]? = some v) : w.cell? ⟨b, i, none⟩ = some v := by
  rw [block_cell h]; exact hv
theorem rmix_below (x y : BitVec 64) (w : World) : Calls Try.prog 56 #[.int .u64 (un x), .int .u64 (un y)] w fun e w' => e = .returned (.int .u64 (un (mix x y))) ∧ Below w.heap.size w w' :=
  (Ct.rmix_calls x y w).mono fun _ _ ⟨h1, h2⟩ => ⟨h1, h2 ▸ Below.refl _ _⟩
set_option maxHeartbeats 8000000 in
set_option maxRecDepth 100000 in
theorem rOf_calls (mm : Nat) : ∀ (t : Nd) (v0 v1 v2 v3 v4 : Value) (d : Nat) (w : World), cntT t ≤ mm → okT d t → IsTree w w.heap.size t v0 v1 v2 v3 v4 →
    Calls Try.prog 33 #[.agg #[v0, v1, v2, v3, v4]] w fun e w' => e = .returned (.int .u64 (un (treeH t))) ∧ Below w.heap.size w w' := by
  induction mm with
  | zero => intro t _ _ _ _ _ _ _ h; have := cntT_pos t; omega
  | succ mm IH =>
  intro t v0 v1 v2 v3 v4 d w hm hok ht
  match t with
  | .mk k n s al ks =>
  have HT := Lib.hid ht
  unfold IsTree at ht
  obtain ⟨rfl, rfl, rfl, wk, bn, bs, A, ac, K, kc, rfl, rfl, hat, p1, p2, hkk⟩ := ht
  unfold okT at hok
  obtain ⟨o1, o2, o3, o4, o5, o6⟩ := hok
  unfold maxLen at *
  have HK := Lib.hid hkk
  have HTE : Hid (treeH (.mk k n s al ks) = kidsH (mix (attrsH (headH k n s al) al) (bv ks.length)) (treesH ks)) := Lib.hid (by unfold treeH nodeH; rw [treesH_length])
  have HA := Lib.hid hat
  have HIH := Lib.hid IH
  have HO5 := Lib.hid o5
  have HO6 := Lib.hid o6
  clear hkk hat IH o5 o6
  have hwk : IntKind.u64.wrap k = un (bv k) := wrap_un k
  have hwa : IntKind.u64.wrap (al.length : Int) = un (bv al.length) := wrap_un _
  have hwh : IntKind.u64.wrap (ks.length : Int) = un (bv ks.length) := wrap_un _
  have HBX := Lib.hid (alloc_new w (.cells #[.int .i64 k, .string n, .string s, .slice A al.length ac, .slice K ks.length kc] 25))
  have HBE : Hid (Below w.heap.size w (w.alloc (.cells #[.int .i64 k, .string n, .string s, .slice A al.length ac, .slice K ks.length kc] 25))) := Lib.hid ((Below.refl _ w).alloc (Nat.le_refl _) _)
  go_enter Try.func33, Try.ntmps33
  go_wp2_with fail
  generalize w.alloc (.cells #[.int .i64 k, .string n, .string s, .slice A al.length ac, .slice K ks.length kc] 25) = w1 at HBE HBX ⊢
  obtain ⟨b0, b1, b2, b3, b4⟩ := box5 HBX.out
  have r0 := cell_regrown b0
  have r1 := cell_regrown b1
  refine wp_region_quiet_below mixed (by kernel_rfl) ?_
  repeat (first | go_big_quiet_step (first | (go_at_call 32; exact Calls.regrown_of (rtext_calls n (by omega) _)) | (go_at_call 56; exact Calls.regrown_of (rmix_below _ _ _))) | quiet_step (first | (go_at_call 32; exact Calls.regrown_of (rtext_calls n (by omega) _)) | (go_at_call 56; exact Calls.regrown_of (rmix_below _ _ _))))
  refine wpQuiet_nil ?_
  rintro w2 ⟨g, hg⟩
  have hb2 : Below w1.heap.size w1 w2 := hg ▸ below_regrown w1 g.d g.os
  have HB2 : Hid (Below w.heap.size w w2) := Lib.hid (HBE.out.trans (hb2.mono HBE.out.size))
  have HX2 := Lib.hid ((hb2.block _ (lt_of_block HBX.out)).trans HBX.out)
  clear hb2 hg r0 r1 b0 b1 b2 b3 b4
  clear g
  obtain ⟨b0, b1, b2, b3, b4⟩ := box5 HX2.out
  go_wp2_with fail
  refine (rtext_calls s (by omega) w2).mono ?_
  rintro e w3 ⟨rfl, hb3⟩
  have HB3 : Hid (Below w.heap.size w w3) := Lib.hid (HB2.out.trans (hb3.mono HB2.out.size))
  have HX3 := Lib.hid ((hb3.block _ (lt_of_block HX2.out)).trans HX2.out)
  clear hb3 b0 b1 b2 b3 b4
  obtain ⟨b0, b1, b2, b3, b4⟩ := box5 HX3.out
  go_wp2_with fail
  refine (Ct.rmix_calls _ _ w3).mono ?_
  rintro e _ ⟨rfl, rfl⟩
  go_wp2_with fail
  refine (Ct.rmix_calls _ _ w3).mono ?_
  rintro e _ ⟨rfl, rfl⟩
  have HH : Hid (mix (mix (mix (bv k) (textH n)) (textH s)) (bv al.length) = attrsH (headH k n s al) (al.take 0)) := Lib.hid rfl
  rw [HH.out]
  go_wp2_with fail
  go_loopw [3, 4] (fun h i wr => ∃ j : Nat, j ≤ al.length ∧ h = .int .u64 (un (attrsH (headH k n s al) (al.take j))) ∧ i = .int .i64 (j : Int) ∧ Below w3.heap.size w3 wr) (fun _ i _ => al.length - (intOf i).toNat)
  case atStart => exact ⟨0, Nat.zero_le _, rfl, rfl, Below.refl _ _⟩
  case round =>
    obtain ⟨j, hj, rfl, rfl, hbw⟩ := hrel
    clear b0 b1 b2 b3 b4
    have hxl := lt_of_block HX3.out
    have HBW := Lib.hid hbw
    have HXR := Lib.hid ((hbw.block _ hxl).trans HX3.out)
    obtain ⟨b0, b1, b2, b3, b4⟩ := box5 HXR.out
    clear hbw
    rcases Nat.lt_or_ge j al.length with hl | hl
    · obtain ⟨a, haj⟩ : ∃ a, al[j]? = some a := ⟨_, List.getElem?_eq_getElem hl⟩
      obtain ⟨_, _, _, hcell⟩ := HA.out
      obtain ⟨ab, ao, rfl, hab, hac⟩ := hcell (by rintro rfl; simp at hl)
      obtain ⟨d0, d1⟩ := hac j a haj
      have e0 : wr.cell? ⟨ab, ao + j * 2, none⟩ = some (.string a.1) := (HBW.out.cell (by show ab < _; have := HB3.out.size; omega)).trans ((HB3.out.cell hab).trans d0)
      have e1 : wr.cell? ⟨ab, ao + j * 2 + 1, none⟩ = some (.string a.2) := (HBW.out.cell (by show ab < _; have := HB3.out.size; omega)).trans ((HB3.out.cell hab).trans d1)
      obtain ⟨hz1, hz2⟩ := HO5.out a (List.mem_of_getElem? haj)
      have hjl : (j : Int) < (al.length : Int) := by omega
      have HT2 : Hid _ := Lib.hid (attrsH_take (h := headH k n s al) haj)
      clear d0 d1 hac hcell haj
      obtain ⟨x, y⟩ := a
      dsimp only at e0 e1 hz1 hz2
      have HE1 := Lib.hid e1
      go_wp2_with fail
      refine (rtext_calls x (by omega) wr).mono ?_
      rintro e w6 ⟨rfl, hb6⟩
      have HB6 : Hid (Below w3.heap.size w3 w6) := Lib.hid (HBW.out.trans (hb6.mono HBW.out.size))
      have HX6 := Lib.hid ((hb6.block _ (lt_of_block HXR.out)).trans HXR.out)
      have e6 := (hb6.cell (cell_lt e1).1).trans e1
      clear hb6 b0 b1 b2 b3 b4 e0 e1
      obtain ⟨b0, b1, b2, b3, b4⟩ := box5 HX6.out
      go_wp2_with fail
      refine (Ct.rmix_calls _ _ w6).mono ?_
      rintro e _ ⟨rfl, rfl⟩
      go_wp2_with fail
      refine (rtext_calls y (by omega) w6).mono ?_
      rintro e w7 ⟨rfl, hb7⟩
      have HB7 : Hid (Below w3.heap.size w3 w7) := Lib.hid (HB6.out.trans (hb7.mono HB6.out.size))
      clear hb7 b0 b1 b2 b3 b4 e6
      go_wp2_with fail
      refine (Ct.rmix_calls _ _ w7).mono ?_
      rintro e _ ⟨rfl, rfl⟩
      rw [HT2.out]
      go_wp2_with fail
      go_roundw
      case rel => exact ⟨j + 1, by omega, rfl, by go_num, HB7.out⟩
      case measure => simp [intOf]; omega
    · obtain rfl : j = al.length := by omega
      rw [List.take_length]
      go_wp2_with fail
      refine (Ct.rmix_calls _ _ wr).mono ?_
      rintro e _ ⟨rfl, rfl⟩
      have HH2 : Hid (mix (attrsH (headH k n s al) al) (bv ks.length) = kidsH (mix (attrsH (headH k n s al) al) (bv ks.length)) ((treesH ks).take 0)) := Lib.hid rfl
      rw [HH2.out]
      have HGD := Lib.hid (rfl : mix (attrsH (headH k n s al) al) (bv ks.length) = mix (attrsH (headH k n s al) al) (bv ks.length))
      generalize hgd : mix (attrsH (headH k n s al) al) (bv ks.length) = h0 at *
      clear b0 b1 b2 b3 b4
      have HGX := Lib.hid hgd
      clear hgd HGD
      go_wp2_with fail
      obtain ⟨wq, hwq⟩ : ∃ q, q = wr := ⟨wr, rfl⟩
      subst hwq
      go_loopw [3, 5] (fun h i wr => ∃ j : Nat, j ≤ ks.length ∧ h = .int .u64 (un (kidsH h0 ((treesH ks).take j))) ∧ i = .int .i64 (j : Int) ∧ Below wq.heap.size wq wr) (fun _ i _ => ks.length - (intOf i).toNat)
      case atStart => exact ⟨0, Nat.zero_le _, rfl, rfl, Below.refl _ _⟩
      case round =>
        obtain ⟨j, hj, rfl, rfl, hbv⟩ := hrel
        have HBV := Lib.hid hbv
        have HXV := Lib.hid ((hbv.block _ (lt_of_block HXR.out)).trans HXR.out)
        have HBZ : Hid (Below w.heap.size w wr) := Lib.hid ((HB3.out.trans (HBW.out.mono HB3.out.size)).trans (hbv.mono (by have := HB3.out.size; have := HBW.out.size; omega)))
        clear hbv
        obtain ⟨b0, b1, b2, b3, b4⟩ := box5 HXV.out
        rcases Nat.lt_or_ge j ks.length with hl2 | hl2
        · obtain ⟨u, hu⟩ : ∃ u, ks[j]? = some u := ⟨_, List.getElem?_eq_getElem hl2⟩
          obtain ⟨kb, ko, u0, u1, u2, u3, u4, rfl, hkb, e0, e1, e2, e3, e4, hut⟩ := kid_cells HK.out hu wr HBZ.out
          have HUT := Lib.hid hut
          have hjl : (j : Int) < (ks.length : Int) := by omega
          have HT2 : Hid (mix (kidsH h0 ((treesH ks).take j)) (treeH u) = kidsH h0 ((treesH ks).take (j + 1))) := Lib.hid (kidsH_take (by rw [treesH_map, List.getElem?_map, hu]; rfl))
          have hcm : Hid (cntT u ≤ mm) := Lib.hid (by have := cntL_mem hu; rw [show cntT (.mk k n s al ks) = cntL ks + 1 by unfold cntT; rfl] at hm; omega)
          have HOU : Hid (okT (d + 1) u) := Lib.hid (okL_at hu HO6.out)
          clear hut hu
          go_wp2_with fail
          refine (HIH.out u u0 u1 u2 u3 u4 (d + 1) wr hcm.out HOU.out (HUT.out _ HBZ.out)).mono ?_
          rintro e w8 ⟨rfl, hb8⟩
          have HB8 : Hid (Below wq.heap.size wq w8) := Lib.hid (HBV.out.trans (hb8.mono HBV.out.size))
          clear hb8 b0 b1 b2 b3 b4 e0 e1 e2 e3 e4
          go_wp2_with fail
          refine (Ct.rmix_calls _ _ w8).mono ?_
          rintro e _ ⟨rfl, rfl⟩
          rw [HT2.out]
          go_wp2_with fail
          go_roundw
          case rel => exact ⟨j + 1, by omega, rfl, by go_num, HB8.out⟩
          case measure => simp [intOf]; omega
        · obtain rfl : j = ks.length := by omega
          have htl : (treesH ks).take ks.length = treesH ks := List.take_of_length_le (by rw [treesH_length]; exact Nat.le_refl _)
          rw [htl]
          clear htl
          go_wp2_with fail
          go_ret
          exact ⟨by rw [HTE.out]; rfl, HBZ.out⟩
end Go.Proofs.Ytcacgbdnegmfnaa.Ha
