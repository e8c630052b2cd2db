/- The document's All and Key. -/
import Derived.Test.YtcacgbdnegmfnaaRFlat
import Derived.Test.YtcacgbdnegmfnaaKey
namespace Go.Proofs.Ytcacgbdnegmfnaa.Ha
open Go Go.RowKit Go.Proofs.Ytcacgbdnegmfnaa.Pl Go.Proofs.Ytcacgbdnegmfnaa.Tr Go.Proofs.Ytcacgbdnegmfnaa.Wk
set_option linter.unusedVariables false
def RAllEnd (t : Nd) (w : World) (e : Ending) (w' : World) : Prop :=
  ∃ g cap, e = .returned (.slice (some ⟨g, 0, none⟩) (cntT t : Nat) cap) ∧ w.heap.size ≤ g ∧ g < w'.heap.size ∧ (∀ (i : Nat) (x : Pn), (allP t)[i]? = some x → w'.cell? ⟨g, i, none⟩ = some (.int .u64 (un (treeH x.t)))) ∧ Below w.heap.size w w'
theorem cellsU_at {l : List (BitVec 64)} {i : Nat} {x : BitVec 64} (h : l[i]? = some x) : (cellsU l)[i]? = some (u64v x) := by unfold cellsU; rw [List.getElem?_map, h]; rfl
def numsU (t : Nd) (j : Nat) : List (BitVec 64) := ((allP t).take j).map fun x => treeH x.t
theorem numsU_succ {t : Nd} {j : Nat} {x : Pn} (h : (allP t)[j]? = some x) : cellsU (numsU t (j + 1)) = cellsU (numsU t j) ++ [.int .u64 (un (treeH x.t))] := by
  unfold numsU; rw [List.take_add_one, h, List.map_append]; exact cellsU_snoc _ _
theorem okT_sub (d : Nat) (id : Nat) (par dep pl : Int) : ∀ t, okT d t → ∀ x ∈ preT id par dep pl t, ∃ d', okT d' x.t := fun t h x hx => by
  have key : (∀ (t : Nd) (d id : Nat) (par dep pl : Int), okT d t → ∀ x ∈ preT id par dep pl t, ∃ d', okT d' x.t) := by
    intro t
    refine Nd.rec (motive_1 := fun t => ∀ (d id : Nat) (par dep pl : Int), okT d t → ∀ x ∈ preT id par dep pl t, ∃ d', okT d' x.t) (motive_2 := fun ts => ∀ (d id : Nat) (par dep pl : Int), okL d ts → ∀ x ∈ preL id par dep pl ts, ∃ d', okT d' x.t) ?_ ?_ ?_ t
    · intro k n s al ks ih d id par dep pl h x hx
      unfold preT at hx
      rcases List.mem_cons.1 hx with rfl | hx
      · exact ⟨d, h⟩
      · unfold okT at h
        exact ih (d + 1) _ _ _ _ h.2.2.2.2.2 x hx
    · intro d id par dep pl h x hx
      unfold preL at hx; simp at hx
    · intro t ts iht ihts d id par dep pl h x hx
      unfold preL at hx
      unfold okL at h
      rcases List.mem_append.1 hx with hx | hx
      · exact iht d _ _ _ _ h.1 x hx
      · exact ihts d _ _ _ _ h.2 x hx
  exact key t d id par dep pl h x hx
set_option maxHeartbeats 8000000 in
set_option maxRecDepth 100000 in
theorem rAll_calls (t : Nd) (v0 v1 v2 v3 v4 : Value) (w : World) (h : IsTree w w.heap.size t v0 v1 v2 v3 v4) (hN : cntT t ≤ 400) (hok : okT 0 t) :
    Calls Try.prog 30 #[.agg #[v0, v1, v2, v3, v4]] w (RAllEnd t w) := by
  have HT : Hid (∀ W', Below w.heap.size w W' → IsTree W' W'.heap.size t v0 v1 v2 v3 v4) := Lib.hid fun W' hb => h.keep (fun p hp => hb.cell hp) hb.size
  have HB0 : Hid (Below w.heap.size w (w.alloc (.cells #[v0, v1, v2, v3, v4] 25))) := Lib.hid ((Below.refl _ w).alloc (Nat.le_refl _) _)
  have HX0 := Lib.hid (alloc_new w (.cells #[v0, v1, v2, v3, v4] 25))
  have HOK := Lib.hid hok
  clear h hok
  go_enter Try.func30, Try.ntmps30
  go_wp2_with fail
  generalize w.alloc (.cells #[v0, v1, v2, v3, v4] 25) = w1 at HB0 HX0 ⊢
  obtain ⟨b0, b1, b2, b3, b4⟩ := box5 HX0.out
  refine (rFlat_calls t v0 v1 v2 v3 v4 w1 (HT.out _ HB0.out) (by omega) (okT_att 0 _ HOK.out)).mono ?_
  rintro e w2 ⟨gf, cf, B, wt, rfl, hrow, hb2, hbt, hbw, hBt⟩
  have HR := Lib.hid hrow
  have HB2 : Hid (Below w.heap.size w w2) := Lib.hid (HB0.out.trans (hb2.mono HB0.out.size))
  have HBT := Lib.hid hbw
  have hpos := cntT_pos t
  clear hrow hb2 hbt hbw b0 b1 b2 b3 b4
  go_wp2_with fail
  go_loopw [4, 5] (fun v i wr => ∃ j : Nat, j ≤ cntT t ∧ i = .int .i64 (j : Int) ∧ wr.ownsRow w2.heap.size 48 1 v j (cellsU (numsU t j)) ∧ Below w2.heap.size w2 wr) (fun _ i _ => cntT t - (intOf i).toNat)
  case atStart => exact ⟨0, Nat.zero_le _, rfl, ⟨by unfold numsU; rfl, .inl ⟨rfl, rfl⟩⟩, Below.refl _ _⟩
  case round =>
    obtain ⟨j, hj, rfl, hown, hbw⟩ := hrel
    have HBW := Lib.hid hbw
    have HOWN := Lib.hid hown
    have HRR : Hid (RRow wt wr B (.slice (some ⟨gf, 0, none⟩) (cntT t : Nat) cf) (allP t) (finOf (allP t))) := Lib.hid (HR.out.below hbw)
    clear hown hbw
    rcases Nat.lt_or_ge j (cntT t) with hl | hl
    · obtain ⟨x, hx⟩ : ∃ x, (allP t)[j]? = some x := ⟨_, List.getElem?_eq_getElem (by rw [allP_length]; omega)⟩
      obtain ⟨g2, c2, A2, ac2, y0, y1, y2, y3, y4, hv2, hgl, _, d0, d1, d2, d3, d4, d5, d6, d7, d8, d9, d10, d11, d12, d13, d14, _, hty⟩ := HRR.out.at_ hx
      injection hv2 with hv2 hle hc2
      clear hle
      subst hc2
      injection hv2 with hv2
      injection hv2 with hv2 _ _
      subst hv2
      have hjl : (j : Int) < (cntT t : Int) := by omega
      obtain ⟨d', hd'⟩ := okT_sub 0 0 (-1) 0 0 t HOK.out x (List.mem_of_getElem? hx)
      have HD := Lib.hid hd'
      have hcx : cntT x.t ≤ cntT t := preT_cnt 0 (-1) 0 0 t x (List.mem_of_getElem? hx)
      have HTY : Hid (IsTree wr wr.heap.size x.t y0 y1 y2 y3 y4) := Lib.hid (by
        have hb := HBT.out.trans (HBW.out.mono HBT.out.size)
        exact hty.keep (fun p hp => hb.cell hp) hb.size)
      have HNX := Lib.hid (numsU_succ hx)
      clear hty hd' d0 d1 d2 d3 d4 d5 d6 d7 d8 d9 hx
      go_wp2_with fail
      refine (rOf_calls _ x.t y0 y1 y2 y3 y4 d' wr (Nat.le_refl _) HD.out HTY.out).mono ?_
      rintro e w4 ⟨rfl, hb4⟩
      have HB4 := Lib.hid hb4
      obtain ⟨i0, ii, hz0, hz1, hz2⟩ := info_parts u64_info
      have HROW : Hid ((w4.alloc (.cells #[.int .u64 (un (treeH x.t))] 48)).ownsRow w2.heap.size 48 1 u4 j (cellsU (numsU t j))) := Lib.hid ((row_of_heap HOWN.out fun g hg => hb4.block g (HOWN.out.lt g hg).2).alloc _)
      have HNEWS : Hid (∀ (j : Nat) u, [Value.int .u64 (un (treeH x.t))][j]? = some u → (w4.alloc (.cells #[.int .u64 (un (treeH x.t))] 48)).cell? ((⟨w4.heap.size, 0, none⟩ : Addr).add j) = some u) := Lib.hid fun j u hj => by
        rw [add_flat, Nat.zero_add, block_cell (alloc_new w4 _)]; rw [← List.getElem?_toArray] at hj; exact hj
      have HONE : Hid (∀ u ∈ [Value.int .u64 (un (treeH x.t))], u.oneCell' = true) := Lib.hid (by simp [Value.oneCell'])
      have HBX : Hid (Below w2.heap.size w2 (w4.alloc (.cells #[.int .u64 (un (treeH x.t))] 48))) := Lib.hid ((HBW.out.trans (hb4.mono HBW.out.size)).alloc (by have := HBW.out.size; have := hb4.size; omega) _)
      have HBS : Hid (w2.heap.size ≤ (w4.alloc (.cells #[.int .u64 (un (treeH x.t))] 48)).heap.size) := Lib.hid HBX.out.size
      clear hb4 d10 d11 d12 d13 d14
      go_wp2_with (at_builtin; refine wpList_append_own_at _ rfl (.tmp 14) (.tmp 21) 46 rfl w2.heap.size 48 i0 _ 1 8 Try.underlying46 ii hz0 hz1 hz2 rfl (by decide) u4 j (cellsU (numsU t j)) rfl HROW.out ⟨w4.heap.size, 0, none⟩ 1 1 [.int .u64 (un (treeH x.t))] rfl rfl HNEWS.out HONE.out (by unfold maxLen; omega) (by omega) HBS.out ?_)
      intro v' w5 h1 h2 h3 h4
      have HN5 : Hid (w5.ownsRow w2.heap.size 48 1 v' (j + 1) (cellsU (numsU t (j + 1)))) := Lib.hid (by rw [HNX.out]; exact h1)
      have HB5 : Hid (Below w2.heap.size w2 w5) := Lib.hid (HBX.out.grown h2 HBS.out fun k hk => (HOWN.out.lt k hk).1)
      clear h1 h2 h3 h4
      go_wp2_with fail
      go_roundw
      case rel => exact ⟨j + 1, by omega, by go_num, HN5.out, HB5.out⟩
      case measure => simp [intOf]; omega
    · obtain rfl : j = cntT t := by omega
      obtain ⟨g, cap, rfl⟩ := row_form HOWN.out hpos
      have hown := HOWN.out
      have hlt := hown.lt g rfl
      have hcs := hown.cells (g := g) rfl
      have HC : Hid (∀ (i : Nat) (x : Pn), (allP t)[i]? = some x → wr.cell? ⟨g, i, none⟩ = some (.int .u64 (un (treeH x.t)))) := Lib.hid fun i x hx => by
        have hn : (numsU t (cntT t))[i]? = some (treeH x.t) := by unfold numsU; rw [← allP_length t, List.take_length, List.getElem?_map, hx]; rfl
        have := hcs i _ (cellsU_at hn)
        rwa [add_flat, Nat.zero_add] at this
      have HBZ : Hid (Below w.heap.size w wr) := Lib.hid (HB2.out.trans (HBW.out.mono HB2.out.size))
      have hg1 : w.heap.size ≤ g := Nat.le_trans HB2.out.size hlt.1
      have hg2 := hlt.2
      clear hown hcs hlt
      go_wp2_with fail
      go_ret
      exact ⟨g, cap, rfl, hg1, hg2, HC.out, HBZ.out⟩
end Go.Proofs.Ytcacgbdnegmfnaa.Ha
