/- The document's Path. -/
import Derived.Test.YtcacgbdnegmfnaaSmI
import Derived.Test.YtcacgbdnegmfnaaRFlat
import Derived.Laws.OwnMore
namespace Go.Proofs.Ytcacgbdnegmfnaa.Tr
open Go Go.RowKit Go.Proofs.Ytcacgbdnegmfnaa.Wk Go.Proofs.Ytcacgbdnegmfnaa.Ha
set_option linter.unusedVariables false
theorem path_unique {t : Nd} {j : Nat} {l : List Nat} (h : IsPath t j l) : ∀ {l' : List Nat}, IsPath t j l' → l = l' := by
  induction h with
  | top =>
    intro l' h'
    generalize hj : (0 : Nat) = j at h'
    cases h' with
    | top => rfl
    | kid hx hy hk hp hpl hq => subst hj; exact absurd hk.lt (Nat.not_lt_zero _)
  | kid hx hy hk hp hpl hq ih =>
    intro l' h'
    rename_i j q pl x y l
    generalize hj : j = j' at h'
    cases h' with
    | top => subst hj; exact absurd hk.lt (Nat.not_lt_zero _)
    | kid hx' hy' hk' hp' hpl' hq' =>
      subst hj
      rw [hx] at hx'
      injection hx' with hx'
      subst hx'
      obtain rfl := Int.ofNat.inj (hp.symm.trans hp')
      obtain rfl := Int.ofNat.inj (hpl.symm.trans hpl')
      rw [ih hq']
structure PkRel (t : Nd) (B : Nat) (l : List Nat) (d j : Nat) (v : Value) (wr : World) : Prop where
  way : IsPath t j (l.take d)
  dep : ∀ x, (allP t)[j]? = some x → x.dep = d
  lt : j < cntT t ∧ d ≤ l.length
  row : wr.ownsRow B 3 1 v (l.length - d) (cellsN (l.drop d))
theorem PkRel.up {t : Nd} {B j : Nat} {l : List Nat} {v : Value} {wr : World} (h : PkRel t B l 0 j v wr) : j = 0 := by
  have := h.way
  rw [List.take_zero] at this
  generalize hm : ([] : List Nat) = m at this
  cases this with
  | top => rfl
  | kid => exact absurd hm (by simp)
def RPathEnd (t : Nd) (id : Int) (w : World) (e : Ending) (w' : World) : Prop :=
  Below w.heap.size w w' ∧ ((¬ (0 ≤ id ∧ id < cntT t) ∧ e = .returned (.slice none 0 0)) ∨
    (0 ≤ id ∧ id < cntT t ∧ ∃ l A cap, IsPath t id.toNat l ∧ l.length ≤ 400000 ∧ e = .returned (.slice A (l.length : Nat) cap) ∧ NumsAt w' A l))
set_option maxHeartbeats 8000000 in
set_option maxRecDepth 100000 in
theorem rPath_calls (t : Nd) (v0 v1 v2 v3 v4 : Value) (id : Int) (w : World) (h : IsTree w w.heap.size t v0 v1 v2 v3 v4) (hN : cntT t ≤ 400000) (ht : attT t) :
    Calls Try.prog 39 #[.agg #[v0, v1, v2, v3, v4], .int .i64 id] w (RPathEnd t id w) := by
  have HT : Hid (∀ W', Below w.heap.size w W' → IsTree W' W'.heap.size t v0 v1 v2 v3 v4) := Lib.hid fun W' hb => h.keep (fun p hp => hb.cell hp) hb.size
  have HB0 : Hid (Below w.heap.size w (w.alloc (.cells #[v0, v1, v2, v3, v4] 25))) := Lib.hid ((Below.refl _ w).alloc (Nat.le_refl _) _)
  have HX0 := Lib.hid (alloc_new w (.cells #[v0, v1, v2, v3, v4] 25))
  have HTT := Lib.hid ht
  clear h ht
  go_enter Try.func39, Try.ntmps39
  go_wp2_with fail
  generalize w.alloc (.cells #[v0, v1, v2, v3, v4] 25) = w1 at HB0 HX0 ⊢
  obtain ⟨b0, b1, b2, b3, b4⟩ := box5 HX0.out
  refine (rFlat_calls t v0 v1 v2 v3 v4 w1 (HT.out _ HB0.out) hN HTT.out).mono ?_
  rintro e w2 ⟨gf, cf, B, wt, rfl, hrow, hb2, _, _, _⟩
  have HR := Lib.hid hrow
  have HB2 : Hid (Below w.heap.size w w2) := Lib.hid (HB0.out.trans (hb2.mono HB0.out.size))
  have hpos := cntT_pos t
  clear hrow hb2 b0 b1 b2 b3 b4 HT HX0 HTT
  by_cases h0 : id < 0
  · go_wp2_with fail
    go_ret
    exact ⟨HB2.out, .inl ⟨by omega, rfl⟩⟩
  by_cases h1 : (cntT t : Int) ≤ id
  · have h00 : (0 : Int) ≤ id := by omega
    go_wp2_with fail
    go_ret
    exact ⟨HB2.out, .inl ⟨by omega, rfl⟩⟩
  obtain ⟨j0, rfl⟩ : ∃ j : Nat, id = j := ⟨id.toNat, by omega⟩
  have hj0 : j0 < cntT t := by omega
  have hj0i : (j0 : Int) < (cntT t : Int) := by omega
  obtain ⟨l, hl, hdep⟩ := path_ex t j0 hj0
  obtain ⟨x0, hx0⟩ : ∃ x, (allP t)[j0]? = some x := ⟨_, List.getElem?_eq_getElem (by rw [allP_length]; omega)⟩
  have hll : l.length < 400000 := by
    obtain ⟨dd, hd1, hd2, z6⟩ := idx_T 0 (-1) 0 0 t j0 x0 hx0
    have := hdep x0 hx0; omega
  clear hx0
  have HST : Hid (PkRel t w2.heap.size l l.length j0 (.slice none 0 0) w2) := Lib.hid ⟨by rw [List.take_length]; exact hl, hdep, ⟨hj0, Nat.le_refl _⟩, by rw [Nat.sub_self, List.drop_length]; exact World.ownsRow_nil _ _ _ _⟩
  have HL := Lib.hid hl
  clear hl hdep
  go_wp2_with fail
  go_loopw [6, 7] (fun v i wr => ∃ (d j : Nat), i = .int .i64 (j : Int) ∧ PkRel t w2.heap.size l d j v wr ∧ Below w2.heap.size w2 wr) (fun _ i _ => (intOf i).toNat)
  case atStart => exact ⟨l.length, j0, rfl, HST.out, Below.refl _ _⟩
  case round =>
    obtain ⟨d, j, rfl, hR, hbw⟩ := hrel
    have HBW := Lib.hid hbw
    have HR2 := Lib.hid hR
    have HRR : Hid (RRow wt wr B (.slice (some ⟨gf, 0, none⟩) (cntT t : Nat) cf) (allP t) (finOf (allP t))) := Lib.hid (HR.out.below hbw)
    clear hR hbw HST
    rcases Nat.eq_zero_or_pos j with rfl | hj
    · have hd0 := HR2.out.dep _ (allP_zero t)
      dsimp only at hd0
      obtain rfl : d = 0 := by omega
      clear hd0
      obtain ⟨hlen, hrow | ⟨g, cap, cur, rfl, hrest⟩⟩ := HR2.out.row
      · obtain ⟨rfl, hz⟩ := hrow
        have hl0 : l = [] := List.length_eq_zero_iff.1 (by omega)
        subst hl0
        clear hlen hz
        go_wp2_with fail
        go_ret
        exact ⟨HB2.out.trans (HBW.out.mono HB2.out.size), .inr ⟨by omega, by omega, [], none, 0, HL.out, by simp, rfl, fun i x hx => by simp at hx⟩⟩
      · have HNA : Hid (NumsAt wr (some ⟨g, 0, none⟩) l) := Lib.hid fun i x hx => by
          have hrow := HR2.out.row
          have := hrow.cells (g := g) rfl i (.int .i64 (x : Int)) (by rw [List.drop_zero]; exact cellsN_at hx)
          rw [add_flat, Nat.zero_add] at this
          exact ⟨g, rfl, (hrow.lt g rfl).2, this⟩
        clear hrest hlen
        rw [Nat.sub_zero]
        go_wp2_with fail
        go_ret
        exact ⟨HB2.out.trans (HBW.out.mono HB2.out.size), .inr ⟨by omega, by omega, l, some ⟨g, 0, none⟩, cap, HL.out, by omega, rfl, HNA.out⟩⟩
    · obtain ⟨d, rfl⟩ : ∃ d', d = d' + 1 := by
        cases d with
        | zero => exact absurd HR2.out.up (by omega)
        | succ d => exact ⟨d, rfl⟩
      obtain ⟨hjl, hdl⟩ := HR2.out.lt
      obtain ⟨q, x, y, hx, hy, hK, hp, hpl, hq⟩ := path_inv HR2.out.way (by omega)
      have hdx := HR2.out.dep x hx
      have hdy : y.dep = d := by have := hK.dep; omega
      obtain ⟨g2, c2, A2, ac2, y0, y1, y2, y3, y4, hv2, hgl, _, d0, _, _, _, d4, _, _, _, _, _, _, _, _, _, _, _, _⟩ := HRR.out.at_ hx
      injection hv2 with hv2 hle hc2
      clear hle
      subst hc2
      injection hv2 with hv2
      injection hv2 with hv2 _ _
      subst hv2
      rw [hp] at d0
      rw [hpl] at d4
      have hji : (0 : Int) < (j : Int) := by omega
      have hjt : (j : Int) < (cntT t : Int) := by omega
      have HQ : Hid (IsPath t q (l.take d) ∧ (∀ x', (allP t)[q]? = some x' → x'.dep = d) ∧ q < cntT t ∧ d ≤ l.length) := Lib.hid ⟨hq, fun x' hx' => by rw [hy] at hx'; injection hx' with hx'; rw [← hx']; exact hdy, by have := hK.lt; omega, by omega⟩
      have HDR : Hid (cellsN (l.drop d) = [.int .i64 ((l[d]?.getD 0 : Nat) : Int)] ++ cellsN (l.drop (d + 1))) := Lib.hid (by
        rw [List.drop_eq_getElem_cons (show d < l.length by omega), List.getElem?_eq_getElem (show d < l.length by omega)]; rfl)
      have hqj : q < j := hK.lt
      generalize (l[d]?.getD 0) = pl at d4 HDR
      clear hq hx hy hK hp hpl hdx hdy
      have HNW : Hid ((wr.alloc (.cells #[.int .i64 (pl : Int)] 3)).ownsRow w2.heap.size 3 1 (.slice (some ⟨wr.heap.size, 0, none⟩) 1 1) 1 [.int .i64 (pl : Int)]) := Lib.hid (World.ownsRow_lit wr #[.int .i64 (pl : Int)] 1 HBW.out.size (by unfold maxLen; omega) rfl)
      have HBX : Hid (Below w2.heap.size w2 (wr.alloc (.cells #[.int .i64 (pl : Int)] 3))) := Lib.hid (HBW.out.alloc HBW.out.size _)
      obtain ⟨i0, ii, hz0, hz1, hz2⟩ := info_parts int_info
      have HD0 : Hid (∀ W, Below wr.heap.size wr W → W.cell? ⟨gf, j * 15, none⟩ = some (.int .i64 (q : Int))) := Lib.hid fun W hW => (hW.cell hgl).trans d0
      have hbs := HBX.out.size
      rcases HR2.out.row.2 with ⟨rfl, hz⟩ | ⟨g, cap, cur, rfl, hrest⟩
      · have hz1' : d + 1 = l.length := by omega
        have HND : Hid (PkRel t w2.heap.size l d q (.slice (some ⟨wr.heap.size, 0, none⟩) 1 1) (wr.alloc (.cells #[.int .i64 (pl : Int)] 3))) := Lib.hid ⟨HQ.out.1, HQ.out.2.1, HQ.out.2.2, by
          rw [HDR.out, hz1', List.drop_length, show l.length - d = 1 by omega]; exact HNW.out⟩
        have hdd := HD0.out (wr.alloc (.cells #[.int .i64 (pl : Int)] 3)) ((Below.refl _ wr).alloc (Nat.le_refl _) _)
        clear hz d0
        go_wp2_with fail
        refine ⟨⟨d, q, rfl, HND.out, HBX.out⟩, ?_⟩
        simp [intOf]; omega
      · clear hrest cur
        have hln : l.length - (d + 1) + 1 = l.length - d := by omega
        have HNWS : Hid (∀ (j : Nat) u, (cellsN (l.drop (d + 1)))[j]? = some u → (wr.alloc (.cells #[.int .i64 (pl : Int)] 3)).cell? ((⟨g, 0, none⟩ : Addr).add j) = some u) := Lib.hid (HR2.out.row.alloc (.cells #[.int .i64 (pl : Int)] 3) |>.cells rfl)
        have HONE : Hid (∀ u ∈ cellsN (l.drop (d + 1)), u.oneCell' = true) := Lib.hid (by
          intro u hu; unfold cellsN at hu; obtain ⟨x, _, rfl⟩ := List.mem_map.1 hu; rfl)
        have HLEN : Hid ((cellsN (l.drop (d + 1))).length = (l.length - (d + 1)) * 1) := Lib.hid (by rw [cellsN_length, List.length_drop, Nat.mul_one])
        have HDD := HD0
        clear d0 HD0
        go_wp2_with (at_builtin; refine wpList_append_own_at _ rfl (.tmp 31) (.tmp 32) 30 rfl w2.heap.size 3 i0 _ 1 8 Try.underlying30 ii hz0 hz1 hz2 rfl (by decide) _ 1 [.int .i64 (pl : Int)] rfl HNW.out ⟨g, 0, none⟩ (l.length - (d + 1)) _ (cellsN (l.drop (d + 1))) rfl HLEN.out HNWS.out HONE.out (by unfold maxLen; omega) (by omega) hbs ?_)
        intro v' w5 h1 h2 h3 h4
        have HBY : Hid (Below w2.heap.size w2 w5) := Lib.hid (HBX.out.grown h2 hbs fun k hk => (HNW.out.lt k hk).1)
        have HND : Hid (PkRel t w2.heap.size l d q v' w5) := Lib.hid ⟨HQ.out.1, HQ.out.2.1, HQ.out.2.2, by
          rw [HDR.out, ← hln, Nat.add_comm]; exact h1⟩
        have hdd : w5.cell? ⟨gf, j * 15, none⟩ = some (.int .i64 (q : Int)) := (World.cell?_of_block ((h2.block _ (by simp; omega) (by intro e; simp [Value.ownBlock] at e; omega)).trans (Below.heap_alloc wr _ _ hgl))).trans (HDD.out wr (Below.refl _ _))
        clear h1 h2 h3 h4
        go_wp2_with fail
        go_roundw
        case rel => exact ⟨d, q, rfl, HND.out, HBY.out⟩
        case measure => simp [intOf]; omega
end Go.Proofs.Ytcacgbdnegmfnaa.Tr
