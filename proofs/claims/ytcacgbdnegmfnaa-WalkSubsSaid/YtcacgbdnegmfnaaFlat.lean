/- walk.Flat: the nodes in a row, with sizes and heights. -/
import Derived.Test.YtcacgbdnegmfnaaFlatP
import Derived.Test.YtcacgbdnegmfnaaText
import Derived.BigRegion
import Derived.BigQuiet
namespace Go.Proofs.Ytcacgbdnegmfnaa.Tr
open Go Go.RowKit
set_option linter.unusedVariables false

mutual
/-- Not too many attributes. -/
def attT : Nd → Prop | .mk _ _ _ al ks => al.length ≤ 1000000 ∧ attL ks
def attL : List Nd → Prop | [] => True | t :: ts => attT t ∧ attL ts
end
mutual
theorem okT_att (d : Nat) : ∀ t, okT d t → attT t
  | .mk k n s al ks, h => by unfold okT at h; unfold attT; exact ⟨by omega, okL_att (d + 1) ks h.2.2.2.2.2⟩
theorem okL_att (d : Nat) : ∀ ts, okL d ts → attL ts
  | [], _ => by unfold attL; trivial
  | t :: ts, h => by unfold okL at h; unfold attL; exact ⟨okT_att d t h.1, okL_att d ts h.2⟩
end
mutual
theorem preT_att (id : Nat) (par dep pl : Int) : ∀ t, attT t → ∀ x ∈ preT id par dep pl t, attT x.t
  | .mk k n s al ks, h, x, hx => by
    unfold preT at hx
    rcases List.mem_cons.1 hx with rfl | hx
    · exact h
    · unfold attT at h
      exact preL_att _ _ _ _ ks h.2 x hx
theorem preL_att (id : Nat) (par dep pl : Int) : ∀ ts, attL ts → ∀ x ∈ preL id par dep pl ts, attT x.t
  | [], _, x, hx => by unfold preL at hx; simp at hx
  | t :: ts, h, x, hx => by
    unfold preL at hx
    unfold attL at h
    rcases List.mem_append.1 hx with hx | hx
    · exact preT_att _ _ _ _ t h.1 x hx
    · exact preL_att _ _ _ _ ts h.2 x hx
end
theorem att_attrs {t : Nd} (h : attT t) : t.attrs.length ≤ 1000000 := by cases t; unfold attT at h; exact h.1
theorem allP_att {t : Nd} (h : attT t) : ∀ x ∈ allP t, x.t.attrs.length ≤ 1000000 := fun x hx => att_attrs (preT_att 0 (-1) 0 0 t h x hx)

theorem cellsI_at : ∀ {vis : List Pn} {avs : List Value} {i : Nat} {x : Pn} {av : Value}, vis[i]? = some x → avs[i]? = some av → ∀ c u, (itemCell x av)[c]? = some u → (cellsI vis avs)[i * 10 + c]? = some u
  | [], _, _, _, _, h, _, _, _, _ => by simp at h
  | _ :: _, [], _, _, _, _, h, _, _, _ => by simp at h
  | y :: vis, bv :: avs, 0, x, av, h, h2, c, u, hu => by
    simp at h h2; subst h h2
    unfold cellsI
    rw [List.zip_cons_cons, List.flatMap_cons, Nat.zero_mul, Nat.zero_add, List.getElem?_append_left (List.getElem?_eq_some_iff.1 hu).1]
    exact hu
  | y :: vis, bv :: avs, i + 1, x, av, h, h2, c, u, hu => by
    have := cellsI_at (vis := vis) (avs := avs) (i := i) (by simpa using h) (by simpa using h2) c u hu
    unfold cellsI at this ⊢
    rw [List.zip_cons_cons, List.flatMap_cons, List.getElem?_append_right (by show (itemCell y bv).length ≤ _; simp [itemCell]; omega)]
    rw [show (itemCell (y, bv).1 (y, bv).2).length = 10 from rfl, show (i + 1) * 10 + c - 10 = i * 10 + c by omega]
    exact this
/-- What each's function has gathered, as a row. -/
theorem irow_of {bl : Nat} {vis : List Pn} {s : Value × List Value} {w : World} (h : FInv bl vis s w) (hne : vis ≠ []) : ∃ g cap, s.1 = .slice (some ⟨g, 0, none⟩) vis.length cap ∧ bl < g ∧ vis.length ≤ cap ∧ cap ≤ maxLen ∧ IRow g vis (fun _ => (1, 1)) w := by
  obtain ⟨v, avs⟩ := s
  have hrow := h.row
  have hc := h.row.2
  have hlen0 : vis.length ≠ 0 := fun e => hne (List.length_eq_zero_iff.1 e)
  rcases hc with ⟨h1, h2⟩ | ⟨g, cap, cur, h1, h5, h6, h7, h8, h9, h10⟩
  · exact absurd h2 hlen0
  · dsimp only at h1
    subst h1
    have hgb : g ≠ bl := fun e => h.ne (by rw [e]; rfl)
    refine ⟨g, cap, rfl, by omega, h7, h8, ⟨⟨cur, h6⟩, fun i x hx => ?_⟩⟩
    obtain ⟨av, hav⟩ : ∃ av, avs[i]? = some av := ⟨_, List.getElem?_eq_getElem (by have := (List.getElem?_eq_some_iff.1 hx).1; have h2 : avs.length = vis.length := h.len; omega)⟩
    have hcells := hrow.cells (g := g) rfl
    have at_ : ∀ c u, (itemCell x av)[c]? = some u → w.cell? ⟨g, i * 10 + c, none⟩ = some u := fun c u hu => by
      have := hcells (i * 10 + c) u (cellsI_at hx hav c u hu)
      rwa [add_flat, Nat.zero_add] at this
    refine ⟨av, h.attrs i x av hx hav, fun e => (h.high av (List.mem_of_getElem? hav) g e).2.2 rfl, at_ 0 _ rfl, at_ 1 _ rfl, at_ 2 _ rfl, at_ 3 _ rfl, at_ 4 _ rfl, at_ 5 _ rfl, at_ 6 _ rfl, at_ 7 _ rfl, at_ 8 _ rfl, at_ 9 _ rfl⟩

/-- The function that gathers nodes. -/
theorem flatClo (W0 : World) (bl B r : Nat) (t : Nd) (hb : B ≤ bl ∧ bl ≠ r) (ht : attT t) :
    Clo 43 #[.pointer (some ⟨bl, 0, none⟩)] W0 B r t (FInv bl) (fOwn bl) (.slice none 0 0, []) (fun _ => false) := by
  refine ⟨fun vis s w w' h hk hs => h.keep hk hs, fun vis s w h => h.lt, ?_, ?_⟩
  · rintro k (rfl | hk | ⟨av, ha, _⟩)
    · exact hb
    · simp [Value.ownBlock] at hk
    · simp at ha
  · intro vis s w p x rest hall hI hF hs hp hl
    have hblk := lt_of_block hI.blk
    refine (flatc_calls bl B r vis s _ p x w hI hl (by omega) (allP_att ht x (by rw [← hall]; simp)) hp).mono ?_
    rintro e w' ⟨s', rfl, h1, h2, h3⟩
    exact ⟨s', rfl, h1, h2, h3⟩

theorem upd_two (S : St2) (p i : Nat) (hip : i ≠ p) (j : Nat) :
    (fun j => if j = p then (if (3 : Nat) = 1 then (max (S p).2 ((S i).2 + 1), ((fun j => if j = p then (if (1 : Nat) = 1 then ((S p).1 + (S i).1, (S p).2) else ((S p).1, (S p).1 + (S i).1)) else S j) p).2) else (((fun j => if j = p then (if (1 : Nat) = 1 then ((S p).1 + (S i).1, (S p).2) else ((S p).1, (S p).1 + (S i).1)) else S j) p).1, max (S p).2 ((S i).2 + 1)))
      else (fun j => if j = p then (if (1 : Nat) = 1 then ((S p).1 + (S i).1, (S p).2) else ((S p).1, (S p).1 + (S i).1)) else S j) j) j = upd S p i j := by
  unfold upd
  by_cases h : j = p
  · simp [h]
  · simp [h]
theorem IRow.congr {g : Nat} {l : List Pn} {st st' : St2} {w : World} (h : IRow g l st w) (he : ∀ i, i < l.length → st i = st' i) : IRow g l st' w :=
  ⟨h.blk, fun i x hx => by rw [← he i (List.getElem?_eq_some_iff.1 hx).1]; exact h.at_ i x hx⟩

def FlatEnd (t : Nd) (w : World) (e : Ending) (w' : World) : Prop :=
  ∃ g cap, e = .returned (.slice (some ⟨g, 0, none⟩) (cntT t : Nat) cap) ∧ cntT t ≤ cap ∧ cap ≤ maxLen ∧ w.heap.size ≤ g ∧ IRow g (allP t) (finOf (allP t)) w' ∧ Below w.heap.size w w'
structure FRel (t : Nd) (w : World) (g : Nat) (cap : Nat) (j : Nat) (wr : World) : Prop where
  row : IRow g (allP t) (stAt t (j + 1)) wr
  blk : wr.heap[w.heap.size + 1]? = some (.cells #[.slice (some ⟨g, 0, none⟩) (cntT t : Nat) cap] 28 (0, 0))
  bel : Below w.heap.size w wr
set_option maxHeartbeats 4000000 in
set_option maxRecDepth 100000 in
theorem flat_calls (t : Nd) (v0 v1 v2 v3 v4 : Value) (w : World) (h : IsTree w w.heap.size t v0 v1 v2 v3 v4) (hN : cntT t ≤ 1000000) (ht : attT t) :
    Calls Try.prog 16 #[.agg #[v0, v1, v2, v3, v4]] w (FlatEnd t w) := by
  have H := Lib.hid h
  clear h
  go_enter Try.func16, Try.ntmps16
  go_wp2_with fail
  have hsz : ((w.alloc (.cells #[v0, v1, v2, v3, v4] 25)).alloc (.cells #[.slice none 0 0] 28)).heap.size = w.heap.size + 2 := by simp
  have hnode : NodeAt ((w.alloc (.cells #[v0, v1, v2, v3, v4] 25)).alloc (.cells #[.slice none 0 0] 28)) w.heap.size w.heap.size ⟨w.heap.size, 0, none⟩ t :=
    boxed H.out (Nat.le_refl _) _ (alloc_old (alloc_new w _) _) fun k hk => (Below.heap_alloc _ _ k (by simp; omega)).trans (Below.heap_alloc w _ k hk)
  have hfi : FInv (w.heap.size + 1) [] (.slice none 0 0, []) ((w.alloc (.cells #[v0, v1, v2, v3, v4] 25)).alloc (.cells #[.slice none 0 0] 28)) := by
    refine ⟨?_, ⟨rfl, .inl ⟨rfl, rfl⟩⟩, rfl, by simp [Value.ownBlock], by simp, by simp⟩
    have := alloc_new (w.alloc (.cells #[v0, v1, v2, v3, v4] 25)) (.cells #[.slice none 0 0] 28)
    rwa [show (w.alloc (.cells #[v0, v1, v2, v3, v4] 25)).heap.size = w.heap.size + 1 by simp] at this
  have hbel : Below w.heap.size w ((w.alloc (.cells #[v0, v1, v2, v3, v4] 25)).alloc (.cells #[.slice none 0 0] 28)) := ((Below.refl _ w).alloc (Nat.le_refl _) _).alloc (by simp) _
  generalize (w.alloc (.cells #[v0, v1, v2, v3, v4] 25)).alloc (.cells #[.slice none 0 0] 28) = W0 at hsz hnode hfi hbel ⊢
  have HSZ := Lib.hid hsz
  have HB := Lib.hid hbel
  have C := flatClo W0 (w.heap.size + 1) w.heap.size w.heap.size t ⟨by omega, by omega⟩ ht
  refine (each_calls 43 _ (Go.Proofs.enters_of Try.func43 (by kernel_rfl) rfl) W0 w.heap.size w.heap.size _ _ _ _ t C (by omega) (by omega) _ hN hfi hnode).mono ?_
  rintro e w2 ⟨m, s, rfl, hm, hI, hF, hown, _, hend⟩
  have hm' : m = (allP t).length := by rcases hend with h | h; exact h; cases h
  subst hm'
  rw [List.take_length] at hI
  have hpos := cntT_pos t
  have hlen := allP_length t
  obtain ⟨g, cap, hs1, hg, hc1, hc2, hrow⟩ := irow_of hI (fun e => by rw [e] at hlen; simp at hlen; omega)
  rw [hlen] at hs1 hc1
  have hblk := hI.blk
  rw [hs1] at hblk
  have hbel2 : Below w.heap.size w w2 := HB.out.trans (hF.below (B' := w.heap.size) (fun k hk => by
    rintro (h | h | ⟨_, h, _⟩)
    · omega
    · simp [Value.ownBlock] at h
    · simp at h) (by have := HSZ.out; omega))
  have HR : Hid (FRel t w g cap (cntT t - 1) w2) := Lib.hid ⟨by rw [show cntT t - 1 + 1 = cntT t by omega, stAt_end]; exact hrow, hblk, hbel2⟩
  have e0 : w2.cell? ⟨w.heap.size + 1, 0, none⟩ = some (.slice (some ⟨g, 0, none⟩) (cntT t : Nat) cap) := by rw [block_cell hblk]; rfl
  clear hI hF hown hend hm C hfi hnode hsz hbel hs1 hrow hblk hbel2
  go_wp2_with fail
  go_loopw [4] (fun i wr => ∃ (j : Nat), j + 1 ≤ cntT t ∧ i = .int .i64 (j : Int) ∧ FRel t w g cap j wr) (fun i _ => (intOf i).toNat)
  case atStart => exact ⟨cntT t - 1, by omega, by congr 1; omega, HR.out⟩
  case round =>
    obtain ⟨j, hj, rfl, hR⟩ := hrel
    have c0 : wr.cell? ⟨w.heap.size + 1, 0, none⟩ = some (.slice (some ⟨g, 0, none⟩) (cntT t : Nat) cap) := by rw [block_cell hR.blk]; rfl
    have HR2 := Lib.hid hR
    clear hR
    cases j with
    | zero =>
      go_wp2_with fail
      go_ret
      refine ⟨g, cap, rfl, hc1, hc2, by omega, HR2.out.row.congr (fun i hi => stAt_one t i (by omega)), HR2.out.bel⟩
    | succ j =>
      obtain ⟨x, hx⟩ : ∃ x, (allP t)[j + 1]? = some x := ⟨_, List.getElem?_eq_getElem (by omega)⟩
      obtain ⟨p, hp1, hp2, hp3⟩ := allP_par t (j + 1) x hx (by omega)
      obtain ⟨y, hy⟩ : ∃ y, (allP t)[p]? = some y := ⟨_, List.getElem?_eq_getElem (by omega)⟩
      obtain ⟨av, ha, hn, d0, d1, d2, d3, d4, d5, d6, d7, d8, d9⟩ := HR2.out.row.at_ (j + 1) x hx
      obtain ⟨bv, hb, hbn, b0, b1, b2, b3, b4, b5, b6, b7, b8, b9⟩ := HR2.out.row.at_ p y hy
      rw [hp1] at d0
      obtain ⟨sj1, sj2⟩ := st_le t (j + 2) (j + 1) (by omega) (by omega) (by omega)
      obtain ⟨sp1, sp2⟩ := st_le t (j + 2) p (by omega) (by omega) (by omega)
      have fz1 : wr.frozen? ⟨g, p * 10 + 1, none⟩ = false := HR2.out.row.free _
      have fz3 : wr.frozen? ⟨g, p * 10 + 3, none⟩ = false := HR2.out.row.free _
      have hlt1 : ((j : Int) + 1) < (cntT t : Int) := by omega
      have hlt2 : (p : Int) < (cntT t : Int) := by omega
      have hw1 : IntKind.i64.wrap (((stAt t (j + 2) p).1 : Int) + ((stAt t (j + 2) (j + 1)).1 : Int)) = ((stAt t (j + 2) p).1 : Int) + ((stAt t (j + 2) (j + 1)).1 : Int) := IntWalk.i64_in _ (by omega)
      have hw2 : IntKind.i64.wrap (((stAt t (j + 2) (j + 1)).2 : Int) + 1) = ((stAt t (j + 2) (j + 1)).2 : Int) + 1 := IntWalk.i64_in _ (by omega)
      clear d2 d4 d5 d6 d7 d8 d9 b0 b2 b4 b5 b6 b7 b8 b9 ha hb
      generalize hS : stAt t (j + 2) = S at d1 d3 b1 b3 sj1 sj2 sp1 sp2 hw1 hw2
      have HS := Lib.hid hS
      clear hS
      generalize hq1 : (S p).1 = q1 at *
      generalize hq2 : (S p).2 = q2 at *
      generalize hq3 : (S (j + 1)).1 = q3 at *
      generalize hq4 : (S (j + 1)).2 = q4 at *
      go_wp2_with fail
      go_quiet (fail)
      go_wp2_with fail
      go_region
      have R1 : IRow g (allP t) S (wr.drewN (nq + 1)) := by
        have := HR2.out.row
        rw [show stAt t (j + 1 + 1) = S from HS.out] at this
        exact this.keep (B := wr.heap.size) ⟨rfl, rfl, rfl, Nat.le_refl _, fun _ _ => rfl⟩ (Nat.le_refl _)
      have R2 := R1.set p (by omega) 1 (q1 + q3) (.inl rfl)
      have K2 : ((wr.drewN (nq + 1)).setCell ⟨g, p * 10 + 1, none⟩ (.int .i64 ((q1 + q3 : Nat) : Int))).heap[w.heap.size + 1]? = some (.cells #[.slice (some ⟨g, 0, none⟩) (cntT t : Nat) cap] 28 (0, 0)) := setCell_old HR2.out.blk (by show _ ≠ g; omega) _
      have L2 : Below w.heap.size w ((wr.drewN (nq + 1)).setCell ⟨g, p * 10 + 1, none⟩ (.int .i64 ((q1 + q3 : Nat) : Int))) := Below.setCell (a := w) (w := wr.drewN (nq + 1)) ⟨HR2.out.bel.os, HR2.out.bel.tape, HR2.out.bel.output, HR2.out.bel.size, HR2.out.bel.block⟩ (by show w.heap.size ≤ g; omega) _
      rw [Int.natCast_add] at R2 K2 L2
      generalize hS2 : (fun j => if j = p then (if (1 : Nat) = 1 then (q1 + q3, (S p).2) else ((S p).1, q1 + q3)) else S j) = S2 at R2
      have s2j : (S2 (j + 1)).2 = q4 := by rw [← hS2, ← hq4]; simp only []; rw [if_neg (by omega)]
      have s2p : (S2 p).2 = q2 := by rw [← hS2, ← hq2]; simp
      have s2 : ∀ a, (if a = p then (if (3 : Nat) = 1 then (max q2 (q4 + 1), (S2 p).2) else ((S2 p).1, max q2 (q4 + 1))) else S2 a) = upd S p (j + 1) a := fun a => by
        rw [← hS2, ← hq2, ← hq4, ← hq1, ← hq3]
        unfold upd
        by_cases h : a = p
        · simp [h]
        · simp [h]
      have HS2 := Lib.hid s2
      clear hS2 s2
      generalize (wr.drewN (nq + 1)).setCell ⟨g, p * 10 + 1, none⟩ (.int .i64 ((q1 : Int) + (q3 : Int))) = W3 at R2 K2 L2 ⊢
      obtain ⟨av', h1, h2, h3, h4, h5, d3', h6⟩ := R2.at_ (j + 1) x hx
      clear h1 h2 h3 h4 h5 h6
      obtain ⟨bv', h1, h2, h3, h4, h5, b3', h6⟩ := R2.at_ p y hy
      clear h1 h2 h3 h4 h5 h6
      rw [s2j] at d3'
      rw [s2p] at b3'
      clear s2j s2p
      have c0' : W3.cell? ⟨w.heap.size + 1, 0, none⟩ = some (.slice (some ⟨g, 0, none⟩) (cntT t : Nat) cap) := by rw [block_cell K2]; rfl
      have fz3' : W3.frozen? ⟨g, p * 10 + 3, none⟩ = false := R2.free _
      have HR3 := Lib.hid R2
      have HK2 := Lib.hid K2
      have HL2 := Lib.hid L2
      clear d0 d1 d3 b1 b3 c0 fz1 fz3 R1 R2 K2 L2
      go_wp2_with fail
      go_region
      have R3 : IRow g (allP t) (stAt t (j + 1)) ((W3.setCell ⟨g, p * 10 + 3, none⟩ (.int .i64 (max (q2 : Int) ((q4 : Int) + 1)))).drew) := by
        rw [show max (q2 : Int) ((q4 : Int) + 1) = ((max q2 (q4 + 1) : Nat) : Int) by omega]
        refine ((HR3.out.set p (by omega) 3 (max q2 (q4 + 1)) (.inr rfl)).congr fun a ha => ?_).drew
        rw [stAt_step t (j + 1) (by omega), hp3, show stAt t (j + 1 + 1) = S from HS.out]
        exact HS2.out a
      have K3 : ((W3.setCell ⟨g, p * 10 + 3, none⟩ (.int .i64 (max (q2 : Int) ((q4 : Int) + 1)))).drew).heap[w.heap.size + 1]? = some (.cells #[.slice (some ⟨g, 0, none⟩) (cntT t : Nat) cap] 28 (0, 0)) := setCell_old HK2.out (by show _ ≠ g; omega) _
      have L3 : Below w.heap.size w ((W3.setCell ⟨g, p * 10 + 3, none⟩ (.int .i64 (max (q2 : Int) ((q4 : Int) + 1)))).drew) := (HL2.out.setCell (by show w.heap.size ≤ g; omega) _).drew
      generalize (W3.setCell ⟨g, p * 10 + 3, none⟩ (.int .i64 (max (q2 : Int) ((q4 : Int) + 1)))).drew = W4 at R3 K3 L3 ⊢
      have HF4 : Hid (FRel t w g cap j W4) := Lib.hid ⟨R3, K3, L3⟩
      clear R3 K3 L3 HR3 HK2 HL2 d3' b3' c0' fz3'
      go_wp2_with fail
      go_roundw
      case rel => exact ⟨j, by omega, by go_num, HF4.out⟩
      case measure => simp [intOf]
end Go.Proofs.Ytcacgbdnegmfnaa.Tr
