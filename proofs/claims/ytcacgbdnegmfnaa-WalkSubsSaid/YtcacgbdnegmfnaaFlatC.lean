/- The function by which Flat gathers nodes. -/
import Derived.Test.YtcacgbdnegmfnaaEach
import Derived.Test.YtcacgbdnegmfnaaClone
namespace Go.Proofs.Ytcacgbdnegmfnaa.Tr
open Go Go.RowKit
set_option linter.unusedVariables false

theorem IsAttrs.keepBlock {w w' : World} {B B' : Nat} {al : List (ByteArray × ByteArray)} {A : Option Addr} {ac : Nat} (h : IsAttrs w B al A ac) (hk : ∀ g, (Value.slice A al.length ac).ownBlock = some g → w'.heap[g]? = w.heap[g]?) (hB : B ≤ B') : IsAttrs w' B' al A ac := by
  obtain ⟨h1, h2, h3, h4⟩ := h
  refine ⟨h1, h2, h3, fun hn => ?_⟩
  obtain ⟨b, off, e, hb, hc⟩ := h4 hn
  have hk' := hk b (by rw [e]; rfl)
  exact ⟨b, off, e, by omega, fun i x hx => ⟨(World.cell?_of_block hk').trans (hc i x hx).1, (World.cell?_of_block hk').trans (hc i x hx).2⟩⟩
/-- Attributes behind a value. -/
def AttrV (w : World) (al : List (ByteArray × ByteArray)) (av : Value) : Prop := ∃ A ac, av = .slice A al.length ac ∧ IsAttrs w w.heap.size al A ac
theorem AttrV.keep {w w' : World} {al : List (ByteArray × ByteArray)} {av : Value} (h : AttrV w al av) (hk : ∀ g, av.ownBlock = some g → w'.heap[g]? = w.heap[g]?) (hs : w.heap.size ≤ w'.heap.size) : AttrV w' al av := by
  obtain ⟨A, ac, rfl, h⟩ := h
  exact ⟨A, ac, rfl, h.keepBlock hk hs⟩
def itemCell (x : Pn) (av : Value) : List Value := [.int .i64 x.par, .int .i64 1, .int .i64 x.dep, .int .i64 1, .int .i64 x.pl, .int .i64 x.t.kind, .string x.t.name, .string x.t.text, av, .slice none 0 0]
def cellsI (vis : List Pn) (avs : List Value) : List Value := (vis.zip avs).flatMap fun q => itemCell q.1 q.2
theorem cellsI_snoc {vis : List Pn} {avs : List Value} (x : Pn) (av : Value) (h : avs.length = vis.length) : cellsI (vis ++ [x]) (avs ++ [av]) = cellsI vis avs ++ itemCell x av := by
  unfold cellsI
  rw [List.zip_append h.symm]; simp
def fOwn (bl : Nat) (s : Value × List Value) (k : Nat) : Prop := k = bl ∨ s.1.ownBlock = some k ∨ ∃ av ∈ s.2, av.ownBlock = some k
structure FInv (bl : Nat) (vis : List Pn) (s : Value × List Value) (w : World) : Prop where
  blk : w.heap[bl]? = some (.cells #[s.1] 28 (0, 0))
  row : w.ownsRow bl 33 10 s.1 vis.length (cellsI vis s.2)
  len : s.2.length = vis.length
  ne : s.1.ownBlock ≠ some bl
  attrs : ∀ (i : Nat) (x : Pn) (av : Value), vis[i]? = some x → s.2[i]? = some av → AttrV w x.t.attrs av
  high : ∀ av ∈ s.2, ∀ g, av.ownBlock = some g → bl < g ∧ g < w.heap.size ∧ s.1.ownBlock ≠ some g
theorem FInv.lt {bl : Nat} {vis : List Pn} {s : Value × List Value} {w : World} (h : FInv bl vis s w) : ∀ k, fOwn bl s k → k < w.heap.size := by
  rintro k (rfl | hk | ⟨av, ha, hk⟩)
  · exact lt_of_block h.blk
  · exact (h.row.lt k hk).2
  · exact (h.high av ha k hk).2.1
theorem FInv.keep {bl : Nat} {vis : List Pn} {s : Value × List Value} {w w' : World} (h : FInv bl vis s w) (hk : ∀ k, fOwn bl s k → w'.heap[k]? = w.heap[k]?) (hs : w.heap.size ≤ w'.heap.size) : FInv bl vis s w' := by
  refine ⟨(hk bl (.inl rfl)).trans h.blk, row_keep h.row fun g hg => hk g (.inr (.inl hg)), h.len, h.ne, fun i x av hx ha => (h.attrs i x av hx ha).keep (fun g hg => hk g (.inr (.inr ⟨av, List.mem_of_getElem? ha, hg⟩))) hs, fun av ha g hg => ?_⟩
  obtain ⟨h1, h2, h3⟩ := h.high av ha g hg
  exact ⟨h1, by omega, h3⟩
theorem item_info : (Try.prog.info? 33).map (fun i => (i.zero, i.size, i.bytes)) = some (some (.agg #[.int .i64 0, .int .i64 0, .int .i64 0, .int .i64 0, .int .i64 0, .int .i64 0, .string ByteArray.empty, .string ByteArray.empty, .slice none 0 0, .slice none 0 0]), 10, 128) := by kernel_rfl

def FcEnd (bl : Nat) (vis : List Pn) (x : Pn) (s : Value × List Value) (w : World) (e : Ending) (w' : World) : Prop :=
  ∃ s', e = .returned (.bool true) ∧ FInv bl (vis ++ [x]) s' w' ∧ Fr (fOwn bl s) w.heap.size w w' ∧ ∀ k, fOwn bl s' k → fOwn bl s k ∨ w.heap.size ≤ k
set_option maxHeartbeats 2000000 in
set_option maxRecDepth 100000 in
theorem flatc_calls (bl BT r : Nat) (vis : List Pn) (s : Value × List Value) (id : Int) (p : Addr) (x : Pn) (w : World) (h : FInv bl vis s w) (hv : vis.length ≤ 1000000) (hB : BT ≤ w.heap.size) (hal : x.t.attrs.length ≤ 1000000) (hp : NodeAt w BT r p x.t) :
    Calls Try.prog 43 #[.int .i64 id, .agg #[.pointer (some p), .int .i64 x.par, .int .i64 x.dep, .int .i64 x.pl], .pointer (some ⟨bl, 0, none⟩)] w (FcEnd bl vis x s w) := by
  obtain ⟨t, par, dep, pl⟩ := x
  obtain ⟨nb, noff, v0, v1, v2, v3, v4, rfl, hnb, c0, c1, c2, c3, c4, ht⟩ := hp
  cases t with
  | mk k n tx al ks =>
    unfold IsTree at ht
    obtain ⟨rfl, rfl, rfl, wk, _, _, A, ac, K, kc, rfl, rfl, hat, _, _, _⟩ := ht
    obtain ⟨v, avs⟩ := s
    have hnl : nb < w.heap.size := (cell_lt c0).1
    have hbl : bl < w.heap.size := h.lt bl (.inl rfl)
    have H := Lib.hid h
    have HAT := Lib.hid hat
    have HAL : Hid (al.length ≤ 1000000) := Lib.hid hal
    clear h hat hal
    go_enter Try.func43, Try.ntmps43
    go_wp2_with fail
    have hw2 : ∃ w2, (w.alloc (.cells #[.pointer (some ⟨nb, noff, none⟩), .int .i64 par, .int .i64 dep, .int .i64 pl] 71)).alloc (.cells #[.int .i64 k, .string n, .string tx, .slice A al.length ac, .slice none 0 0] 25) = w2 := ⟨_, rfl⟩
    obtain ⟨w2, hw2⟩ := hw2
    have e1 : w2.heap.size = w.heap.size + 2 := by rw [← hw2]; simp
    have e2 : w2.heap[w.heap.size]? = some (.cells #[.pointer (some ⟨nb, noff, none⟩), .int .i64 par, .int .i64 dep, .int .i64 pl] 71 (0, 0)) := by rw [← hw2]; exact alloc_old (alloc_new w _) _
    have e3 : w2.heap[w.heap.size + 1]? = some (.cells #[.int .i64 k, .string n, .string tx, .slice A al.length ac, .slice none 0 0] 25 (0, 0)) := by
      rw [← hw2]
      have := alloc_new (w.alloc (.cells #[.pointer (some ⟨nb, noff, none⟩), .int .i64 par, .int .i64 dep, .int .i64 pl] 71)) (.cells #[.int .i64 k, .string n, .string tx, .slice A al.length ac, .slice none 0 0] 25)
      rwa [show (w.alloc (.cells #[.pointer (some ⟨nb, noff, none⟩), .int .i64 par, .int .i64 dep, .int .i64 pl] 71)).heap.size = w.heap.size + 1 by simp] at this
    have e4 : Below w.heap.size w w2 := by rw [← hw2]; exact ((Below.refl _ w).alloc (Nat.le_refl _) _).alloc (by simp) _
    rw [hw2]
    clear hw2
    have E1 := Lib.hid e1
    have E2 := Lib.hid e2
    have E3 := Lib.hid e3
    have E4 := Lib.hid e4
    have s2 : w.heap.size + 2 ≤ w2.heap.size := by omega
    clear e1 e2 e3 e4 c0 c1 c2 c3 c4
    refine (clone_calls al A ac BT w2 (HAT.out.keep (fun p hp => E4.out.cell (by omega)) (Nat.le_refl _)) (by omega) HAL.out).mono ?_
    rintro e w3 ⟨A', ac', rfl, g1, g2, g3⟩
    have f2 : w3.heap[w.heap.size]? = _ := (g2.block _ (by omega)).trans E2.out
    have f3 : w3.heap[w.heap.size + 1]? = _ := (g2.block _ (by omega)).trans E3.out
    have f4 : Below w.heap.size w w3 := E4.out.trans (g2.mono (by omega))
    have s3 : w.heap.size + 2 ≤ w3.heap.size := by have := g2.size; omega
    have hI3 : FInv bl vis (v, avs) w3 := H.out.keep (fun k hk => f4.block k (H.out.lt k hk)) f4.size
    have d0 : w3.cell? ⟨w.heap.size, 0, none⟩ = some (.pointer (some ⟨nb, noff, none⟩)) := by rw [block_cell f2]; rfl
    have d1 : w3.cell? ⟨w.heap.size, 1, none⟩ = some (.int .i64 par) := by rw [block_cell f2]; rfl
    have d2 : w3.cell? ⟨w.heap.size, 2, none⟩ = some (.int .i64 dep) := by rw [block_cell f2]; rfl
    have d3 : w3.cell? ⟨w.heap.size, 3, none⟩ = some (.int .i64 pl) := by rw [block_cell f2]; rfl
    have n0 : w3.cell? ⟨w.heap.size + 1, 0, none⟩ = some (.int .i64 k) := by rw [block_cell f3]; rfl
    have n1 : w3.cell? ⟨w.heap.size + 1, 1, none⟩ = some (.string n) := by rw [block_cell f3]; rfl
    have n2 : w3.cell? ⟨w.heap.size + 1, 2, none⟩ = some (.string tx) := by rw [block_cell f3]; rfl
    have n3 : w3.cell? ⟨w.heap.size + 1, 3, none⟩ = some (.slice A al.length ac) := by rw [block_cell f3]; rfl
    have n4 : w3.cell? ⟨w.heap.size + 1, 4, none⟩ = some (.slice none 0 0) := by rw [block_cell f3]; rfl
    have fz : w3.frozen? ⟨w.heap.size + 1, 3, none⟩ = false := Lib.frozen_of_heap f3 3
    have b0 : w3.cell? ⟨bl, 0, none⟩ = some v := by rw [block_cell hI3.blk]; rfl
    have bz : w3.frozen? ⟨bl, 0, none⟩ = false := Lib.frozen_of_heap hI3.blk 0
    have G1 := Lib.hid g1
    have G2 := Lib.hid g2
    have G3 := Lib.hid g3
    have F4 := Lib.hid f4
    have I3 := Lib.hid hI3
    have s4 : w2.heap.size ≤ w3.heap.size := g2.size
    have hb3 : bl < w3.heap.size := by omega
    clear g1 g2 g3 f2 f3 f4 hI3
    obtain ⟨i0, hi, hz0, hz1, hz2⟩ := info_parts item_info
    have HI5 : Hid (FInv bl vis (v, avs) ((w3.setCell ⟨w.heap.size + 1, 3, none⟩ (.slice A' al.length ac')).alloc (.cells #[.int .i64 par, .int .i64 1, .int .i64 dep, .int .i64 1, .int .i64 pl, .int .i64 k, .string n, .string tx, .slice A' al.length ac', .slice none 0 0] 33))) := Lib.hid (H.out.keep (fun k hk => by
      have hkl := H.out.lt k hk
      exact (Below.heap_alloc _ _ k (by simp; omega)).trans ((Below.heap_setCell w3 _ _ k (by show k ≠ w.heap.size + 1; omega)).trans (F4.out.block k hkl))) (by simp; omega))
    have HNEWS : Hid (∀ (j : Nat) u, (itemCell ⟨.mk k n tx al ks, par, dep, pl⟩ (.slice A' al.length ac'))[j]? = some u → ((w3.setCell ⟨w.heap.size + 1, 3, none⟩ (.slice A' al.length ac')).alloc (.cells #[.int .i64 par, .int .i64 1, .int .i64 dep, .int .i64 1, .int .i64 pl, .int .i64 k, .string n, .string tx, .slice A' al.length ac', .slice none 0 0] 33)).cell? ((⟨w3.heap.size, 0, none⟩ : Addr).add j) = some u) := Lib.hid fun j u hj => by
      rw [add_flat, Nat.zero_add]
      have := alloc_new (w3.setCell ⟨w.heap.size + 1, 3, none⟩ (.slice A' al.length ac')) (.cells #[.int .i64 par, .int .i64 1, .int .i64 dep, .int .i64 1, .int .i64 pl, .int .i64 k, .string n, .string tx, .slice A' al.length ac', .slice none 0 0] 33)
      rw [show (w3.setCell ⟨w.heap.size + 1, 3, none⟩ (.slice A' al.length ac')).heap.size = w3.heap.size by simp] at this
      rw [block_cell this]
      rw [← List.getElem?_toArray] at hj
      exact hj
    have HONE : Hid (∀ u ∈ itemCell ⟨.mk k n tx al ks, par, dep, pl⟩ (.slice A' al.length ac'), u.oneCell' = true) := Lib.hid (by simp [itemCell, Value.oneCell'])
    have hblW : bl ≤ ((w3.setCell ⟨w.heap.size + 1, 3, none⟩ (.slice A' al.length ac')).alloc (.cells #[.int .i64 par, .int .i64 1, .int .i64 dep, .int .i64 1, .int .i64 pl, .int .i64 k, .string n, .string tx, .slice A' al.length ac', .slice none 0 0] 33)).heap.size := by simp; omega
    have HBLW := Lib.hid hblW
    clear hblW
    have H5 := Lib.hid (show ((w3.setCell ⟨w.heap.size + 1, 3, none⟩ (.slice A' al.length ac')).alloc (.cells #[.int .i64 par, .int .i64 1, .int .i64 dep, .int .i64 1, .int .i64 pl, .int .i64 k, .string n, .string tx, .slice A' al.length ac', .slice none 0 0] 33)).heap.size = w3.heap.size + 1 by simp)
    have HR5 := Lib.hid HI5.out.row
    have HN5 := H.out.ne
    go_wp2_with (at_builtin; refine wpList_append_own_at _ rfl (.tmp 16) (.tmp 25) 28 rfl bl 33 i0 _ 10 128 Try.underlying28 hi hz0 hz1 hz2 rfl (by decide) v vis.length (cellsI vis avs) rfl HR5.out ⟨w3.heap.size, 0, none⟩ 1 1 (itemCell ⟨.mk k n tx al ks, par, dep, pl⟩ (.slice A' al.length ac')) rfl rfl HNEWS.out HONE.out (by unfold maxLen; omega) (by omega) HBLW.out ?_)
    intro v' w6 g1 g2 _ g3
    obtain ⟨ao, nn, cap, rfl⟩ : ∃ ao nn cap, v' = .slice ao nn cap := by
      rcases g1.2 with ⟨hv, _⟩ | ⟨g, cap, cur, hv, _⟩
      · exact ⟨_, _, _, hv⟩
      · exact ⟨_, _, _, hv⟩
    generalize hv' : Value.slice ao nn cap = v' at g1 g3 ⊢
    have hbk6 : w6.heap[bl]? = some (.cells #[v] 28 (0, 0)) := (g2.block bl (by rw [H5.out]; omega) (fun e => HN5 e.symm)).trans HI5.out.blk
    have q0 : w6.cell? ⟨bl, 0, none⟩ = some v := by rw [block_cell hbk6]; rfl
    have qz : w6.frozen? ⟨bl, 0, none⟩ = false := Lib.frozen_of_heap hbk6 0
    have Q1 := Lib.hid g1
    have Q2 := Lib.hid g2
    have Q3 := Lib.hid g3
    have QB := Lib.hid hbk6
    clear g1 g2 g3 hbk6 d0 d1 d2 d3 n0 n1 n2 n3 n4 fz b0 bz
    subst hv'
    go_wp2_with fail
    go_ret
    generalize hv' : Value.slice ao nn cap = v' at Q1 Q3 ⊢
    have hs6 := Q2.out.size
    rw [H5.out] at hs6
    have hset : (w6.setCell ⟨bl, 0, none⟩ v').heap[bl]? = some (.cells #[v'] 28 (0, 0)) := by
      simp only [World.setCell, Array.getElem?_modify, ↓reduceIte, QB.out, Option.map_some]
      rfl
    have hne' : v'.ownBlock ≠ some bl := by
      rcases Q3.out with e | e
      · rw [e]; exact HN5
      · rw [e]; intro e2; injection e2 with e2; omega
    have hvb : ∀ g, v.ownBlock = some g → g < w.heap.size := fun g hg => H.out.lt g (.inr (.inl hg))
    have hav : ∀ g, (Value.slice A' al.length ac').ownBlock = some g → w2.heap.size ≤ g ∧ g < w3.heap.size := G3.out
    have hnotrow : ∀ g, g < w3.heap.size → v.ownBlock ≠ some g → v'.ownBlock ≠ some g := fun g hg h2 => by
      rcases Q3.out with e | e
      · rw [e]; exact h2
      · rw [e]; intro e2; injection e2 with e2; omega
    have keep7 : ∀ g, g < w3.heap.size → g ≠ bl → g ≠ w.heap.size + 1 → v.ownBlock ≠ some g → (w6.setCell ⟨bl, 0, none⟩ v').heap[g]? = w3.heap[g]? := fun g h1 h2 h3 h4 =>
      (Below.heap_setCell w6 _ _ g h2).trans ((Q2.out.block g (by rw [H5.out]; omega) (fun e => h4 e.symm)).trans ((Below.heap_alloc _ _ g (by simpa using h1)).trans (Below.heap_setCell w3 _ _ g h3)))
    refine ⟨(v', avs ++ [.slice A' al.length ac']), rfl, ⟨hset, ?_, ?_, hne', ?_, ?_⟩, ?_, ?_⟩
    · show (w6.setCell ⟨bl, 0, none⟩ v').ownsRow bl 33 10 v' (vis ++ [_]).length (cellsI (vis ++ [_]) (avs ++ [_]))
      rw [cellsI_snoc _ _ H.out.len, List.length_append]
      exact row_keep Q1.out fun g hg => Below.heap_setCell w6 _ _ g (fun e => hne' (by rw [hg, e]))
    · show (avs ++ [_]).length = (vis ++ [_]).length
      rw [List.length_append, List.length_append, show avs.length = vis.length from H.out.len]; rfl
    · intro i y av hy ha
      have hl := H.out.len
      dsimp only at hl ha
      rcases Nat.lt_or_ge i vis.length with hi' | hi'
      · rw [List.getElem?_append_left hi'] at hy
        rw [List.getElem?_append_left (by omega)] at ha
        have hm := List.mem_of_getElem? ha
        refine (I3.out.attrs i y av hy ha).keep (fun g hg => ?_) (by simp; omega)
        obtain ⟨h1, h2, h3⟩ := H.out.high av hm g hg
        exact keep7 g (by omega) (by omega) (by omega) h3
      · rw [List.getElem?_append_right hi'] at hy
        rw [List.getElem?_append_right (by omega), hl] at ha
        have hi0 : i - vis.length = 0 := by
          have := (List.getElem?_eq_some_iff.1 hy).1
          simp at this; omega
        rw [hi0] at hy ha
        simp at hy ha
        subst hy ha
        refine AttrV.keep (w := w3) ⟨A', ac', rfl, G1.out⟩ (fun g hg => ?_) (by simp; omega)
        obtain ⟨h1, h2⟩ := hav g hg
        exact keep7 g h2 (by omega) (by omega) (fun e => by have := hvb g e; omega)
    · intro av hm g hg
      rcases List.mem_append.1 hm with hm | hm
      · obtain ⟨h1, h2, h3⟩ := H.out.high av hm g hg
        exact ⟨h1, by simp; omega, hnotrow g (by omega) h3⟩
      · simp only [List.mem_singleton] at hm
        subst hm
        obtain ⟨h1, h2⟩ := hav g hg
        exact ⟨by omega, by simp; omega, hnotrow g h2 (fun e => by have := hvb g e; omega)⟩
    · exact ((((Fr.of_below F4.out).setCell (p := ⟨w.heap.size + 1, 0 + 3, none⟩) (.inl (by show w.heap.size ≤ w.heap.size + 1; omega)) _).alloc (by simp; omega) _).grown Q2.out (by rw [H5.out]; omega) fun k hk => .inr (.inr (.inl hk))).setCell (.inr (.inl rfl)) _
    · rintro k (rfl | hk | ⟨av, hm, hk⟩)
      · exact .inl (.inl rfl)
      · rcases Q3.out with e | e
        · exact .inl (.inr (.inl (e.symm.trans hk)))
        · have hk2 : v'.ownBlock = some k := hk
          rw [e] at hk2; injection hk2 with hk2; right; omega
      · rcases List.mem_append.1 hm with hm | hm
        · exact .inl (.inr (.inr ⟨av, hm, hk⟩))
        · simp only [List.mem_singleton] at hm
          subst hm
          have := hav k hk
          right; omega
end Go.Proofs.Ytcacgbdnegmfnaa.Tr
