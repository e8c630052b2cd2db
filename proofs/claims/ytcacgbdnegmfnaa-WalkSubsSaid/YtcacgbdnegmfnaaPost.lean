/- walk.Post. -/
import Derived.Test.YtcacgbdnegmfnaaPostP
namespace Go.Proofs.Ytcacgbdnegmfnaa.Tr
open Go Go.RowKit
set_option linter.unusedVariables false

theorem int_info : (Try.prog.info? 3).map (fun i => (i.zero, i.size, i.bytes)) = some (some (.int .i64 0), 1, 8) := by kernel_rfl
def cellsN (l : List Nat) : List Value := l.map fun (i : Nat) => .int .i64 (i : Int)
theorem cellsN_append (a b : List Nat) : cellsN (a ++ b) = cellsN a ++ cellsN b := List.map_append
theorem cellsN_snoc (a : List Nat) (x : Nat) : cellsN (a ++ [x]) = cellsN a ++ [.int .i64 (x : Int)] := List.map_append
theorem cellsN_length (l : List Nat) : (cellsN l).length = l.length := List.length_map _
theorem cellsN_at {l : List Nat} {i x : Nat} (h : l[i]? = some x) : (cellsN l)[i]? = some (.int .i64 (x : Int)) := by unfold cellsN; rw [List.getElem?_map, h]; rfl
/-- The stack, its uppermost one last. -/
def openC (fs : List Frm) : List Value := cellsN (fs.reverse.map (·.1))
theorem openC_cons (f : Frm) (fs : List Frm) : openC (f :: fs) = openC fs ++ [.int .i64 (f.1 : Int)] := by
  unfold openC; rw [List.reverse_cons, List.map_append]; exact cellsN_append _ _
theorem openC_length (fs : List Frm) : (openC fs).length = fs.length := by unfold openC; rw [cellsN_length, List.length_map, List.length_reverse]

/-- What holds at Post's heads: the rows, the nodes. -/
structure PRel (t : Nd) (w1 : World) (g : Nat) (vl vo : Value) (l : List Nat) (fs : List Frm) (wr : World) : Prop where
  rowl : wr.ownsRow w1.heap.size 3 1 vl l.length (cellsN l)
  rowo : wr.ownsRow w1.heap.size 3 1 vo fs.length (openC fs)
  ne : ∀ k, vl.ownBlock = some k → vo.ownBlock ≠ some k
  items : IRow g (allP t) (finOf (allP t)) w1
  bel : Below w1.heap.size w1 wr
section
variable {t : Nd} {w1 : World} {g : Nat} {vl vo : Value} {l : List Nat} {fs : List Frm} {wr : World}
theorem PRel.itemAt (h : PRel t w1 g vl vo l fs wr) {o : Nat} (ho : o < cntT t) : wr.cell? ⟨g, o * 10 + 1, none⟩ = some (.int .i64 ((finOf (allP t) o).1 : Nat)) := by
  obtain ⟨x, hx⟩ : ∃ x, (allP t)[o]? = some x := ⟨_, List.getElem?_eq_getElem (by rw [allP_length]; omega)⟩
  obtain ⟨av, _, _, _, d1, _⟩ := h.items.at_ o x hx
  obtain ⟨cur, hc⟩ := h.items.blk
  exact (h.bel.cell (lt_of_block hc)).trans d1
theorem row_mono {B0 B1 e z n : Nat} {v : Value} {xs : List Value} (h : wr.ownsRow B1 e z v n xs) (hB : B0 ≤ B1) : wr.ownsRow B0 e z v n xs := by
  refine ⟨h.1, h.2.imp id ?_⟩
  rintro ⟨g, cap, cur, h1, h2, h3⟩
  exact ⟨g, cap, cur, h1, Nat.le_trans hB h2, h3⟩
theorem openC_map {fs fs' : List Frm} (h : fs'.map (·.1) = fs.map (·.1)) : openC fs' = openC fs := by unfold openC; rw [List.map_reverse, List.map_reverse, h]
theorem PRel.frames (h : PRel t w1 g vl vo l fs wr) {fs' : List Frm} (he : fs'.map (·.1) = fs.map (·.1)) : PRel t w1 g vl vo l fs' wr := by
  have hl : fs'.length = fs.length := by have := congrArg List.length he; simpa using this
  exact ⟨h.rowl, by rw [hl, openC_map he]; exact h.rowo, h.ne, h.items, h.bel⟩
theorem row_last {B0 e g cap : Nat} {n : Nat} {xs : List Value} {u : Value} (h : wr.ownsRow B0 e 1 (.slice (some ⟨g, 0, none⟩) (n + 1 : Nat) cap) (n + 1) (xs ++ [u])) : wr.cell? ⟨g, n, none⟩ = some u := by
  have hc := h.cells (g := g) rfl
  have hl := h.1
  rw [List.length_append] at hl
  simp at hl
  have := hc n u (by rw [List.getElem?_append_right (by omega), hl, Nat.sub_self]; rfl)
  rwa [add_flat, Nat.zero_add] at this
/-- The uppermost one gone. -/
theorem PRel.pop {f : Frm} {gg cap : Nat} (h : PRel t w1 g vl (.slice (some ⟨gg, 0, none⟩) (fs.length + 1 : Nat) cap) l (f :: fs) wr) : PRel t w1 g vl (.slice (some ⟨gg, 0, none⟩) (fs.length : Nat) cap) l fs wr := by
  refine ⟨h.rowl, ?_, h.ne, h.items, h.bel⟩
  have := h.rowo
  rw [openC_cons] at this
  exact row_less (m := 1) this (by rw [openC_length, Nat.mul_one])
/-- A number behind the list's; a one-element row was made ahead. -/
theorem PRel.addL {o : Obj} {x : Nat} {v' : Value} {w2 : World} (h : PRel t w1 g vl vo l fs wr) (hown : w2.ownsRow w1.heap.size 3 1 v' (l.length + 1) (cellsN l ++ [.int .i64 (x : Int)])) (hg : (wr.alloc o).grownBy w2 vl.ownBlock)
    (hv : v'.ownBlock = vl.ownBlock ∨ v'.ownBlock = some (wr.heap.size + 1)) : PRel t w1 g v' vo (l ++ [x]) fs w2 := by
  have hsz : (wr.alloc o).heap.size = wr.heap.size + 1 := by simp
  have hs0 := h.bel.size
  have hvo := h.rowo.lt
  refine ⟨by rw [List.length_append, cellsN_snoc]; exact hown, row_keep h.rowo fun k hk => ?_, fun k hk hk2 => ?_, h.items, (h.bel.alloc hs0 o).grown hg (by omega) fun k hk => (h.rowl.lt k hk).1⟩
  · exact (hg.block k (by have := (hvo k hk).2; omega) (fun e => h.ne k e.symm hk)).trans (Below.heap_alloc wr o k (hvo k hk).2)
  · rcases hv with e | e
    · exact h.ne k (e ▸ hk) hk2
    · rw [e] at hk; injection hk with hk; have := (hvo k hk2).2; omega
theorem PRel.addO {o : Obj} {f : Frm} {v' : Value} {w2 : World} (h : PRel t w1 g vl vo l fs wr) (hown : w2.ownsRow w1.heap.size 3 1 v' (fs.length + 1) (openC fs ++ [.int .i64 (f.1 : Int)])) (hg : (wr.alloc o).grownBy w2 vo.ownBlock)
    (hv : v'.ownBlock = vo.ownBlock ∨ v'.ownBlock = some (wr.heap.size + 1)) : PRel t w1 g vl v' l (f :: fs) w2 := by
  have hsz : (wr.alloc o).heap.size = wr.heap.size + 1 := by simp
  have hs0 := h.bel.size
  have hvo := h.rowl.lt
  refine ⟨row_keep h.rowl fun k hk => ?_, by rw [openC_cons]; exact hown, fun k hk hk2 => ?_, h.items, (h.bel.alloc hs0 o).grown hg (by omega) fun k hk => (h.rowo.lt k hk).1⟩
  · exact (hg.block k (by have := (hvo k hk).2; omega) (fun e => h.ne k hk e.symm)).trans (Below.heap_alloc wr o k (hvo k hk).2)
  · rcases hv with e | e
    · exact h.ne k hk (e ▸ hk2)
    · rw [e] at hk2; injection hk2 with hk2; have := (hvo k hk).2; omega
end
def PostEnd (t : Nd) (w : World) (e : Ending) (w' : World) : Prop :=
  ∃ v, e = .returned v ∧ w'.ownsRow w.heap.size 3 1 v (cntT t) (cellsN (postT 0 t)) ∧ Below w.heap.size w w'
set_option maxHeartbeats 4000000 in
set_option maxRecDepth 100000 in
theorem post_calls (t : Nd) (v0 v1 v2 v3 v4 : Value) (w : World) (h : IsTree w w.heap.size t v0 v1 v2 v3 v4) (hN : cntT t ≤ 1000000) (ht : attT t) :
    Calls Try.prog 17 #[.agg #[v0, v1, v2, v3, v4]] w (PostEnd t w) := by
  have HT : Hid (IsTree (w.alloc (.cells #[v0, v1, v2, v3, v4] 25)) (w.alloc (.cells #[v0, v1, v2, v3, v4] 25)).heap.size t v0 v1 v2 v3 v4) := Lib.hid (h.keep (fun p hp => World.cell?_of_block (Below.heap_alloc w _ p.block hp)) (by simp))
  have HB0 : Hid (Below w.heap.size w (w.alloc (.cells #[v0, v1, v2, v3, v4] 25))) := Lib.hid ((Below.refl _ w).alloc (Nat.le_refl _) _)
  have HW0 : Hid (w.heap.size ≤ (w.alloc (.cells #[v0, v1, v2, v3, v4] 25)).heap.size) := Lib.hid (by simp)
  clear h
  go_enter Try.func17, Try.ntmps17
  go_wp2_with fail
  refine (flat_calls t v0 v1 v2 v3 v4 _ HT.out hN ht).mono ?_
  rintro e w1 ⟨g, cap, rfl, hc1, hc2, hg, hrow, hbel⟩
  have HB : Hid (Below w.heap.size w w1) := Lib.hid (HB0.out.trans (hbel.mono HW0.out))
  have HR : Hid (PRel t w1 g (.slice none 0 0) (.slice none 0 0) [] [] w1) := Lib.hid ⟨⟨rfl, .inl ⟨rfl, rfl⟩⟩, ⟨rfl, .inl ⟨rfl, rfl⟩⟩, fun k hk => by simp [Value.ownBlock] at hk, hrow, Below.refl _ _⟩
  clear hrow hbel hg HT HB0 HW0
  have hwn : IntKind.i64.wrap ((cntT t : Int) + 1) = (cntT t : Int) + 1 := IntWalk.i64_in _ (by omega)
  go_wp2_with fail
  go_loopw [4, 5, 13] (fun vl vo i wr => ∃ (id : Nat) (l : List Nat), i = .int .i64 (id : Int) ∧ ((∃ fs ts0, PInv t id l fs ts0 ∧ PRel t w1 g vl vo l fs wr) ∨ (id = cntT t + 1 ∧ l = postT 0 t ∧ ∃ fs, PRel t w1 g vl vo l fs wr))) (fun _ _ i _ => (cntT t + 2 - (intOf i).toNat))
  case atStart => exact ⟨0, [], rfl, .inl ⟨[], [t], pinv_start t, HR.out⟩⟩
  case round =>
    obtain ⟨id, l, rfl, hrel⟩ := hrel
    rcases hrel with ⟨fs, ts0, hI, hR⟩ | ⟨rfl, rfl, fs, hR⟩
    · have hle := hI.le
      have HI := Lib.hid hI
      have HR2 := Lib.hid hR
      clear hI hR
      have hlt : (id : Int) < (cntT t : Int) + 1 := by omega
      go_wp2_with fail
      clear HR
      go_loopw [4, 5] (fun vl vo wr => ∃ (l : List Nat) (fs : List Frm), PInv t id l fs ts0 ∧ PRel t w1 g vl vo l fs wr) (fun _ vo _ => (match vo with | .slice _ n _ => n | _ => 0))
      case atStart => exact ⟨l, fs, HI.out, HR2.out⟩
      case round =>
        clear HI HR2
        obtain ⟨l, fs, hI, hR⟩ := hrel
        cases fs with
        | nil =>
          obtain ⟨ao, cpo, rfl, hcpo, _⟩ := row_slice hR.rowo
          have HI := Lib.hid hI
          have HR2 := Lib.hid hR
          clear hI hR
          simp only [List.length_nil] at HR2
          have HP : Hid _ := Lib.hid (HI.out.next trivial)
          have hlens := HI.out.lens
          have hfl : ([] : List Frm).length ≤ 1000000 := by omega
          clear hlens
          obtain ⟨i0, ii, hz0, hz1, hz2⟩ := info_parts int_info
          have HROW : Hid ((wr.alloc (.cells #[.int .i64 (id : Int)] 3)).ownsRow w1.heap.size 3 1 (.slice ao 0 cpo) ([] : List Frm).length (openC ([] : List Frm))) := Lib.hid (HR2.out.rowo.alloc _)
          have HNEWS : Hid (∀ (j : Nat) u, [Value.int .i64 (id : Int)][j]? = some u → (wr.alloc (.cells #[.int .i64 (id : Int)] 3)).cell? ((⟨wr.heap.size, 0, none⟩ : Addr).add j) = some u) := Lib.hid fun j u hj => by
            rw [add_flat, Nat.zero_add, block_cell (alloc_new wr _)]; rw [← List.getElem?_toArray] at hj; exact hj
          have HONE : Hid (∀ u ∈ [Value.int .i64 (id : Int)], u.oneCell' = true) := Lib.hid (by simp [Value.oneCell'])
          have HBS : Hid (w1.heap.size ≤ (wr.alloc (.cells #[.int .i64 (id : Int)] 3)).heap.size) := Lib.hid (by have := HR2.out.bel.size; simp; omega)
          go_wp2_with (at_builtin; refine wpList_append_own_at _ rfl (.tmp 43) (.tmp 45) 30 rfl w1.heap.size 3 i0 _ 1 8 Try.underlying30 ii hz0 hz1 hz2 rfl (by decide) (.slice ao 0 cpo) ([] : List Frm).length (openC ([] : List Frm)) rfl HROW.out ⟨wr.heap.size, 0, none⟩ 1 1 [.int .i64 (id : Int)] rfl rfl HNEWS.out HONE.out (by unfold maxLen; omega) (by omega) HBS.out ?_)
          intro v' w2 h1 h2 h3 h4
          clear h3
          obtain ⟨ao', nn', cap', rfl⟩ : ∃ ao nn cap, v' = .slice ao nn cap := by
            rcases h1.2 with ⟨hv, _⟩ | ⟨g, cap, cur, hv, _⟩
            · exact ⟨_, _, _, hv⟩
            · exact ⟨_, _, _, hv⟩
          have HN2 : Hid (PRel t w1 g u4 (.slice ao' nn' cap') l ((id, []) :: ([] : List Frm)) w2) := Lib.hid (HR2.out.addO (f := (id, [])) h1 h2 h4)
          clear h1 h2 h4
          go_wp2_with fail
          go_roundw
          case rel =>
            rcases HP.out with ⟨ts, fs', ts0', he, hp⟩ | ⟨he1, he2⟩
            · exact ⟨id + 1, l, by go_num, .inl ⟨_, _, hp, HN2.out.frames (by rw [List.map_cons, List.map_cons, he])⟩⟩
            · exact ⟨id + 1, l, by go_num, .inr ⟨by omega, he2, _, HN2.out⟩⟩
          case measure => simp [intOf]; omega
        | cons f fs =>
          obtain ⟨o, ts⟩ := f
          obtain ⟨gg, cpo, rfl, hcpo, hcpm, _, _⟩ := row_top hR.rowo
          obtain ⟨x, hx, hol, hoe⟩ := hI.top
          have hlen := hI.lens
          have c0 : wr.cell? ⟨gg, fs.length, none⟩ = some (.int .i64 (o : Int)) := row_last (by have := hR.rowo; rw [openC_cons] at this; exact this)
          have c1 := hR.itemAt hol
          generalize (finOf (allP t) o).1 = q at hoe c1
          have hwq : IntKind.i64.wrap ((o : Int) + (q : Int)) = (o : Int) + (q : Int) := IntWalk.i64_in _ (by have := restN_ge fs (id + cntL ts) ts0; have h4 := hI.num; unfold restN at h4; dsimp only at h4; omega)
          have hoi : (o : Int) < (cntT t : Int) := by omega
          have hl1 : l.length ≤ 1000000 := by omega
          rw [List.length_cons] at hlen
          have hl2 : fs.length ≤ 1000000 := by omega
          have hwl : IntKind.i64.wrap (((fs.length : Int) + 1) - 1) = (fs.length : Int) := by rw [show ((fs.length : Int) + 1) - 1 = fs.length by omega]; exact IntWalk.i64_in _ (by omega)
          cases ts with
          | nil =>
            have hcmp : (o : Int) + (q : Int) ≤ (id : Int) := by unfold cntL at hoe; omega
            have HI := Lib.hid hI
            have HR2 := Lib.hid hR
            clear hI hR hlen hoe
            obtain ⟨i0, ii, hz0, hz1, hz2⟩ := info_parts int_info
            have HROW : Hid ((wr.alloc (.cells #[.int .i64 (o : Int)] 3)).ownsRow w1.heap.size 3 1 u4 l.length (cellsN l)) := Lib.hid (HR2.out.rowl.alloc _)
            have HNEWS : Hid (∀ (j : Nat) u, [Value.int .i64 (o : Int)][j]? = some u → (wr.alloc (.cells #[.int .i64 (o : Int)] 3)).cell? ((⟨wr.heap.size, 0, none⟩ : Addr).add j) = some u) := Lib.hid fun j u hj => by
              rw [add_flat, Nat.zero_add, block_cell (alloc_new wr _)]; rw [← List.getElem?_toArray] at hj; exact hj
            have HONE : Hid (∀ u ∈ [Value.int .i64 (o : Int)], u.oneCell' = true) := Lib.hid (by simp [Value.oneCell'])
            have HBS : Hid (w1.heap.size ≤ (wr.alloc (.cells #[.int .i64 (o : Int)] 3)).heap.size) := Lib.hid (by have := HR2.out.bel.size; simp; omega)
            go_wp2_with (at_builtin; refine wpList_append_own_at _ rfl (.tmp 34) (.tmp 36) 30 rfl w1.heap.size 3 i0 _ 1 8 Try.underlying30 ii hz0 hz1 hz2 rfl (by decide) u4 l.length (cellsN l) rfl HROW.out ⟨wr.heap.size, 0, none⟩ 1 1 [.int .i64 (o : Int)] rfl rfl HNEWS.out HONE.out (by unfold maxLen; omega) (by omega) HBS.out ?_)
            intro v' w2 h1 h2 h3 h4
            clear h3
            have HN2 : Hid (PRel t w1 g v' _ (l ++ [o]) ((o, []) :: fs) w2) := Lib.hid (HR2.out.addL h1 h2 h4)
            clear h1 h2 h4
            go_wp2_with fail
            go_roundw
            case rel => exact ⟨l ++ [o], fs, HI.out.close, HN2.out.pop⟩
            case measure => exact Nat.lt_succ_self _
          | cons u us =>
            have hcmp : (id : Int) < (o : Int) + (q : Int) := by unfold cntL at hoe; have := cntT_pos u; omega
            have HI := Lib.hid hI
            have HR2 := Lib.hid hR
            clear hI hR hlen hoe
            have HP : Hid _ := Lib.hid (HI.out.next (by unfold Stuck; simp))
            have hlens := HI.out.lens
            have hfl : ((o, u :: us) :: fs).length ≤ 1000000 := by omega
            clear hlens
            obtain ⟨i0, ii, hz0, hz1, hz2⟩ := info_parts int_info
            have HROW : Hid ((wr.alloc (.cells #[.int .i64 (id : Int)] 3)).ownsRow w1.heap.size 3 1 (.slice (some ⟨gg, 0, none⟩) (fs.length + 1 : Nat) cpo) ((o, u :: us) :: fs).length (openC ((o, u :: us) :: fs))) := Lib.hid (HR2.out.rowo.alloc _)
            have HNEWS : Hid (∀ (j : Nat) u, [Value.int .i64 (id : Int)][j]? = some u → (wr.alloc (.cells #[.int .i64 (id : Int)] 3)).cell? ((⟨wr.heap.size, 0, none⟩ : Addr).add j) = some u) := Lib.hid fun j u hj => by
              rw [add_flat, Nat.zero_add, block_cell (alloc_new wr _)]; rw [← List.getElem?_toArray] at hj; exact hj
            have HONE : Hid (∀ u ∈ [Value.int .i64 (id : Int)], u.oneCell' = true) := Lib.hid (by simp [Value.oneCell'])
            have HBS : Hid (w1.heap.size ≤ (wr.alloc (.cells #[.int .i64 (id : Int)] 3)).heap.size) := Lib.hid (by have := HR2.out.bel.size; simp; omega)
            go_wp2_with (at_builtin; refine wpList_append_own_at _ rfl (.tmp 43) (.tmp 45) 30 rfl w1.heap.size 3 i0 _ 1 8 Try.underlying30 ii hz0 hz1 hz2 rfl (by decide) (.slice (some ⟨gg, 0, none⟩) (fs.length + 1 : Nat) cpo) ((o, u :: us) :: fs).length (openC ((o, u :: us) :: fs)) rfl HROW.out ⟨wr.heap.size, 0, none⟩ 1 1 [.int .i64 (id : Int)] rfl rfl HNEWS.out HONE.out (by unfold maxLen; omega) (by omega) HBS.out ?_)
            intro v' w2 h1 h2 h3 h4
            clear h3
            obtain ⟨ao', nn', cap', rfl⟩ : ∃ ao nn cap, v' = .slice ao nn cap := by
              rcases h1.2 with ⟨hv, _⟩ | ⟨g, cap, cur, hv, _⟩
              · exact ⟨_, _, _, hv⟩
              · exact ⟨_, _, _, hv⟩
            have HN2 : Hid (PRel t w1 g u4 (.slice ao' nn' cap') l ((id, []) :: ((o, u :: us) :: fs)) w2) := Lib.hid (HR2.out.addO (f := (id, [])) h1 h2 h4)
            clear h1 h2 h4
            go_wp2_with fail
            go_roundw
            case rel =>
              rcases HP.out with ⟨ts, fs', ts0', he, hp⟩ | ⟨he1, he2⟩
              · exact ⟨id + 1, l, by go_num, .inl ⟨_, _, hp, HN2.out.frames (by rw [List.map_cons, List.map_cons, he])⟩⟩
              · exact ⟨id + 1, l, by go_num, .inr ⟨by omega, he2, _, HN2.out⟩⟩
            case measure => simp [intOf]; omega
    · have HR2 := Lib.hid hR
      clear hR
      go_wp2_with fail
      go_ret
      refine ⟨u4, rfl, ?_, HB.out.trans (HR2.out.bel.mono HB.out.size)⟩
      have := HR2.out.rowl
      rw [postT_length] at this
      exact row_mono this HB.out.size
end Go.Proofs.Ytcacgbdnegmfnaa.Tr
