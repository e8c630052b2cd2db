/- A tree in new memory. -/
import Derived.Test.YtbjcahhijfommaaGreatDoorCopyAS
import Derived.Test.YtbjcahhijfommaaGreatDoorInS
import Derived.Test.YtbjcahhijfommaaGreatDoorKr
import Derived.Maps.RangeWalk
namespace Go.Proofs.YtbjcahhijfommaaGreatDoor.Tr
open Go Go.RowKit
set_option linter.unusedVariables false
theorem isAttrs_in {w : World} {B : Nat} {al : List (ByteArray × ByteArray)} {A : Option Addr} {ac : Nat} (h : IsAttrs w B al A ac) {S : Nat → Prop} (hS : ∀ b off, A = some ⟨b, off, none⟩ → S b) : AttrsIn w S al A ac := by
  obtain ⟨h1, h2, h3, h4⟩ := h
  refine ⟨h1, h2, h3, fun hn => ?_⟩
  obtain ⟨b, off, e, _, hc⟩ := h4 hn
  exact ⟨b, off, e, hS b off e, hc⟩
theorem AttrCp.mono {B B' : Nat} {al : List (ByteArray × ByteArray)} {v : Value} {W : World} (h : AttrCp B al v W) (hB : B' ≤ B) : AttrCp B' al v W := by
  obtain ⟨A, ac, e, h1, h2⟩ := h
  refine ⟨A, ac, e, h1, h2.imp id fun ⟨g, cur, e1, e2, e3⟩ => ⟨g, cur, e1, by omega, e3⟩⟩
/-- A copy of attributes, in a later world: where it lies, and that it is not a given block of trees. -/
theorem attr_later {B b : Nat} {al : List (ByteArray × ByteArray)} {A : Option Addr} {ac : Nat} {w : World} {cs : Array Value} (h : Kr.clo (AttrCp B al) (.slice A al.length ac) w) (hb : w.heap[b]? = some (.cells cs 25 (0, 0))) :
    AttrsIn w (fun c => B ≤ c ∧ c < w.heap.size ∧ c ≠ b) al A ac := by
  obtain ⟨W0, ⟨A', ac', e, h1, h2⟩, hbel⟩ := h
  injection e with e1 e2 e3
  subst e1 e3
  have h3 := h1.keep (fun p hp => hbel.cell hp) hbel.size
  refine isAttrs_in h3 fun c off hc => ?_
  rcases h2 with ⟨hn, _⟩ | ⟨g, cur, hg, hle, hcur⟩
  · rw [hn] at hc; cases hc
  · rw [hg] at hc
    injection hc with hc
    injection hc with hc _ _
    subst hc
    have hlt := lt_of_block hcur
    have h4 := (hbel.block _ hlt).trans hcur
    refine ⟨hle, by have := hbel.size; omega, fun he => ?_⟩
    subst he
    rw [h4] at hb
    injection hb with hb
    injection hb with _ hb _
    cases hb
/-- A copy of u, in new blocks; and as the one element of a new array. -/
def SpTree (B : Nat) (u : Nd) (v : Value) (W : World) : Prop := ∃ x0 x1 x2 x3 x4, v = .agg #[x0, x1, x2, x3, x4] ∧ TreeIn W (fun c => B ≤ c ∧ c < W.heap.size) u x0 x1 x2 x3 x4
def SpRow (B : Nat) (u : Nd) (v : Value) (W : World) : Prop := ∃ g x0 x1 x2 x3 x4, v = .slice (some ⟨g, 0, none⟩) 1 1 ∧ W.heap[g]? = some (.cells #[x0, x1, x2, x3, x4] 25 (0, 0)) ∧ TreeIn W (fun c => B ≤ c ∧ c < W.heap.size) u x0 x1 x2 x3 x4
def TreeEnd (t : Nd) (w : World) (e : Ending) (w' : World) : Prop := ∃ x0 x1 x2 x3 x4, e = .returned (.agg #[x0, x1, x2, x3, x4]) ∧ TreeIn w' (fun b => w.heap.size ≤ b ∧ b < w'.heap.size) t x0 x1 x2 x3 x4 ∧ Below w.heap.size w w'
theorem tree_info : (Tryz.prog.info? 25).map (fun i => (i.zero, i.size, i.bytes)) = some (some (.agg #[.int .i64 0, .string ByteArray.empty, .string ByteArray.empty, .slice none 0 0, .slice none 0 0]), 5, 88) := by kernel_rfl
theorem treeIn_one {w : World} {S : Nat → Prop} {t : Nd} {v0 v1 v2 v3 v4 : Value} (h : TreeIn w S t v0 v1 v2 v3 v4) : ∀ u ∈ [v0, v1, v2, v3, v4], u.oneCell' = true := by
  cases t
  unfold TreeIn at h
  obtain ⟨rfl, rfl, rfl, _, _, _, A, ac, K, kc, rfl, rfl, _⟩ := h
  simp [Value.oneCell']
theorem mixed2 : Tryz.prog.follows .mixedOrders = true := by kernel_rfl
theorem upMany_value {P : Program} {S : Kr.Spec} {W W' : World} {v : Value} (h : S v W') (hb : Below W.heap.size W W') : Kr.upMany P S W (.ok (.value v) W') := ⟨h, hb⟩
theorem attL_mem : ∀ {ks : List Nd} {j : Nat} {u : Nd}, ks[j]? = some u → attL ks → attT u
  | [], j, u, h, _ => by simp at h
  | t :: ts, 0, u, h, ha => by simp at h; subst h; unfold attL at ha; exact ha.1
  | t :: ts, j + 1, u, h, ha => by unfold attL at ha; exact attL_mem (by simpa using h) ha.2
/-- The blocks that a copy so far may lie in. -/
def CpS (B : Nat) (wr : World) (b : Nat) (kv : Value) (c : Nat) : Prop := B ≤ c ∧ c < wr.heap.size ∧ c ≠ b ∧ kv.ownBlock ≠ some c
structure CpRel (ks : List Nd) (al : List (ByteArray × ByteArray)) (c0 c1 c2 : Value) (A : Option Addr) (ac B b j : Nat) (kv : Value) (xs : List Value) (w1 wr : World) : Prop where
  blk : wr.heap[b]? = some (.cells #[c0, c1, c2, .slice A al.length ac, kv] 25 (0, 0))
  row : wr.ownsRow B 25 5 kv j xs
  ne : kv.ownBlock ≠ some b
  kids : KidRow wr (CpS B wr b kv) (ks.take j) xs
  attrs : AttrsIn wr (CpS B wr b kv) al A ac
  bB : B ≤ b
  BW : B = w1.heap.size
  bel : Below w1.heap.size w1 wr
theorem row_of_heap {w w' : World} {base : Nat} {e : TypeId} {size : Nat} {v : Value} {n : Nat} {xs : List Value} (h : w.ownsRow base e size v n xs) (hk : ∀ g, v.ownBlock = some g → w'.heap[g]? = w.heap[g]?) : w'.ownsRow base e size v n xs := by
  refine ⟨h.1, ?_⟩
  rcases h.2 with h1 | ⟨g, cap, cur, h1, h5, h6, h7⟩
  · exact .inl h1
  · exact .inr ⟨g, cap, cur, h1, h5, (hk g (by rw [h1]; rfl)).trans h6, h7⟩
theorem row_form {w : World} {base size n : Nat} {e : TypeId} {v : Value} {xs : List Value} (h : w.ownsRow base e size v n xs) (hn : 0 < n) : ∃ g cap, v = .slice (some ⟨g, 0, none⟩) n cap := by
  rcases h.2 with ⟨_, h2⟩ | ⟨g, cap, cur, h1, _⟩
  · omega
  · exact ⟨g, cap, h1⟩
theorem results_one {fn : Func} {p : Tmp} {ty : TypeId} (h : fn.results = #[.cell p ty]) (tmps : Array Value) (P : Program) (w : World) :
    (results fn tmps).run P w = ((asAddr (tmps.getD p undef)).run P w).andThen fun a w₁ => (loadVar ty a).run P w₁ := by
  simp only [results, h]
  simp [Sem.run_bind, Result.andThen]
theorem cell_of_heap {w w' : World} {c : Nat} (h : w'.heap[c]? = w.heap[c]?) (o : Nat) : w'.cell? ⟨c, o, none⟩ = w.cell? ⟨c, o, none⟩ := World.cell?_of_block h
theorem cp_step {ks : List Nd} {al : List (ByteArray × ByteArray)} {c0 c1 c2 : Value} {A : Option Addr} {ac B b j : Nat} {kv v' : Value} {xs : List Value} {w1 wr w3 w5 : World} {u : Nd} {x0 x1 x2 x3 x4 : Value}
    (h : CpRel ks al c0 c1 c2 A ac B b j kv xs w1 wr) (hb3 : Below wr.heap.size wr w3) (hu : ks[j]? = some u) (ht : TreeIn w3 (fun c => wr.heap.size ≤ c ∧ c < w3.heap.size) u x0 x1 x2 x3 x4)
    (hrow : w5.ownsRow B 25 5 v' (j + 1) (xs ++ [x0, x1, x2, x3, x4])) (hg : w3.grownBy w5 kv.ownBlock) (hat : v'.ownBlock = kv.ownBlock ∨ v'.ownBlock = some w3.heap.size) :
    CpRel ks al c0 c1 c2 A ac B b (j + 1) v' (xs ++ [x0, x1, x2, x3, x4]) w1 (w5.setCell ⟨b, 4, none⟩ v') := by
  have hbl := lt_of_block h.blk
  have hs3 := hb3.size
  have hs5 := hg.size
  have hkl : ∀ g, kv.ownBlock = some g → g < wr.heap.size := fun g hg => (h.row.lt g hg).2
  have hnb : v'.ownBlock ≠ some b := by
    rcases hat with e | e <;> rw [e]
    · exact h.ne
    · intro e; injection e with e; omega
  have old : ∀ c, c < wr.heap.size → c ≠ b → kv.ownBlock ≠ some c → (w5.setCell ⟨b, 4, none⟩ v').heap[c]? = wr.heap[c]? := fun c hc hcb hck =>
    (Below.heap_setCell _ _ _ c hcb).trans ((hg.block c (by omega) (fun e => hck e.symm)).trans (hb3.block c hc))
  have new : ∀ c, wr.heap.size ≤ c → c < w3.heap.size → (w5.setCell ⟨b, 4, none⟩ v').heap[c]? = w3.heap[c]? := fun c hc hc3 =>
    (Below.heap_setCell _ _ _ c (by show c ≠ b; omega)).trans (hg.block c hc3 (fun e => by have := hkl c e.symm; omega))
  have hsz : (w5.setCell ⟨b, 4, none⟩ v').heap.size = w5.heap.size := by simp
  have hvc : ∀ c, c < w3.heap.size → kv.ownBlock ≠ some c → v'.ownBlock ≠ some c := fun c hc hck => by
    rcases hat with e | e <;> rw [e]
    · exact hck
    · intro e; injection e with e; omega
  have hB : B ≤ wr.heap.size := by rw [h.BW]; exact h.bel.size
  have S1 : ∀ c, CpS B wr b kv c → CpS B (w5.setCell ⟨b, 4, none⟩ v') b v' c ∧ ∀ o, (w5.setCell ⟨b, 4, none⟩ v').cell? ⟨c, o, none⟩ = wr.cell? ⟨c, o, none⟩ := fun c ⟨h1, h2, h3, h4⟩ =>
    ⟨⟨h1, by omega, h3, hvc c (by omega) h4⟩, fun o => cell_of_heap (old c h2 h3 h4) o⟩
  refine ⟨?_, row_of_heap hrow fun g hg' => Below.heap_setCell _ _ _ g (fun e => hnb (by rw [hg', e])), hnb, (h.kids.keep S1).snoc (by rw [h.row.1]) hu (ht.keep fun c ⟨h1, h2⟩ => ⟨⟨by omega, by omega, by omega, hvc c h2 fun e => by have := hkl c e; omega⟩, fun o => cell_of_heap (new c h1 h2) o⟩), h.attrs.keep S1, h.bB, h.BW, ?_⟩
  · have h5 : w5.heap[b]? = some (.cells #[c0, c1, c2, .slice A al.length ac, kv] 25 (0, 0)) := (hg.block b (by omega) (fun e => h.ne e.symm)).trans ((hb3.block b hbl).trans h.blk)
    simp only [World.setCell, Array.getElem?_modify, ↓reduceIte, h5, Option.map_some]
    rfl
  · have h3 : Below w1.heap.size w1 w3 := h.bel.trans (hb3.mono h.bel.size)
    have h5 := h3.grown hg h3.size fun k hk => by rw [← h.BW]; exact (h.row.lt k hk).1
    exact h5.setCell (by show _ ≤ b; rw [← h.BW]; exact h.bB) _
set_option maxHeartbeats 8000000 in
set_option maxRecDepth 100000 in
theorem tree_calls (mm : Nat) (hmm : mm ≤ 1000000) : ∀ (t : Nd) (v0 v1 v2 v3 v4 : Value) (w : World), cntT t ≤ mm → attT t → IsTree w w.heap.size t v0 v1 v2 v3 v4 →
    Calls Tryz.prog 9 #[.agg #[v0, v1, v2, v3, v4]] w (TreeEnd t w) := by
  induction mm with
  | zero => intro t _ _ _ _ _ _ h; have := cntT_pos t; omega
  | succ mm IH =>
  intro t v0 v1 v2 v3 v4 w hm hatt ht
  match t with
  | .mk k n s al ks =>
  unfold IsTree at ht
  obtain ⟨rfl, rfl, rfl, wk, bn, bs, A, ac, K, kc, rfl, rfl, hat, p1, p2, hkk⟩ := ht
  unfold attT at hatt
  obtain ⟨hal, hatk⟩ := hatt
  have HATK := Lib.hid hatk
  have HBN := Lib.hid bn
  have HBS := Lib.hid bs
  have HWK := Lib.hid wk
  clear bn bs hatk wk
  unfold maxLen at p2
  have HK := Lib.hid hkk
  have HA := Lib.hid hat
  have HIH := Lib.hid (IH (by omega))
  have HM : Hid (cntL ks ≤ mm) := Lib.hid (by unfold cntT at hm; omega)
  clear hkk hat IH hm
  have HW := two_boxes w (.int .i64 k) (.string n) (.string s) (.slice A al.length ac) (.slice K ks.length kc) (.int .i64 0) (.string ⟨#[]⟩) (.string ⟨#[]⟩) (.slice none 0 0) (.slice none 0 0)
  have HRB : Hid (((w.alloc (.cells #[.int .i64 k, .string n, .string s, .slice A al.length ac, .slice K ks.length kc] 25)).alloc (.cells #[.int .i64 0, .string ⟨#[]⟩, .string ⟨#[]⟩, .slice none 0 0, .slice none 0 0] 25)).heap[w.heap.size + 1]? = some (.cells #[.int .i64 0, .string ⟨#[]⟩, .string ⟨#[]⟩, .slice none 0 0, .slice none 0 0] 25 (0, 0))) := Lib.hid (by
    have := alloc_new (w.alloc (.cells #[.int .i64 k, .string n, .string s, .slice A al.length ac, .slice K ks.length kc] 25)) (.cells #[.int .i64 0, .string ⟨#[]⟩, .string ⟨#[]⟩, .slice none 0 0, .slice none 0 0] 25)
    rwa [show (w.alloc (.cells #[.int .i64 k, .string n, .string s, .slice A al.length ac, .slice K ks.length kc] 25)).heap.size = w.heap.size + 1 by simp] at this)
  have HBX : Hid (((w.alloc (.cells #[.int .i64 k, .string n, .string s, .slice A al.length ac, .slice K ks.length kc] 25)).alloc (.cells #[.int .i64 0, .string ⟨#[]⟩, .string ⟨#[]⟩, .slice none 0 0, .slice none 0 0] 25)).heap[w.heap.size]? = some (.cells #[.int .i64 k, .string n, .string s, .slice A al.length ac, .slice K ks.length kc] 25 (0, 0))) := Lib.hid (alloc_old (alloc_new w _) _)
  go_enter Tryz.func9, Tryz.ntmps9
  go_wp2_with fail
  generalize (w.alloc (.cells #[.int .i64 k, .string n, .string s, .slice A al.length ac, .slice K ks.length kc] 25)).alloc (.cells #[.int .i64 0, .string ⟨#[]⟩, .string ⟨#[]⟩, .slice none 0 0, .slice none 0 0] 25) = w0 at HW HRB HBX ⊢
  have HB0 := Lib.hid HW.bel
  have hs0 := HW.size
  clear HW
  obtain ⟨w1, hw1⟩ : ∃ w1, w1 = w0.drew := ⟨_, rfl⟩
  have HB1 : Hid (Below w.heap.size w w1) := Lib.hid (hw1 ▸ HB0.out.drew)
  have HR1 : Hid (w1.heap[w.heap.size + 1]? = some (.cells #[.int .i64 0, .string ⟨#[]⟩, .string ⟨#[]⟩, .slice none 0 0, .slice none 0 0] 25 (0, 0))) := Lib.hid (hw1 ▸ HRB.out)
  have HX1 : Hid (w1.heap[w.heap.size]? = some (.cells #[.int .i64 k, .string n, .string s, .slice A al.length ac, .slice K ks.length kc] 25 (0, 0))) := Lib.hid (hw1 ▸ HBX.out)
  have hs1 : w.heap.size + 1 < w1.heap.size := by rw [hw1]; exact hs0
  obtain ⟨b0, b1, b2, b3, b4⟩ := box5 HX1.out
  have r0 := cell_regrown b0
  have r1 := cell_regrown b1
  have r2 := cell_regrown b2
  have r3 := cell_regrown b3
  have r4 := cell_regrown b4
  clear b0 b1 b2 b3 b4
  refine Kr.wp_region_T 11 [11] [(8, AttrCp w1.heap.size al), (10, fun v W => ∃ b, v = .pointer (some ⟨b, 0, none⟩) ∧ w1.heap.size ≤ b ∧ W.heap[b]? = some (.cells #[.int .i64 0, .string ⟨#[]⟩, .string ⟨#[]⟩, .slice none 0 0, .slice none 0 0] 25 (0, 0)))]
    (by simp only [List.take_succ_cons, List.take_zero] <;> rfl) (by simp only [Kr.takeI, List.getElem?_cons_succ, List.getElem?_cons_zero] <;> rfl) mixed2 (by kernel_rfl) ?_
  rw [← hw1]
  clear hw1
  repeat (refine Kr.wpR_one rfl rfl ?_; go_big_quiet_step (fail); refine wpQuiet_nil ?_)
  refine Kr.wpR_call _ rfl rfl rfl ?_ ?_
  · intro W hW hk
    have hbw := Kr.later_iff.1 hW
    have HIA := Lib.hid (HA.out.keep (fun p hp => (HB1.out.trans (hbw.mono HB1.out.size)).cell hp) (HB1.out.trans (hbw.mono HB1.out.size)).size)
    have HBW := Lib.hid hbw.size
    clear hbw
    go_simp
    refine Kr.upMany_enter ((attrs_calls al A ac _ W HIA.out (Nat.le_refl _) hal).mono ?_)
    rintro e w' ⟨v, rfl, h1, h2⟩
    exact ⟨v, rfl, h1.mono HBW.out, h2⟩
  rintro v ⟨_, _, _, _, hS, _⟩
  obtain ⟨A', ac', rfl, _, _⟩ := hS
  go_frame
  repeat (refine Kr.wpR_one rfl rfl ?_; go_big_quiet_step (fail); refine wpQuiet_nil ?_)
  refine Kr.wpR_call _ rfl rfl rfl ?_ ?_
  · intro W hW hk
    have HBW := Lib.hid (Kr.later_iff.1 hW).size
    go_simp
    exact upMany_value ⟨_, rfl, HBW.out, alloc_new W _⟩ ((Below.refl _ W).alloc (Nat.le_refl _) _)
  rintro v ⟨_, _, _, _, hS, _⟩
  obtain ⟨b, rfl, hb1, _⟩ := hS
  go_frame
  refine Kr.wpR_nil ?_
  intro w3 hb3 hH
  have fB := hH _ _ (.inl ⟨rfl, rfl⟩)
  have fA := hH _ _ (.inr (.inl ⟨rfl, rfl⟩))
  have HB3 : Hid (Below w1.heap.size w1 w3) := Lib.hid hb3
  have hblk : w3.heap[b]? = some (.cells #[.int .i64 0, .string ⟨#[]⟩, .string ⟨#[]⟩, .slice none 0 0, .slice none 0 0] 25 (0, 0)) := by
    obtain ⟨W0, ⟨b', e, _, h2⟩, hbel⟩ := fB
    injection e with e
    injection e with e
    injection e with e _ _
    subst e
    exact (hbel.block _ (lt_of_block h2)).trans h2
  have HAI := Lib.hid (attr_later fA hblk)
  have HBLK := Lib.hid hblk
  have hbl := lt_of_block hblk
  clear hb3 hH fA fB hblk r0 r1 r2 r3 r4
  obtain ⟨c0, c1, c2, c3, c4⟩ := box5 HBLK.out
  have f0 : w3.frozen? ⟨b, 0, none⟩ = false := Lib.frozen_of_heap HBLK.out 0
  have f1 : w3.frozen? ⟨b, 1, none⟩ = false := Lib.frozen_of_heap HBLK.out 1
  have f2 : w3.frozen? ⟨b, 2, none⟩ = false := Lib.frozen_of_heap HBLK.out 2
  have f3 : w3.frozen? ⟨b, 3, none⟩ = false := Lib.frozen_of_heap HBLK.out 3
  have f4 : w3.frozen? ⟨b, 4, none⟩ = false := Lib.frozen_of_heap HBLK.out 4
  have hS := set5 HBLK.out (.int .i64 k) (.string n) (.string s) (.slice A' al.length ac') (.slice none 0 0)
  go_wp2_with fail
  generalize ((((w3.setCell ⟨b, 0, none⟩ (.int .i64 k)).setCell ⟨b, 1, none⟩ (.string n)).setCell ⟨b, 2, none⟩ (.string s)).setCell ⟨b, 3, none⟩ (.slice A' al.length ac')).setCell ⟨b, 4, none⟩ (.slice none 0 0) = w4 at hS ⊢
  have HR4 : Hid (CpRel ks al (.int .i64 k) (.string n) (.string s) A' ac' w1.heap.size b 0 (.slice none 0 0) [] w1 w4) := Lib.hid ⟨hS.blk, World.ownsRow_nil _ _ _ _, by simp [Value.ownBlock], fun i t hi => by simp at hi,
    HAI.out.keep fun c ⟨h1, h2, h3⟩ => ⟨⟨h1, by rw [hS.size]; exact h2, h3, by simp [Value.ownBlock]⟩, fun o => cell_of_heap (hS.other c h3) o⟩, hb1, rfl, HB3.out.trans (hS.fr.below (fun c hc e => by omega) (by have := HB3.out.size; omega))⟩
  clear hS HAI HBLK c0 c1 c2 c3 c4 f0 f1 f2 f3 f4 hbl HB3
  go_loopw [4] (fun i wr => ∃ (j : Nat) (kv : Value) (xs : List Value), j ≤ ks.length ∧ i = .int .i64 (j : Int) ∧ CpRel ks al (.int .i64 k) (.string n) (.string s) A' ac' w1.heap.size b j kv xs w1 wr) (fun i _ => ks.length - (intOf i).toNat)
  case atStart => exact ⟨0, _, _, Nat.zero_le _, rfl, HR4.out⟩
  case round =>
    obtain ⟨j, kv, xs, hj, rfl, hR⟩ := hrel
    have HR := Lib.hid hR
    have HXR := Lib.hid ((hR.bel.block _ (lt_of_block HX1.out)).trans HX1.out)
    have HBZ : Hid (Below w.heap.size w wr) := Lib.hid (HB1.out.trans (hR.bel.mono HB1.out.size))
    clear hR
    obtain ⟨b0, b1, b2, b3, b4⟩ := box5 HXR.out
    obtain ⟨q0, q1, q2, q3, q4⟩ := box5 HR.out.blk
    rcases Nat.lt_or_ge j ks.length with hl2 | hl2
    · obtain ⟨u, hu⟩ : ∃ u, ks[j]? = some u := ⟨_, List.getElem?_eq_getElem hl2⟩
      obtain ⟨kb, ko, u0, u1, u2, u3, u4, rfl, hkb, e0, e1, e2, e3, e4, hut⟩ := kid_cells HK.out hu wr HBZ.out
      have HUT := Lib.hid hut
      have hjl : (j : Int) < (ks.length : Int) := by omega
      have hcm : Hid (cntT u ≤ mm) := Lib.hid (by have := cntL_mem hu; have := HM.out; omega)
      have HAU : Hid (attT u) := Lib.hid (attL_mem hu HATK.out)
      have HU := Lib.hid hu
      clear hut hu
      go_wp2_with fail
      obtain ⟨wd, hwd⟩ : ∃ wd, wd = wr.drew := ⟨_, rfl⟩
      have HBD : Hid (Below wr.heap.size wr wd) := Lib.hid (hwd ▸ (Below.refl _ wr).drew)
      have HSD : Hid (wd.heap.size = wr.heap.size) := Lib.hid (by rw [hwd]; rfl)
      have g0 := cell_regrown ((HBD.out.cell (cell_lt e0).1).trans e0)
      have g1 := cell_regrown ((HBD.out.cell (cell_lt e1).1).trans e1)
      have g2 := cell_regrown ((HBD.out.cell (cell_lt e2).1).trans e2)
      have g3 := cell_regrown ((HBD.out.cell (cell_lt e3).1).trans e3)
      have g4 := cell_regrown ((HBD.out.cell (cell_lt e4).1).trans e4)
      have gb := cell_regrown ((HBD.out.cell (cell_lt b4).1).trans b4)
      have gq := cell_regrown ((HBD.out.cell (cell_lt q4).1).trans q4)
      clear b0 b1 b2 b3 b4 q0 q1 q2 q3 q4 e0 e1 e2 e3 e4
      refine Kr.wp_region_T 9 [9, 10, 11] [(7, SpTree wr.heap.size u), (8, SpRow wr.heap.size u)]
        (by simp only [List.take_succ_cons, List.take_zero] <;> rfl) (by simp only [Kr.takeI, List.getElem?_cons_succ, List.getElem?_cons_zero] <;> rfl) mixed2 (by kernel_rfl) ?_
      rw [← hwd]
      clear hwd
      repeat (refine Kr.wpR_one rfl rfl ?_; go_big_quiet_step (fail); refine wpQuiet_nil ?_)
      refine Kr.wpR_call _ rfl rfl rfl ?_ ?_
      · intro W hW hk
        have HBW : Hid (Below wr.heap.size wr W) := Lib.hid (HBD.out.trans ((Kr.later_iff.1 hW).mono (Nat.le_of_eq HSD.out.symm)))
        go_simp
        refine Kr.upMany_enter ((HIH.out u u0 u1 u2 u3 u4 W hcm.out HAU.out (HUT.out _ (HBZ.out.trans (HBW.out.mono HBZ.out.size)))).mono ?_)
        rintro e w' ⟨x0, x1, x2, x3, x4, rfl, h1, h2⟩
        exact ⟨_, rfl, ⟨x0, x1, x2, x3, x4, rfl, h1.keep fun c ⟨h3, h4⟩ => ⟨⟨Nat.le_trans HBW.out.size h3, h4⟩, fun _ => rfl⟩⟩, h2⟩
      rintro v ⟨_, _, _, _, hS, _⟩
      obtain ⟨x0, x1, x2, x3, x4, rfl, _⟩ := hS
      go_frame
      refine Kr.wpR_call _ rfl rfl rfl ?_ ?_
      · intro W hW hk
        have HK29 : Hid (TreeIn W (fun c => wr.heap.size ≤ c ∧ c < W.heap.size) u x0 x1 x2 x3 x4) := Lib.hid (by
          obtain ⟨W0, ⟨y0, y1, y2, y3, y4, e, h1⟩, hb⟩ := hk 29 _ (.inl ⟨rfl, rfl⟩) (by decide)
          injection e with e
          injection e with e
          simp only [List.cons.injEq, and_true] at e
          obtain ⟨rfl, rfl, rfl, rfl, rfl⟩ := e
          exact h1.keep fun c ⟨h3, h4⟩ => ⟨⟨h3, Nat.lt_of_lt_of_le h4 hb.size⟩, fun o => hb.cell h4⟩)
        clear hk
        go_simp
        have hal2 := alloc_new W (.cells #[x0, x1, x2, x3, x4] 25)
        exact upMany_value ⟨W.heap.size, x0, x1, x2, x3, x4, rfl, hal2, HK29.out.keep fun c ⟨h3, h4⟩ => ⟨⟨h3, Nat.lt_of_lt_of_le h4 (size_alloc W _)⟩, fun o => World.cell?_of_block (Below.heap_alloc W _ c h4)⟩⟩ ((Below.refl _ W).alloc (Nat.le_refl _) _)
      rintro v ⟨_, _, _, _, hS, _⟩
      obtain ⟨g, _, _, _, _, _, rfl, _⟩ := hS
      go_frame
      refine Kr.wpR_nil ?_
      intro w3 hb3 hH
      obtain ⟨W0, ⟨g', y0, y1, y2, y3, y4, e, hg1, hg2⟩, hbel⟩ := hH _ _ (.inl ⟨rfl, rfl⟩)
      injection e with e
      injection e with e
      injection e with e _ _
      subst e
      have HG1 : Hid (w3.heap[g]? = some (.cells #[y0, y1, y2, y3, y4] 25 (0, 0))) := Lib.hid ((hbel.block _ (lt_of_block hg1)).trans hg1)
      have HG2 : Hid (TreeIn w3 (fun c => wr.heap.size ≤ c ∧ c < w3.heap.size) u y0 y1 y2 y3 y4) := Lib.hid (hg2.keep fun c ⟨h3, h4⟩ => ⟨⟨h3, Nat.lt_of_lt_of_le h4 hbel.size⟩, fun o => hbel.cell h4⟩)
      have HB3 : Hid (Below wr.heap.size wr w3) := Lib.hid (HBD.out.trans (hb3.mono (Nat.le_of_eq HSD.out.symm)))
      clear hH hb3 hg1 hg2 hbel g0 g1 g2 g3 g4 gb gq
      obtain ⟨i0, ii, hz0, hz1, hz2⟩ := info_parts tree_info
      have HROW : Hid (w3.ownsRow w1.heap.size 25 5 kv j xs) := Lib.hid (row_of_heap HR.out.row fun c hc => HB3.out.block c (HR.out.row.lt c hc).2)
      have HNEWS : Hid (∀ (j : Nat) u, [y0, y1, y2, y3, y4][j]? = some u → w3.cell? ((⟨g, 0, none⟩ : Addr).add j) = some u) := Lib.hid fun j u hj => by
        rw [add_flat, Nat.zero_add, block_cell HG1.out]; rw [← List.getElem?_toArray] at hj; exact hj
      have HONE : Hid (∀ u ∈ [y0, y1, y2, y3, y4], u.oneCell' = true) := Lib.hid (treeIn_one HG2.out)
      have HBS : Hid (w1.heap.size ≤ w3.heap.size) := Lib.hid (Nat.le_trans HR.out.bel.size HB3.out.size)
      have hjb : j ≤ 1000000 := by have := cntL_ge ks; have := HM.out; omega
      go_wp2_with (at_builtin; refine wpList_append_own_at _ rfl (.tmp 23) (.tmp 30) 23 rfl w1.heap.size 25 i0 _ 5 88 Tryz.underlying23 ii hz0 hz1 hz2 rfl (by decide) kv j xs rfl HROW.out ⟨g, 0, none⟩ 1 1 [y0, y1, y2, y3, y4] rfl rfl HNEWS.out HONE.out (by unfold maxLen; omega) (by omega) HBS.out ?_)
      intro v' w5 h1 h2 h3 h4
      obtain ⟨gv, cv, rfl⟩ := row_form h1 (by omega)
      have HST : Hid (CpRel ks al (.int .i64 k) (.string n) (.string s) A' ac' w1.heap.size b (j + 1) (.slice (some ⟨gv, 0, none⟩) (j + 1) cv) (xs ++ [y0, y1, y2, y3, y4]) w1 (w5.setCell ⟨b, 4, none⟩ (.slice (some ⟨gv, 0, none⟩) (j + 1) cv))) := Lib.hid (cp_step HR.out HB3.out HU.out HG2.out h1 h2 h4)
      have HB5 : Hid (w5.heap[b]? = some (.cells #[.int .i64 k, .string n, .string s, .slice A' al.length ac', kv] 25 (0, 0))) := Lib.hid
        ((h2.block b (by have := lt_of_block HR.out.blk; have := HB3.out.size; omega) (fun e => HR.out.ne e.symm)).trans ((HB3.out.block b (lt_of_block HR.out.blk)).trans HR.out.blk))
      obtain ⟨q0, q1, q2, q3, q4⟩ := box5 HB5.out
      have f4 : w5.frozen? ⟨b, 4, none⟩ = false := Lib.frozen_of_heap HB5.out 4
      clear h1 h2 h3 h4
      go_wp2_with fail
      generalize w5.setCell ⟨b, 4, none⟩ (.slice (some ⟨gv, 0, none⟩) (j + 1) cv) = w6 at HST ⊢
      go_roundw
      case rel => exact ⟨j + 1, _, _, by omega, by go_num, HST.out⟩
      case measure => simp [intOf]; omega
    · obtain rfl : j = ks.length := by omega
      have HB9 := Lib.hid ((HR.out.bel.block _ (lt_of_block HR1.out)).trans HR1.out)
      obtain ⟨z0, z1, z2, z3, z4⟩ := box5 HB9.out
      have z5 : wr.frozen? ⟨w.heap.size + 1, 0, none⟩ = false := Lib.frozen_of_heap HB9.out 0
      have z6 : wr.frozen? ⟨w.heap.size + 1, 1, none⟩ = false := Lib.frozen_of_heap HB9.out 1
      have z7 : wr.frozen? ⟨w.heap.size + 1, 2, none⟩ = false := Lib.frozen_of_heap HB9.out 2
      have z8 : wr.frozen? ⟨w.heap.size + 1, 3, none⟩ = false := Lib.frozen_of_heap HB9.out 3
      have z9 : wr.frozen? ⟨w.heap.size + 1, 4, none⟩ = false := Lib.frozen_of_heap HB9.out 4
      have hks := HR.out.kids
      rw [List.take_length] at hks
      obtain ⟨K', kc', rfl, m1, m2, m3⟩ := kids_of_row (S' := fun c => w.heap.size ≤ c ∧ c < wr.heap.size ∧ c ≠ w.heap.size + 1) HR.out.row hks (fun c ⟨h1, h2, h3, h4⟩ => ⟨by omega, h2, by omega⟩) (fun g hg => by have := HR.out.row.lt g hg; exact ⟨by omega, this.2, by omega⟩)
      have HT : Hid (TreeIn wr (fun c => w.heap.size ≤ c ∧ c < wr.heap.size ∧ c ≠ w.heap.size + 1) (.mk k n s al ks) (.int .i64 k) (.string n) (.string s) (.slice A' al.length ac') (.slice K' ks.length kc')) := Lib.hid (by
        unfold TreeIn
        exact ⟨rfl, rfl, rfl, HWK.out, HBN.out, HBS.out, A', ac', K', kc', rfl, rfl, HR.out.attrs.keep fun c ⟨h1, h2, h3, h4⟩ => ⟨⟨by omega, h2, by omega⟩, fun _ => rfl⟩, m1, m2, m3⟩)
      have hS := set5 HB9.out (.int .i64 k) (.string n) (.string s) (.slice A' al.length ac') (.slice K' ks.length kc')
      have HBZ2 := Lib.hid HBZ.out
      clear hks m3
      go_wp2_with fail
      generalize ((((wr.setCell ⟨w.heap.size + 1, 0, none⟩ (.int .i64 k)).setCell ⟨w.heap.size + 1, 1, none⟩ (.string n)).setCell ⟨w.heap.size + 1, 2, none⟩ (.string s)).setCell ⟨w.heap.size + 1, 3, none⟩ (.slice A' al.length ac')).setCell ⟨w.heap.size + 1, 4, none⟩ (.slice K' ks.length kc') = w9 at hS ⊢
      have hld := run_loadVar_row (P := Tryz.prog) w9 (w.heap.size + 1) 25 25 _ _ _ hS.blk Tryz.underlying25 rfl (by kernel_rfl)
      (try simp only [Exit.inBlock, Exit.then])
      refine bodyPost_ret (v := .agg #[.int .i64 k, .string n, .string s, .slice A' al.length ac', .slice K' ks.length kc']) ?_ rfl ⟨_, _, _, _, _, rfl, ?_, ?_⟩
      · rw [results_one rfl]
        simp [asAddr, Result.andThen, hld]
      · exact HT.out.keep fun c ⟨h1, h2, h3⟩ => ⟨⟨h1, by rw [hS.size]; exact h2⟩, fun o => cell_of_heap (hS.other c h3) o⟩
      · exact HBZ2.out.trans (hS.fr.below (fun c hc e => by omega) (by have := HBZ2.out.size; omega))
end Go.Proofs.YtbjcahhijfommaaGreatDoor.Tr
