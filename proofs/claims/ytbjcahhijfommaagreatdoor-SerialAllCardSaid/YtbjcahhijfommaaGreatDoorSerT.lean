/- serial.Text: a tree as a source. -/
import Derived.Test.YtbjcahhijfommaaGreatDoorSeq
import Derived.Test.YtbjcahhijfommaaGreatDoorBw
namespace Go.Proofs.YtbjcahhijfommaaGreatDoor.Tr
open Go Go.RowKit Go.Shelf
attribute [local go_sem] Oper.semAt_some
set_option linter.unusedVariables false

/-- A builder's own types. -/
def TB (t : TypeId) : Bool := t == 40 || t == 5
theorem sbstr (B b : Nat) (l : List UInt8) (w : World) (h : Lib.IsBuilderF 40 5 B b (Lib.byteCells l) w) (hBw : B ≤ w.heap.size) :
    Calls Tryz.prog 21 #[.pointer (some ⟨b, 0, none⟩)] w fun e w' => e = .returned (.string ⟨l.toArray⟩) ∧ (Lib.IsBuilderF 40 5 B b (Lib.byteCells l) w' ∧ Below B w w' ∧ Lib.OthersKept 5 (some b) w w') :=
  Go.Proofs.Any.Builder_String_any_k lays169 builderExtra B b l w h hBw
/-- A write into a builder: what it keeps. -/
theorem bld_kpT {w w' : World} {B b n : Nat} {v : Value} {l : List UInt8} (h : Bld w B b v l) (hF : Fr (bOwn b v) w.heap.size w w') (hn : n ≤ B) (hBb : B ≤ b) : KpT TB n w w' := by
  have hB : B ≤ w.heap.size := Nat.le_trans hBb (Nat.le_of_lt (h.lt b (.inl rfl)))
  refine ⟨hF.below (fun k hk hr => by
    rcases hr with rfl | hr
    · omega
    · have := (h.row.lt k hr).1; omega) (by omega), fun k cs t f hk ht => ?_⟩
  refine (hF.block k (lt_of_block hk) ?_).trans hk
  rintro (rfl | hr)
  · obtain ⟨p, _, hb⟩ := h.blk
    rw [hb] at hk; injection hk with hk; injection hk with _ hk _; subst hk; cases ht
  · rcases h.row.2 with ⟨h2, _⟩ | ⟨g, cap, cur, h1, _, h6, _⟩
    · rw [h2] at hr; cases hr
    · rw [h1] at hr; injection hr with hr; subst hr
      rw [h6] at hk; injection hk with hk; injection hk with _ hk _; subst hk; cases ht
theorem bld_others {w w' : World} {B b : Nat} {v : Value} {l : List UInt8} (h : Bld w B b v l) (hF : Fr (bOwn b v) w.heap.size w w') : KeepsOthers w w' := by
  refine ⟨hF.size, fun k o hk ho => (hF.block k (lt_of_block hk) ?_).trans hk⟩
  rintro (rfl | hr)
  · obtain ⟨p, _, hb⟩ := h.blk
    rw [hb] at hk; injection hk with hk; subst hk; cases ho
  · rcases h.row.2 with ⟨h2, _⟩ | ⟨g, cap, cur, h1, _, h6, _⟩
    · rw [h2] at hr; cases hr
    · rw [h1] at hr; injection hr with hr; subst hr
      rw [h6] at hk; injection hk with hk; subst hk; cases ho
/-- A builder with all that has come. -/
structure BldI (B b : Nat) (w : World) (pre : List Pc) (W : World) : Prop where
  bld : ∃ v, Bld W B b v (catP pre)
  bel : Below w.heap.size w W
theorem bldI_own (B b : Nat) (w : World) (D : Nat) (hD : w.heap.size ≤ D) : OwnFrom D (BldI B b w) := by
  rintro s W W' row ⟨⟨v, hb⟩, h2⟩ hg hr
  refine ⟨⟨v, hb.keep fun k hk => hg.block k (hb.lt k hk) ?_⟩, h2.grown hg h2.size fun k e => Nat.le_trans hD (hr k e).1⟩
  rintro rfl
  obtain ⟨_, o, ho, hc⟩ := hr k rfl
  rcases hk with rfl | hk
  · obtain ⟨p, _, hb2⟩ := hb.blk
    rw [hb2] at ho; injection ho with ho; subst ho; cases hc
  · rcases hb.row.2 with ⟨h3, _⟩ | ⟨g, cap, cur, h1, _, h6, _⟩
    · rw [h3] at hk; cases hk
    · rw [h1] at hk; injection hk with hk; subst hk
      rw [h6] at ho; injection ho with ho; subst ho; cases hc
theorem bldI_next {B b : Nat} {w W W' : World} {pre : List Pc} {x : Pc} {v v' : Value} (h : Bld W B b v (catP pre)) (h2 : Below w.heap.size w W) (hn : w.heap.size ≤ B) (hBb : B ≤ b) (hb : Bld W' B b v' (catP pre ++ x.1.data.toList)) (hF : Fr (bOwn b v) W.heap.size W W') :
    BldI B b w (pre ++ [x]) W' :=
  ⟨⟨v', by rw [catP_append, catP_cons, catP_nil, List.append_nil]; exact hb⟩, h2.trans ((bld_kpT h hF hn hBb).below)⟩
theorem say_room {t : Nd} {raw : Bool} (hf : fitT t) (hc : cntT t ≤ 1000000) {pre : List Pc} (h : pre.length < (sayP raw t).length) (x : Pc) : (catP pre).length + x.1.size ≤ 140737488355328 := by
  have h1 := catP_len pre
  have h2 := sayP_len raw t hf
  have h3 := x.2
  omega
set_option maxHeartbeats 4000000 in
set_option maxRecDepth 100000 in
theorem text_calls (t : Nd) (hf : fitT t) (hc : cntT t ≤ 1000000) (v0 v1 v2 v3 v4 : Value) (w : World) (hG : 0 < w.heap.size) (hT : SpTab w) (h : IsTree w w.heap.size t v0 v1 v2 v3 v4) :
    Calls Tryz.prog 12 #[.agg #[v0, v1, v2, v3, v4]] w fun e w' => e = .returned (.string ⟨(sayT false t).toArray⟩) ∧ Below w.heap.size w w' := by
  obtain ⟨W0, hW0⟩ : ∃ W0, (((w.alloc (.cells #[v0, v1, v2, v3, v4] 25)).alloc (.cells #[.pointer none, .slice none 0 0] 40)).alloc (.cells #[v0, v1, v2, v3, v4] 25)).alloc (.cells #[.string ⟨#[]⟩] 9) = W0 := ⟨_, rfl⟩
  have hsz : W0.heap.size = w.heap.size + 4 := by rw [← hW0]; simp
  have hbel : Below w.heap.size w W0 := by
    rw [← hW0]
    exact ((((Below.refl _ w).alloc (Nat.le_refl _) _).alloc (by simp) _).alloc (by simp; omega) _).alloc (by simp; omega) _
  have hbb : Bld W0 (w.heap.size + 1) (w.heap.size + 1) (.slice none 0 0) [] := by
    have h1 := bld_new (w.alloc (.cells #[v0, v1, v2, v3, v4] 25))
    rw [World.size_alloc] at h1
    rw [← hW0]
    exact h1.keep fun k hk => ((Below.heap_alloc _ _ _ (by have := h1.lt k hk; simp at this ⊢; omega)).trans (Below.heap_alloc _ _ _ (h1.lt k hk)))
  have htb : W0.heap[w.heap.size + 2]? = some (.cells #[v0, v1, v2, v3, v4] 25 (0, 0)) := by
    rw [← hW0]
    refine alloc_old ?_ _
    have := alloc_new ((w.alloc (.cells #[v0, v1, v2, v3, v4] 25)).alloc (.cells #[.pointer none, .slice none 0 0] 40)) (.cells #[v0, v1, v2, v3, v4] 25)
    simpa using this
  have hnb : W0.heap[w.heap.size + 3]? = some (.cells #[.string ⟨#[]⟩] 9 (0, 0)) := by
    rw [← hW0]
    have := alloc_new (((w.alloc (.cells #[v0, v1, v2, v3, v4] 25)).alloc (.cells #[.pointer none, .slice none 0 0] 40)).alloc (.cells #[v0, v1, v2, v3, v4] 25)) (.cells #[.string ⟨#[]⟩] 9)
    simpa using this
  have HSEQ := Lib.hid (fun n => pieces_stops TB rfl rfl rfl w.heap.size hG t ⟨#[]⟩ v0 v1 v2 v3 v4 W0 (w.heap.size + 1 + 1) (w.heap.size + 1 + 1 + 1) n (by omega) (hT.below hbel hG) (h.keep (fun p hp => hbel.cell hp) (Nat.le_refl _)) hf htb hnb)
  rw [rawB_nil] at HSEQ
  have HB0 : Hid (BldI (w.heap.size + 1) (w.heap.size + 1) w [] W0) := Lib.hid ⟨⟨_, hbb⟩, hbel⟩
  have HCAT := Lib.hid (cat_say false t hf)
  have HROOM := Lib.hid (fun (pre : List Pc) (hl : pre.length < (sayP false t).length) (x : Pc) => say_room hf hc hl x)
  clear hbb htb hnb hbel hT hf hc
  cases t with
  | mk k' n' s' al' ks' =>
  unfold IsTree at h
  obtain ⟨rfl, rfl, rfl, _, _, _, A', ac', K', kc', rfl, rfl, _, _, _, _⟩ := h
  refine (callsIn_wide (n := 9)).1 ?_
  refine callsIn_of_wp_marks Tryz.func12 rfl trivial ?_ rfl
  simp only [Tryz.ntmps12, List.size_toArray, List.length_cons, List.length_nil, Nat.reduceAdd, Nat.reduceSub, Array.replicate_succ, Array.replicate_zero, List.push_toArray, List.append_toArray, List.nil_append, List.cons_append]
  gi_wp2_with (refine ⟨trivial, ?_⟩; gi_at_call 19; refine (callsIn_wide.2 (pieces_calls _ _ _ _ _ _ _ _ _ _ _)).mono ?_; rintro e w' ⟨rfl, rfl⟩)
  clear hW0
  have HW := Lib.hid hsz
  refine wpIn_rangeFunc_ownF (w0 := W0) rfl (by decide) (gf := 28) (lb := #[.pointer (some ⟨w.heap.size + 1 + 1, 0, none⟩), .pointer (some ⟨w.heap.size + 1 + 1 + 1, 0, none⟩)]) rfl trivial (enters_of Tryz.func28 (by kernel_rfl) rfl)
    (HSEQ.out _) (fun h k => h.trans k) (kpT_b (by omega)) (Below.refl _ _) (fun _ => rfl)
    (BldI (w.heap.size + 1) (w.heap.size + 1) w) (fun _ _ _ => False) (bldI_own _ _ _ _ (by omega)) (fun _ _ _ _ _ hs _ _ => hs) HB0.out
    (fun x => { tmps := #[.agg #[.int .i64 k', .string n', .string s', .slice A' al'.length ac', .slice K' ks'.length kc'], .pointer (some ⟨w.heap.size, 0, none⟩), .string ⟨#[]⟩, .pointer (some ⟨w.heap.size + 1, 0, none⟩), .string x.1,
      .agg #[.int .i64 k', .string n', .string s', .slice A' al'.length ac', .slice K' ks'.length kc'], .func (.func 28) #[] #[.pointer (some ⟨w.heap.size + 1 + 1, 0, none⟩), .pointer (some ⟨w.heap.size + 1 + 1 + 1, 0, none⟩)], .string x.1, undef, undef, undef], defers := [] }) ?assign ?body ?done ?stop
  case assign =>
    intro l x W K hK
    gi_wp2
    exact hK
  case body =>
    rintro l pre x W ⟨⟨v, hb⟩, h2⟩ hl
    have HB := Lib.hid hb
    have H2 := Lib.hid h2
    have hlt := hb.lt _ (.inl rfl)
    have HWS := Lib.hid (writeString_calls (w.heap.size + 1) (w.heap.size + 1) v (catP pre) x.1 W hb (HROOM.out pre hl x) (Nat.le_of_lt hlt))
    clear hb h2 hl HSEQ HROOM HCAT
    gi_wp2
    refine ⟨trivial, ?_⟩
    refine (CallsIn.inRound l (callsIn_wide.2 HWS.out)).mono ?_
    rintro e W2 ⟨v', rfl, hb2, hF, _⟩
    have hfin := bldI_next HB.out H2.out (Nat.le_succ _) (Nat.le_refl _) hb2 hF
    gi_wp2
    exact ⟨bld_others HB.out hF, bld_kpT HB.out hF (Nat.le_succ _) (Nat.le_refl _), hfin⟩
  case done =>
    rintro D ys W hD rfl ⟨⟨v, hb⟩, h2⟩ hK
    have hlt := hb.lt _ (.inl rfl)
    have HS := Lib.hid (sbstr (w.heap.size + 1) (w.heap.size + 1) _ W (hb.is (Nat.le_refl _)) (Nat.le_of_lt hlt))
    rw [HCAT.out] at HS
    have hbD : some D ≠ some (w.heap.size + 1) := by
      intro e; injection e with e; subst e
      obtain ⟨p, _, hb2⟩ := hb.blk
      rw [hb2] at hK; cases hK
    have H2 := Lib.hid h2
    have HKD := Lib.hid hK
    clear hb h2 hK HSEQ HROOM HCAT
    gi_wp2
    refine ⟨trivial, ?_⟩
    refine (callsIn_wide.2 HS.out).mono ?_
    rintro e W2 ⟨rfl, _, hbel, hoth⟩
    have hK2 := hoth D _ HKD.out hbD (by intro c fz e; cases e)
    gi_wp2
    refine ⟨by simp, .inl ⟨_, _, rfl, run_takeDeferred hK2, ?_⟩⟩
    exact ⟨_, results_tmp rfl _ _ _, rfl, (H2.out.trans (hbel.mono (Nat.le_succ _))).trans (belowK_b (w := w) (Nat.le_refl _) W2 D _ _ (by have := HW.out; omega) hK2 rfl rfl)⟩
  case stop =>
    rintro D c pre W _ _ h _
    exact h.elim
end Go.Proofs.YtbjcahhijfommaaGreatDoor.Tr
