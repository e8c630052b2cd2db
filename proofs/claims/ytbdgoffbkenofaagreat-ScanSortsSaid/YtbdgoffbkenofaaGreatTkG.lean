/- token: tag. -/
import Derived.Test.YtbdgoffbkenofaaGreatTkA
import Derived.Test.YtbdgoffbkenofaaGreatNam
import Derived.Maps.AppendAt
namespace Go.Proofs.YtbdgoffbkenofaaGreat.Tk
open Go Go.RowKit Go.Proofs.YtbdgoffbkenofaaGreat.Tr
set_option linter.unusedVariables false
set_option maxRecDepth 100000

def kindOf (start : Bool) : Int := if start then 1 else 2
theorem decK_len (s : ByteArray) (attr : Bool) : ∀ (n k : Nat), s.size - k ≤ n → k ≤ s.size → (Ch.decK s attr k).length ≤ 4 * (s.size - k)
  | 0, k, hn, hk => by rw [Ch.decK_end (by omega)]; exact Nat.zero_le _
  | n + 1, k, hn, hk => by
    by_cases hlt : k < s.size
    · by_cases h : s[k].toNat = 38
      · obtain ⟨b1, b2, b3, b4⟩ := Ch.refI_bd s k attr hlt
        rw [Ch.decK_ref hlt h, List.length_append]
        have h3 := b3 h
        have ih := decK_len s attr n (k + (Ch.refI s k attr).2) (by omega) b1
        have e : (Ch.refI s k attr).1.data.toList.length = (Ch.refI s k attr).1.size := rfl
        omega
      · rw [Ch.decK_one hlt h, List.length_cons]
        have ih := decK_len s attr n (k + 1) (by omega) (by omega)
        omega
    · rw [Ch.decK_end (by omega)]; exact Nat.zero_le _
theorem decB_size (s : ByteArray) (attr : Bool) : (Ch.decB s attr).size ≤ 4 * s.size := by
  have := decK_len s attr s.size 0 (by omega) (Nat.zero_le _)
  have e : (Ch.decB s attr).size = (Ch.decK s attr 0).length := by unfold Ch.decB; rfl
  omega
theorem attrP_sizes {s : ByteArray} {a : Nat} {n v : ByteArray} {k : Nat} (h : attrP s a = some (n, v, k)) : n.size ≤ s.size ∧ v.size ≤ 4 * s.size := by
  unfold attrP at h
  dsimp only at h
  have hn : ∀ i j, (namedP (s.extract i j)).size ≤ s.size := fun i j => by rw [namedP_size]; exact ext_size s i j
  have hd : ∀ i j, (Ch.decB (s.extract i j) true).size ≤ 4 * s.size := fun i j => Nat.le_trans (decB_size _ _) (by have := ext_size s i j; omega)
  split at h
  · injection h with h; injection h with h1 h; injection h with h2 _
    subst h1; subst h2; exact ⟨hn _ _, Nat.zero_le _⟩
  · split at h
    · cases h
    · split at h
      · split at h
        · cases h
        · injection h with h; injection h with h1 h; injection h with h2 _
          subst h1; subst h2; exact ⟨hn _ _, hd _ _⟩
      · injection h with h; injection h with h1 h; injection h with h2 _
        subst h1; subst h2; exact ⟨hn _ _, hd _ _⟩
def attrsK (s : ByteArray) (start : Bool) (e : Nat) (acc : List (ByteArray × ByteArray)) : Option (List (ByteArray × ByteArray) × Nat) := attrsP s start (s.size + 1 - e) e acc
def accN (start : Bool) (acc : List (ByteArray × ByteArray)) (n v : ByteArray) : List (ByteArray × ByteArray) := if start && !hasName acc n then acc ++ [(n, v)] else acc
section
variable {s : ByteArray} {start : Bool}
theorem attrsP_1 {n e e1 : Nat} {acc : List (ByteArray × ByteArray)} (h1 : upT gapC s e = e1) (h : s.size ≤ e1) : attrsP s start (n + 1) e acc = none := by
  subst h1; unfold attrsP; exact if_pos h
theorem attrsP_2 {n e e1 : Nat} {acc : List (ByteArray × ByteArray)} (h1 : upT gapC s e = e1) (h : ¬ s.size ≤ e1) (h2 : bAt s e1 = 62) : attrsP s start (n + 1) e acc = some (acc, e1) := by
  subst h1; unfold attrsP; exact (if_neg h).trans (if_pos h2)
theorem attrsP_3 {n e e1 : Nat} {acc : List (ByteArray × ByteArray)} (h1 : upT gapC s e = e1) (h : ¬ s.size ≤ e1) (h2 : ¬ bAt s e1 = 62) (h3 : attrP s e1 = none) : attrsP s start (n + 1) e acc = none := by
  subst h1; unfold attrsP; refine (if_neg h).trans ((if_neg h2).trans ?_)
  show (match attrP s (upT gapC s e) with | none => _ | some (name, value, next) => _) = _
  rw [h3]
theorem attrsP_4 {n e e1 k : Nat} {nm v : ByteArray} {acc : List (ByteArray × ByteArray)} (h1 : upT gapC s e = e1) (h : ¬ s.size ≤ e1) (h2 : ¬ bAt s e1 = 62) (h3 : attrP s e1 = some (nm, v, k)) : attrsP s start (n + 1) e acc = attrsP s start n k (accN start acc nm v) := by
  subst h1
  conv => lhs; unfold attrsP
  refine (if_neg h).trans ((if_neg h2).trans ?_)
  show (match attrP s (upT gapC s e) with | none => _ | some (name, value, next) => _) = _
  rw [h3]; rfl
theorem attrsP_enough : ∀ (n m e : Nat) (acc : List (ByteArray × ByteArray)), e ≤ s.size → s.size + 1 - e ≤ n → s.size + 1 - e ≤ m → attrsP s start n e acc = attrsP s start m e acc
  | 0, m, e, acc, h0, h1, h2 => by omega
  | n + 1, 0, e, acc, h0, h1, h2 => by omega
  | n + 1, m + 1, e, acc, h0, h1, h2 => by
    by_cases c1 : s.size ≤ upT gapC s e
    · rw [attrsP_1 rfl c1, attrsP_1 rfl c1]
    · by_cases c2 : bAt s (upT gapC s e) = 62
      · rw [attrsP_2 rfl c1 c2, attrsP_2 rfl c1 c2]
      · cases h : attrP s (upT gapC s e) with
        | none => rw [attrsP_3 rfl c1 c2 h, attrsP_3 rfl c1 c2 h]
        | some r =>
          obtain ⟨nm, v, k⟩ := r
          rw [attrsP_4 rfl c1 c2 h, attrsP_4 rfl c1 c2 h]
          have hb := attrP_bd (by omega) h
          have hg : e ≤ upT gapC s e := upT_ge _ _ _
          exact attrsP_enough n m k _ hb.2 (by omega) (by omega)
theorem attrsK_1 {e e1 : Nat} {acc : List (ByteArray × ByteArray)} (he : e ≤ s.size) (h1 : upT gapC s e = e1) (h : s.size ≤ e1) : attrsK s start e acc = none := by
  unfold attrsK; rw [show s.size + 1 - e = (s.size - e) + 1 by omega]; exact attrsP_1 h1 h
theorem attrsK_2 {e e1 : Nat} {acc : List (ByteArray × ByteArray)} (he : e ≤ s.size) (h1 : upT gapC s e = e1) (h : ¬ s.size ≤ e1) (h2 : bAt s e1 = 62) : attrsK s start e acc = some (acc, e1) := by
  unfold attrsK; rw [show s.size + 1 - e = (s.size - e) + 1 by omega]; exact attrsP_2 h1 h h2
theorem attrsK_3 {e e1 : Nat} {acc : List (ByteArray × ByteArray)} (he : e ≤ s.size) (h1 : upT gapC s e = e1) (h : ¬ s.size ≤ e1) (h2 : ¬ bAt s e1 = 62) (h3 : attrP s e1 = none) : attrsK s start e acc = none := by
  unfold attrsK; rw [show s.size + 1 - e = (s.size - e) + 1 by omega]; exact attrsP_3 h1 h h2 h3
theorem attrsK_4 {e e1 k : Nat} {nm v : ByteArray} {acc : List (ByteArray × ByteArray)} (he : e ≤ s.size) (h1 : upT gapC s e = e1) (h : ¬ s.size ≤ e1) (h2 : ¬ bAt s e1 = 62) (h3 : attrP s e1 = some (nm, v, k)) : attrsK s start e acc = attrsK s start k (accN start acc nm v) := by
  have hb := attrP_bd (by omega) h3
  have hg : e ≤ upT gapC s e := upT_ge _ _ _
  unfold attrsK
  conv => lhs; rw [show s.size + 1 - e = (s.size - e) + 1 by omega]
  rw [attrsP_4 h1 h h2 h3]
  exact attrsP_enough _ _ k _ hb.2 (by omega) (by omega)
end
theorem hasName_look : ∀ (acc : List (ByteArray × ByteArray)) (n : ByteArray), hasName acc n = (Ss.lookP acc n).isSome
  | [], n => rfl
  | x :: r, n => by
    have ih := hasName_look r n
    have e1 : hasName (x :: r) n = (decide (x.1 = n) || hasName r n) := rfl
    have e2 : Ss.lookP (x :: r) n = match Ss.lookP r n with | some v => some v | none => if x.1 = n then some x.2 else none := rfl
    rw [e1, e2, ih]
    cases h : Ss.lookP r n with
    | some v => simp
    | none => by_cases hx : x.1 = n <;> simp [hx]
def cellsA2 (al : List (ByteArray × ByteArray)) : List Value := al.flatMap fun x => [.string x.1, .string x.2]
/-- What is known at the loop's head. -/
structure TagI (s : ByteArray) (B tb mb : Nat) (kind : Int) (nm : ByteArray) (acc : List (ByteArray × ByteArray)) (v : Value) (w0 wr : World) : Prop where
  res : wr.heap[B]? = some (.cells #[.int .i64 0, .string ⟨#[]⟩, .string ⟨#[]⟩, .slice none 0 0, .bool false] 27 (0, 0))
  tok : wr.heap[tb]? = some (.cells #[.int .i64 kind, .string nm, .string ⟨#[]⟩, v, .bool false] 27 (0, 0))
  row : wr.ownsRow (mb + 1) 30 2 v acc.length (cellsA2 acc)
  map : ∃ n, n = acc.length ∧ Ss.owns wr mb n acc
  bel : Below B w0 wr
  ord : B < tb ∧ tb < mb ∧ mb < wr.heap.size
theorem TagI.keep {s : ByteArray} {B tb mb : Nat} {kind : Int} {nm : ByteArray} {acc : List (ByteArray × ByteArray)} {v : Value} {w0 wr w' : World} (h : TagI s B tb mb kind nm acc v w0 wr) (hb : Below wr.heap.size wr w') : TagI s B tb mb kind nm acc v w0 w' := by
  obtain ⟨o1, o2, o3⟩ := h.ord
  have hk : ∀ k, k < wr.heap.size → w'.heap[k]? = wr.heap[k]? := fun k hk => hb.block k hk
  refine ⟨(hk _ (by omega)).trans h.res, (hk _ (by omega)).trans h.tok, ⟨h.row.1, ?_⟩, ?_, h.bel.trans (hb.mono (by omega)), o1, o2, Nat.lt_of_lt_of_le o3 hb.size⟩
  · rcases h.row.2 with h2 | ⟨g, cap, cur, h1, h5, h6, h7⟩
    · exact .inl h2
    · exact .inr ⟨g, cap, cur, h1, h5, (hk g (h.row.lt g (by rw [h1]; rfl)).2).trans h6, h7⟩
  · obtain ⟨n, e, hm⟩ := h.map
    exact ⟨n, e, hm.below hb o3⟩
/-- What is known of the attributes so far. -/
structure AccOk (s : ByteArray) (k : Nat) (acc : List (ByteArray × ByteArray)) : Prop where
  len : acc.length ≤ k
  siz : ∀ x ∈ acc, x.1.size ≤ s.size ∧ x.2.size ≤ 4 * s.size
  uni : acc.Pairwise fun x y => x.1 ≠ y.1
theorem tagP_none {s : ByteArray} {a e : Nat} {start : Bool} (he : upT closesN s a = e) (h : attrsK s start e [] = none) : tagP s a start = (tok0, s.size, false) := by
  subst he; unfold tagP; unfold attrsK at h
  show (match attrsP s start (s.size + 1 - upT closesN s a) (upT closesN s a) [] with | none => _ | some (l, e2) => _) = _
  rw [h]
theorem tagP_some {s : ByteArray} {a e e2 : Nat} {start : Bool} {nm : ByteArray} {l : List (ByteArray × ByteArray)} (he : upT closesN s a = e) (hn : namedP (s.extract a e) = nm) (h : attrsK s start e [] = some (l, e2)) : tagP s a start = (⟨kindOf start, nm, ⟨#[]⟩, sortP l, false⟩, e2 + 1, true) := by
  subst he; subst hn; unfold tagP kindOf; unfold attrsK at h
  show (match attrsP s start (s.size + 1 - upT closesN s a) (upT closesN s a) [] with | none => _ | some (l, e2) => _) = _
  rw [h]
/-- What slices.SortFunc does to attributes of unlike names. -/
def SortsAttrs : Prop := ∀ (acc : List (ByteArray × ByteArray)) (v : Value) (W : World) (R : Nat), acc.length ≤ 1000000 → (∀ x ∈ acc, x.1.size ≤ 4000000 ∧ x.2.size ≤ 4000000) → (acc.Pairwise fun x y => x.1 ≠ y.1) → W.ownsRow R 30 2 v acc.length (cellsA2 acc) →
  Calls Tryz.prog 90 #[v, .func (.func 91) #[] #[]] W fun e w' => e = .returned (.tuple #[]) ∧ Fr (fun k => v.ownBlock = some k) W.heap.size W w' ∧ ∃ A ac, v = .slice A acc.length ac ∧ IsAttrs w' w'.heap.size (sortP acc) A ac
theorem isAttrs_move {w w' : World} {n n' : Nat} {al : List (ByteArray × ByteArray)} {A : Option Addr} {ac : Nat} (h : IsAttrs w n al A ac) (hn : n ≤ n') (hk : ∀ p, A = some p → w'.heap[p.block]? = w.heap[p.block]?) : IsAttrs w' n' al A ac := by
  obtain ⟨h1, h2, h3, h4⟩ := h
  refine ⟨h1, h2, h3, fun hne => ?_⟩
  obtain ⟨g, off, rfl, hg, hc⟩ := h4 hne
  have e : w'.heap[g]? = w.heap[g]? := hk _ rfl
  exact ⟨g, off, rfl, Nat.lt_of_lt_of_le hg hn, fun i x hx => ⟨(World.cell?_of_block (a := ⟨g, off + i * 2, none⟩) e).trans (hc i x hx).1, (World.cell?_of_block (a := ⟨g, off + i * 2 + 1, none⟩) e).trans (hc i x hx).2⟩⟩
theorem small4 {n : Nat} (h : n ≤ 4000000) : n ≤ maxLen := Nat.le_trans h (by unfold maxLen; decide)
theorem kind_eq (start : Bool) : ((kindOf start) == 1) = start := by cases start <;> rfl
theorem accN_no {start : Bool} {acc : List (ByteArray × ByteArray)} {n v : ByteArray} (h : (start && !(Ss.lookP acc n).isSome) = false) : accN start acc n v = acc := by
  unfold accN; rw [hasName_look, h]; exact if_neg (by decide)
theorem accN_yes {start : Bool} {acc : List (ByteArray × ByteArray)} {n v : ByteArray} (h : (start && !(Ss.lookP acc n).isSome) = true) : accN start acc n v = acc ++ [(n, v)] := by
  unfold accN; rw [hasName_look, h]; exact if_pos rfl
theorem AccOk.mono {s : ByteArray} {k k' : Nat} {acc : List (ByteArray × ByteArray)} (h : AccOk s k acc) (hk : k ≤ k') : AccOk s k' acc := ⟨Nat.le_trans h.len hk, h.siz, h.uni⟩
theorem AccOk.snoc {s : ByteArray} {k k' : Nat} {acc : List (ByteArray × ByteArray)} {n v : ByteArray} (h : AccOk s k acc) (hk : k < k') (hz : n.size ≤ s.size ∧ v.size ≤ 4 * s.size) (hl : (Ss.lookP acc n).isSome = false) : AccOk s k' (acc ++ [(n, v)]) := by
  refine ⟨by have := h.len; simp; omega, fun x hx => ?_, ?_⟩
  · rcases List.mem_append.1 hx with hx | hx
    · exact h.siz x hx
    · rw [List.mem_singleton.1 hx]; exact hz
  · rw [List.pairwise_append]
    refine ⟨h.uni, List.pairwise_singleton _ _, fun x hx y hy => ?_⟩
    rw [List.mem_singleton.1 hy]
    intro e
    rw [← hasName_look] at hl
    unfold hasName at hl
    rw [List.any_eq_false] at hl
    exact hl x hx (by simpa using e)
theorem sortP_len (l : List (ByteArray × ByteArray)) : (sortP l).length = l.length := List.length_mergeSort l
theorem tagI_new {s : ByteArray} {B : Nat} {kind : Int} {nm : ByteArray} {w w2 : World} (hl : w2.heap[B]? = some (.cells #[.int .i64 0, .string ⟨#[]⟩, .string ⟨#[]⟩, .slice none 0 0, .bool false] 27 (0, 0))) (hb : Below B w w2) :
    TagI s B w2.heap.size (w2.heap.size + 1) kind nm [] (.slice none 0 0) w ((w2.alloc (.cells #[.int .i64 kind, .string nm, .string ⟨#[]⟩, .slice none 0 0, .bool false] 27)).alloc (.map #[] 0)) := by
  have hlt := lt_of_block hl
  refine ⟨alloc_old (alloc_old hl _) _, alloc_old (alloc_new w2 _) _, ⟨rfl, .inl ⟨rfl, rfl⟩⟩, ⟨0, rfl, ?_⟩, (hb.alloc (by omega) _).alloc (by simp; omega) _, hlt, by omega, by simp⟩
  have := Ss.owns_made (w2.alloc (.cells #[.int .i64 kind, .string nm, .string ⟨#[]⟩, .slice none 0 0, .bool false] 27))
  simpa using this
theorem attr_info2 : (Tryz.prog.info? 30).map (fun i => (i.zero, i.size, i.bytes)) = some (some (.agg #[.string ByteArray.empty, .string ByteArray.empty]), 2, 32) := by kernel_rfl
theorem cellsA2_len : ∀ al, (cellsA2 al).length = al.length * 2
  | [] => rfl
  | x :: xs => by have := cellsA2_len xs; simp [cellsA2] at this ⊢; omega
theorem TagI.push {s : ByteArray} {B tb mb : Nat} {kind : Int} {nm : ByteArray} {acc : List (ByteArray × ByteArray)} {v v' : Value} {w0 w5 w6 w8 : World} {an av : ByteArray} (h : TagI s B tb mb kind nm acc v w0 w5)
    (ho : Ss.owns w6 mb (acc.length + 1) (acc ++ [(an, av)])) (g6 : w5.grownBy w6 (some mb))
    (hr : w8.ownsRow (mb + 1) 30 2 v' (acc.length + 1) (cellsA2 acc ++ [.string an, .string av])) (g8 : (w6.alloc (.cells #[.string an, .string av] 30)).grownBy w8 v.ownBlock) :
    TagI s B tb mb kind nm (acc ++ [(an, av)]) v' w0 (w8.setCell ⟨tb, 3, none⟩ v') := by
  obtain ⟨o1, o2, o3⟩ := h.ord
  have s6 := g6.size
  have s8 := g8.size
  have e7 : (w6.alloc (.cells #[.string an, .string av] 30)).heap.size = w6.heap.size + 1 := by simp
  have hv : ∀ k, k ≤ mb → some k ≠ v.ownBlock := fun k hk e => by
    have := (h.row.lt k e.symm).1; omega
  have hk : ∀ k, k < mb → w8.heap[k]? = w5.heap[k]? := fun k hk =>
    (g8.block k (by omega) (hv k (by omega))).trans ((Below.heap_alloc w6 _ k (by omega)).trans (g6.block k (by omega) (fun e => by injection e with e; omega)))
  have hm : w8.heap[mb]? = w6.heap[mb]? := (g8.block mb (by omega) (hv mb (by omega))).trans (Below.heap_alloc w6 _ mb (by omega))
  have b8 : Below B w0 w8 := ((h.bel.grown g6 (by omega) (fun k hk => by cases hk; omega)).alloc (by omega) _).grown g8 (by omega) (fun k hk => by have := hv k; by_cases hkm : k ≤ mb; exact absurd hk.symm (this hkm); omega)
  have ht := (hk tb (by omega)).trans h.tok
  refine ⟨(Below.heap_setCell _ _ _ B (by show B ≠ tb; omega)).trans ((hk B (by omega)).trans h.res), heap_setCell_same w8 tb 3 _ _ v' ht, ?_, ⟨acc.length + 1, by simp, ?_⟩, b8.setCell (p := ⟨tb, 3, none⟩) (by show B ≤ tb; omega) _, o1, o2, by simp; omega⟩
  · have el : (acc ++ [(an, av)]).length = acc.length + 1 := by simp
    have ec : cellsA2 (acc ++ [(an, av)]) = cellsA2 acc ++ [.string an, .string av] := by simp [cellsA2]
    rw [el, ec]
    refine ⟨hr.1, ?_⟩
    rcases hr.2 with h2 | ⟨g, cap, cur, h1, h5, h6, h7⟩
    · exact .inl h2
    · exact .inr ⟨g, cap, cur, h1, h5, (Below.heap_setCell _ _ _ g (by show g ≠ tb; omega)).trans h6, h7⟩
  · obtain ⟨es, clock, hh, r⟩ := ho
    exact ⟨es, clock, (Below.heap_setCell _ _ _ mb (by show mb ≠ tb; omega)).trans (hm.trans hh), r⟩
set_option maxHeartbeats 8000000 in
theorem tag_calls (s : ByteArray) (hs : s.size ≤ 1000000) (a : Nat) (ha : a ≤ s.size) (start : Bool) (hsort : SortsAttrs) (w : World) :
    Calls Tryz.prog 64 #[.string s, .int .i64 (a : Int), .int .i64 (kindOf start)] w (TokEnd (tagP s a start) w) := by
  have HU1 := Lib.hid (fun W => upTo_calls 84 #[] (enters_of Tryz.func84 (by kernel_rfl) rfl) _ s (by omega) a (by omega) W (closesC W))
  have h1 : a ≤ upT closesN s a := upT_ge _ _ _
  have h2 : upT closesN s a ≤ s.size := upT_le _ ha
  generalize he : upT closesN s a = e at *
  have HNM := Lib.hid (fun W => Br.named_calls (s.extract a e) (Nat.le_trans (ext_size s a e) hs) W)
  generalize hnm : namedP (s.extract a e) = nm at *
  have hae : (a : Int) ≤ (e : Int) := by omega
  have hes : (e : Int) ≤ (s.size : Int) := by omega
  have HS := Lib.hid hs
  have HSO := Lib.hid hsort
  clear hsort
  have hmm := @run_makeMap Tryz.prog
  have hb0 := (Below.refl w.heap.size w).alloc (Nat.le_refl _) (.cells #[.int .i64 0, .string ⟨#[]⟩, .string ⟨#[]⟩, .slice none 0 0, .bool false] 27)
  have hl0 := alloc_new w (.cells #[.int .i64 0, .string ⟨#[]⟩, .string ⟨#[]⟩, .slice none 0 0, .bool false] 27)
  have HB0 := Lib.hid hb0
  have HL0 := Lib.hid hl0
  clear hs hb0 hl0
  go_enter Tryz.func64, Tryz.ntmps64
  go_wp2_with fail
  generalize w.alloc (.cells #[.int .i64 0, .string ⟨#[]⟩, .string ⟨#[]⟩, .slice none 0 0, .bool false] 27) = w0 at *
  refine (HU1.out _).mono ?_
  rintro e' w1 ⟨rfl, hb1⟩
  have HL1 := Lib.hid ((hb1.block _ (lt_of_block HL0.out)).trans HL0.out)
  have HB1 := Lib.hid (HB0.out.trans (hb1.mono HB0.out.size))
  clear hb1 HL0 HB0
  go_wp2_with fail
  refine (HNM.out _).mono ?_
  rintro e' w2 ⟨rfl, hb2⟩
  have HL2 := Lib.hid ((hb2.block _ (lt_of_block HL1.out)).trans HL1.out)
  have HB2 := Lib.hid (HB1.out.trans (hb2.mono HB1.out.size))
  clear hb2 HL1 HB1
  go_wp2_with fail
  have HI := Lib.hid (tagI_new (s := s) (kind := kindOf start) (nm := nm) HL2.out HB2.out)
  have HTN := Lib.hid (tagP_none (start := start) he)
  have HTS := Lib.hid (fun e2 l => tagP_some (start := start) (e2 := e2) (l := l) he hnm)
  generalize (w2.alloc (.cells #[.int .i64 (kindOf start), .string nm, .string ⟨#[]⟩, .slice none 0 0, .bool false] 27)).alloc (.map #[] 0) = w3 at *
  obtain ⟨mb, hmb⟩ : ∃ mb, w2.heap.size + 1 = mb := ⟨_, rfl⟩
  rw [hmb] at HI ⊢
  obtain ⟨tb, htb⟩ : ∃ tb, w2.heap.size = tb := ⟨_, rfl⟩
  rw [htb] at HI ⊢
  have HE := Lib.hid h2
  clear HL2 HB2 hmb htb HU1 HNM hae hes h1 h2 he hnm ha hmm
  go_loopw [9] (fun t wr => ∃ (k : Nat) (acc : List (ByteArray × ByteArray)) (v : Value), Hid (k ≤ s.size) ∧ t = .int .i64 (k : Int) ∧ Hid (attrsK s start e [] = attrsK s start k acc) ∧ Hid (TagI s w.heap.size tb mb (kindOf start) nm acc v w wr) ∧ Hid (AccOk s k acc)) (fun t _ => s.size - (intOf t).toNat)
  case atStart => exact ⟨e, [], _, HE, rfl, Lib.hid rfl, HI, Lib.hid ⟨Nat.zero_le _, fun x h => (by simp at h), List.Pairwise.nil⟩⟩
  case round =>
    clear HI
    obtain ⟨k, acc, v, HK, rfl, HEQ, HI, HA⟩ := hrel
    have HU2 := Lib.hid (fun W => upTo_calls 88 #[] (enters_of Tryz.func88 (by kernel_rfl) rfl) _ s (by have := HS.out; omega) k (by have := HS.out; have := HK.out; omega) W (tag1 W))
    have h3 : k ≤ upT gapC s k := upT_ge _ _ _
    have h4 : upT gapC s k ≤ s.size := upT_le _ HK.out
    obtain ⟨e1, he1⟩ : ∃ e1, upT gapC s k = e1 := ⟨_, rfl⟩
    rw [he1] at HU2 h3 h4
    go_wp2_with fail
    refine (HU2.out _).mono ?_
    rintro e' w4 ⟨rfl, hb4⟩
    have HI4 := Lib.hid (HI.out.keep hb4)
    clear hb4 HU2 HI
    by_cases c1 : s.size ≤ e1
    · have hz : (s.size : Int) ≤ (e1 : Int) := by omega
      have HV := Lib.hid (HTN.out (HEQ.out.trans (attrsK_1 HK.out he1 c1)))
      obtain ⟨b0, b1, b2, b3, b4⟩ := tbox5 HI4.out.res
      obtain ⟨f0, f1, f2, f3, f4⟩ := tfrz5 HI4.out.res
      clear c1 h3 h4 he1
      go_wp2_with fail
      rw [HV.out]
      exact tok_post (tok0, s.size, false) w 6 7 8 w.heap.size none 0 rfl rfl rfl rfl (set5_blk HI4.out.res _ _ _ _ _) (isAttrs_nil _ _) (HI4.out.bel.trans (set5_below (Nat.le_refl _) _ _ _ _ _)) (fun _ h => nomatch h)
    have hz : ¬ (s.size : Int) ≤ (e1 : Int) := by omega
    have hlt : e1 < s.size := by omega
    have hbk := bAt_in hlt
    by_cases c2 : bAt s e1 = 62
    · have q1 : ((s[e1].toNat : Int) == 62) = true := by rw [← hbk, c2]; rfl
      have HV := Lib.hid (HTS.out e1 acc (HEQ.out.trans (attrsK_2 HK.out he1 c1 c2)))
      have d3 : w4.cell? ⟨tb, 3, none⟩ = some v := (tbox5 HI4.out.tok).2.2.2.1
      clear c1 c2 hbk he1
      go_wp2_with fail
      refine (HSO.out acc v w4 (mb + 1) (by have := HA.out.len; have := HK.out; have := HS.out; omega) (fun x hx => by have := HA.out.siz x hx; have := HS.out; omega) HA.out.uni HI4.out.row).mono ?_
      rintro e' w5 ⟨rfl, hf, A, ac, rfl, hat⟩
      have ho := HI4.out.ord
      have hno : ∀ k, k ≤ mb → ¬ (Value.slice A acc.length ac).ownBlock = some k := fun k hk e => by
        have := (HI4.out.row.lt k e).1; omega
      have ht5 := (hf.block tb (by omega) (hno tb (by omega))).trans HI4.out.tok
      have hl5 := (hf.block w.heap.size (by omega) (hno _ (by omega))).trans HI4.out.res
      have HB5 := Lib.hid (HI4.out.bel.trans (hf.below (fun k hk => hno k (by omega)) (by omega)))
      have HL5 := Lib.hid hl5
      have HAT := Lib.hid hat
      obtain ⟨b0, b1, b2, b3, b4⟩ := tbox5 hl5
      obtain ⟨f0, f1, f2, f3, f4⟩ := tfrz5 hl5
      obtain ⟨d0, d1, d2, d3, d4⟩ := tbox5 ht5
      have hwe : IntKind.i64.wrap ((e1 : Int) + 1) = (e1 : Int) + 1 := IntWalk.i64_in _ (by have := HS.out; omega)
      clear hf hl5 ht5 hat hno
      go_wp2_with fail
      rw [HV.out]
      have hln := sortP_len acc
      rw [← hln]
      refine tok_post (⟨kindOf start, nm, ⟨#[]⟩, sortP acc, false⟩, e1 + 1, true) w 6 7 8 w.heap.size A ac rfl rfl rfl rfl (set5_blk HL5.out _ _ _ _ _) (isAttrs_move HAT.out (set5_below (B := 0) (Nat.zero_le _) _ _ _ _ _).size fun p hp => set5_other ?_ _ _ _ _ _) (HB5.out.trans (set5_below (Nat.le_refl _) _ _ _ _ _)) (fun p hp => by have := (HI4.out.row.lt p.block (by rw [hp]; rfl)).1; have := HI4.out.ord; omega)
      have := (HI4.out.row.lt p.block (by rw [hp]; rfl)).1
      have := HI4.out.ord
      omega
    have q1 : ((s[e1].toNat : Int) == 62) = false := by rw [← hbk, beq_eq_false_iff_ne]; omega
    have HAT := Lib.hid (attr_calls s HS.out e1 hlt)
    cases h5 : attrP s e1 with
    | none =>
      rw [h5] at HAT
      have HV := Lib.hid (HTN.out (HEQ.out.trans (attrsK_3 HK.out he1 c1 c2 h5)))
      unfold attrRet at HAT
      clear c1 c2 hbk he1 h5
      go_wp2_with fail
      refine (HAT.out _).mono ?_
      rintro e' w5 ⟨rfl, hb5⟩
      have HI5 := Lib.hid (HI4.out.keep hb5)
      obtain ⟨b0, b1, b2, b3, b4⟩ := tbox5 HI5.out.res
      obtain ⟨f0, f1, f2, f3, f4⟩ := tfrz5 HI5.out.res
      clear hb5
      go_wp2_with fail
      rw [HV.out]
      exact tok_post (tok0, s.size, false) w 6 7 8 w.heap.size none 0 rfl rfl rfl rfl (set5_blk HI5.out.res _ _ _ _ _) (isAttrs_nil _ _) (HI5.out.bel.trans (set5_below (Nat.le_refl _) _ _ _ _ _)) (fun _ h => nomatch h)
    | some r =>
      obtain ⟨an, av, ak⟩ := r
      rw [h5] at HAT
      have HV := Lib.hid (HEQ.out.trans (attrsK_4 HK.out he1 c1 c2 h5))
      have HBD := Lib.hid (attrP_bd hlt h5)
      have HSZ := Lib.hid (attrP_sizes h5)
      unfold attrRet at HAT
      clear c1 c2 hbk he1 h5
      go_wp2_with fail
      refine (HAT.out _).mono ?_
      rintro e' w5 ⟨rfl, hb5⟩
      have HI5 := Lib.hid (HI4.out.keep hb5)
      clear hb5
      have han := small4 (n := an.size) (by have := HSZ.out; have := HS.out; omega)
      have hav := small4 (n := av.size) (by have := HSZ.out; have := HS.out; omega)
      obtain ⟨nn, hnn, hown⟩ := HI5.out.map
      have hlk := Ss.get hown an han
      have HNO := Lib.hid (fun h => @accN_no start acc an av h)
      have HYES := Lib.hid (fun h => @accN_yes start acc an av h)
      have HHX := Lib.hid (fun h => HA.out.snoc (k' := ak) (n := an) (v := av) (by have := HBD.out; omega) HSZ.out h)
      have HA2 := Lib.hid (HA.out.mono (k' := ak) (by have := HBD.out; omega))
      have HKK := Lib.hid (show k < ak by have := HBD.out; omega)
      have HOWN := Lib.hid hown
      have HNN := Lib.hid hnn
      have HAN := Lib.hid han
      have HAV := Lib.hid hav
      generalize (Ss.lookP acc an).getD ByteArray.empty = gd at *
      clear han hav hown hnn
      cases hsome : (Ss.lookP acc an).isSome with
      | true =>
        rw [hsome] at hlk
        have HVV := Lib.hid (HV.out.trans (by rw [HNO.out (by rw [hsome]; cases start <;> rfl)]))
        clear hsome HNO HYES HHX h3 h4
        go_wp2_with fail
        go_roundw
        case rel => exact ⟨ak, acc, v, Lib.hid HBD.out.2, rfl, HVV, HI5, HA2⟩
        case measure => simp [intOf]; have := HKK.out; have := HBD.out; omega
      | false =>
        rw [hsome] at hlk
        by_cases hst : start = false
        · have HVV := Lib.hid (HV.out.trans (by rw [HNO.out (by rw [hst]; rfl)]))
          have hkq : (kindOf start == 1) = false := by rw [kind_eq, hst]
          clear hst hsome HNO HYES HHX h3 h4
          go_wp2_with fail
          go_roundw
          case rel => exact ⟨ak, acc, v, Lib.hid HBD.out.2, rfl, HVV, HI5, HA2⟩
          case measure => simp [intOf]; have := HKK.out; have := HBD.out; omega
        · have hst2 : start = true := by cases start <;> simp_all
          have HVV := Lib.hid (HV.out.trans (by rw [HYES.out (by rw [hst2, hsome]; rfl)]))
          have HA3 := Lib.hid (HHX.out hsome)
          have hkq : (kindOf start == 1) = true := by rw [kind_eq, hst2]
          obtain ⟨w6, hput, hown6, hg6⟩ := Ss.put HOWN.out an av HAN.out HAV.out (by rw [HNN.out]; have := HA.out.len; have := HK.out; have := HS.out; show _ < 9223372036854775807; omega)
          have hv6 : some tb ≠ some mb := by have := HI5.out.ord; intro e; injection e with e; omega
          have d3 : w6.cell? ⟨tb, 3, none⟩ = some v := (World.cell?_of_block (a := ⟨tb, 3, none⟩) (hg6.block tb (by have := HI5.out.ord; omega) hv6)).trans (tbox5 HI5.out.tok).2.2.2.1
          have hrow6 : (w6.alloc (.cells #[.string an, .string av] 30)).ownsRow (mb + 1) 30 2 v acc.length (cellsA2 acc) := by
            refine ⟨HI5.out.row.1, ?_⟩
            rcases HI5.out.row.2 with h2 | ⟨g, cap, cur, h1, h5, h6, h7⟩
            · exact .inl h2
            · refine .inr ⟨g, cap, cur, h1, h5, alloc_old ((hg6.block g (lt_of_block h6) (fun e => by injection e with e; omega)).trans h6) _, h7⟩
          have HROW := Lib.hid hrow6
          have HN2 : Hid (∀ j u, ([.string an, .string av] : List Value)[j]? = some u → (w6.alloc (.cells #[.string an, .string av] 30)).cell? ((⟨w6.heap.size, 0, none⟩ : Addr).add j) = some u) := Lib.hid fun j u hj => by
            have ha : (⟨w6.heap.size, 0, none⟩ : Addr).add j = ⟨w6.heap.size, j, none⟩ := by unfold Addr.add; split <;> simp_all
            rw [ha, block_cell (alloc_new w6 _)]
            simpa using hj
          have HONE : Hid (∀ u ∈ ([.string an, .string av] : List Value), u.oneCell' = true) := Lib.hid fun u hu => by
            simp at hu
            rcases hu with rfl | rfl <;> rfl
          have HO6 := Lib.hid hown6
          have HG6 := Lib.hid hg6
          have hln : acc.length ≤ 1000000 := by have := HA.out.len; have := HK.out; have := HS.out; omega
          have hmb6 : mb + 1 ≤ w6.heap.size := by have := HI5.out.ord; have := hg6.size; omega
          obtain ⟨i0, hi, hz0, hz1, hz2⟩ := info_parts attr_info2
          clear hst hst2 hsome HNO HYES HHX h3 h4 HA2 hown6 hg6 hv6 hrow6
          go_wp2_with (at_builtin; refine wpList_append_own_at _ rfl (.tmp 72) (.tmp 76) 25 rfl (mb + 1) 30 i0 _ 2 32 Tryz.underlying25 hi hz0 hz1 hz2 rfl (by decide) _ _ _ rfl HROW.out ⟨w6.heap.size, 0, none⟩ 1 1 [.string an, .string av] rfl rfl HN2.out HONE.out (by unfold maxLen; omega) (by omega) (by simp; omega) ?_)
          intro v' w8 g1 g2 _ g3
          obtain ⟨ao, n', cap, rfl⟩ : ∃ ao n' cap, v' = .slice ao n' cap := by
            rcases g1.2 with ⟨hv, _⟩ | ⟨g, cap, cur, hv, _⟩
            · exact ⟨_, _, _, hv⟩
            · exact ⟨_, _, _, hv⟩
          have hlen8 : (acc ++ [(an, av)]).length = acc.length + 1 := by simp
          have HI8 := Lib.hid (HI5.out.push (HNN.out ▸ HO6.out) HG6.out g1 g2)
          have hs6 := HG6.out.size
          have hs8 := g2.size
          have ho := HI5.out.ord
          have hv5 : ∀ k, k ≤ mb → some k ≠ v.ownBlock := fun k hk e => by have := (HI5.out.row.lt k e.symm).1; omega
          have ht8 : w8.heap[tb]? = some (.cells #[.int .i64 (kindOf start), .string nm, .string ⟨#[]⟩, v, .bool false] 27 (0, 0)) :=
            (g2.block tb (by simp; omega) (hv5 tb (by omega))).trans ((Below.heap_alloc w6 _ tb (by omega)).trans ((HG6.out.block tb (by omega) (fun e => by injection e with e; omega)).trans HI5.out.tok))
          have d8 : w8.cell? ⟨tb, 3, none⟩ = some v := (tbox5 ht8).2.2.2.1
          have f8 : w8.frozen? ⟨tb, 3, none⟩ = false := (tfrz5 ht8).2.2.2.1
          clear g1 g2 g3 hs6 hs8 ho hv5 ht8 hlen8
          go_wp2_with fail
          go_roundw
          case rel => exact ⟨ak, acc ++ [(an, av)], .slice ao n' cap, Lib.hid HBD.out.2, rfl, HVV, HI8, HA3⟩
          case measure => simp [intOf]; have := HKK.out; have := HBD.out; omega
end Go.Proofs.YtbdgoffbkenofaaGreat.Tk
