/- token: tag. -/
import Derived.Test.YtbdgoffbkenofaaGreatTkA
import Derived.Test.YtbdgoffbkenofaaGreatNam
import Derived.Maps.AppendAt
import Derived.Test.YtbdgoffbkenofaaGreatLays
import Derived.Shelf.SlSortCmp.WholeK
import Derived.Shelf.SlSortCmp.NoneTotal
import Derived.Shelf.SlGeneric
import Derived.Ground.SlsfProg
import Derived.Sort.Walk0
import Derived.OwnWalk
import Derived.WalkSpells
import Derived.Lib.SliceRun
import Derived.WalkLawsBesides
import Derived.Outline
import Derived.Test.YtbdgoffbkenofaaGreatTkV
import Derived.Laws.StructEq
import Derived.BigQuiet
namespace Go.Proofs.YtbdgoffbkenofaaGreat.Tk
open Go Go.RowKit Go.Proofs.YtbdgoffbkenofaaGreat.Tr
set_option linter.unusedVariables false
set_option maxRecDepth 100000

def kindOf (start : Bool) : Int := if start then 1 else 2
theorem decK_len (s : ByteArray) (attr : Bool) : ∀ (n k : Nat), s.size - k ≤ n → k ≤ s.size → (Ch.decK s attr k).length ≤ 4 * (s.size - k)
  | 0, k, hn, hk => by rw [Ch.decK_end (by omega)]; exact Nat.zero_le _
  | n + 1, k, hn, hk => by
    by_cases hlt : k < s.size
    · by_cases h : s[k].toNat = 38
      · obtain ⟨b1, b2, b3, b4⟩ := Ch.refI_bd s k attr hlt
        rw [Ch.decK_ref hlt h, List.length_append]
        have h3 := b3 h
        have ih := decK_len s attr n (k + (Ch.refI s k attr).2) (by omega) b1
        have e : (Ch.refI s k attr).1.data.toList.length = (Ch.refI s k attr).1.size := rfl
        omega
      · rw [Ch.decK_one hlt h, List.length_cons]
        have ih := decK_len s attr n (k + 1) (by omega) (by omega)
        omega
    · rw [Ch.decK_end (by omega)]; exact Nat.zero_le _
theorem decB_size (s : ByteArray) (attr : Bool) : (Ch.decB s attr).size ≤ 4 * s.size := by
  have := decK_len s attr s.size 0 (by omega) (Nat.zero_le _)
  have e : (Ch.decB s attr).size = (Ch.decK s attr 0).length := by unfold Ch.decB; rfl
  omega
theorem attrP_sizes {s : ByteArray} {a : Nat} {n v : ByteArray} {k : Nat} (h : attrP s a = some (n, v, k)) : n.size ≤ s.size ∧ v.size ≤ 4 * s.size := by
  unfold attrP at h
  dsimp only at h
  have hn : ∀ i j, (namedP (s.extract i j)).size ≤ s.size := fun i j => by rw [namedP_size]; exact ext_size s i j
  have hd : ∀ i j, (Ch.decB (s.extract i j) true).size ≤ 4 * s.size := fun i j => Nat.le_trans (decB_size _ _) (by have := ext_size s i j; omega)
  split at h
  · injection h with h; injection h with h1 h; injection h with h2 _
    subst h1; subst h2; exact ⟨hn _ _, Nat.zero_le _⟩
  · split at h
    · cases h
    · split at h
      · split at h
        · cases h
        · injection h with h; injection h with h1 h; injection h with h2 _
          subst h1; subst h2; exact ⟨hn _ _, hd _ _⟩
      · injection h with h; injection h with h1 h; injection h with h2 _
        subst h1; subst h2; exact ⟨hn _ _, hd _ _⟩
def attrsK (s : ByteArray) (start : Bool) (e : Nat) (acc : List (ByteArray × ByteArray)) : Option (List (ByteArray × ByteArray) × Nat) := attrsP s start (s.size + 1 - e) e acc
def accN (start : Bool) (acc : List (ByteArray × ByteArray)) (n v : ByteArray) : List (ByteArray × ByteArray) := if start && !hasName acc n then acc ++ [(n, v)] else acc
section
variable {s : ByteArray} {start : Bool}
theorem attrsP_1 {n e e1 : Nat} {acc : List (ByteArray × ByteArray)} (h1 : upT gapC s e = e1) (h : s.size ≤ e1) : attrsP s start (n + 1) e acc = none := by
  subst h1; unfold attrsP; exact if_pos h
theorem attrsP_2 {n e e1 : Nat} {acc : List (ByteArray × ByteArray)} (h1 : upT gapC s e = e1) (h : ¬ s.size ≤ e1) (h2 : bAt s e1 = 62) : attrsP s start (n + 1) e acc = some (acc, e1) := by
  subst h1; unfold attrsP; exact (if_neg h).trans (if_pos h2)
theorem attrsP_3 {n e e1 : Nat} {acc : List (ByteArray × ByteArray)} (h1 : upT gapC s e = e1) (h : ¬ s.size ≤ e1) (h2 : ¬ bAt s e1 = 62) (h3 : attrP s e1 = none) : attrsP s start (n + 1) e acc = none := by
  subst h1; unfold attrsP; refine (if_neg h).trans ((if_neg h2).trans ?_)
  show (match attrP s (upT gapC s e) with | none => _ | some (name, value, next) => _) = _
  rw [h3]
theorem attrsP_4 {n e e1 k : Nat} {nm v : ByteArray} {acc : List (ByteArray × ByteArray)} (h1 : upT gapC s e = e1) (h : ¬ s.size ≤ e1) (h2 : ¬ bAt s e1 = 62) (h3 : attrP s e1 = some (nm, v, k)) : attrsP s start (n + 1) e acc = attrsP s start n k (accN start acc nm v) := by
  subst h1
  conv => lhs; unfold attrsP
  refine (if_neg h).trans ((if_neg h2).trans ?_)
  show (match attrP s (upT gapC s e) with | none => _ | some (name, value, next) => _) = _
  rw [h3]; rfl
theorem attrsP_enough : ∀ (n m e : Nat) (acc : List (ByteArray × ByteArray)), e ≤ s.size → s.size + 1 - e ≤ n → s.size + 1 - e ≤ m → attrsP s start n e acc = attrsP s start m e acc
  | 0, m, e, acc, h0, h1, h2 => by omega
  | n + 1, 0, e, acc, h0, h1, h2 => by omega
  | n + 1, m + 1, e, acc, h0, h1, h2 => by
    by_cases c1 : s.size ≤ upT gapC s e
    · rw [attrsP_1 rfl c1, attrsP_1 rfl c1]
    · by_cases c2 : bAt s (upT gapC s e) = 62
      · rw [attrsP_2 rfl c1 c2, attrsP_2 rfl c1 c2]
      · cases h : attrP s (upT gapC s e) with
        | none => rw [attrsP_3 rfl c1 c2 h, attrsP_3 rfl c1 c2 h]
        | some r =>
          obtain ⟨nm, v, k⟩ := r
          rw [attrsP_4 rfl c1 c2 h, attrsP_4 rfl c1 c2 h]
          have hb := attrP_bd (by omega) h
          have hg : e ≤ upT gapC s e := upT_ge _ _ _
          exact attrsP_enough n m k _ hb.2 (by omega) (by omega)
theorem attrsK_1 {e e1 : Nat} {acc : List (ByteArray × ByteArray)} (he : e ≤ s.size) (h1 : upT gapC s e = e1) (h : s.size ≤ e1) : attrsK s start e acc = none := by
  unfold attrsK; rw [show s.size + 1 - e = (s.size - e) + 1 by omega]; exact attrsP_1 h1 h
theorem attrsK_2 {e e1 : Nat} {acc : List (ByteArray × ByteArray)} (he : e ≤ s.size) (h1 : upT gapC s e = e1) (h : ¬ s.size ≤ e1) (h2 : bAt s e1 = 62) : attrsK s start e acc = some (acc, e1) := by
  unfold attrsK; rw [show s.size + 1 - e = (s.size - e) + 1 by omega]; exact attrsP_2 h1 h h2
theorem attrsK_3 {e e1 : Nat} {acc : List (ByteArray × ByteArray)} (he : e ≤ s.size) (h1 : upT gapC s e = e1) (h : ¬ s.size ≤ e1) (h2 : ¬ bAt s e1 = 62) (h3 : attrP s e1 = none) : attrsK s start e acc = none := by
  unfold attrsK; rw [show s.size + 1 - e = (s.size - e) + 1 by omega]; exact attrsP_3 h1 h h2 h3
theorem attrsK_4 {e e1 k : Nat} {nm v : ByteArray} {acc : List (ByteArray × ByteArray)} (he : e ≤ s.size) (h1 : upT gapC s e = e1) (h : ¬ s.size ≤ e1) (h2 : ¬ bAt s e1 = 62) (h3 : attrP s e1 = some (nm, v, k)) : attrsK s start e acc = attrsK s start k (accN start acc nm v) := by
  have hb := attrP_bd (by omega) h3
  have hg : e ≤ upT gapC s e := upT_ge _ _ _
  unfold attrsK
  conv => lhs; rw [show s.size + 1 - e = (s.size - e) + 1 by omega]
  rw [attrsP_4 h1 h h2 h3]
  exact attrsP_enough _ _ k _ hb.2 (by omega) (by omega)
end
theorem hasName_look : ∀ (acc : List (ByteArray × ByteArray)) (n : ByteArray), hasName acc n = (Ss.lookP acc n).isSome
  | [], n => rfl
  | x :: r, n => by
    have ih := hasName_look r n
    have e1 : hasName (x :: r) n = (decide (x.1 = n) || hasName r n) := rfl
    have e2 : Ss.lookP (x :: r) n = match Ss.lookP r n with | some v => some v | none => if x.1 = n then some x.2 else none := rfl
    rw [e1, e2, ih]
    cases h : Ss.lookP r n with
    | some v => simp
    | none => by_cases hx : x.1 = n <;> simp [hx]
def cellsA2 (al : List (ByteArray × ByteArray)) : List Value := al.flatMap fun x => [.string x.1, .string x.2]
/-- What is known at the loop's head. -/
structure TagI (s : ByteArray) (B tb mb : Nat) (kind : Int) (nm : ByteArray) (acc : List (ByteArray × ByteArray)) (v : Value) (w0 wr : World) : Prop where
  res : wr.heap[B]? = some (.cells #[.int .i64 0, .string ⟨#[]⟩, .string ⟨#[]⟩, .slice none 0 0, .bool false] 27 (0, 0))
  tok : wr.heap[tb]? = some (.cells #[.int .i64 kind, .string nm, .string ⟨#[]⟩, v, .bool false] 27 (0, 0))
  row : wr.ownsRow (mb + 1) 30 2 v acc.length (cellsA2 acc)
  map : ∃ n, n = acc.length ∧ Ss.owns wr mb n acc
  bel : Below B w0 wr
  ord : B < tb ∧ tb < mb ∧ mb < wr.heap.size
theorem TagI.keep {s : ByteArray} {B tb mb : Nat} {kind : Int} {nm : ByteArray} {acc : List (ByteArray × ByteArray)} {v : Value} {w0 wr w' : World} (h : TagI s B tb mb kind nm acc v w0 wr) (hb : Below wr.heap.size wr w') : TagI s B tb mb kind nm acc v w0 w' := by
  obtain ⟨o1, o2, o3⟩ := h.ord
  have hk : ∀ k, k < wr.heap.size → w'.heap[k]? = wr.heap[k]? := fun k hk => hb.block k hk
  refine ⟨(hk _ (by omega)).trans h.res, (hk _ (by omega)).trans h.tok, ⟨h.row.1, ?_⟩, ?_, h.bel.trans (hb.mono (by omega)), o1, o2, Nat.lt_of_lt_of_le o3 hb.size⟩
  · rcases h.row.2 with h2 | ⟨g, cap, cur, h1, h5, h6, h7⟩
    · exact .inl h2
    · exact .inr ⟨g, cap, cur, h1, h5, (hk g (h.row.lt g (by rw [h1]; rfl)).2).trans h6, h7⟩
  · obtain ⟨n, e, hm⟩ := h.map
    exact ⟨n, e, hm.below hb o3⟩
/-- What is known of the attributes so far. -/
structure AccOk (s : ByteArray) (k : Nat) (acc : List (ByteArray × ByteArray)) : Prop where
  len : acc.length ≤ k
  siz : ∀ x ∈ acc, x.1.size ≤ s.size ∧ x.2.size ≤ 4 * s.size
  uni : acc.Pairwise fun x y => x.1 ≠ y.1
theorem tagP_none {s : ByteArray} {a e : Nat} {start : Bool} (he : upT closesN s a = e) (h : attrsK s start e [] = none) : tagP s a start = (tok0, s.size, false) := by
  subst he; unfold tagP; unfold attrsK at h
  show (match attrsP s start (s.size + 1 - upT closesN s a) (upT closesN s a) [] with | none => _ | some (l, e2) => _) = _
  rw [h]
theorem tagP_some {s : ByteArray} {a e e2 : Nat} {start : Bool} {nm : ByteArray} {l : List (ByteArray × ByteArray)} (he : upT closesN s a = e) (hn : namedP (s.extract a e) = nm) (h : attrsK s start e [] = some (l, e2)) : tagP s a start = (⟨kindOf start, nm, ⟨#[]⟩, sortP l, false⟩, e2 + 1, true) := by
  subst he; subst hn; unfold tagP kindOf; unfold attrsK at h
  show (match attrsP s start (s.size + 1 - upT closesN s a) (upT closesN s a) [] with | none => _ | some (l, e2) => _) = _
  rw [h]
/-- What slices.SortFunc does to attributes of unlike names. -/
def SortsAttrs : Prop := ∀ (acc : List (ByteArray × ByteArray)) (v : Value) (W : World) (R : Nat), acc.length ≤ 1000000 → (∀ x ∈ acc, x.1.size ≤ 4000000 ∧ x.2.size ≤ 4000000) → (acc.Pairwise fun x y => x.1 ≠ y.1) → W.ownsRow R 30 2 v acc.length (cellsA2 acc) →
  Calls Tryz.prog 90 #[v, .func (.func 91) #[] #[]] W fun e w' => e = .returned (.tuple #[]) ∧ Fr (fun k => v.ownBlock = some k) W.heap.size W w' ∧ ∃ A ac, v = .slice A acc.length ac ∧ IsAttrs w' w'.heap.size (sortP acc) A ac
theorem isAttrs_move {w w' : World} {n n' : Nat} {al : List (ByteArray × ByteArray)} {A : Option Addr} {ac : Nat} (h : IsAttrs w n al A ac) (hn : n ≤ n') (hk : ∀ p, A = some p → w'.heap[p.block]? = w.heap[p.block]?) : IsAttrs w' n' al A ac := by
  obtain ⟨h1, h2, h3, h4⟩ := h
  refine ⟨h1, h2, h3, fun hne => ?_⟩
  obtain ⟨g, off, rfl, hg, hc⟩ := h4 hne
  have e : w'.heap[g]? = w.heap[g]? := hk _ rfl
  exact ⟨g, off, rfl, Nat.lt_of_lt_of_le hg hn, fun i x hx => ⟨(World.cell?_of_block (a := ⟨g, off + i * 2, none⟩) e).trans (hc i x hx).1, (World.cell?_of_block (a := ⟨g, off + i * 2 + 1, none⟩) e).trans (hc i x hx).2⟩⟩
theorem small4 {n : Nat} (h : n ≤ 4000000) : n ≤ maxLen := Nat.le_trans h (by unfold maxLen; decide)
theorem kind_eq (start : Bool) : ((kindOf start) == 1) = start := by cases start <;> rfl
theorem accN_no {start : Bool} {acc : List (ByteArray × ByteArray)} {n v : ByteArray} (h : (start && !(Ss.lookP acc n).isSome) = false) : accN start acc n v = acc := by
  unfold accN; rw [hasName_look, h]; exact if_neg (by decide)
theorem accN_yes {start : Bool} {acc : List (ByteArray × ByteArray)} {n v : ByteArray} (h : (start && !(Ss.lookP acc n).isSome) = true) : accN start acc n v = acc ++ [(n, v)] := by
  unfold accN; rw [hasName_look, h]; exact if_pos rfl
theorem AccOk.mono {s : ByteArray} {k k' : Nat} {acc : List (ByteArray × ByteArray)} (h : AccOk s k acc) (hk : k ≤ k') : AccOk s k' acc := ⟨Nat.le_trans h.len hk, h.siz, h.uni⟩
theorem AccOk.snoc {s : ByteArray} {k k' : Nat} {acc : List (ByteArray × ByteArray)} {n v : ByteArray} (h : AccOk s k acc) (hk : k < k') (hz : n.size ≤ s.size ∧ v.size ≤ 4 * s.size) (hl : (Ss.lookP acc n).isSome = false) : AccOk s k' (acc ++ [(n, v)]) := by
  refine ⟨by have := h.len; simp; omega, fun x hx => ?_, ?_⟩
  · rcases List.mem_append.1 hx with hx | hx
    · exact h.siz x hx
    · rw [List.mem_singleton.1 hx]; exact hz
  · rw [List.pairwise_append]
    refine ⟨h.uni, List.pairwise_singleton _ _, fun x hx y hy => ?_⟩
    rw [List.mem_singleton.1 hy]
    intro e
    rw [← hasName_look] at hl
    unfold hasName at hl
    rw [List.any_eq_false] at hl
    exact hl x hx (by simpa using e)
theorem sortP_len (l : List (ByteArray × ByteArray)) : (sortP l).length = l.length := List.length_mergeSort l
theorem tagI_new {s : ByteArray} {B : Nat} {kind : Int} {nm : ByteArray} {w w2 : World} (hl : w2.heap[B]? = some (.cells #[.int .i64 0, .string ⟨#[]⟩, .string ⟨#[]⟩, .slice none 0 0, .bool false] 27 (0, 0))) (hb : Below B w w2) :
    TagI s B w2.heap.size (w2.heap.size + 1) kind nm [] (.slice none 0 0) w ((w2.alloc (.cells #[.int .i64 kind, .string nm, .string ⟨#[]⟩, .slice none 0 0, .bool false] 27)).alloc (.map #[] 0)) := by
  have hlt := lt_of_block hl
  refine ⟨alloc_old (alloc_old hl _) _, alloc_old (alloc_new w2 _) _, ⟨rfl, .inl ⟨rfl, rfl⟩⟩, ⟨0, rfl, ?_⟩, (hb.alloc (by omega) _).alloc (by simp; omega) _, hlt, by omega, by simp⟩
  have := Ss.owns_made (w2.alloc (.cells #[.int .i64 kind, .string nm, .string ⟨#[]⟩, .slice none 0 0, .bool false] 27))
  simpa using this
theorem attr_info2 : (Tryz.prog.info? 30).map (fun i => (i.zero, i.size, i.bytes)) = some (some (.agg #[.string ByteArray.empty, .string ByteArray.empty]), 2, 32) := by kernel_rfl
theorem cellsA2_len : ∀ al, (cellsA2 al).length = al.length * 2
  | [] => rfl
  | x :: xs => by have := cellsA2_len xs; simp [cellsA2] at this ⊢; omega
theorem TagI.push {s : ByteArray} {B tb mb : Nat} {kind : Int} {nm : ByteArray} {acc : List (ByteArray × ByteArray)} {v v' : Value} {w0 w5 w6 w8 : World} {an av : ByteArray} (h : TagI s B tb mb kind nm acc v w0 w5)
    (ho : Ss.owns w6 mb (acc.length + 1) (acc ++ [(an, av)])) (g6 : w5.grownBy w6 (some mb))
    (hr : w8.ownsRow (mb + 1) 30 2 v' (acc.length + 1) (cellsA2 acc ++ [.string an, .string av])) (g8 : (w6.alloc (.cells #[.string an, .string av] 30)).grownBy w8 v.ownBlock) :
    TagI s B tb mb kind nm (acc ++ [(an, av)]) v' w0 (w8.setCell ⟨tb, 3, none⟩ v') := by
  obtain ⟨o1, o2, o3⟩ := h.ord
  have s6 := g6.size
  have s8 := g8.size
  have e7 : (w6.alloc (.cells #[.string an, .string av] 30)).heap.size = w6.heap.size + 1 := by simp
  have hv : ∀ k, k ≤ mb → some k ≠ v.ownBlock := fun k hk e => by
    have := (h.row.lt k e.symm).1; omega
  have hk : ∀ k, k < mb → w8.heap[k]? = w5.heap[k]? := fun k hk =>
    (g8.block k (by omega) (hv k (by omega))).trans ((Below.heap_alloc w6 _ k (by omega)).trans (g6.block k (by omega) (fun e => by injection e with e; omega)))
  have hm : w8.heap[mb]? = w6.heap[mb]? := (g8.block mb (by omega) (hv mb (by omega))).trans (Below.heap_alloc w6 _ mb (by omega))
  have b8 : Below B w0 w8 := ((h.bel.grown g6 (by omega) (fun k hk => by cases hk; omega)).alloc (by omega) _).grown g8 (by omega) (fun k hk => by have := hv k; by_cases hkm : k ≤ mb; exact absurd hk.symm (this hkm); omega)
  have ht := (hk tb (by omega)).trans h.tok
  refine ⟨(Below.heap_setCell _ _ _ B (by show B ≠ tb; omega)).trans ((hk B (by omega)).trans h.res), heap_setCell_same w8 tb 3 _ _ v' ht, ?_, ⟨acc.length + 1, by simp, ?_⟩, b8.setCell (p := ⟨tb, 3, none⟩) (by show B ≤ tb; omega) _, o1, o2, by simp; omega⟩
  · have el : (acc ++ [(an, av)]).length = acc.length + 1 := by simp
    have ec : cellsA2 (acc ++ [(an, av)]) = cellsA2 acc ++ [.string an, .string av] := by simp [cellsA2]
    rw [el, ec]
    refine ⟨hr.1, ?_⟩
    rcases hr.2 with h2 | ⟨g, cap, cur, h1, h5, h6, h7⟩
    · exact .inl h2
    · exact .inr ⟨g, cap, cur, h1, h5, (Below.heap_setCell _ _ _ g (by show g ≠ tb; omega)).trans h6, h7⟩
  · obtain ⟨es, clock, hh, r⟩ := ho
    exact ⟨es, clock, (Below.heap_setCell _ _ _ mb (by show mb ≠ tb; omega)).trans (hm.trans hh), r⟩
set_option maxHeartbeats 8000000 in
theorem tag_calls (s : ByteArray) (hs : s.size ≤ 1000000) (a : Nat) (ha : a ≤ s.size) (start : Bool) (hsort : SortsAttrs) (w : World) :
    Calls Tryz.prog 64 #[.string s, .int .i64 (a : Int), .int .i64 (kindOf start)] w (TokEnd (tagP s a start) w) := by
  have HU1 := Lib.hid (fun W => upTo_calls 84 #[] (enters_of Tryz.func84 (by kernel_rfl) rfl) _ s (by omega) a (by omega) W (closesC W))
  have h1 : a ≤ upT closesN s a := upT_ge _ _ _
  have h2 : upT closesN s a ≤ s.size := upT_le _ ha
  generalize he : upT closesN s a = e at *
  have HNM := Lib.hid (fun W => Br.named_calls (s.extract a e) (Nat.le_trans (ext_size s a e) hs) W)
  generalize hnm : namedP (s.extract a e) = nm at *
  have hae : (a : Int) ≤ (e : Int) := by omega
  have hes : (e : Int) ≤ (s.size : Int) := by omega
  have HS := Lib.hid hs
  have HSO := Lib.hid hsort
  clear hsort
  have hmm := @run_makeMap Tryz.prog
  have hb0 := (Below.refl w.heap.size w).alloc (Nat.le_refl _) (.cells #[.int .i64 0, .string ⟨#[]⟩, .string ⟨#[]⟩, .slice none 0 0, .bool false] 27)
  have hl0 := alloc_new w (.cells #[.int .i64 0, .string ⟨#[]⟩, .string ⟨#[]⟩, .slice none 0 0, .bool false] 27)
  have HB0 := Lib.hid hb0
  have HL0 := Lib.hid hl0
  clear hs hb0 hl0
  go_enter Tryz.func64, Tryz.ntmps64
  go_wp2_with fail
  generalize w.alloc (.cells #[.int .i64 0, .string ⟨#[]⟩, .string ⟨#[]⟩, .slice none 0 0, .bool false] 27) = w0 at *
  refine (HU1.out _).mono ?_
  rintro e' w1 ⟨rfl, hb1⟩
  have HL1 := Lib.hid ((hb1.block _ (lt_of_block HL0.out)).trans HL0.out)
  have HB1 := Lib.hid (HB0.out.trans (hb1.mono HB0.out.size))
  clear hb1 HL0 HB0
  go_wp2_with fail
  refine (HNM.out _).mono ?_
  rintro e' w2 ⟨rfl, hb2⟩
  have HL2 := Lib.hid ((hb2.block _ (lt_of_block HL1.out)).trans HL1.out)
  have HB2 := Lib.hid (HB1.out.trans (hb2.mono HB1.out.size))
  clear hb2 HL1 HB1
  go_wp2_with fail
  have HI := Lib.hid (tagI_new (s := s) (kind := kindOf start) (nm := nm) HL2.out HB2.out)
  have HTN := Lib.hid (tagP_none (start := start) he)
  have HTS := Lib.hid (fun e2 l => tagP_some (start := start) (e2 := e2) (l := l) he hnm)
  generalize (w2.alloc (.cells #[.int .i64 (kindOf start), .string nm, .string ⟨#[]⟩, .slice none 0 0, .bool false] 27)).alloc (.map #[] 0) = w3 at *
  obtain ⟨mb, hmb⟩ : ∃ mb, w2.heap.size + 1 = mb := ⟨_, rfl⟩
  rw [hmb] at HI ⊢
  obtain ⟨tb, htb⟩ : ∃ tb, w2.heap.size = tb := ⟨_, rfl⟩
  rw [htb] at HI ⊢
  have HE := Lib.hid h2
  clear HL2 HB2 hmb htb HU1 HNM hae hes h1 h2 he hnm ha hmm
  go_loopw [9] (fun t wr => ∃ (k : Nat) (acc : List (ByteArray × ByteArray)) (v : Value), Hid (k ≤ s.size) ∧ t = .int .i64 (k : Int) ∧ Hid (attrsK s start e [] = attrsK s start k acc) ∧ Hid (TagI s w.heap.size tb mb (kindOf start) nm acc v w wr) ∧ Hid (AccOk s k acc)) (fun t _ => s.size - (intOf t).toNat)
  case atStart => exact ⟨e, [], _, HE, rfl, Lib.hid rfl, HI, Lib.hid ⟨Nat.zero_le _, fun x h => (by simp at h), List.Pairwise.nil⟩⟩
  case round =>
    clear HI
    obtain ⟨k, acc, v, HK, rfl, HEQ, HI, HA⟩ := hrel
    have HU2 := Lib.hid (fun W => upTo_calls 88 #[] (enters_of Tryz.func88 (by kernel_rfl) rfl) _ s (by have := HS.out; omega) k (by have := HS.out; have := HK.out; omega) W (tag1 W))
    have h3 : k ≤ upT gapC s k := upT_ge _ _ _
    have h4 : upT gapC s k ≤ s.size := upT_le _ HK.out
    obtain ⟨e1, he1⟩ : ∃ e1, upT gapC s k = e1 := ⟨_, rfl⟩
    rw [he1] at HU2 h3 h4
    go_wp2_with fail
    refine (HU2.out _).mono ?_
    rintro e' w4 ⟨rfl, hb4⟩
    have HI4 := Lib.hid (HI.out.keep hb4)
    clear hb4 HU2 HI
    by_cases c1 : s.size ≤ e1
    · have hz : (s.size : Int) ≤ (e1 : Int) := by omega
      have HV := Lib.hid (HTN.out (HEQ.out.trans (attrsK_1 HK.out he1 c1)))
      obtain ⟨b0, b1, b2, b3, b4⟩ := tbox5 HI4.out.res
      obtain ⟨f0, f1, f2, f3, f4⟩ := tfrz5 HI4.out.res
      clear c1 h3 h4 he1
      go_wp2_with fail
      rw [HV.out]
      exact tok_post (tok0, s.size, false) w 6 7 8 w.heap.size none 0 rfl rfl rfl rfl (set5_blk HI4.out.res _ _ _ _ _) (isAttrs_nil _ _) (HI4.out.bel.trans (set5_below (Nat.le_refl _) _ _ _ _ _)) (fun _ h => nomatch h)
    have hz : ¬ (s.size : Int) ≤ (e1 : Int) := by omega
    have hlt : e1 < s.size := by omega
    have hbk := bAt_in hlt
    by_cases c2 : bAt s e1 = 62
    · have q1 : ((s[e1].toNat : Int) == 62) = true := by rw [← hbk, c2]; rfl
      have HV := Lib.hid (HTS.out e1 acc (HEQ.out.trans (attrsK_2 HK.out he1 c1 c2)))
      have d3 : w4.cell? ⟨tb, 3, none⟩ = some v := (tbox5 HI4.out.tok).2.2.2.1
      clear c1 c2 hbk he1
      go_wp2_with fail
      refine (HSO.out acc v w4 (mb + 1) (by have := HA.out.len; have := HK.out; have := HS.out; omega) (fun x hx => by have := HA.out.siz x hx; have := HS.out; omega) HA.out.uni HI4.out.row).mono ?_
      rintro e' w5 ⟨rfl, hf, A, ac, rfl, hat⟩
      have ho := HI4.out.ord
      have hno : ∀ k, k ≤ mb → ¬ (Value.slice A acc.length ac).ownBlock = some k := fun k hk e => by
        have := (HI4.out.row.lt k e).1; omega
      have ht5 := (hf.block tb (by omega) (hno tb (by omega))).trans HI4.out.tok
      have hl5 := (hf.block w.heap.size (by omega) (hno _ (by omega))).trans HI4.out.res
      have HB5 := Lib.hid (HI4.out.bel.trans (hf.below (fun k hk => hno k (by omega)) (by omega)))
      have HL5 := Lib.hid hl5
      have HAT := Lib.hid hat
      obtain ⟨b0, b1, b2, b3, b4⟩ := tbox5 hl5
      obtain ⟨f0, f1, f2, f3, f4⟩ := tfrz5 hl5
      obtain ⟨d0, d1, d2, d3, d4⟩ := tbox5 ht5
      have hwe : IntKind.i64.wrap ((e1 : Int) + 1) = (e1 : Int) + 1 := IntWalk.i64_in _ (by have := HS.out; omega)
      clear hf hl5 ht5 hat hno
      go_wp2_with fail
      rw [HV.out]
      have hln := sortP_len acc
      rw [← hln]
      refine tok_post (⟨kindOf start, nm, ⟨#[]⟩, sortP acc, false⟩, e1 + 1, true) w 6 7 8 w.heap.size A ac rfl rfl rfl rfl (set5_blk HL5.out _ _ _ _ _) (isAttrs_move HAT.out (set5_below (B := 0) (Nat.zero_le _) _ _ _ _ _).size fun p hp => set5_other ?_ _ _ _ _ _) (HB5.out.trans (set5_below (Nat.le_refl _) _ _ _ _ _)) (fun p hp => by have := (HI4.out.row.lt p.block (by rw [hp]; rfl)).1; have := HI4.out.ord; omega)
      have := (HI4.out.row.lt p.block (by rw [hp]; rfl)).1
      have := HI4.out.ord
      omega
    have q1 : ((s[e1].toNat : Int) == 62) = false := by rw [← hbk, beq_eq_false_iff_ne]; omega
    have HAT := Lib.hid (attr_calls s HS.out e1 hlt)
    cases h5 : attrP s e1 with
    | none =>
      rw [h5] at HAT
      have HV := Lib.hid (HTN.out (HEQ.out.trans (attrsK_3 HK.out he1 c1 c2 h5)))
      unfold attrRet at HAT
      clear c1 c2 hbk he1 h5
      go_wp2_with fail
      refine (HAT.out _).mono ?_
      rintro e' w5 ⟨rfl, hb5⟩
      have HI5 := Lib.hid (HI4.out.keep hb5)
      obtain ⟨b0, b1, b2, b3, b4⟩ := tbox5 HI5.out.res
      obtain ⟨f0, f1, f2, f3, f4⟩ := tfrz5 HI5.out.res
      clear hb5
      go_wp2_with fail
      rw [HV.out]
      exact tok_post (tok0, s.size, false) w 6 7 8 w.heap.size none 0 rfl rfl rfl rfl (set5_blk HI5.out.res _ _ _ _ _) (isAttrs_nil _ _) (HI5.out.bel.trans (set5_below (Nat.le_refl _) _ _ _ _ _)) (fun _ h => nomatch h)
    | some r =>
      obtain ⟨an, av, ak⟩ := r
      rw [h5] at HAT
      have HV := Lib.hid (HEQ.out.trans (attrsK_4 HK.out he1 c1 c2 h5))
      have HBD := Lib.hid (attrP_bd hlt h5)
      have HSZ := Lib.hid (attrP_sizes h5)
      unfold attrRet at HAT
      clear c1 c2 hbk he1 h5
      go_wp2_with fail
      refine (HAT.out _).mono ?_
      rintro e' w5 ⟨rfl, hb5⟩
      have HI5 := Lib.hid (HI4.out.keep hb5)
      clear hb5
      have han := small4 (n := an.size) (by have := HSZ.out; have := HS.out; omega)
      have hav := small4 (n := av.size) (by have := HSZ.out; have := HS.out; omega)
      obtain ⟨nn, hnn, hown⟩ := HI5.out.map
      have hlk := Ss.get hown an han
      have HNO := Lib.hid (fun h => @accN_no start acc an av h)
      have HYES := Lib.hid (fun h => @accN_yes start acc an av h)
      have HHX := Lib.hid (fun h => HA.out.snoc (k' := ak) (n := an) (v := av) (by have := HBD.out; omega) HSZ.out h)
      have HA2 := Lib.hid (HA.out.mono (k' := ak) (by have := HBD.out; omega))
      have HKK := Lib.hid (show k < ak by have := HBD.out; omega)
      have HOWN := Lib.hid hown
      have HNN := Lib.hid hnn
      have HAN := Lib.hid han
      have HAV := Lib.hid hav
      generalize (Ss.lookP acc an).getD ByteArray.empty = gd at *
      clear han hav hown hnn
      cases hsome : (Ss.lookP acc an).isSome with
      | true =>
        rw [hsome] at hlk
        have HVV := Lib.hid (HV.out.trans (by rw [HNO.out (by rw [hsome]; cases start <;> rfl)]))
        clear hsome HNO HYES HHX h3 h4
        go_wp2_with fail
        go_roundw
        case rel => exact ⟨ak, acc, v, Lib.hid HBD.out.2, rfl, HVV, HI5, HA2⟩
        case measure => simp [intOf]; have := HKK.out; have := HBD.out; omega
      | false =>
        rw [hsome] at hlk
        by_cases hst : start = false
        · have HVV := Lib.hid (HV.out.trans (by rw [HNO.out (by rw [hst]; rfl)]))
          have hkq : (kindOf start == 1) = false := by rw [kind_eq, hst]
          clear hst hsome HNO HYES HHX h3 h4
          go_wp2_with fail
          go_roundw
          case rel => exact ⟨ak, acc, v, Lib.hid HBD.out.2, rfl, HVV, HI5, HA2⟩
          case measure => simp [intOf]; have := HKK.out; have := HBD.out; omega
        · have hst2 : start = true := by cases start <;> simp_all
          have HVV := Lib.hid (HV.out.trans (by rw [HYES.out (by rw [hst2, hsome]; rfl)]))
          have HA3 := Lib.hid (HHX.out hsome)
          have hkq : (kindOf start == 1) = true := by rw [kind_eq, hst2]
          obtain ⟨w6, hput, hown6, hg6⟩ := Ss.put HOWN.out an av HAN.out HAV.out (by rw [HNN.out]; have := HA.out.len; have := HK.out; have := HS.out; show _ < 9223372036854775807; omega)
          have hv6 : some tb ≠ some mb := by have := HI5.out.ord; intro e; injection e with e; omega
          have d3 : w6.cell? ⟨tb, 3, none⟩ = some v := (World.cell?_of_block (a := ⟨tb, 3, none⟩) (hg6.block tb (by have := HI5.out.ord; omega) hv6)).trans (tbox5 HI5.out.tok).2.2.2.1
          have hrow6 : (w6.alloc (.cells #[.string an, .string av] 30)).ownsRow (mb + 1) 30 2 v acc.length (cellsA2 acc) := by
            refine ⟨HI5.out.row.1, ?_⟩
            rcases HI5.out.row.2 with h2 | ⟨g, cap, cur, h1, h5, h6, h7⟩
            · exact .inl h2
            · refine .inr ⟨g, cap, cur, h1, h5, alloc_old ((hg6.block g (lt_of_block h6) (fun e => by injection e with e; omega)).trans h6) _, h7⟩
          have HROW := Lib.hid hrow6
          have HN2 : Hid (∀ j u, ([.string an, .string av] : List Value)[j]? = some u → (w6.alloc (.cells #[.string an, .string av] 30)).cell? ((⟨w6.heap.size, 0, none⟩ : Addr).add j) = some u) := Lib.hid fun j u hj => by
            have ha : (⟨w6.heap.size, 0, none⟩ : Addr).add j = ⟨w6.heap.size, j, none⟩ := by unfold Addr.add; split <;> simp_all
            rw [ha, block_cell (alloc_new w6 _)]
            simpa using hj
          have HONE : Hid (∀ u ∈ ([.string an, .string av] : List Value), u.oneCell' = true) := Lib.hid fun u hu => by
            simp at hu
            rcases hu with rfl | rfl <;> rfl
          have HO6 := Lib.hid hown6
          have HG6 := Lib.hid hg6
          have hln : acc.length ≤ 1000000 := by have := HA.out.len; have := HK.out; have := HS.out; omega
          have hmb6 : mb + 1 ≤ w6.heap.size := by have := HI5.out.ord; have := hg6.size; omega
          obtain ⟨i0, hi, hz0, hz1, hz2⟩ := info_parts attr_info2
          clear hst hst2 hsome HNO HYES HHX h3 h4 HA2 hown6 hg6 hv6 hrow6
          go_wp2_with (at_builtin; refine wpList_append_own_at _ rfl (.tmp 72) (.tmp 76) 25 rfl (mb + 1) 30 i0 _ 2 32 Tryz.underlying25 hi hz0 hz1 hz2 rfl (by decide) _ _ _ rfl HROW.out ⟨w6.heap.size, 0, none⟩ 1 1 [.string an, .string av] rfl rfl HN2.out HONE.out (by unfold maxLen; omega) (by omega) (by simp; omega) ?_)
          intro v' w8 g1 g2 _ g3
          obtain ⟨ao, n', cap, rfl⟩ : ∃ ao n' cap, v' = .slice ao n' cap := by
            rcases g1.2 with ⟨hv, _⟩ | ⟨g, cap, cur, hv, _⟩
            · exact ⟨_, _, _, hv⟩
            · exact ⟨_, _, _, hv⟩
          have hlen8 : (acc ++ [(an, av)]).length = acc.length + 1 := by simp
          have HI8 := Lib.hid (HI5.out.push (HNN.out ▸ HO6.out) HG6.out g1 g2)
          have hs6 := HG6.out.size
          have hs8 := g2.size
          have ho := HI5.out.ord
          have hv5 : ∀ k, k ≤ mb → some k ≠ v.ownBlock := fun k hk e => by have := (HI5.out.row.lt k e.symm).1; omega
          have ht8 : w8.heap[tb]? = some (.cells #[.int .i64 (kindOf start), .string nm, .string ⟨#[]⟩, v, .bool false] 27 (0, 0)) :=
            (g2.block tb (by simp; omega) (hv5 tb (by omega))).trans ((Below.heap_alloc w6 _ tb (by omega)).trans ((HG6.out.block tb (by omega) (fun e => by injection e with e; omega)).trans HI5.out.tok))
          have d8 : w8.cell? ⟨tb, 3, none⟩ = some v := (tbox5 ht8).2.2.2.1
          have f8 : w8.frozen? ⟨tb, 3, none⟩ = false := (tfrz5 ht8).2.2.2.1
          clear g1 g2 g3 hs6 hs8 ho hv5 ht8 hlen8
          go_wp2_with fail
          go_roundw
          case rel => exact ⟨ak, acc ++ [(an, av)], .slice ao n' cap, Lib.hid HBD.out.2, rfl, HVV, HI8, HA3⟩
          case measure => simp [intOf]; have := HKK.out; have := HBD.out; omega
end Go.Proofs.YtbdgoffbkenofaaGreat.Tk
namespace Go.Proofs
open Go Go.Shelf
def Tryz.sortL_ren : Go.Shelf.Ren := ⟨fun | 6 => 90 | 15 => 111 | 14 => 110 | 28 => 132 | 29 => 133 | 20 => 81 | 21 => 125 | 22 => 126 | 23 => 127 | 24 => 128 | 25 => 129 | 26 => 130 | 27 => 131 | 46 => 137 | 47 => 138 | 48 => 139 | 49 => 140 | 50 => 141 | 57 => 148 | n => n, fun | 22 => 25 | 24 => 30 | 25 => 59 | 3 => 3 | 39 => 112 | 0 => 0 | 53 => 106 | 55 => 145 | 4 => 4 | 46 => 137 | 45 => 136 | 50 => 141 | 5 => 5 | 9 => 9 | 66 => 149 | 70 => 153 | 76 => 170 | 77 => 116 | n => n, fun | n => n⟩
theorem Tryz.sortL : Go.Proofs.SlLaysF0.n6 Tryz.prog Tryz.sortL_ren := {
  mixed := by kernel_rfl
  f6 := ⟨Tryz.f90.name, by decide, Tryz.func90.trans (congrArg some (by kernel_rfl))⟩
  f14 := ⟨Tryz.f110.name, by decide, Tryz.func110.trans (congrArg some (by kernel_rfl))⟩
  f15 := Tryz.func111.trans (congrArg some (by kernel_rfl))
  f20 := ⟨Tryz.f81.name, by decide, Tryz.func81.trans (congrArg some (by kernel_rfl))⟩
  f21 := ⟨Tryz.f125.name, by decide, Tryz.func125.trans (congrArg some (by kernel_rfl))⟩
  f22 := ⟨Tryz.f126.name, by decide, Tryz.func126.trans (congrArg some (by kernel_rfl))⟩
  f23 := ⟨Tryz.f127.name, by decide, Tryz.func127.trans (congrArg some (by kernel_rfl))⟩
  f24 := ⟨Tryz.f128.name, by decide, Tryz.func128.trans (congrArg some (by kernel_rfl))⟩
  f25 := ⟨Tryz.f129.name, by decide, Tryz.func129.trans (congrArg some (by kernel_rfl))⟩
  f26 := ⟨Tryz.f130.name, by decide, Tryz.func130.trans (congrArg some (by kernel_rfl))⟩
  f27 := ⟨Tryz.f131.name, by decide, Tryz.func131.trans (congrArg some (by kernel_rfl))⟩
  f28 := Tryz.func132.trans (congrArg some (by kernel_rfl))
  f29 := Tryz.func133.trans (congrArg some (by kernel_rfl))
  f46 := ⟨Tryz.f137.name, by decide, Tryz.func137.trans (congrArg some (by kernel_rfl))⟩
  f47 := Tryz.func138.trans (congrArg some (by kernel_rfl))
  f48 := Tryz.func139.trans (congrArg some (by kernel_rfl))
  f49 := ⟨Tryz.f140.name, by decide, Tryz.func140.trans (congrArg some (by kernel_rfl))⟩
  f50 := ⟨Tryz.f141.name, by decide, Tryz.func141.trans (congrArg some (by kernel_rfl))⟩
  f57 := ⟨Tryz.f148.name, by decide, Tryz.func148.trans (congrArg some (by kernel_rfl))⟩
  t0 := Tryz.underlying0
  a0 := Tryz.isAgg0
  z0 := Tryz.sizeOf0
  v0 := Tryz.zeroValue0
  t3 := Tryz.underlying3
  a3 := Tryz.isAgg3
  z3 := Tryz.sizeOf3
  v3 := Tryz.zeroValue3
  t4 := Tryz.underlying4
  a4 := Tryz.isAgg4
  z4 := Tryz.sizeOf4
  v4 := Tryz.zeroValue4
  t5 := Tryz.underlying5
  a5 := Tryz.isAgg5
  z5 := Tryz.sizeOf5
  v5 := Tryz.zeroValue5
  t9 := Tryz.underlying9
  a9 := Tryz.isAgg9
  z9 := Tryz.sizeOf9
  v9 := Tryz.zeroValue9
  t22 := Tryz.underlying25
  a22 := Tryz.isAgg25
  z22 := Tryz.sizeOf25
  v22 := Tryz.zeroValue25
  t25 := Tryz.underlying59
  a25 := Tryz.isAgg59
  z25 := Tryz.sizeOf59
  v25 := Tryz.zeroValue59
  t39 := Tryz.underlying112
  a39 := Tryz.isAgg112
  z39 := Tryz.sizeOf112
  v39 := Tryz.zeroValue112
  t45 := Tryz.underlying136
  a45 := Tryz.isAgg136
  z45 := Tryz.sizeOf136
  v45 := Tryz.zeroValue136
  t46 := Tryz.underlying137
  a46 := Tryz.isAgg137
  z46 := Tryz.sizeOf137
  v46 := Tryz.zeroValue137
  t50 := Tryz.underlying141
  a50 := Tryz.isAgg141
  z50 := Tryz.sizeOf141
  v50 := Tryz.zeroValue141
  t53 := Tryz.underlying106
  a53 := Tryz.isAgg106
  z53 := Tryz.sizeOf106
  v53 := Tryz.zeroValue106
  t55 := Tryz.underlying145
  a55 := Tryz.isAgg145
  z55 := Tryz.sizeOf145
  v55 := Tryz.zeroValue145
  t66 := Tryz.underlying149
  a66 := Tryz.isAgg149
  z66 := Tryz.sizeOf149
  v66 := Tryz.zeroValue149
  t70 := Tryz.underlying153
  a70 := Tryz.isAgg153
  z70 := Tryz.sizeOf153
  v70 := Tryz.zeroValue153
  t76 := Tryz.underlying170
  a76 := Tryz.isAgg170
  z76 := Tryz.sizeOf170
  v76 := Tryz.zeroValue170
  t77 := Tryz.underlying116
  a77 := Tryz.isAgg116
  z77 := Tryz.sizeOf116
  v77 := Tryz.zeroValue116 }
end Go.Proofs
namespace Go.Proofs.YtbdgoffbkenofaaGreat.Tk
open Go Go.RowKit Go.Shelf Go.Sort Go.Proofs.YtbdgoffbkenofaaGreat.Tr
set_option linter.unusedVariables false
set_option maxRecDepth 100000

abbrev At := ByteArray × ByteArray
instance : Inhabited At := ⟨(⟨#[]⟩, ⟨#[]⟩)⟩
def encAt (x : At) : List Value := [.string x.1, .string x.2]
def cfAt (x y : At) : Int := Lib.compareBytes x.1.data.toList y.1.data.toList
theorem cmp_less : ∀ a b : List UInt8, decide (Lib.compareBytes a b < 0) = Op.bytesLess a b
  | [], [] => rfl
  | [], y :: ys => rfl
  | x :: xs, [] => rfl
  | x :: xs, y :: ys => by
    have ih := cmp_less xs ys
    unfold Lib.compareBytes Op.bytesLess
    by_cases h1 : x < y
    · simp [h1]
    · by_cases h2 : y < x
      · have h3 : x ≠ y := fun e => by subst e; exact h1 h2
        simp [h1, h2, h3]
      · have h3 : x = y := UInt8.le_antisymm (UInt8.not_lt.1 h2) (UInt8.not_lt.1 h1)
        subst h3
        simp [h1]
        simpa using ih
theorem ltAt (x y : At) : ltOf cfAt x y = decide (x.1.data.toList < y.1.data.toList) := by
  unfold ltOf cfAt; rw [cmp_less, bytesLess_eq]
theorem swoAt : SWO (ltOf cfAt) where
  irrefl x := by rw [ltAt]; simp
  trans x y z h1 h2 := by rw [ltAt] at *; simp at *; exact List.lt_trans h1 h2
  ntrans x y z h1 h2 := by
    rw [ltAt] at *; simp at *
    exact List.le_trans h2 h1
set_option maxHeartbeats 2000000 in
theorem closure_cmp (x y : At) (W : World) : Calls Tryz.prog 91 #[.agg #[.string x.1, .string x.2], .agg #[.string y.1, .string y.2]] W fun e w' => e = .returned (.int .i64 (cfAt x y)) ∧ ∃ q os', w' = grow (W.drewN q) os' := by
  have hcon := fun W' => Any.strings_Compare lays106 x.1 y.1 W'
  change ∀ W', Calls Tryz.prog 32 _ _ _ at hcon
  unfold cfAt
  generalize Lib.compareBytes x.1.data.toList y.1.data.toList = r at hcon ⊢
  go_enter Tryz.func91, Tryz.ntmps91
  go_wp2_with (go_at_call 32; refine (hcon _).mono ?_; rintro e w' ⟨rfl, rfl⟩)
  go_ret
  exact ⟨rfl, 0, _, by rw [alloc_eq_grow, alloc_eq_grow, grow_grow]; rfl⟩
theorem cells_flat : ∀ (acc : List At) (j : Nat), j < acc.length * 2 → (cellsA2 acc)[j]? = some ((encAt acc[j / 2]!)[j % 2]!)
  | [], j, h => by simp at h
  | x :: r, 0, h => rfl
  | x :: r, 1, h => rfl
  | x :: r, j + 2, h => by
    have ih := cells_flat r j (by simp at h; omega)
    have e : cellsA2 (x :: r) = .string x.1 :: .string x.2 :: cellsA2 r := rfl
    rw [e, show (j + 2) / 2 = j / 2 + 1 by omega, show (j + 2) % 2 = j % 2 by omega]
    simpa using ih
theorem holds_at {W : World} {g : Nat} {cur : Array Value} {acc : List At} (hl : (cellsA2 acc).length = acc.length * 2) (hb : W.heap[g]? = some (.cells cur 30 (0, 0))) (hx : cur.toList.take (acc.length * 2) = cellsA2 acc) : HoldsK encAt 2 W g 0 acc.toArray := by
  intro j hj
  rw [size_flatK] at hj
  have hj' : j < acc.length * 2 := by simpa using hj
  rw [get_flatK encAt 2 _ j hj]
  refine ⟨?_, Lib.frozen_of_heap hb _⟩
  rw [block_cell hb, Nat.zero_add]
  have h := cells_flat acc j hj'
  rw [← hx, List.getElem?_take_of_lt hj'] at h
  rw [← Array.getElem?_toList, h]
  simp
theorem uniq_at {acc : List At} {d' : Array At} (hp : PermIn 0 acc.toArray.size acc.toArray d') (hs : SortedIn (ltOf cfAt) 0 acc.toArray.size d') (hu : acc.Pairwise fun x y => x.1 ≠ y.1) : d'.toList = sortP acc := by
  obtain ⟨p1, _, p3⟩ := hp
  have e1 : (d'.extract 0 acc.toArray.size) = d' := by rw [← p1]; simp
  have e2 : (acc.toArray.extract 0 acc.toArray.size) = acc.toArray := by simp
  rw [e1, e2] at p3
  have p3' : d'.toList.Perm acc := by simpa using p3
  have q : (sortP acc).Perm acc := List.mergeSort_perm _ _
  have hle : ∀ x y : At, leB x.1 y.1 = true ↔ ¬ y.1.data.toList < x.1.data.toList := fun x y => by
    unfold leB; rw [bytesLess_eq]; simp
  refine List.Perm.eq_of_pairwise (le := fun x y : At => leB x.1 y.1 = true) ?_ ?_ ?_ (p3'.trans q.symm)
  · intro a b ha hb h1 h2
    have ha' := p3'.mem_iff.1 ha
    have hb' := q.mem_iff.1 hb
    rw [hle] at h1 h2
    have e : a.1.data.toList = b.1.data.toList := List.le_antisymm (List.not_lt.1 h1) (List.not_lt.1 h2)
    have e' : a.1 = b.1 := Ss.bytes_eq.1 e
    obtain ⟨i, hi, rfl⟩ := List.getElem_of_mem ha'
    obtain ⟨j, hj, rfl⟩ := List.getElem_of_mem hb'
    rcases Nat.lt_trichotomy i j with h | h | h
    · exact absurd e' (List.pairwise_iff_getElem.1 hu i j hi hj h)
    · subst h; rfl
    · exact absurd e'.symm (List.pairwise_iff_getElem.1 hu j i hj hi h)
  · rw [List.pairwise_iff_getElem]
    intro i j hi hj hij
    have h := hs i j (Nat.zero_le _) hij (by rw [← p1]; simpa using hj)
    rw [ltAt] at h
    rw [hle]
    simp only [decide_eq_false_iff_not] at h
    rw [getElem!_pos d' i (by simpa using hi), getElem!_pos d' j (by simpa using hj)] at h
    simpa using h
  · refine List.pairwise_mergeSort ?_ ?_ acc
    · intro a b c h1 h2
      rw [hle] at *
      exact fun h => absurd (List.le_trans (List.not_lt.1 h1) (List.not_lt.1 h2)) (List.not_le.2 h)
    · intro a b
      rw [Bool.or_eq_true, hle, hle]
      rcases List.le_total a.1.data.toList b.1.data.toList with h | h
      · exact .inl (List.not_lt.2 h)
      · exact .inr (List.not_lt.2 h)
theorem sorted_block (W : World) (g n : Nat) (d : Array At) (os : Array Obj) (k : Nat) (hk : k < W.heap.size) (hne : k ≠ g) : (sortWorldK encAt 2 W g 0 n d os).heap[k]? = W.heap[k]? := by
  show ((W.heap.modify g _) ++ os)[k]? = _
  rw [Array.getElem?_append_left (by simpa using hk), Array.getElem?_modify, if_neg (fun e => hne e.symm)]
theorem sorts_attrs : SortsAttrs := by
  intro acc v W R hlen hsz huni hrow
  rcases hrow.2 with ⟨hv, hnil⟩ | ⟨g, cap, cur, hv, hg, hblk, hc1, hc2, hc3, hx⟩
  · have h0 : acc = [] := List.eq_nil_of_length_eq_zero hnil
    subst h0; subst hv
    refine (AnyF.slices_SortFunc_none Tryz.sortL none 0 (.func (.func 91) #[] #[]) W).mono ?_
    rintro e w' ⟨he, rfl⟩
    exact ⟨he, Fr.refl _ _ _, none, 0, rfl, by rw [show sortP [] = [] from List.mergeSort_nil]; exact isAttrs_nil _ _⟩
  · subst hv
    have hgl := lt_of_block hblk
    have hH := holds_at hrow.1 hblk hx
    have eg : ∀ args w, (callFunc 91 args).run Tryz.prog w = .ok (.enter 91 args) w := enters_of Tryz.func91 (by kernel_rfl) rfl
    have hcon := AnyQ.slices_SortFunc Tryz.sortL 2 Tryz.isAgg30 Tryz.sizeOf30 encAt (fun _ => rfl) (fun x u hu => by simp [encAt] at hu; rcases hu with rfl | rfl <;> rfl) cfAt swoAt 91 #[] g 0 cap acc.toArray W eg (fun _ _ _ _ x y => closure_cmp x y _) hH hgl (by simp; omega)
    refine Calls.mono hcon ?_
    rintro e w' ⟨he, d', n, os, hp, hs, rfl⟩
    have hd := uniq_at hp hs huni
    have hd2 : d'.size = acc.toArray.size := hp.1
    have hH2 := holdsK_sortWorldK encAt 2 W g 0 n acc.toArray d' os hgl hH hd2
    have hsize : W.heap.size ≤ (sortWorldK encAt 2 W g 0 n d' os).heap.size := size_sortWorldK_c encAt 2 W g 0 n d' os
    refine ⟨he, ⟨rfl, rfl, rfl, hsize, fun k hk hne => sorted_block W g n d' os k hk (fun e => hne (by rw [e]; rfl))⟩, some ⟨g, 0, none⟩, cap, rfl, ?_⟩
    refine ⟨by rw [sortP_len]; exact hc1, hc2, fun x hx' => ?_, fun _ => ⟨g, 0, rfl, Nat.lt_of_lt_of_le hgl hsize, fun i x hi => ?_⟩⟩
    · have := hsz x ((List.mergeSort_perm acc _).mem_iff.1 hx')
      exact ⟨small4 this.1, small4 this.2⟩
    · rw [← hd] at hi
      have hi' : d'[i]? = some x := by rw [← Array.getElem?_toList]; exact hi
      obtain ⟨hlt, hget⟩ := Array.getElem?_eq_some_iff.1 hi'
      have hb1 : i * 2 < d'.size * 2 := by omega
      have hb2 : i * 2 + 1 < d'.size * 2 := by omega
      have a1 := (hH2 (i * 2) (by rw [size_flatK]; exact hb1)).1
      have a2 := (hH2 (i * 2 + 1) (by rw [size_flatK]; exact hb2)).1
      rw [get_flatK encAt 2 d' _ hb1, show i * 2 / 2 = i by omega, show i * 2 % 2 = 0 by omega, getElem!_pos d' i hlt, hget] at a1
      rw [get_flatK encAt 2 d' _ hb2, show (i * 2 + 1) / 2 = i by omega, show (i * 2 + 1) % 2 = 1 by omega, getElem!_pos d' i hlt, hget, Nat.zero_add] at a2
      exact ⟨a1, by rw [Nat.zero_add]; exact a2⟩
end Go.Proofs.YtbdgoffbkenofaaGreat.Tk
namespace Go.Proofs.YtbdgoffbkenofaaGreat.Tr
open Go Go.RowKit
set_option linter.unusedVariables false

def cellsA (al : List (ByteArray × ByteArray)) : List Value := al.flatMap fun x => [.string x.1, .string x.2]
theorem cellsA_length : ∀ al, (cellsA al).length = al.length * 2
  | [] => rfl
  | x :: xs => by have := cellsA_length xs; simp [cellsA] at this ⊢; omega
theorem cellsA_at : ∀ (al : List (ByteArray × ByteArray)) (i : Nat) (x : ByteArray × ByteArray), al[i]? = some x → (cellsA al)[i * 2]? = some (.string x.1) ∧ (cellsA al)[i * 2 + 1]? = some (.string x.2)
  | [], i, x, h => by simp at h
  | y :: ys, 0, x, h => by simp at h; subst h; simp [cellsA]
  | y :: ys, i + 1, x, h => by
    have := cellsA_at ys i x (by simpa using h)
    have e : cellsA (y :: ys) = .string y.1 :: .string y.2 :: cellsA ys := by simp [cellsA]
    rw [e, show (i + 1) * 2 = i * 2 + 1 + 1 by omega, show i * 2 + 1 + 1 + 1 = (i * 2 + 1) + 1 + 1 by omega]
    simpa using this
theorem cellsA_of : ∀ (al : List (ByteArray × ByteArray)) (j : Nat) (u : Value), (cellsA al)[j]? = some u → ∃ i x, al[i]? = some x ∧ ((j = i * 2 ∧ u = .string x.1) ∨ (j = i * 2 + 1 ∧ u = .string x.2))
  | [], j, u, h => by simp [cellsA] at h
  | y :: ys, 0, u, h => by simp [cellsA] at h; exact ⟨0, y, rfl, .inl ⟨rfl, h.symm⟩⟩
  | y :: ys, 1, u, h => by simp [cellsA] at h; exact ⟨0, y, rfl, .inr ⟨rfl, h.symm⟩⟩
  | y :: ys, j + 2, u, h => by
    have e : cellsA (y :: ys) = .string y.1 :: .string y.2 :: cellsA ys := by simp [cellsA]
    rw [e] at h
    obtain ⟨i, x, hx, h2⟩ := cellsA_of ys j u (by simpa using h)
    exact ⟨i + 1, x, by simpa using hx, h2.imp (fun ⟨a, b⟩ => ⟨by omega, b⟩) (fun ⟨a, b⟩ => ⟨by omega, b⟩)⟩
theorem attr_info : (Tryz.prog.info? 30).map (fun i => (i.zero, i.size, i.bytes)) = some (some (.agg #[.string ByteArray.empty, .string ByteArray.empty]), 2, 32) := by kernel_rfl
theorem isAttrs_row {w : World} {B0 g cap : Nat} {al : List (ByteArray × ByteArray)} (hrow : w.ownsRow B0 30 2 (.slice (some ⟨g, 0, none⟩) al.length cap) al.length (cellsA al)) (hb : ∀ a ∈ al, a.1.size ≤ maxLen ∧ a.2.size ≤ maxLen) : IsAttrs w w.heap.size al (some ⟨g, 0, none⟩) cap := by
  have hg := (hrow.lt g rfl).2
  have hc := hrow.cells (g := g) rfl
  rcases hrow.2 with ⟨h1, _⟩ | ⟨g', cap', cur, h1, h5, h6, h7, h8, _⟩
  · cases h1
  · injection h1 with h1a h1b h1c
    subst h1c
    refine ⟨h7, h8, hb, fun _ => ⟨g, 0, rfl, hg, fun i x hx => ?_⟩⟩
    obtain ⟨e0, e1⟩ := cellsA_at al i x hx
    have a0 := hc _ _ e0
    have a1 := hc _ _ e1
    rw [add_flat] at a0 a1
    exact ⟨a0, by rw [Nat.add_assoc]; exact a1⟩
def CloneEnd (al : List (ByteArray × ByteArray)) (w : World) (e : Ending) (w' : World) : Prop :=
  ∃ v, e = .returned v ∧ w'.ownsRow w.heap.size 30 2 v al.length (cellsA al) ∧ Below w.heap.size w w'
set_option maxHeartbeats 2000000 in
set_option maxRecDepth 100000 in
theorem clone_calls (al : List (ByteArray × ByteArray)) (A : Option Addr) (ac B : Nat) (w : World) (h : IsAttrs w B al A ac) (hB : B ≤ w.heap.size) (hl : al.length ≤ 1000000) :
    Calls Tryz.prog 29 #[.slice A al.length ac] w (CloneEnd al w) := by
  obtain ⟨h1, h2, h3, h4⟩ := h
  cases A with
  | none =>
    have hnil : al = [] := by
      cases al with
      | nil => rfl
      | cons x xs => obtain ⟨b, off, e, _⟩ := h4 (by simp); cases e
    subst hnil
    clear h4
    have heq := fun (w : World) (a : Option Addr) (l c : Nat) => Lib.run_eql_slice_nil (P := Tryz.prog) w 25 30 a l c 0 0 Tryz.underlying25
    go_enter Tryz.func29, Tryz.ntmps29
    go_wp2_with fail
    go_ret
    exact ⟨_, rfl, ⟨rfl, .inl ⟨rfl, rfl⟩⟩, Below.refl _ _⟩
  | some ad =>
    have hnews : ∀ j u, (cellsA al)[j]? = some u → w.cell? (ad.add j) = some u := by
      intro j u hj
      obtain ⟨i, x, hx, h5⟩ := cellsA_of al j u hj
      obtain ⟨b, off, e, _, hc⟩ := h4 (by rintro rfl; simp at hx)
      injection e with e
      subst e
      rw [add_flat]
      rcases h5 with ⟨rfl, rfl⟩ | ⟨rfl, rfl⟩
      · exact (hc i x hx).1
      · rw [← Nat.add_assoc]; exact (hc i x hx).2
    have HN := Lib.hid hnews
    have H3 := Lib.hid h3
    clear h3 h4 hnews
    obtain ⟨i0, hi, hz0, hz1, hz2⟩ := info_parts attr_info
    unfold maxLen at h2
    have heq := fun (w : World) (a : Option Addr) (l c : Nat) => Lib.run_eql_slice_nil (P := Tryz.prog) w 25 30 a l c 0 0 Tryz.underlying25
    go_enter Tryz.func29, Tryz.ntmps29
    have HROW : Hid ((w.alloc (.cells #[] 30)).ownsRow w.heap.size 30 2 (.slice (some ⟨w.heap.size, 0, none⟩) 0 0) 0 []) := Lib.hid ⟨rfl, .inr ⟨_, 0, _, rfl, Nat.le_refl _, alloc_new w _, Nat.le_refl _, by unfold maxLen; omega, rfl, rfl⟩⟩
    have HN2 : Hid (∀ j u, (cellsA al)[j]? = some u → (w.alloc (.cells #[] 30)).cell? (ad.add j) = some u) := Lib.hid fun j u hj => by
      have h := HN.out j u hj
      rw [World.cell?_of_block (Below.heap_alloc w _ _ (cell_lt h).1)]; exact h
    have HONE : Hid (∀ u ∈ cellsA al, u.oneCell' = true) := Lib.hid fun u hu => by
      obtain ⟨x, _, hx⟩ := List.mem_flatMap.1 hu
      simp at hx
      rcases hx with rfl | rfl <;> rfl
    have HLEN : Hid ((cellsA al).length = al.length * 2) := Lib.hid (cellsA_length al)
    go_wp2_with (at_builtin; refine wpList_append_own_at _ rfl (.tmp 5) (.tmp 6) 25 rfl w.heap.size 30 i0 _ 2 32 Tryz.underlying25 hi hz0 hz1 hz2 rfl (by decide) _ _ _ rfl HROW.out ad al.length ac (cellsA al) rfl HLEN.out HN2.out HONE.out (by unfold maxLen; omega) (by omega) (by simp) ?_)
    intro v' w2 g1 g2 _ g3
    have hbel : Below w.heap.size w w2 := ((Below.refl _ w).alloc (Nat.le_refl _) _).grown g2 (by simp) fun k hk => by
      injection hk with hk
      have e : w.heap.size = k := hk
      omega
    have hblk : ∃ g cap, v' = .slice (some ⟨g, 0, none⟩) al.length cap ∧ w.heap.size ≤ g := by
      rcases g1.2 with ⟨e, _⟩ | ⟨g, cap, cur, e, hg, _⟩
      · exfalso
        rw [e] at g3
        rcases g3 with g3 | g3 <;> cases g3
      · exact ⟨g, cap, e, hg⟩
    obtain ⟨g, cap, rfl, hg⟩ := hblk
    have HRW := Lib.hid g1
    have HBel := Lib.hid hbel
    clear g1 g2 g3 hbel
    go_wp2_with fail
    go_ret
    exact ⟨_, rfl, HRW.out, HBel.out⟩
theorem run_append_nn {P : Program} {w : World} (t ty e : TypeId) (i : TypeInfo) (c : Nat) (ht : P.underlying t = some (.slice e)) (hi : P.info? e = some i) :
    (Builtin.append_ #[t, t] ty #[.slice none 0 0, .slice none 0 c]).run P w = .ok (.slice none 0 0) w := by
  simp [Builtin.append_, run_underlying ht, sizeOf, typeInfo, hi, Builtin.lenOf, Builtin.firstCells]
theorem wpList_append_nn {P : Program} {w : World} {ops : Array Oper} {rest : List Oper} {o : Oper} {a : Act} {Q : Exit → Act → World → Prop} (hgd : o.guard = none) (s x : Operand) (t : TypeId)
    (ho : o.op = .call { callee := .builtin .append, args := #[s, x], argTypes := #[t, t] })
    (e : TypeId) (i : TypeInfo) (c : Nat) (ht : P.underlying t = some (.slice e)) (hi : P.info? e = some i)
    (hs : a.eval s = .slice none 0 0) (hx : a.eval x = .slice none 0 c)
    (h : wpList P ops Q rest (a.put o.dst (.slice none 0 0)) w) : wpList P ops Q (o :: rest) a w := by
  refine wpList_plain hgd fun K hK => ?_
  have hrun := run_append_nn (P := P) (w := w) t o.type e i c ht hi
  unfold Oper.wp
  simp [execOp, ho, resolve, invoke, builtin, hs, hx, hrun, Result.andThen]
  exact hK _ _ h
/-- What a copy of attributes is. -/
def AttrCp (B : Nat) (al : List (ByteArray × ByteArray)) (v : Value) (W : World) : Prop :=
  ∃ A ac, v = .slice A al.length ac ∧ IsAttrs W W.heap.size al A ac ∧ ((A = none ∧ al = []) ∨ ∃ g cur, A = some ⟨g, 0, none⟩ ∧ B ≤ g ∧ W.heap[g]? = some (.cells cur 30 (0, 0)))
def AttrEnd (al : List (ByteArray × ByteArray)) (w : World) (e : Ending) (w' : World) : Prop := ∃ v, e = .returned v ∧ AttrCp w.heap.size al v w' ∧ Below w.heap.size w w'
set_option maxHeartbeats 2000000 in
set_option maxRecDepth 100000 in
theorem attrs_calls (al : List (ByteArray × ByteArray)) (A : Option Addr) (ac B : Nat) (w : World) (h : IsAttrs w B al A ac) (hB : B ≤ w.heap.size) (hl : al.length ≤ 1000000) :
    Calls Tryz.prog 21 #[.slice A al.length ac] w (AttrEnd al w) := by
  obtain ⟨h1, h2, h3, h4⟩ := h
  obtain ⟨i0, hi, hz0, hz1, hz2⟩ := info_parts attr_info
  cases A with
  | none =>
    have hnil : al = [] := by
      cases al with
      | nil => rfl
      | cons x xs => obtain ⟨b, off, e, _⟩ := h4 (by simp); cases e
    subst hnil
    clear h4
    go_enter Tryz.func21, Tryz.ntmps21
    go_wp2_with (at_builtin; refine wpList_append_nn rfl (.const (.slice none 0 0)) (.tmp 3) 25 rfl 30 i0 ac Tryz.underlying25 hi rfl rfl ?_)
    go_ret
    exact ⟨_, rfl, ⟨none, 0, rfl, ⟨Nat.le_refl _, by unfold maxLen; omega, fun a h => by simp at h, fun h => absurd rfl h⟩, .inl ⟨rfl, rfl⟩⟩, Below.refl _ _⟩
  | some ad =>
    by_cases hal : al = []
    · subst hal
      have HN2 : Hid (∀ (j : Nat) u, ([] : List Value)[j]? = some u → w.cell? (ad.add j) = some u) := Lib.hid fun j u hj => by simp at hj
      have HROW : Hid (w.ownsRow w.heap.size 30 2 (.slice none 0 0) 0 []) := Lib.hid ⟨rfl, .inl ⟨rfl, rfl⟩⟩
      clear h3 h4
      go_enter Tryz.func21, Tryz.ntmps21
      go_wp2_with (at_builtin; refine wpList_append_own_at _ rfl (.const (.slice none 0 0)) (.tmp 3) 25 rfl w.heap.size 30 i0 _ 2 32 Tryz.underlying25 hi hz0 hz1 hz2 rfl (by decide) _ _ _ rfl HROW.out ad 0 ac [] rfl rfl HN2.out (by simp) (by unfold maxLen; omega) (by omega) (Nat.le_refl _) ?_)
      intro v' w2 g1 g2 g3
      intros
      subst g3
      have HB : Hid (Below w.heap.size w w2) := Lib.hid ((Below.refl _ w).grown g2 (Nat.le_refl _) fun k hk => by cases hk)
      clear g1 g2
      go_wp2_with fail
      go_ret
      exact ⟨_, rfl, ⟨none, 0, rfl, ⟨Nat.le_refl _, by unfold maxLen; omega, fun a h => by simp at h, fun h => absurd rfl h⟩, .inl ⟨rfl, rfl⟩⟩, HB.out⟩
    · have hnews : ∀ j u, (cellsA al)[j]? = some u → w.cell? (ad.add j) = some u := by
        intro j u hj
        obtain ⟨i, x, hx, h5⟩ := cellsA_of al j u hj
        obtain ⟨b, off, e, _, hc⟩ := h4 hal
        injection e with e
        subst e
        rw [add_flat]
        rcases h5 with ⟨rfl, rfl⟩ | ⟨rfl, rfl⟩
        · exact (hc i x hx).1
        · rw [← Nat.add_assoc]; exact (hc i x hx).2
      have HN := Lib.hid hnews
      have H3 := Lib.hid h3
      have hpos : 0 < al.length := List.length_pos_iff.2 hal
      have HNE := Lib.hid hal
      clear h3 h4 hnews hal
      unfold maxLen at h2
      have HROW : Hid (w.ownsRow w.heap.size 30 2 (.slice none 0 0) 0 []) := Lib.hid ⟨rfl, .inl ⟨rfl, rfl⟩⟩
      have HONE : Hid (∀ u ∈ cellsA al, u.oneCell' = true) := Lib.hid fun u hu => by
        obtain ⟨x, _, hx⟩ := List.mem_flatMap.1 hu
        simp at hx
        rcases hx with rfl | rfl <;> rfl
      have HLEN : Hid ((cellsA al).length = al.length * 2) := Lib.hid (cellsA_length al)
      go_enter Tryz.func21, Tryz.ntmps21
      go_wp2_with (at_builtin; refine wpList_append_own_at _ rfl (.const (.slice none 0 0)) (.tmp 3) 25 rfl w.heap.size 30 i0 _ 2 32 Tryz.underlying25 hi hz0 hz1 hz2 rfl (by decide) _ _ _ rfl HROW.out ad al.length ac (cellsA al) rfl HLEN.out HN.out HONE.out (by unfold maxLen; omega) (by omega) (Nat.le_refl _) ?_)
      intro v' w2 g1 g2 g3 g4
      have hbel : Below w.heap.size w w2 := (Below.refl _ w).grown g2 (Nat.le_refl _) fun k hk => by cases hk
      have hblk : ∃ g cap cur, v' = .slice (some ⟨g, 0, none⟩) al.length cap ∧ w.heap.size ≤ g ∧ w2.heap[g]? = some (.cells cur 30 (0, 0)) := by
        rcases g1.2 with ⟨e, _⟩ | ⟨g, cap, cur, e, hg, hcur, _⟩
        · exfalso
          exact HNE.out (g3.1 e)
        · exact ⟨g, cap, cur, e, hg, hcur⟩
      obtain ⟨g, cap, cur, rfl, hg, hcur⟩ := hblk
      have HCUR := Lib.hid hcur
      clear hcur
      have HA := Lib.hid (isAttrs_row g1 H3.out)
      have HBel := Lib.hid hbel
      have hg2 := (g1.lt g rfl).2
      clear g1 g2 g3 g4 hbel
      go_wp2_with fail
      go_ret
      exact ⟨_, rfl, ⟨_, _, rfl, HA.out, .inr ⟨g, cur, rfl, hg, HCUR.out⟩⟩, HBel.out⟩
end Go.Proofs.YtbdgoffbkenofaaGreat.Tr
namespace Go.Proofs.YtbdgoffbkenofaaGreat.Tk
open Go Go.RowKit Go.Proofs.YtbdgoffbkenofaaGreat.Tr
set_option linter.unusedVariables false
set_option maxRecDepth 100000

theorem below_drewN {B : Nat} {a w : World} (h : Below B a w) (n : Nat) : Below B a (w.drewN n) := ⟨h.os, h.tape, h.output, h.size, h.block⟩
theorem isAttrs_below {w w' : World} {al : List (ByteArray × ByteArray)} {A : Option Addr} {ac : Nat} (h : IsAttrs w w.heap.size al A ac) (hb : Below w.heap.size w w') : IsAttrs w' w'.heap.size al A ac :=
  h.keep (fun p hp => hb.cell hp) hb.size
/-- One attribute's cells. -/
theorem isAttrs_at {w : World} {al : List (ByteArray × ByteArray)} {A : Option Addr} {ac : Nat} (h : IsAttrs w w.heap.size al A ac) {j : Nat} {x : ByteArray × ByteArray} (hx : al[j]? = some x) :
    ∃ g off, A = some ⟨g, off, none⟩ ∧ g < w.heap.size ∧ w.cell? ⟨g, off + j * 2, none⟩ = some (.string x.1) ∧ w.cell? ⟨g, off + j * 2 + 1, none⟩ = some (.string x.2) := by
  obtain ⟨h1, h2, h3, h4⟩ := h
  obtain ⟨g, off, e, hg, hc⟩ := h4 (fun e => by rw [e] at hx; cases hx)
  exact ⟨g, off, e, hg, hc j x hx⟩
set_option maxHeartbeats 4000000 in
theorem same_attrs (al bl : List (ByteArray × ByteArray)) (A B : Option Addr) (ac bc : Nat) (w : World) (hN : al.length ≤ 1000000) (hA : IsAttrs w w.heap.size al A ac) (hB : IsAttrs w w.heap.size bl B bc) :
    Calls Tryz.prog 19 #[.slice A al.length ac, .slice B bl.length bc] w fun e w' => e = .returned (.bool (decide (al = bl))) ∧ Below w.heap.size w w' := by
  by_cases hl : al.length = bl.length
  case neg =>
    have hz : ((al.length : Int) != (bl.length : Int)) = true := by simp; omega
    have HR := Lib.hid (decide_eq_false (show ¬ al = bl from fun e => hl (by rw [e])))
    clear hl
    go_enter Tryz.func19, Tryz.ntmps19
    go_wp2_with fail
    go_ret
    exact ⟨by rw [HR.out]; rfl, Below.refl _ _⟩
  case pos =>
    have HL := Lib.hid hl
    have HA := Lib.hid hA
    have HB := Lib.hid hB
    have hz : ((al.length : Int) != (bl.length : Int)) = false := by rw [hl]; simp
    clear hA hB hl
    go_enter Tryz.func19, Tryz.ntmps19
    go_wp2_with fail
    go_loopw [5] (fun i wr => ∃ j : Nat, Hid (j ≤ al.length) ∧ i = .int .i64 (j : Int) ∧ Hid (∀ k, k < j → al[k]? = bl[k]?) ∧ Hid (Below w.heap.size w wr)) (fun i _ => al.length - (intOf i).toNat)
    case atStart => exact ⟨0, Lib.hid (Nat.zero_le _), rfl, Lib.hid (fun k hk => absurd hk (Nat.not_lt_zero _)), Lib.hid (Below.refl _ _)⟩
    case round =>
      obtain ⟨j, HJ, rfl, HE, HW⟩ := hrel
      rcases Nat.lt_or_ge j al.length with hlt | hge
      · have hx : al[j]? = some al[j] := List.getElem?_eq_getElem hlt
        have hy : bl[j]? = some (bl[j]'(by have := HL.out; omega)) := List.getElem?_eq_getElem _
        obtain ⟨ga, oa, rfl, hga, a0, a1⟩ := isAttrs_at (isAttrs_below HA.out HW.out) hx
        obtain ⟨gb, ob, rfl, hgb, b0, b1⟩ := isAttrs_at (isAttrs_below HB.out HW.out) hy
        generalize al[j] = x at *
        generalize bl[j]'(by have := HL.out; omega) = y at *
        have hjl : (j : Int) < (al.length : Int) := by omega
        have hjl2 : (j : Int) < (bl.length : Int) := by have := HL.out; omega
        have HX := Lib.hid hx
        have HY := Lib.hid hy
        have HLT := Lib.hid hlt
        by_cases e1 : x.1 = y.1
        · have q1 := (Sr.str_eq x.1 y.1).trans (decide_eq_true e1)
          by_cases e2 : x.2 = y.2
          · have q2 := (Sr.str_eq x.2 y.2).trans (decide_eq_true e2)
            have HE2 : Hid (∀ k, k < j + 1 → al[k]? = bl[k]?) := Lib.hid (fun k hk => by
              rcases Nat.lt_or_ge k j with h | h
              · exact HE.out k h
              · obtain rfl : k = j := by omega
                rw [HX.out, HY.out, Prod.ext e1 e2])
            clear e1 e2 hx hy
            go_wp2_with fail
            go_quiet (fail)
            go_wp2_with fail
            go_roundw
            case rel => exact ⟨j + 1, Lib.hid HLT.out, by go_num, HE2, Lib.hid (below_drewN HW.out _)⟩
            case measure => simp [intOf]; have := HLT.out; omega
          · have q2 := (Sr.str_eq x.2 y.2).trans (decide_eq_false e2)
            have HR := Lib.hid (decide_eq_false (show ¬ al = bl from fun e => e2 (by have h := HX.out; rw [e, HY.out] at h; injection h with h; rw [h])))
            clear e1 e2 hx hy
            go_wp2_with fail
            go_quiet (fail)
            go_wp2_with fail
            go_ret
            exact ⟨by rw [HR.out]; rfl, below_drewN HW.out _⟩
        · have q1 := (Sr.str_eq x.1 y.1).trans (decide_eq_false e1)
          have HR := Lib.hid (decide_eq_false (show ¬ al = bl from fun e => e1 (by have h := HX.out; rw [e, HY.out] at h; injection h with h; rw [h])))
          clear e1 hx hy
          go_wp2_with fail
          go_quiet (fail)
          go_wp2_with fail
          go_ret
          exact ⟨by rw [HR.out]; rfl, below_drewN HW.out _⟩
      · have hjl : ¬ (j : Int) < (al.length : Int) := by omega
        have HR := Lib.hid (decide_eq_true (show al = bl from List.ext_getElem? fun k => by
          rcases Nat.lt_or_ge k j with h | h
          · exact HE.out k h
          · rw [List.getElem?_eq_none (by omega), List.getElem?_eq_none (by have := HL.out; omega)]))
        go_wp2_with fail
        go_ret
        exact ⟨by rw [HR.out]; rfl, HW.out⟩
/-- A piece's value. -/
def tokV (o : Tok) (A : Option Addr) (ac : Nat) : Value := .agg #[.int .i64 o.kind, .string o.name, .string o.text, .slice A o.attrs.length ac, .bool o.raw]
theorem tok_ext {a b : Tok} : a = b ↔ a.kind = b.kind ∧ a.name = b.name ∧ a.text = b.text ∧ a.raw = b.raw ∧ a.attrs = b.attrs := by
  cases a; cases b; simp
  intro _ _ _
  exact And.comm
set_option maxHeartbeats 8000000 in
theorem same_token (a b : Tok) (A B : Option Addr) (ac bc : Nat) (w : World) (hN : a.attrs.length ≤ 1000000) (hA : IsAttrs w w.heap.size a.attrs A ac) (hB : IsAttrs w w.heap.size b.attrs B bc) :
    Calls Tryz.prog 13 #[tokV a A ac, tokV b B bc] w fun e w' => e = .returned (.bool (decide (a = b))) ∧ Below w.heap.size w w' := by
  have HSA : Hid (∀ W, Below w.heap.size w W → Calls Tryz.prog 19 #[.slice A a.attrs.length ac, .slice B b.attrs.length bc] W fun e w' => e = .returned (.bool (decide (a.attrs = b.attrs))) ∧ Below W.heap.size W w') :=
    Lib.hid fun W hW => same_attrs _ _ A B ac bc W hN (isAttrs_below hA hW) (isAttrs_below hB hW)
  have HT := Lib.hid (@tok_ext a b)
  have g0 := ((Below.refl _ w).alloc (Nat.le_refl _) (.cells #[.int .i64 a.kind, .string a.name, .string a.text, .slice A a.attrs.length ac, .bool a.raw] 27)).alloc (by simp) (.cells #[.int .i64 b.kind, .string b.name, .string b.text, .slice B b.attrs.length bc, .bool b.raw] 27)
  have g1 := alloc_old (alloc_new w (.cells #[.int .i64 a.kind, .string a.name, .string a.text, .slice A a.attrs.length ac, .bool a.raw] 27)) (.cells #[.int .i64 b.kind, .string b.name, .string b.text, .slice B b.attrs.length bc, .bool b.raw] 27)
  have g2 := alloc_new (w.alloc (.cells #[.int .i64 a.kind, .string a.name, .string a.text, .slice A a.attrs.length ac, .bool a.raw] 27)) (.cells #[.int .i64 b.kind, .string b.name, .string b.text, .slice B b.attrs.length bc, .bool b.raw] 27)
  rw [World.size_alloc] at g2
  unfold tokV
  clear hN hA hB
  have q0 : (a.kind == b.kind) = decide (a.kind = b.kind) := by rw [Bool.eq_iff_iff]; simp
  have q1 : (a.name.toList == b.name.toList) = decide (a.name = b.name) := by rw [Sr.str_eq, Bool.eq_iff_iff]; simp only [decide_eq_true_eq]
  have q2 : (a.text.toList == b.text.toList) = decide (a.text = b.text) := by rw [Sr.str_eq, Bool.eq_iff_iff]; simp only [decide_eq_true_eq]
  have q3 : (a.raw == b.raw) = decide (a.raw = b.raw) := by cases a.raw <;> cases b.raw <;> rfl
  have HR : Hid (decide (a = b) = (decide (a.kind = b.kind) && decide (a.name = b.name) && decide (a.text = b.text) && decide (a.raw = b.raw) && decide (a.attrs = b.attrs))) := Lib.hid (by
    rw [Bool.eq_iff_iff]
    simp only [Bool.and_eq_true, decide_eq_true_eq, HT.out]
    constructor
    · rintro ⟨h1, h2, h3, h4, h5⟩; exact ⟨⟨⟨⟨h1, h2⟩, h3⟩, h4⟩, h5⟩
    · rintro ⟨⟨⟨⟨h1, h2⟩, h3⟩, h4⟩, h5⟩; exact ⟨h1, h2, h3, h4, h5⟩)
  rw [HR.out]
  clear HR HT
  generalize decide (a.kind = b.kind) = e0 at *
  generalize decide (a.name = b.name) = e1 at *
  generalize decide (a.text = b.text) = e2 at *
  generalize decide (a.raw = b.raw) = e3 at *
  generalize decide (a.attrs = b.attrs) = e4 at *
  obtain ⟨c0, c1, c2, c3, c4⟩ := tbox5 g1
  obtain ⟨d0, d1, d2, d3, d4⟩ := tbox5 g2
  have G0 := Lib.hid g0
  clear g0 g1 g2
  go_enter Tryz.func13, Tryz.ntmps13
  cases e0 <;> cases e1 <;> cases e2 <;> cases e3 <;> (
    go_wp2_with (go_at_call 19; refine (HSA.out _ G0.out).mono ?_; rintro e w' ⟨rfl, hb⟩; have HB := Lib.hid (G0.out.trans (hb.mono G0.out.size)); clear hb)
    go_ret
    first | exact ⟨rfl, HB.out⟩ | exact ⟨rfl, G0.out⟩)
end Go.Proofs.YtbdgoffbkenofaaGreat.Tk
