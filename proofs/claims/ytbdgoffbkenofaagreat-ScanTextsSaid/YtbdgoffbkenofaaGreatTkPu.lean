/- token: plain: a tag with attributes read. -/
import Derived.Test.YtbdgoffbkenofaaGreatTkPt
namespace Go.Proofs.YtbdgoffbkenofaaGreat.Tk
open Go Go.RowKit
set_option linter.unusedVariables false

def atC (c : Chk) : ByteArray × ByteArray := (c.nm, c.v)
/-- What stands behind the attributes: nothing, or a blank and the tag's end. -/
def tailB : ByteArray := ⟨#[32, 62, 98]⟩
def tailN : ByteArray := ⟨#[]⟩
theorem blk_gap {c : Nat} (h : blkN c = true) : (!blankN c && !decide (c = 47)) = false := by
  unfold blkN at h
  cases hb : blankN c <;> rw [hb] at h <;> simp_all
/-- All attributes read, one behind the other. -/
theorem attrs_chk (start : Bool) (t : ByteArray) (ht : t = tailB ∨ t = tailN) : ∀ (cs : List Chk) (s : ByteArray) (n : Nat) (acc : List (ByteArray × ByteArray)), (∀ c ∈ cs, ChkOk c) →
    (srcC s cs ++ t).size + 1 - s.size ≤ n → (acc ++ cs.map atC).Pairwise (fun x y => x.1 ≠ y.1) →
    attrsP (srcC s cs ++ t) start n s.size acc = (if t = tailB then some ((if start then acc ++ cs.map atC else acc), (srcC s cs).size + 1) else none)
  | [], s, n, acc, _, hn, _ => by
    have e : srcC s [] = s := rfl
    rw [e] at hn ⊢
    have H := has_r s t
    cases n with
    | zero => rw [ByteArray.size_append] at hn; omega
    | succ n =>
      rcases ht with rfl | rfl
      · have z : tailB.size = 3 := rfl
        have zs : (s ++ tailB).size = s.size + 3 := by rw [ByteArray.size_append, z]
        have b1 : upT (fun c => !blankN c && !decide (c = 47)) (s ++ tailB) s.size = s.size + 1 := upT_eq (by omega) (by omega) (fun j h1 h2 => by
          obtain rfl : j = s.size := by omega
          rw [H.one (i := 0) (by decide) (by omega)]; decide) (fun _ => by rw [H.one (i := 1) (by decide) (by omega)]; decide)
        unfold attrsP
        dsimp only
        rw [b1, if_neg (by omega), if_pos ((H.one (i := 1) (by decide) rfl).trans (by decide)), if_pos rfl]
        simp
      · have zs : (s ++ tailN).size = s.size := by rw [ByteArray.size_append]; rfl
        have b1 : upT (fun c => !blankN c && !decide (c = 47)) (s ++ tailN) s.size = s.size := upT_end (by omega)
        unfold attrsP
        dsimp only
        rw [b1, if_pos (by omega), if_neg (by decide)]
  | c :: cs, s, n, acc, hok, hn, hu => by
    have e : srcC s (c :: cs) = srcC (stepC s c) cs := rfl
    have hc := hok c (List.mem_cons_self ..)
    have H := stands_src s c cs t
    have hsz := stepC_size s c
    have hmono : (stepC s c).size ≤ (srcC (stepC s c) cs).size := by
      have := (Has.src (has_l (stepC s c) ⟨#[]⟩) cs).le
      have e0 : stepC s c ++ (⟨#[]⟩ : ByteArray) = stepC s c := by apply Sr.bytes_eq.1; simp
      rw [e0] at this; omega
    have hend : (stepC s c).size < (srcC (stepC s c) cs ++ t).size → blankN (bAt (srcC (stepC s c) cs ++ t) (stepC s c).size) = true := fun hlt => by
      cases cs with
      | nil =>
        have T := has_r (stepC s c) t
        have e1 : srcC (stepC s c) [] = stepC s c := rfl
        rw [e1] at hlt ⊢
        rcases ht with rfl | rfl
        · rw [T.one (i := 0) (by decide) (by omega)]; decide
        · rw [ByteArray.size_append] at hlt; exact absurd hlt (by show ¬ _ < _ + 0; omega)
      | cons d ds =>
        have D := stands_src (stepC s c) d ds t
        have hd := hok d (by simp)
        have e1 : srcC (stepC s c) (d :: ds) = srcC (stepC (stepC s c) d) ds := rfl
        rw [e1, D.a.one (i := 0) hd.s0 (by omega)]
        exact hd.s1
    rw [e] at hn ⊢
    have h0 := hc.s0
    have hn0 := hc.n0
    have hz := H.r.le
    have hA := attr_chk hc H (m := (stepC s c).size) (by omega) hend
    cases n with
    | zero => omega
    | succ n =>
      have b1 : upT (fun c => !blankN c && !decide (c = 47)) (srcC (stepC s c) cs ++ t) s.size = s.size + c.sep.size := upT_eq (by omega) (by omega) (fun j h1 h2 => by
          rw [H.a.one (i := j - s.size) (by omega) (by omega)]
          exact blk_gap (hc.s2 _ (by omega))) (fun _ => by rw [H.b.one (i := 0) (by omega) (by omega), hc.n1]; decide)
      have h62 : bAt (srcC (stepC s c) cs ++ t) (s.size + c.sep.size) ≠ 62 := by
        rw [H.b.one (i := 0) (by omega) (by omega), hc.n1]; decide
      have ih := attrs_chk start t ht cs (stepC s c) n (if start then acc ++ [atC c] else acc) (fun d hd => hok d (List.mem_cons_of_mem _ hd)) (by omega) (by
        cases start with
        | true => rw [if_pos rfl]; simpa using hu
        | false =>
          rw [if_neg (by decide)]
          refine hu.sublist ?_
          exact List.Sublist.append_left (List.sublist_cons_self _ _) _)
      unfold attrsP
      dsimp only
      rw [b1, if_neg (by omega), if_neg h62, hA]
      dsimp only
      have hacc : (if (start && !hasName acc c.nm) = true then acc ++ [(c.nm, c.v)] else acc) = (if start = true then acc ++ [atC c] else acc) := by
        cases start with
        | false => rfl
        | true =>
          have : hasName acc c.nm = false := by
            unfold hasName
            rw [List.any_eq_false]
            intro x hx
            rw [List.pairwise_append] at hu
            have := hu.2.2 x hx (atC c) (by simp)
            simpa [atC] using this
          rw [this]; rfl
      rw [hacc, ih]
      cases start with
      | true => simp [atC]
      | false => rfl
/-- A tag's name that has no sign that ends it. -/
structure NameOk (n : ByteArray) : Prop where
  pos : 0 < n.size
  let_ : letterN (bAt n 0) = true
  ok : ∀ i, i < n.size → closesN (bAt n i) = false ∧ lowN (bAt n i) = bAt n i ∧ bAt n i ≠ 34 ∧ bAt n i ≠ 39 ∧ bAt n i ≠ 60 ∧ bAt n i ≠ 61
def leAt (x y : ByteArray × ByteArray) : Bool := leB x.1 y.1
theorem sort_own {l : List (ByteArray × ByteArray)} (h : l.Pairwise fun x y => leB x.1 y.1 = true) : sortP l = l := List.mergeSort_of_pairwise h
def preB (start : Bool) : ByteArray := if start then ⟨#[60]⟩ else ⟨#[60, 47]⟩
theorem closes_blank {c : Nat} (h : blankN c = true) : closesN c = true := by unfold closesN; rw [h]; rfl
/-- The two readings of TokenTags. -/
theorem tags (start : Bool) {n : ByteArray} (hn : NameOk n) {cs : List Chk} (hok : ∀ c ∈ cs, ChkOk c) (hu : (cs.map atC).Pairwise (fun x y => x.1 ≠ y.1)) (hs : (cs.map atC).Pairwise fun x y => leB x.1 y.1 = true) :
    nextP (srcC (preB start ++ n) cs ++ tailB) 0 ⟨#[]⟩ = (⟨if start then 1 else 2, n, ⟨#[]⟩, if start then cs.map atC else [], false⟩, (srcC (preB start ++ n) cs).size + 2, true) ∧
    nextP (srcC (preB start ++ n) cs ++ tailN) 0 ⟨#[]⟩ = (tok0, (srcC (preB start ++ n) cs).size, false) := by
  have key : ∀ t, t = tailB ∨ t = tailN → nextP (srcC (preB start ++ n) cs ++ t) 0 ⟨#[]⟩ = tagP (srcC (preB start ++ n) cs ++ t) (preB start).size start ∧
      upT closesN (srcC (preB start ++ n) cs ++ t) (preB start).size = (preB start ++ n).size ∧ namedP ((srcC (preB start ++ n) cs ++ t).extract (preB start).size (preB start ++ n).size) = n := by
    intro t ht
    have P := (Has.src (has_l (preB start) n) cs).l t
    have N := (Has.src (has_r (preB start) n) cs).l t
    have hz := N.le
    have hp := hn.pos
    have zs : (preB start ++ n).size = (preB start).size + n.size := ByteArray.size_append
    have hend : (preB start ++ n).size < (srcC (preB start ++ n) cs ++ t).size → closesN (bAt (srcC (preB start ++ n) cs ++ t) (preB start ++ n).size) = true := fun hlt => by
      cases cs with
      | nil =>
        have T := has_r (preB start ++ n) t
        have e1 : srcC (preB start ++ n) [] = preB start ++ n := rfl
        rw [e1] at hlt ⊢
        rcases ht with rfl | rfl
        · rw [T.one (i := 0) (by decide) (by omega)]; decide
        · rw [ByteArray.size_append (a := preB start ++ n)] at hlt; exact absurd hlt (by show ¬ _ < _ + 0; omega)
      | cons d ds =>
        have D := stands_src (preB start ++ n) d ds t
        have hd := hok d (by simp)
        have e1 : srcC (preB start ++ n) (d :: ds) = srcC (stepC (preB start ++ n) d) ds := rfl
        rw [e1, D.a.one (i := 0) hd.s0 (by omega)]
        exact closes_blank hd.s1
    refine ⟨?_, ?_, ?_⟩
    · cases start with
      | true =>
        have z : (preB true).size = 1 := rfl
        rw [z] at N hz ⊢
        exact next_start ((P.one (i := 0) (by decide) rfl).trans (by decide)) (letter_at.2 ⟨by omega, by rw [N.one (i := 0) hp (by omega)]; exact hn.let_⟩)
      | false =>
        have z : (preB false).size = 2 := rfl
        rw [z] at N hz ⊢
        exact next_close ((P.one (i := 0) (by decide) rfl).trans (by decide)) ((P.one (i := 1) (by decide) rfl).trans (by decide)) (letter_at.2 ⟨by omega, by rw [N.one (i := 0) hp (by omega)]; exact hn.let_⟩)
    · refine upT_eq (by omega) (by omega) (fun j h1 h2 => ?_) hend
      rw [N.one (i := j - (preB start).size) (by omega) (by omega)]
      exact (hn.ok _ (by omega)).1
    · rw [zs, N.ext]
      exact named_plain rfl (fun i hi => (hn.ok i hi).2.1) (fun i hi => (hn.ok i hi).2.2)
  have hat := fun t ht => attrs_chk start t ht cs (preB start ++ n) ((srcC (preB start ++ n) cs ++ t).size + 1 - (preB start ++ n).size) [] hok (Nat.le_refl _) (by simpa using hu)
  constructor
  · obtain ⟨k1, k2, k3⟩ := key tailB (.inl rfl)
    rw [k1]
    unfold tagP
    dsimp only
    rw [k2, hat tailB (.inl rfl), if_pos rfl, k3]
    cases start with
    | true =>
      show ((⟨1, n, ⟨#[]⟩, sortP ([] ++ cs.map atC), false⟩, (srcC (preB true ++ n) cs).size + 1 + 1, true) : Out) = _
      rw [List.nil_append, sort_own hs]; rfl
    | false =>
      show ((⟨2, n, ⟨#[]⟩, sortP [], false⟩, (srcC (preB false ++ n) cs).size + 1 + 1, true) : Out) = _
      rw [show sortP [] = [] from List.mergeSort_nil]; rfl
  · obtain ⟨k1, k2, k3⟩ := key tailN (.inr rfl)
    rw [k1]
    unfold tagP
    dsimp only
    rw [k2, hat tailN (.inr rfl), if_neg (by decide)]
    show ((tok0, (srcC (preB start ++ n) cs ++ tailN).size, false) : Out) = _
    rw [ByteArray.size_append (b := tailN)]; rfl
end Go.Proofs.YtbdgoffbkenofaaGreat.Tk
