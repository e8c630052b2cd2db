/- token: plain: a piece of a source. -/
import Derived.Test.YtbdgoffbkenofaaGreatDec
import Derived.Test.YtbdgoffbkenofaaGreatTkLow
namespace Go.Proofs.YtbdgoffbkenofaaGreat.Tk
open Go Go.RowKit
set_option linter.unusedVariables false

/-- The first place from i on, n at most, that is so. -/
def upI (q : Nat → Bool) : Nat → Nat → Nat
  | 0, i => i
  | n + 1, i => if q i then i else upI q n (i + 1)
theorem upI_zero (q : Nat → Bool) (i : Nat) : upI q 0 i = i := rfl
theorem upI_here {q : Nat → Bool} {n i : Nat} (h : q i = true) : upI q (n + 1) i = i := by unfold upI; rw [if_pos h]
theorem upI_next {q : Nat → Bool} {n i : Nat} (h : q i = false) : upI q (n + 1) i = upI q n (i + 1) := by
  conv => lhs; unfold upI
  rw [if_neg (by rw [h]; decide)]
theorem upI_ge (q : Nat → Bool) : ∀ n i, i ≤ upI q n i
  | 0, i => Nat.le_refl _
  | n + 1, i => by
    unfold upI
    split
    · exact Nat.le_refl _
    · have := upI_ge q n (i + 1); omega
theorem upI_le (q : Nat → Bool) : ∀ n i, upI q n i ≤ i + n
  | 0, i => Nat.le_refl _
  | n + 1, i => by
    unfold upI
    split
    · omega
    · have := upI_le q n (i + 1); omega
theorem upI_at (q : Nat → Bool) : ∀ n i, upI q n i < i + n → q (upI q n i) = true
  | 0, i, h => by rw [upI_zero] at h; omega
  | n + 1, i, h => by
    cases hq : q i with
    | true => rw [upI_here hq]; exact hq
    | false => rw [upI_next hq] at h ⊢; exact upI_at q n (i + 1) (by omega)
theorem upI_before (q : Nat → Bool) : ∀ n i j, i ≤ j → j < upI q n i → q j = false
  | 0, i, j, h1, h2 => by rw [upI_zero] at h2; omega
  | n + 1, i, j, h1, h2 => by
    cases hq : q i with
    | true => rw [upI_here hq] at h2; omega
    | false =>
      rw [upI_next hq] at h2
      rcases Nat.eq_or_lt_of_le h1 with rfl | h3
      · exact hq
      · exact upI_before q n (i + 1) j h3 h2
theorem upI_eq {q : Nat → Bool} {n i m : Nat} (h1 : i ≤ m) (h2 : m ≤ i + n) (h3 : ∀ j, i ≤ j → j < m → q j = false) (h4 : m < i + n → q m = true) : upI q n i = m := by
  rcases Nat.lt_trichotomy (upI q n i) m with h | h | h
  · have := upI_at q n i (by omega)
    rw [h3 _ (upI_ge q n i) h] at this; cases this
  · exact h
  · have := upI_before q n i m h1 h
    have h5 := upI_le q n i
    rw [h4 (by omega)] at this; cases this
def bAt (s : ByteArray) (i : Nat) : Nat := if h : i < s.size then s[i].toNat else 0
theorem bAt_in {s : ByteArray} {i : Nat} (h : i < s.size) : bAt s i = s[i].toNat := by unfold bAt; rw [dif_pos h]
theorem bAt_lt (s : ByteArray) (i : Nat) : bAt s i < 256 := by
  unfold bAt
  split
  · exact UInt8.toNat_lt _
  · decide
/-- The first place from a on whose byte is so; the end, if there is none. -/
def upT (p : Nat → Bool) (s : ByteArray) (a : Nat) : Nat := upI (fun i => p (bAt s i)) (s.size - a) a
theorem upT_ge (p : Nat → Bool) (s : ByteArray) (a : Nat) : a ≤ upT p s a := upI_ge _ _ _
theorem upT_le (p : Nat → Bool) {s : ByteArray} {a : Nat} (h : a ≤ s.size) : upT p s a ≤ s.size := by have := upI_le (fun i => p (bAt s i)) (s.size - a) a; unfold upT; omega
theorem upT_at {p : Nat → Bool} {s : ByteArray} {a : Nat} (h : upT p s a < s.size) (ha : a ≤ s.size) : p (bAt s (upT p s a)) = true := upI_at (fun i => p (bAt s i)) (s.size - a) a (by unfold upT at h; omega)
theorem upT_end {p : Nat → Bool} {s : ByteArray} {a : Nat} (h : s.size ≤ a) : upT p s a = a := by unfold upT; rw [show s.size - a = 0 by omega]; rfl
theorem upT_here {p : Nat → Bool} {s : ByteArray} {a : Nat} (h : a < s.size) (hp : p (bAt s a) = true) : upT p s a = a := by
  unfold upT; rw [show s.size - a = (s.size - (a + 1)) + 1 by omega]; exact upI_here hp
theorem upT_next {p : Nat → Bool} {s : ByteArray} {a : Nat} (h : a < s.size) (hp : p (bAt s a) = false) : upT p s a = upT p s (a + 1) := by
  unfold upT; rw [show s.size - a = (s.size - (a + 1)) + 1 by omega]; exact upI_next hp
def blankN (c : Nat) : Bool := decide (c = 9 ∨ c = 10 ∨ c = 12 ∨ c = 32)
def letterN (c : Nat) : Bool := decide ((97 ≤ c ∧ c ≤ 122) ∨ (65 ≤ c ∧ c ≤ 90))
def closesN (c : Nat) : Bool := blankN c || decide (c = 47) || decide (c = 62)
def lowS (s : ByteArray) : ByteArray := ⟨(Ru.lower s.data.toList).toArray⟩
theorem lowS_size (s : ByteArray) : (lowS s).size = s.size := by show (Ru.lower s.data.toList).toArray.size = _; simp [Ru.lower]
def startsP (s : ByteArray) (a : Nat) (t : ByteArray) : Bool := decide (a + t.size ≤ s.size) && decide (lowS (s.extract a (a + t.size)) = lowS t)
def pastP (s : ByteArray) (a : Nat) : Nat := upT (fun c => !blankN c) s a
def rawOk (s raw : ByteArray) (i : Nat) : Bool := startsP s i ((⟨#[60, 47]⟩ : ByteArray) ++ raw) && decide (i + 2 + raw.size < s.size) && closesN (bAt s (i + 2 + raw.size))
def rawEndP (s : ByteArray) (a : Nat) (raw : ByteArray) : Nat := upI (rawOk s raw) (s.size - a) a
structure Tok where
  kind : Int
  name : ByteArray
  text : ByteArray
  attrs : List (ByteArray × ByteArray)
  raw : Bool
deriving DecidableEq
abbrev Out := Tok × Nat × Bool
def tok0 : Tok := ⟨0, ⟨#[]⟩, ⟨#[]⟩, [], false⟩
def textTok (t : ByteArray) (raw : Bool) : Tok := ⟨3, ⟨#[]⟩, t, [], raw⟩
def commTok (t : ByteArray) : Tok := ⟨4, ⟨#[]⟩, t, [], false⟩
def letterAt (s : ByteArray) (i : Nat) : Bool := decide (i < s.size) && letterN (bAt s i)
def closedEnd (s : ByteArray) (a : Nat) : Nat := upT (fun c => decide (c = 62)) s a
def bogusP (s : ByteArray) (a : Nat) : Out := (commTok (s.extract a (closedEnd s a)), min (closedEnd s a + 1) s.size, true)
def doctypeP (s : ByteArray) (a : Nat) : Out :=
  let b := pastP s a
  let e := upT (fun c => blankN c || decide (c = 62)) s b
  (⟨5, lowS (s.extract b e), ⟨#[]⟩, [], false⟩, min (closedEnd s e + 1) s.size, true)
def hasSuf (s p : ByteArray) : Bool := decide (p.size ≤ s.size) && decide (s.extract (s.size - p.size) s.size = p)
def cEnd1 (r : ByteArray) (i : Nat) : Bool := Sr.hasPre (r.extract i r.size) ⟨#[45, 45, 62]⟩
def cEnd2 (r : ByteArray) (i : Nat) : Bool := Sr.hasPre (r.extract i r.size) ⟨#[45, 45, 33, 62]⟩
def commentP (s : ByteArray) (a : Nat) : Out :=
  let r := s.extract a s.size
  if Sr.hasPre r ⟨#[62]⟩ then (commTok ⟨#[]⟩, a + 1, true)
  else if Sr.hasPre r ⟨#[45, 62]⟩ then (commTok ⟨#[]⟩, a + 2, true)
  else
    let i := upI (fun i => cEnd1 r i || cEnd2 r i) r.size 0
    if i < r.size then (commTok (r.extract 0 i), a + i + (if cEnd1 r i then 3 else 4), true)
    else (commTok (if hasSuf r ⟨#[45, 45, 33]⟩ then r.extract 0 (r.size - 3) else if hasSuf r ⟨#[45, 45]⟩ then r.extract 0 (r.size - 2) else if hasSuf r ⟨#[45]⟩ then r.extract 0 (r.size - 1) else r), s.size, true)
def nameB (c : UInt8) : UInt8 := if c = 34 ∨ c = 39 ∨ c = 60 ∨ c = 61 then 95 else c
/-- What counts as a name. -/
def namedP (s : ByteArray) : ByteArray := ⟨((Ru.lower s.data.toList).map nameB).toArray⟩
theorem namedP_size (s : ByteArray) : (namedP s).size = s.size := by show ((Ru.lower s.data.toList).map nameB).toArray.size = _; simp [Ru.lower]
/-- An attribute: its name, its value, the place behind it; nothing, if the source ends in it. -/
def attrP (s : ByteArray) (a : Nat) : Option (ByteArray × ByteArray × Nat) :=
  let e := upT (fun c => closesN c || decide (c = 61)) s (a + 1)
  let name := namedP (s.extract a e)
  let n1 := pastP s e
  if s.size ≤ n1 ∨ bAt s n1 ≠ 61 then some (name, ⟨#[]⟩, n1)
  else
    let n2 := pastP s (n1 + 1)
    if s.size ≤ n2 then none
    else if bAt s n2 = 34 ∨ bAt s n2 = 39 then
      let e2 := upT (fun c => decide (c = bAt s n2)) s (n2 + 1)
      if s.size ≤ e2 then none else some (name, Ch.decB (s.extract (n2 + 1) e2) true, e2 + 1)
    else
      let e2 := upT (fun c => blankN c || decide (c = 62)) s n2
      some (name, Ch.decB (s.extract n2 e2) true, e2)
def hasName (l : List (ByteArray × ByteArray)) (n : ByteArray) : Bool := l.any fun x => decide (x.1 = n)
/-- A tag's attributes from a place on, in the order in which they stand, and where it ends. -/
def attrsP (s : ByteArray) (start : Bool) : Nat → Nat → List (ByteArray × ByteArray) → Option (List (ByteArray × ByteArray) × Nat)
  | 0, _, _ => none
  | n + 1, e, acc =>
    let e1 := upT (fun c => !blankN c && !decide (c = 47)) s e
    if s.size ≤ e1 then none
    else if bAt s e1 = 62 then some (acc, e1)
    else match attrP s e1 with
      | none => none
      | some (name, value, next) => attrsP s start n next (if start && !hasName acc name then acc ++ [(name, value)] else acc)
def leB (a b : ByteArray) : Bool := !Op.bytesLess b.data.toList a.data.toList
/-- By their names. -/
def sortP (l : List (ByteArray × ByteArray)) : List (ByteArray × ByteArray) := l.mergeSort fun x y => leB x.1 y.1
def tagP (s : ByteArray) (a : Nat) (start : Bool) : Out :=
  let e := upT closesN s a
  match attrsP s start (s.size + 1 - e) e [] with
  | none => (tok0, s.size, false)
  | some (l, e2) => (⟨if start then 1 else 2, namedP (s.extract a e), ⟨#[]⟩, sortP l, false⟩, e2 + 1, true)
/-- token.Raw. -/
def titN : List ByteArray := [⟨#[116, 105, 116, 108, 101]⟩, ⟨#[116, 101, 120, 116, 97, 114, 101, 97]⟩]
def rawN : List ByteArray := [⟨#[115, 116, 121, 108, 101]⟩, ⟨#[115, 99, 114, 105, 112, 116]⟩, ⟨#[120, 109, 112]⟩, ⟨#[105, 102, 114, 97, 109, 101]⟩, ⟨#[110, 111, 101, 109, 98, 101, 100]⟩, ⟨#[110, 111, 102, 114, 97, 109, 101, 115]⟩]
def rawP (n : ByteArray) : Int := if titN.any (fun x => decide (n = x)) then 1 else if rawN.any (fun x => decide (n = x)) then 2 else 0
/-- The piece that begins at a place. -/
def nextP (s : ByteArray) (a : Nat) (raw : ByteArray) : Out :=
  if s.size ≤ a then (⟨6, ⟨#[]⟩, ⟨#[]⟩, [], false⟩, s.size, true)
  else if raw ≠ ⟨#[]⟩ ∧ a < rawEndP s a raw then
    (textTok (if rawP (lowS raw) = 1 then Ch.decB (s.extract a (rawEndP s a raw)) false else s.extract a (rawEndP s a raw)) true, rawEndP s a raw, true)
  else if bAt s a ≠ 60 then
    let e := upT (fun c => decide (c = 60) || (blankN c != blankN (bAt s a))) s a
    (textTok (Ch.decB (s.extract a e) false) false, e, true)
  else if letterAt s (a + 1) then tagP s (a + 1) true
  else if startsP s a ⟨#[60, 47]⟩ && letterAt s (a + 2) then tagP s (a + 2) false
  else if startsP s a ⟨#[60, 33, 45, 45]⟩ then commentP s (a + 4)
  else if startsP s a ⟨#[60, 33, 100, 111, 99, 116, 121, 112, 101]⟩ then doctypeP s (a + 9)
  else if startsP s a ⟨#[60, 47, 62]⟩ then (tok0, a + 3, false)
  else if startsP s a ⟨#[60, 63]⟩ then bogusP s (a + 1)
  else if startsP s a ⟨#[60, 33]⟩ || (startsP s a ⟨#[60, 47]⟩ && decide (a + 2 < s.size)) then bogusP s (a + 2)
  else (textTok ⟨#[60]⟩ false, a + 1, true)
end Go.Proofs.YtbdgoffbkenofaaGreat.Tk
