/- serial: plain: a tree's source. -/
import Derived.Test.YtbjcahhijfommaaGreatDoorSmall
import Derived.Test.YtbjcahhijfommaaGreatDoorEsc
namespace Go.Proofs.YtbjcahhijfommaaGreatDoor.Tr
open Go Go.RowKit

/-- Elements whose texts are not read. -/
def rawL : List ByteArray := [⟨#[115, 116, 121, 108, 101]⟩, ⟨#[115, 99, 114, 105, 112, 116]⟩, ⟨#[120, 109, 112]⟩, ⟨#[105, 102, 114, 97, 109, 101]⟩, ⟨#[110, 111, 101, 109, 98, 101, 100]⟩, ⟨#[110, 111, 102, 114, 97, 109, 101, 115]⟩]
def titL : List ByteArray := [⟨#[116, 105, 116, 108, 101]⟩, ⟨#[116, 101, 120, 116, 97, 114, 101, 97]⟩]
def isIn (l : List ByteArray) (n : ByteArray) : Bool := l.any (fun x => decide (n = x))
def rawI (n : ByteArray) : Int := if isIn titL n then 1 else if isIn rawL n then 2 else 0
def rawB (n : ByteArray) : Bool := rawI n == 2
/-- Elements that have nothing in them. -/
def voidL : List ByteArray := [⟨#[97, 114, 101, 97]⟩, ⟨#[98, 97, 115, 101]⟩, ⟨#[98, 114]⟩, ⟨#[99, 111, 108]⟩, ⟨#[101, 109, 98, 101, 100]⟩, ⟨#[104, 114]⟩, ⟨#[105, 109, 103]⟩, ⟨#[105, 110, 112, 117, 116]⟩, ⟨#[108, 105, 110, 107]⟩, ⟨#[109, 101, 116, 97]⟩, ⟨#[112, 97, 114, 97, 109]⟩, ⟨#[115, 111, 117, 114, 99, 101]⟩, ⟨#[116, 114, 97, 99, 107]⟩, ⟨#[119, 98, 114]⟩]
def voidB (n : ByteArray) : Bool := isIn voidL n
def sayAt (a : ByteArray × ByteArray) : List UInt8 := [32] ++ a.1.data.toList ++ [61, 34] ++ (Gr.escB true a.2).data.toList ++ [34]
def sayAs : List (ByteArray × ByteArray) → List UInt8 | [] => [] | a :: l => sayAt a ++ sayAs l
def dtH : List UInt8 := [60, 33, 68, 79, 67, 84, 89, 80, 69, 32]
mutual
/-- A tree's source, the kid of a raw element or not. -/
def sayT (raw : Bool) : Nd → List UInt8
  | .mk k n s al ks =>
    if k = 1 then sayL false ks
    else if k = 5 then dtH ++ n.data.toList ++ [62]
    else if k = 4 then [60, 33, 45, 45] ++ s.data.toList ++ [45, 45, 62]
    else if k = 3 then (if raw then s.data.toList else (Gr.escB false s).data.toList)
    else if k = 2 then [60] ++ n.data.toList ++ sayAs al ++ [62] ++ (if voidB n then [] else sayL (rawB n) ks ++ ([60, 47] ++ n.data.toList ++ [62]))
    else []
def sayL (raw : Bool) : List Nd → List UInt8 | [] => [] | t :: ts => sayT raw t ++ sayL raw ts
end
mutual
/-- No part is too much. -/
def fitT : Nd → Prop | .mk _ n s al ks => al.length ≤ 20 ∧ n.size ≤ 6000 ∧ s.size ≤ 6000 ∧ (∀ a ∈ al, a.1.size ≤ 6000 ∧ a.2.size ≤ 6000) ∧ fitL ks
def fitL : List Nd → Prop | [] => True | t :: ts => fitT t ∧ fitL ts
end
mutual
theorem fit_of_ok (d : Nat) : ∀ t, okT d t → fitT t
  | .mk k n s al ks, h => by
    unfold okT at h; unfold fitT
    exact ⟨h.2.1, by have := h.2.2.1; omega, h.2.2.2.1, fun a ha => by have := h.2.2.2.2.1 a ha; omega, fitL_of_ok (d + 1) ks h.2.2.2.2.2⟩
theorem fitL_of_ok (d : Nat) : ∀ ts, okL d ts → fitL ts
  | [], _ => by unfold fitL; trivial
  | t :: ts, h => by unfold okL at h; unfold fitL; exact ⟨fit_of_ok d t h.1, fitL_of_ok d ts h.2⟩
end
theorem fitL_at {ts : List Nd} {i : Nat} {t : Nd} (h : fitL ts) (hi : ts[i]? = some t) : fitT t := by
  induction ts generalizing i with
  | nil => simp at hi
  | cons x xs ih =>
    unfold fitL at h
    cases i with
    | zero => simp at hi; subst hi; exact h.1
    | succ j => exact ih h.2 (by simpa using hi)
theorem hit_le {K : Gr.Prs} {l : List UInt8} {p : ByteArray × ByteArray} (h : Gr.hitOf K l = some p) : p.1.data.toList <+: l := by
  have := List.find?_some h
  rwa [List.isPrefixOf_iff_prefix] at this
theorem kOf_val (attr : Bool) : ∀ p ∈ Gr.kOf attr, p.2.size ≤ 6 := by cases attr <;> decide
theorem rep_len {attr : Bool} {l o : List UInt8} (h : Gr.Rep (Gr.kOf attr) l o) : o.length ≤ 6 * l.length := by
  induction h with
  | nil => exact Nat.le_refl _
  | skip c l o h r ih => simp only [List.length_cons]; omega
  | hit l o p hl h r ih =>
    have h1 := Gr.kOf_pos attr p (Gr.hit_mem h)
    have h2 := kOf_val attr p (Gr.hit_mem h)
    have h3 : p.2.data.toList.length = p.2.size := rfl
    have h4 : p.1.size ≤ l.length := (hit_le h).length_le
    rw [List.length_drop] at ih
    rw [List.length_append]
    omega
theorem esc_len (attr : Bool) (s : ByteArray) : (Gr.escB attr s).data.toList.length ≤ 6 * s.size := by
  have := rep_len (Gr.esc_rep attr s.data.toList)
  unfold Gr.escB
  exact this
theorem sayAs_len : ∀ al : List (ByteArray × ByteArray), (∀ a ∈ al, a.1.size ≤ 6000 ∧ a.2.size ≤ 6000) → (sayAs al).length ≤ 42004 * al.length
  | [], _ => by simp [sayAs]
  | a :: l, h => by
    have h1 := sayAs_len l fun x hx => h x (List.mem_cons_of_mem _ hx)
    have h2 := h a (List.mem_cons_self ..)
    have h3 := esc_len true a.2
    have h4 : a.1.data.toList.length = a.1.size := rfl
    simp only [sayAs, sayAt, List.length_append, List.length_cons, List.length_nil]
    omega
mutual
theorem sayT_len (raw : Bool) : ∀ t, fitT t → (sayT raw t).length ≤ 1000000 * cntT t
  | .mk k n s al ks, h => by
    unfold fitT at h
    obtain ⟨h1, h2, h3, h4, h5⟩ := h
    have e1 := sayAs_len al h4
    have e2 := sayL_len false ks h5
    have e3 := sayL_len (rawB n) ks h5
    have e4 := esc_len false s
    have e5 : n.data.toList.length = n.size := rfl
    have e6 : s.data.toList.length = s.size := rfl
    unfold sayT cntT
    repeat' split
    all_goals try simp only [List.length_append, List.length_cons, List.length_nil, dtH]
    all_goals omega
theorem sayL_len (raw : Bool) : ∀ ts, fitL ts → (sayL raw ts).length ≤ 1000000 * cntL ts
  | [], _ => by unfold sayL; simp
  | t :: ts, h => by
    unfold fitL at h
    have h1 := sayT_len raw t h.1
    have h2 := sayL_len raw ts h.2
    unfold sayL cntL
    rw [List.length_append]
    omega
end

/-- A piece: never too long. -/
abbrev Pc := { x : ByteArray // x.size ≤ 40000 }
def cut (x : ByteArray) : Pc := if h : x.size ≤ 40000 then ⟨x, h⟩ else ⟨⟨#[]⟩, by decide⟩
theorem cut_val {x : ByteArray} (h : x.size ≤ 40000) : (cut x).1 = x := by unfold cut; rw [dif_pos h]
theorem cut_small (a : Array UInt8) (h : a.size ≤ 40000) : (cut ⟨a⟩).1 = ⟨a⟩ := cut_val h
attribute [irreducible] cut
def catP (l : List Pc) : List UInt8 := l.flatMap fun x => x.1.data.toList
theorem catP_nil : catP [] = [] := rfl
theorem catP_cons (x : Pc) (l : List Pc) : catP (x :: l) = x.1.data.toList ++ catP l := by simp [catP]
theorem catP_append (a b : List Pc) : catP (a ++ b) = catP a ++ catP b := by simp [catP]
theorem catP_len (l : List Pc) : (catP l).length ≤ 40000 * l.length := by
  induction l with
  | nil => exact Nat.le_refl _
  | cons x l ih =>
    rw [catP_cons, List.length_append, List.length_cons]
    have h1 : x.1.data.toList.length = x.1.size := rfl
    have := x.2
    omega
def atP (a : ByteArray × ByteArray) : List Pc := [cut ⟨#[32]⟩, cut a.1, cut ⟨#[61, 34]⟩, cut (Gr.escB true a.2), cut ⟨#[34]⟩]
def asP : List (ByteArray × ByteArray) → List Pc | [] => [] | a :: l => atP a ++ asP l
mutual
/-- A tree's pieces. -/
def sayP (raw : Bool) : Nd → List Pc
  | .mk k n s al ks =>
    if k = 1 then sayQ false ks
    else if k = 5 then [cut ⟨#[60, 33, 68, 79, 67, 84, 89, 80, 69, 32]⟩, cut n, cut ⟨#[62]⟩]
    else if k = 4 then [cut ⟨#[60, 33, 45, 45]⟩, cut s, cut ⟨#[45, 45, 62]⟩]
    else if k = 3 then (if raw then [cut s] else [cut (Gr.escB false s)])
    else if k = 2 then [cut ⟨#[60]⟩, cut n] ++ asP al ++ [cut ⟨#[62]⟩] ++ (if voidB n then [] else sayQ (rawB n) ks ++ [cut ⟨#[60, 47]⟩, cut n, cut ⟨#[62]⟩])
    else []
def sayQ (raw : Bool) : List Nd → List Pc | [] => [] | t :: ts => sayP raw t ++ sayQ raw ts
end
theorem asP_len : ∀ al, (asP al).length = 5 * al.length
  | [] => rfl
  | a :: l => by rw [asP, List.length_append, asP_len l]; simp [atP]; omega
mutual
theorem sayP_len (raw : Bool) : ∀ t, fitT t → (sayP raw t).length ≤ 120 * cntT t
  | .mk k n s al ks, h => by
    unfold fitT at h
    obtain ⟨h1, h2, h3, h4, h5⟩ := h
    have e2 := sayQ_len false ks h5
    have e3 := sayQ_len (rawB n) ks h5
    have e4 := asP_len al
    unfold sayP cntT
    repeat' split
    all_goals try simp only [List.length_append, List.length_cons, List.length_nil]
    all_goals omega
theorem sayQ_len (raw : Bool) : ∀ ts, fitL ts → (sayQ raw ts).length ≤ 120 * cntL ts
  | [], _ => by unfold sayQ; simp
  | t :: ts, h => by
    unfold fitL at h
    have h1 := sayP_len raw t h.1
    have h2 := sayQ_len raw ts h.2
    unfold sayQ cntL
    rw [List.length_append]
    omega
end
theorem esc_cut (attr : Bool) {s : ByteArray} (h : s.size ≤ 6000) : (Gr.escB attr s).size ≤ 40000 := by
  have := esc_len attr s
  have h2 : (Gr.escB attr s).data.toList.length = (Gr.escB attr s).size := rfl
  omega
theorem cat_as : ∀ al : List (ByteArray × ByteArray), (∀ a ∈ al, a.1.size ≤ 6000 ∧ a.2.size ≤ 6000) → catP (asP al) = sayAs al
  | [], _ => rfl
  | a :: l, h => by
    have h1 := cat_as l fun x hx => h x (List.mem_cons_of_mem _ hx)
    have h2 := h a (List.mem_cons_self ..)
    have h3 := esc_cut true h2.2
    rw [asP, catP_append, h1, sayAs]
    simp only [atP, catP_cons, catP_nil, sayAt, cut_val h3, cut_val (show a.1.size ≤ 40000 by omega)]
    simp [cut_small]
mutual
theorem cat_say (raw : Bool) : ∀ t, fitT t → catP (sayP raw t) = sayT raw t
  | .mk k n s al ks, h => by
    unfold fitT at h
    obtain ⟨h1, h2, h3, h4, h5⟩ := h
    have e1 := cat_as al h4
    have e2 := catQ_say false ks h5
    have e3 := catQ_say (rawB n) ks h5
    have c1 := cut_val (show n.size ≤ 40000 by omega)
    have c2 := cut_val (show s.size ≤ 40000 by omega)
    have c3 := cut_val (esc_cut false h3)
    unfold sayP sayT
    by_cases k1 : k = 1
    · rw [if_pos k1, if_pos k1]; exact e2
    rw [if_neg k1, if_neg k1]
    by_cases k5 : k = 5
    · rw [if_pos k5, if_pos k5]; simp only [catP_cons, catP_nil, c1]; simp [cut_small, dtH]
    rw [if_neg k5, if_neg k5]
    by_cases k4 : k = 4
    · rw [if_pos k4, if_pos k4]; simp only [catP_cons, catP_nil, c2]; simp [cut_small]
    rw [if_neg k4, if_neg k4]
    by_cases k3 : k = 3
    · rw [if_pos k3, if_pos k3]
      cases raw
      · simp only [Bool.false_eq_true, if_false, catP_cons, catP_nil, c3, List.append_nil]
      · simp only [if_true, catP_cons, catP_nil, c2, List.append_nil]
    rw [if_neg k3, if_neg k3]
    by_cases k2 : k = 2
    · rw [if_pos k2, if_pos k2, catP_append, catP_append, catP_append, e1]
      cases voidB n
      · simp only [Bool.false_eq_true, if_false, catP_append, e3, catP_cons, catP_nil, c1]; simp [cut_small]
      · simp only [if_true, catP_cons, catP_nil, c1]; simp [cut_small]
    rw [if_neg k2, if_neg k2]; rfl
theorem catQ_say (raw : Bool) : ∀ ts, fitL ts → catP (sayQ raw ts) = sayL raw ts
  | [], _ => by unfold sayQ sayL; rfl
  | t :: ts, h => by
    unfold fitL at h
    unfold sayQ sayL
    rw [catP_append, cat_say raw t h.1, catQ_say raw ts h.2]
end
theorem sayQ_append (raw : Bool) (a b : List Nd) : sayQ raw (a ++ b) = sayQ raw a ++ sayQ raw b := by
  induction a with
  | nil => simp [sayQ]
  | cons x xs ih => simp [sayQ, ih]
theorem sayQ_take {raw : Bool} {ks : List Nd} {j : Nat} {t : Nd} (h : ks[j]? = some t) : sayQ raw (ks.take (j + 1)) = sayQ raw (ks.take j) ++ sayP raw t := by
  have hs : ks.take (j + 1) = ks.take j ++ [t] := by rw [List.take_add_one, h]; rfl
  rw [hs, sayQ_append]; simp [sayQ]
theorem asP_append (a b : List (ByteArray × ByteArray)) : asP (a ++ b) = asP a ++ asP b := by
  induction a with
  | nil => rfl
  | cons x xs ih => simp [asP, ih]
theorem asP_take {al : List (ByteArray × ByteArray)} {j : Nat} {a : ByteArray × ByteArray} (h : al[j]? = some a) : asP (al.take (j + 1)) = asP (al.take j) ++ atP a := by
  have hs : al.take (j + 1) = al.take j ++ [a] := by rw [List.take_add_one, h]; rfl
  rw [hs, asP_append]; simp [asP]
theorem sayL_append (raw : Bool) (a b : List Nd) : sayL raw (a ++ b) = sayL raw a ++ sayL raw b := by
  induction a with
  | nil => simp [sayL]
  | cons x xs ih => simp [sayL, ih]
end Go.Proofs.YtbjcahhijfommaaGreatDoor.Tr
