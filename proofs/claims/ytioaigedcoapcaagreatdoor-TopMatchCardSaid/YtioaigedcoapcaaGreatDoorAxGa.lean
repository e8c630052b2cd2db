/- What the executor's values and blocks stand for in a world of the model. -/
import Derived.Test.YtioaigedcoapcaaGreatDoorAxD
import Derived.RangeFuncRecord
import Derived.Laws.CopyRow
import Derived.Laws.Rows
import Derived.Laws.Entries
namespace Go.Ax
open Go

/-! ### digits, rows of sixteen, slots -/
theorem Dg.num_inj {d e : Dg} (h : d.num = e.num) : d = e := by revert h; cases d <;> cases e <;> first | (intro _; rfl) | (intro h; cases h)
def Dg.no : Dg → Nat
  | .d0 => 0
  | .d1 => 1
  | .d2 => 2
  | .d3 => 3
  | .d4 => 4
  | .d5 => 5
  | .d6 => 6
  | .d7 => 7
  | .d8 => 8
  | .d9 => 9
  | .d10 => 10
  | .d11 => 11
  | .d12 => 12
  | .d13 => 13
  | .d14 => 14
  | .d15 => 15
theorem Dg.no_inj {d e : Dg} (h : d.no = e.no) : d = e := by revert h; cases d <;> cases e <;> first | (intro _; rfl) | (intro h; cases h)
instance : DecidableEq Dg := fun a b => if h : a.no = b.no then isTrue (Dg.no_inj h) else isFalse fun e => h (e ▸ rfl)
theorem Id.ext4 : ∀ {x y : Id}, x.a = y.a ∧ x.b = y.b ∧ x.c = y.c ∧ x.d = y.d → x = y
  | ⟨_, _, _, _⟩, ⟨_, _, _, _⟩, ⟨rfl, rfl, rfl, rfl⟩ => rfl
instance : DecidableEq Id := fun x y => if h : x.a = y.a ∧ x.b = y.b ∧ x.c = y.c ∧ x.d = y.d then isTrue (Id.ext4 h) else isFalse fun e => h (e ▸ ⟨rfl, rfl, rfl, rfl⟩)
theorem N16.sel_set_same {α : Type} (d : Dg) (t : N16 α) (v : α) : N16.sel d (N16.set d t v) = v := by cases t; cases d <;> rfl
theorem N16.sel_set_ne {α : Type} {d e : Dg} (h : d ≠ e) (t : N16 α) (v : α) : N16.sel d (N16.set e t v) = N16.sel d t := by
  cases t
  cases e <;> cases d <;> first | rfl | exact absurd rfl h
theorem N16.sel_fill {α : Type} (d : Dg) (x : α) : N16.sel d (N16.fill x) = x := by cases d <;> rfl
theorem dgOf_inj : ∀ m, m < 16 → ∀ n, n < 16 → dgOf m = dgOf n → m = n := by decide
theorem T4.get_eq (a b c d : Dg) (t : T4) : T4.get ⟨a, b, c, d⟩ t = N16.sel d (N16.sel c (N16.sel b (N16.sel a t))) := rfl
theorem T4.get_put_same (i : Id) (v : Blk) (t : T4) : T4.get i (T4.put i v t) = v := by
  cases i
  simp only [T4.get, T4.put, T4.put2, T4.put3, N16.sel_set_same]
theorem T4.get_put_ne {i j : Id} (h : i ≠ j) (v : Blk) (t : T4) : T4.get i (T4.put j v t) = T4.get i t := by
  obtain ⟨a, b, c, d⟩ := i
  obtain ⟨a', b', c', d'⟩ := j
  simp only [T4.get, T4.put, T4.put2, T4.put3]
  by_cases ha : a = a'
  · subst ha
    rw [N16.sel_set_same]
    by_cases hb : b = b'
    · subst hb
      rw [N16.sel_set_same]
      by_cases hc : c = c'
      · subst hc
        rw [N16.sel_set_same]
        have hd : d ≠ d' := fun e => h (by rw [e])
        rw [N16.sel_set_ne hd]
      · rw [N16.sel_set_ne hc]
    · rw [N16.sel_set_ne hb]
  · rw [N16.sel_set_ne ha]
theorem T4.get_put (i j : Id) (v : Blk) (t : T4) : T4.get i (T4.put j v t) = if i = j then v else T4.get i t := by
  split
  · rename_i h; subst h; exact T4.get_put_same _ _ _
  · rename_i h; exact T4.get_put_ne h _ _
@[simp] theorem Hp.get_put (i j : Id) (b : Blk) (h : Hp) : (h.put j b).get i = if i = j then b else h.get i := by
  cases h; exact T4.get_put _ _ _ _
@[simp] theorem Hp.put_nx (j : Id) (b : Blk) (h : Hp) : (h.put j b).nx = h.nx := by cases h; rfl
theorem Dg.num_lt (d : Dg) : d.num < 16 := by cases d <;> decide
/-- A name's number. -/
noncomputable def Id.num (i : Id) : Nat := ((i.a.num * 16 + i.b.num) * 16 + i.c.num) * 16 + i.d.num
theorem Id.num_inj {i j : Id} (h : i.num = j.num) : i = j := by
  obtain ⟨a, b, c, d⟩ := i
  obtain ⟨a', b', c', d'⟩ := j
  simp only [Id.num] at h
  have := a.num_lt; have := b.num_lt; have := c.num_lt; have := d.num_lt
  have := a'.num_lt; have := b'.num_lt; have := c'.num_lt; have := d'.num_lt
  have h1 : d.num = d'.num := by omega
  have h2 : c.num = c'.num := by omega
  have h3 : b.num = b'.num := by omega
  have h4 : a.num = a'.num := by omega
  rw [Dg.num_inj h1, Dg.num_inj h2, Dg.num_inj h3, Dg.num_inj h4]
theorem Dg.next_num (d : Dg) : (d = .d15 ∧ ∀ (β : Type) (x : β) (k : Dg → β), Dg.next d x k = x) ∨ (∃ e : Dg, e.num = d.num + 1 ∧ ∀ (β : Type) (x : β) (k : Dg → β), Dg.next d x k = k e) := by
  cases d <;> first | exact .inl ⟨rfl, fun _ _ _ => rfl⟩ | exact .inr ⟨_, rfl, fun _ _ _ => rfl⟩
theorem Id.succ_num (a b c d : Dg) (h : a ≠ .d15) : (Id.succ ⟨a, b, c, d⟩).num = Id.num ⟨a, b, c, d⟩ + 1 := by
  have e : Id.succ ⟨a, b, c, d⟩ = Dg.next d (Dg.next c (Dg.next b (Dg.next a ⟨.d15, .d15, .d15, .d15⟩ fun a => ⟨a, .d0, .d0, .d0⟩) fun b => ⟨a, b, .d0, .d0⟩) fun c => ⟨a, b, c, .d0⟩) fun d => ⟨a, b, c, d⟩ := rfl
  rw [e]
  have z : Dg.num .d0 = 0 := rfl
  have f : Dg.num .d15 = 15 := rfl
  rcases Dg.next_num d with ⟨rfl, hd⟩ | ⟨d', hd', hd⟩
  · rw [hd]
    rcases Dg.next_num c with ⟨rfl, hc⟩ | ⟨c', hc', hc⟩
    · rw [hc]
      rcases Dg.next_num b with ⟨rfl, hb⟩ | ⟨b', hb', hb⟩
      · rw [hb]
        rcases Dg.next_num a with ⟨rfl, _⟩ | ⟨a', ha', ha⟩
        · exact absurd rfl h
        · rw [ha]; simp only [Id.num, ha', z, f]; omega
      · rw [hb]; simp only [Id.num, hb', z, f]; omega
    · rw [hc]; simp only [Id.num, hc', z, f]; omega
  · rw [hd]; simp only [Id.num, hd']; omega
/-- What a new block makes of the heap. -/
theorem alloc_eq {β : Type} {b : Blk} {h : Hp} {bad r : β} {k : Id → Hp → β} (hr : alloc b h bad k = r) (hb : r ≠ bad) :
    ∃ h', k h.nx h' = r ∧ (∀ i, h'.get i = if i = h.nx then b else h.get i) ∧ h'.nx.num = h.nx.num + 1 := by
  obtain ⟨t, a, b', c, d⟩ := h
  have e : alloc b ⟨t, a, b', c, d⟩ bad k = @Bool.rec (fun _ => β) (k ⟨a, b', c, d⟩ ⟨T4.put ⟨a, b', c, d⟩ b t, Id.succ ⟨a, b', c, d⟩⟩) bad (Dg.beq a .d15) := rfl
  rw [e] at hr
  cases ha : Dg.beq a .d15 with
  | true => rw [ha] at hr; exact absurd hr.symm hb
  | false =>
    rw [ha] at hr
    refine ⟨_, hr, fun i => (T4.get_put i ⟨a, b', c, d⟩ b t), Id.succ_num _ _ _ _ fun h15 => ?_⟩
    subst h15
    have : Dg.beq .d15 .d15 = true := rfl
    rw [this] at ha
    cases ha
theorem Opd.mk2_get (hi lo : Dg) (tm : TM) : (Opd.mk2 hi lo).get tm = N16.sel lo (N16.sel hi tm) := by cases hi <;> cases lo <;> rfl
theorem Dst.mk2_put (hi lo : Dg) (v : AV) (tm : TM) : (Dst.mk2 hi lo).put v tm = N16.set hi tm (N16.set lo (N16.sel hi tm) v) := by cases hi <;> cases lo <;> rfl
theorem rg_get_put (t u : Nat) (ht : t < 256) (hu : u < 256) (v : AV) (tm : TM) : (rgGet t).get ((rgPut u).put v tm) = if t = u then v else (rgGet t).get tm := by
  unfold rgGet rgPut
  rw [Opd.mk2_get, Opd.mk2_get, Dst.mk2_put]
  by_cases h1 : t / 16 = u / 16
  · rw [h1, N16.sel_set_same]
    by_cases h2 : t % 16 = u % 16
    · rw [h2, N16.sel_set_same, if_pos (by omega)]
    · rw [N16.sel_set_ne fun e => h2 (dgOf_inj _ (by omega) _ (by omega) e), if_neg (fun e => h2 (by rw [e]))]
  · rw [N16.sel_set_ne fun e => h1 (dgOf_inj _ (by omega) _ (by omega) e), if_neg (fun e => h1 (by rw [e]))]
theorem rg_get_tm0 (t : Nat) : (rgGet t).get tm0 = undef := by
  unfold rgGet
  rw [Opd.mk2_get, tm0, N16.sel_fill, N16.sel_fill]
theorem el2_pl2 (q r : Nat) (hq : q < 256) (hr : r < 256) (l : List AV) (t : Els) : el2 q (pl2 r l t) = if q = r then l else el2 q t := by
  have e1 : ∀ x, Nat.div x 16 = x / 16 := fun _ => rfl
  have e2 : ∀ x, Nat.mod x 16 = x % 16 := fun _ => rfl
  unfold el2 pl2
  simp only [e1, e2]
  by_cases h1 : q / 16 = r / 16
  · rw [h1, N16.sel_set_same]
    by_cases h2 : q % 16 = r % 16
    · rw [h2, N16.sel_set_same, if_pos (by omega)]
    · rw [N16.sel_set_ne fun e => h2 (dgOf_inj _ (by omega) _ (by omega) e), if_neg (fun e => h2 (by rw [e]))]
  · rw [N16.sel_set_ne fun e => h1 (dgOf_inj _ (by omega) _ (by omega) e), if_neg (fun e => h1 (by rw [e]))]

/-! ### values -/
/-- Where a block lies: the model's block, the cell that its first one is; for a row: the cells of an element, and how many cells it may have. -/
structure Pl where
  b : Nat
  base : Nat
  es : Nat
  lim : Nat
abbrev Phi := Id → Option Pl
def Phi.le (φ ψ : Phi) : Prop := ∀ i p, φ i = some p → ψ i = some p
theorem Phi.le_refl (φ : Phi) : φ.le φ := fun _ _ h => h
theorem Phi.le_trans {φ ψ χ : Phi} (h : φ.le ψ) (k : ψ.le χ) : φ.le χ := fun i p hp => k i p (h i p hp)
/-- May it be a cell? -/
def isCell : AV → Bool
  | .agg _ => false
  | .tup _ => false
  | _ => true
def areCells (l : List AV) : Prop := ∀ a ∈ l, isCell a = true
def Pl.at (p : Pl) (o : Nat) : Addr := ⟨p.b, p.base + o, none⟩
mutual
/-- The value v is what a stands for. -/
def V (φ : Phi) : AV → Value → Prop
  | .bool b, v => v = .bool b
  | .int k n, v => v = .int k n
  | .str l, v => v = .string ⟨⟨l⟩⟩
  | .nilp, v => v = .pointer none
  | .ptr i o, v => ∃ p, φ i = some p ∧ v = .pointer (some (p.at o))
  | .nils, v => v = .slice none 0 0
  | .sl i o n (some c), v => ∃ p, φ i = some p ∧ v = .slice (some (p.at o)) n c ∧ n ≤ c
  | .sl i o n none, v => ∃ p c, φ i = some p ∧ v = .slice (some (p.at o)) n c ∧ n ≤ c ∧ o + c * p.es = p.lim ∧ 0 < p.es
  | .emp, v => ∃ a c, v = .slice (some a) 0 c
  | .nilm, v => v = .map none
  | .mp i, v => ∃ p, φ i = some p ∧ v = .map (some p.b)
  | .nilf, v => v = .nilFunc
  | .fn f x y, v => ∃ xs ys, v = .func (.func f) xs ys ∧ VL φ x xs.toList ∧ VL φ y ys.toList
  | .yld l, v => ∃ p, φ l = some p ∧ v = .func (.yield p.b) #[] #[]
  | .nili, v => v = .nilIface
  | .agg l, v => ∃ vs, v = .agg vs ∧ VL φ l vs.toList ∧ areCells l
  | .tup l, v => ∃ vs, v = .tuple vs ∧ VL φ l vs.toList
def VL (φ : Phi) : List AV → List Value → Prop
  | [], vs => vs = []
  | a :: l, vs => ∃ v r, vs = v :: r ∧ V φ a v ∧ VL φ l r
end
mutual
theorem V.mono {φ ψ : Phi} (h : φ.le ψ) : ∀ (a : AV) (v : Value), V φ a v → V ψ a v
  | .bool _, _, hv => hv
  | .int _ _, _, hv => hv
  | .str _, _, hv => hv
  | .nilp, _, hv => hv
  | .ptr i _, _, hv => let ⟨p, h1, h2⟩ := hv; ⟨p, h i p h1, h2⟩
  | .nils, _, hv => hv
  | .sl i _ _ (some _), _, hv => let ⟨p, h1, h2⟩ := hv; ⟨p, h i p h1, h2⟩
  | .sl i _ _ none, _, hv => let ⟨p, c, h1, h2⟩ := hv; ⟨p, c, h i p h1, h2⟩
  | .emp, _, hv => hv
  | .nilm, _, hv => hv
  | .mp i, _, hv => let ⟨p, h1, h2⟩ := hv; ⟨p, h i p h1, h2⟩
  | .nilf, _, hv => hv
  | .fn _ x y, _, hv => let ⟨xs, ys, h1, h2, h3⟩ := hv; ⟨xs, ys, h1, VL.mono h x _ h2, VL.mono h y _ h3⟩
  | .yld l, _, hv => let ⟨p, h1, h2⟩ := hv; ⟨p, h l p h1, h2⟩
  | .nili, _, hv => hv
  | .agg l, _, hv => let ⟨vs, h1, h2, h3⟩ := hv; ⟨vs, h1, VL.mono h l _ h2, h3⟩
  | .tup l, _, hv => let ⟨vs, h1, h2⟩ := hv; ⟨vs, h1, VL.mono h l _ h2⟩
theorem VL.mono {φ ψ : Phi} (h : φ.le ψ) : ∀ (l : List AV) (vs : List Value), VL φ l vs → VL ψ l vs
  | [], _, hv => hv
  | a :: l, _, hv => let ⟨v, r, h1, h2, h3⟩ := hv; ⟨v, r, h1, V.mono h a v h2, VL.mono h l r h3⟩
end
end Go.Ax
namespace Go.Ax
open Go

theorem lnth_eq {α : Type} : ∀ (l : List α) (n : Nat), lnth l n = l[n]?
  | [], 0 => rfl
  | [], n + 1 => rfl
  | a :: l, 0 => rfl
  | a :: l, n + 1 => by show lnth l n = _; rw [lnth_eq]; rfl
theorem nth_eq : ∀ (l : List AV) (n : Nat), nth l n = l[n]?
  | [], 0 => rfl
  | [], n + 1 => rfl
  | a :: l, 0 => rfl
  | a :: l, n + 1 => by show nth l n = _; rw [nth_eq]; rfl
theorem dropA_eq : ∀ (n : Nat) (l : List AV), dropA l n = l.drop n
  | 0, l => rfl
  | n + 1, [] => rfl
  | n + 1, a :: l => by show dropA l n = _; rw [dropA_eq]; rfl
theorem dropB_eq {α : Type} : ∀ (n : Nat) (l : List α), dropB l n = l.drop n
  | 0, l => by cases l <;> rfl
  | n + 1, [] => rfl
  | n + 1, a :: l => by show dropB l n = _; rw [dropB_eq]; rfl
theorem takeB_eq {α : Type} : ∀ (n : Nat) (l : List α), takeB l n = l.take n
  | 0, l => by cases l <;> rfl
  | n + 1, [] => rfl
  | n + 1, a :: l => by show a :: takeB l n = _; rw [takeB_eq]; rfl
theorem len_eq {α : Type} : ∀ (l : List α), len l = l.length
  | [] => rfl
  | a :: l => by show Nat.succ (len l) = _; rw [len_eq]; rfl
theorem takeX_some : ∀ (n : Nat) (l r : List AV), takeX l n = some r → n ≤ l.length ∧ r = l.take n
  | 0, l, r, h => by
    have : takeX l 0 = some [] := by cases l <;> rfl
    rw [this] at h; cases h; exact ⟨Nat.zero_le _, rfl⟩
  | n + 1, [], r, h => by cases h
  | n + 1, a :: l, r, h => by
    have e : takeX (a :: l) (n + 1) = @Option.rec _ (fun _ => Option (List AV)) none (fun r => some (a :: r)) (takeX l n) := rfl
    rw [e] at h
    cases hx : takeX l n with
    | none => rw [hx] at h; cases h
    | some x =>
      rw [hx] at h
      obtain ⟨h1, rfl⟩ := takeX_some n l x hx
      cases h
      exact ⟨by simp; omega, rfl⟩
theorem over_some : ∀ (vs l r : List AV), over l vs = some r → vs.length ≤ l.length ∧ r = vs ++ l.drop vs.length
  | [], l, r, h => by
    have : over l [] = some l := by cases l <;> rfl
    rw [this] at h; cases h; exact ⟨Nat.zero_le _, by simp⟩
  | v :: vs, [], r, h => by cases h
  | v :: vs, a :: l, r, h => by
    have e : over (a :: l) (v :: vs) = @Option.rec _ (fun _ => Option (List AV)) none (fun r => some (v :: r)) (over l vs) := rfl
    rw [e] at h
    cases hx : over l vs with
    | none => rw [hx] at h; cases h
    | some x =>
      rw [hx] at h
      obtain ⟨h1, rfl⟩ := over_some vs l x hx
      cases h
      exact ⟨by simp; omega, by simp⟩
theorem splice_some : ∀ (n : Nat) (l vs r : List AV), splice l n vs = some r → n + vs.length ≤ l.length ∧ r = l.take n ++ vs ++ l.drop (n + vs.length)
  | 0, l, vs, r, h => by
    have : splice l 0 vs = over l vs := by cases l <;> rfl
    rw [this] at h
    obtain ⟨h1, rfl⟩ := over_some _ _ _ h
    exact ⟨by omega, by simp⟩
  | n + 1, [], vs, r, h => by cases h
  | n + 1, a :: l, vs, r, h => by
    have e : splice (a :: l) (n + 1) vs = @Option.rec _ (fun _ => Option (List AV)) none (fun r => some (a :: r)) (splice l n vs) := rfl
    rw [e] at h
    cases hx : splice l n vs with
    | none => rw [hx] at h; cases h
    | some x =>
      rw [hx] at h
      obtain ⟨h1, rfl⟩ := splice_some n l vs x hx
      cases h
      refine ⟨by simp; omega, ?_⟩
      rw [show n + 1 + vs.length = (n + vs.length) + 1 by omega]
      simp
theorem set1_some : ∀ (n : Nat) (l : List AV) (v : AV) (r : List AV), set1 l n v = some r → n < l.length ∧ r = l.set n v
  | 0, [], v, r, h => by cases h
  | 0, a :: l, v, r, h => by cases h; exact ⟨by simp, rfl⟩
  | n + 1, [], v, r, h => by cases h
  | n + 1, a :: l, v, r, h => by
    have e : set1 (a :: l) (n + 1) v = @Option.rec _ (fun _ => Option (List AV)) none (fun r => some (a :: r)) (set1 l n v) := rfl
    rw [e] at h
    cases hx : set1 l n v with
    | none => rw [hx] at h; cases h
    | some x =>
      rw [hx] at h
      obtain ⟨h1, rfl⟩ := set1_some n l v x hx
      cases h
      exact ⟨by simp; omega, rfl⟩
theorem nat_beq {m n : Nat} (h : Nat.beq m n = true) : m = n := Nat.eq_of_beq_eq_true h
theorem nat_nbeq {m n : Nat} (h : Nat.beq m n = false) : m ≠ n := Nat.ne_of_beq_eq_false h
theorem nat_ble {m n : Nat} (h : Nat.ble m n = true) : m ≤ n := Nat.le_of_ble_eq_true h
theorem nat_nble {m n : Nat} (h : Nat.ble m n = false) : n < m := Nat.lt_of_not_le fun hle => by rw [Nat.ble_eq_true_of_le hle] at h; cases h
theorem cutN_some {l : List AV} {m r n : Nat} {x : List AV} (hm : m = l.length) (h : cutN l m r n = some x) : x.length = n ∧ x = (l.drop r).take n := by
  have e : cutN l m r n = @Bool.rec (fun _ => Option (List AV)) (takeX (dropA l r) n) (@Nat.rec (fun _ => Option (List AV)) (some l) (fun _ _ => none) r) (Nat.beq m n) := rfl
  rw [e] at h
  cases hb : Nat.beq m n with
  | false =>
    rw [hb] at h
    obtain ⟨h1, rfl⟩ := takeX_some _ _ _ h
    rw [dropA_eq] at h1 ⊢
    exact ⟨by simp only [List.length_take]; omega, rfl⟩
  | true =>
    rw [hb] at h
    have hn := nat_beq hb
    cases r with
    | zero => cases h; exact ⟨by omega, by rw [List.drop_zero, List.take_of_length_le (by omega)]⟩
    | succ r => cases h
theorem layN_some {l : List AV} {m r n : Nat} {vs x : List AV} (hm : m = l.length) (hn : vs.length = n) (h : layN l r m n vs = some x) : r + n ≤ l.length ∧ x = l.take r ++ vs ++ l.drop (r + n) := by
  have e : layN l r m n vs = @Bool.rec (fun _ => Option (List AV)) (splice l r vs) (@Nat.rec (fun _ => Option (List AV)) (some vs) (fun _ _ => none) r) (Nat.beq m n) := rfl
  rw [e] at h
  cases hb : Nat.beq m n with
  | false =>
    rw [hb] at h
    obtain ⟨h1, rfl⟩ := splice_some _ _ _ _ h
    exact ⟨by omega, by rw [hn]⟩
  | true =>
    rw [hb] at h
    have hmn := nat_beq hb
    cases r with
    | zero => cases h; exact ⟨by omega, by rw [List.take_zero, List.drop_of_length_le (by omega)]; simp⟩
    | succ r => cases h

/-! ### rows of values -/
theorem VL.length {φ : Phi} : ∀ {l : List AV} {vs : List Value}, VL φ l vs → l.length = vs.length
  | [], _, h => by rw [show _ = [] from h]; rfl
  | _ :: _, _, h => by obtain ⟨v, r, rfl, _, h2⟩ := h; simp [VL.length h2]
theorem VL.get {φ : Phi} : ∀ {l : List AV} {vs : List Value} {n : Nat} {a : AV}, VL φ l vs → l[n]? = some a → ∃ v, vs[n]? = some v ∧ V φ a v
  | [], _, _, _, _, ha => by simp at ha
  | b :: l, _, 0, a, h, ha => by
    obtain ⟨v, r, rfl, h1, h2⟩ := h
    simp at ha
    subst ha
    exact ⟨v, rfl, h1⟩
  | b :: l, _, n + 1, a, h, ha => by
    obtain ⟨v, r, rfl, h1, h2⟩ := h
    simp at ha ⊢
    exact VL.get h2 ha
theorem VL.drop {φ : Phi} : ∀ {l : List AV} {vs : List Value} (n : Nat), VL φ l vs → VL φ (l.drop n) (vs.drop n)
  | _, _, 0, h => by simpa using h
  | [], _, n + 1, h => by rw [show _ = [] from h]; exact rfl
  | b :: l, _, n + 1, h => by
    obtain ⟨v, r, rfl, h1, h2⟩ := h
    simpa using VL.drop n h2
theorem VL.take {φ : Phi} : ∀ {l : List AV} {vs : List Value} (n : Nat), VL φ l vs → VL φ (l.take n) (vs.take n)
  | _, _, 0, h => by simp [VL]
  | [], _, n + 1, h => by rw [show _ = [] from h]; exact rfl
  | b :: l, _, n + 1, h => by
    obtain ⟨v, r, rfl, h1, h2⟩ := h
    simp only [List.take_succ_cons]
    exact ⟨v, _, rfl, h1, VL.take n h2⟩
theorem VL.append {φ : Phi} : ∀ {l : List AV} {vs : List Value} {m : List AV} {ws : List Value}, VL φ l vs → VL φ m ws → VL φ (l ++ m) (vs ++ ws)
  | [], _, _, _, h, k => by rw [show _ = [] from h]; exact k
  | b :: l, _, _, _, h, k => by
    obtain ⟨v, r, rfl, h1, h2⟩ := h
    exact ⟨v, _, rfl, h1, VL.append h2 k⟩
theorem VL.set {φ : Phi} : ∀ {l : List AV} {vs : List Value} (n : Nat) {a : AV} {v : Value}, VL φ l vs → V φ a v → VL φ (l.set n a) (vs.set n v)
  | [], _, _, _, _, h, _ => by rw [show _ = [] from h]; exact rfl
  | b :: l, _, 0, _, _, h, k => by
    obtain ⟨v, r, rfl, h1, h2⟩ := h
    exact ⟨_, _, rfl, k, h2⟩
  | b :: l, _, n + 1, _, _, h, k => by
    obtain ⟨v, r, rfl, h1, h2⟩ := h
    exact ⟨_, _, rfl, h1, VL.set n h2 k⟩
theorem VL.one {φ : Phi} {a : AV} {vs : List Value} (h : VL φ [a] vs) : ∃ v, vs = [v] ∧ V φ a v := by
  obtain ⟨v, r, rfl, h1, h2⟩ := h
  rw [show r = [] from h2]
  exact ⟨v, rfl, h1⟩
theorem VL.two {φ : Phi} {a b : AV} {vs : List Value} (h : VL φ [a, b] vs) : ∃ v u, vs = [v, u] ∧ V φ a v ∧ V φ b u := by
  obtain ⟨v, r, rfl, h1, h2⟩ := h
  obtain ⟨u, rfl, h3⟩ := VL.one h2
  exact ⟨v, u, rfl, h1, h3⟩
theorem VL.mk1 {φ : Phi} {a : AV} {v : Value} (h : V φ a v) : VL φ [a] [v] := ⟨v, [], rfl, h, rfl⟩
theorem VL.nil {φ : Phi} : VL φ [] [] := rfl
theorem VL.cons {φ : Phi} {a : AV} {v : Value} {l : List AV} {vs : List Value} (h : V φ a v) (k : VL φ l vs) : VL φ (a :: l) (v :: vs) := ⟨v, vs, rfl, h, k⟩
theorem areCells.take {l : List AV} (n : Nat) (h : areCells l) : areCells (l.take n) := fun a ha => h a (List.mem_of_mem_take ha)
theorem areCells.drop {l : List AV} (n : Nat) (h : areCells l) : areCells (l.drop n) := fun a ha => h a (List.mem_of_mem_drop ha)
theorem areCells.append {l m : List AV} (h : areCells l) (k : areCells m) : areCells (l ++ m) := fun a ha => (List.mem_append.1 ha).elim (h a) (k a)
theorem areCells.set {l : List AV} (n : Nat) {a : AV} (h : areCells l) (k : isCell a = true) : areCells (l.set n a) := fun b hb => by
  rcases List.mem_or_eq_of_mem_set hb with hb | rfl
  · exact h b hb
  · exact k
theorem areCells.get {l : List AV} {n : Nat} {a : AV} (h : areCells l) (k : l[n]? = some a) : isCell a = true := h a (List.mem_of_getElem? k)
end Go.Ax
namespace Go.Ax
open Go

/-- The slots of an activation. -/
structure TRel (φ : Phi) (N : Nat) (tm : TM) (ts : Array Value) : Prop where
  size : ts.size = N
  le : N ≤ 256
  at_ : ∀ t, t < N → V φ ((rgGet t).get tm) (ts.getD t Go.undef)
def noFz (fr : Nat × Nat) (n : Nat) : Prop := fr.1 ≤ fr.2 ∧ ∀ k, k < n → ¬ (fr.1 ≤ k ∧ k < fr.2)
def lst (ready : Bool) (pend : Option Code) : LoopState := if ready then .ready else if pend.isSome then .done else .busy
def ML (φ : Phi) : List (AV × AV × Nat) → List MapEntry → Prop
  | [], es => es = []
  | x :: l, es => ∃ e r, es = e :: r ∧ V φ x.1 e.key ∧ V φ x.2.1 e.val ∧ e.born = x.2.2 ∧ ML φ l r
/-- What lies in the block at p. -/
def BRel (φ : Phi) (w : World) : Blk → Pl → Prop
  | .none, _ => True
  | .one ty m l ro, p => ∃ c fr ty', w.heap[p.b]? = some (.cells c ty' fr) ∧ p.base = 0 ∧ m = l.length ∧ VL φ l c.toList ∧ areCells l ∧ (ro = false → fr = (0, 0) ∧ ty' = ty)
  | .arr ty es n _ t, p => ∃ c fr, w.heap[p.b]? = some (.cells c ty fr) ∧ 0 < es ∧ p.es = es ∧ n * es ≤ p.lim ∧ p.base + p.lim ≤ c.size ∧ noFz fr c.size ∧ n ≤ 256 ∧
      ∀ q, q < n → (el2 q t).length = es ∧ VL φ (el2 q t) ((c.toList.drop (p.base + q * es)).take es) ∧ areCells (el2 q t)
  | .loop ready n pend tm ps asg body, p => ∃ r : Loop, w.heap[p.b]? = some (.loop r) ∧ r.state = lst ready pend ∧ r.pending = pend ∧ TRel φ n tm r.tmps ∧ r.params.toList = ps ∧ r.assign = asg ∧ r.body = body
  | .mp es clock, p => ∃ ents, w.heap[p.b]? = some (.map ents clock) ∧ ML φ es ents.toList
  | .sit s pos, p => p.base = 0 ∧ w.heap[p.b]? = some (.stringIter ⟨⟨s⟩⟩ pos)
theorem TRel.mono {φ ψ : Phi} {N : Nat} {tm : TM} {ts : Array Value} (h : TRel φ N tm ts) (hl : φ.le ψ) : TRel ψ N tm ts := ⟨h.size, h.le, fun t ht => V.mono hl _ _ (h.at_ t ht)⟩
theorem ML.mono {φ ψ : Phi} (hl : φ.le ψ) : ∀ {l : List (AV × AV × Nat)} {es : List MapEntry}, ML φ l es → ML ψ l es
  | [], _, h => h
  | _ :: _, _, h => by obtain ⟨e, r, h1, h2, h3, h4, h5⟩ := h; exact ⟨e, r, h1, V.mono hl _ _ h2, V.mono hl _ _ h3, h4, ML.mono hl h5⟩
theorem BRel.mono {φ ψ : Phi} {w w' : World} {b : Blk} {p : Pl} (h : BRel φ w b p) (hl : φ.le ψ) (hw : b = .none ∨ w'.heap[p.b]? = w.heap[p.b]?) : BRel ψ w' b p := by
  rcases hw with rfl | hw
  · trivial
  cases b with
  | none => trivial
  | one ty m l ro => obtain ⟨c, fr, ty', h1, h2, h3, h4, h5, h6⟩ := h; exact ⟨c, fr, ty', hw.trans h1, h2, h3, VL.mono hl _ _ h4, h5, h6⟩
  | arr ty es n d t =>
    obtain ⟨c, fr, h1, h2, h3, h4, h5, h6, h7, h8⟩ := h
    exact ⟨c, fr, hw.trans h1, h2, h3, h4, h5, h6, h7, fun q hq => let ⟨a, b, c⟩ := h8 q hq; ⟨a, VL.mono hl _ _ b, c⟩⟩
  | loop ready n pend tm ps asg body => obtain ⟨r, h1, h2, h3, h4, h5⟩ := h; exact ⟨r, hw.trans h1, h2, h3, h4.mono hl, h5⟩
  | mp es clock => obtain ⟨ents, h1, h2⟩ := h; exact ⟨ents, hw.trans h1, h2.mono hl⟩
  | sit s pos => exact ⟨h.1, hw.trans h.2⟩
def isRw : Blk → Bool
  | .none => false
  | .one _ _ _ ro => !ro
  | _ => true
theorem isRw_live {b : Blk} (h : isRw b = true) : b ≠ .none := fun e => by subst e; cases h
/-- The variables of the package keep their numbers. -/
def GRel (φ : Phi) : Prop := ∀ g, g < 9 → φ (idOfGlobal g) = some ⟨g, 0, 0, 0⟩
structure RelF (φ : Phi) (H : Id → Blk) (w : World) : Prop where
  live : ∀ i, H i ≠ .none → ∃ p, φ i = some p ∧ BRel φ w (H i) p
  inj : ∀ i j p q, isRw (H i) = true → H j ≠ .none → φ i = some p → φ j = some q → p.b = q.b → i = j
  glob : GRel φ
structure Rel (φ : Phi) (h : Hp) (w : World) : Prop where
  f : RelF φ h.get w
  fresh : ∀ i p, φ i = some p → p.b < w.heap.size ∧ i.num < h.nx.num
def Own (φ : Phi) (H : Id → Blk) (b : Nat) : Prop := ∃ i p, isRw (H i) = true ∧ φ i = some p ∧ p.b = b
/-- But for the blocks in O, and new ones, the world is as it was. -/
structure Keeps (O : Nat → Prop) (w w' : World) : Prop where
  os : w'.os = w.os
  tape : w'.tape = w.tape
  output : w'.output = w.output
  size : w.heap.size ≤ w'.heap.size
  block : ∀ b, b < w.heap.size → ¬ O b → w'.heap[b]? = w.heap[b]?
structure Step (φ : Phi) (h : Hp) (w : World) (φ' : Phi) (h' : Hp) (w' : World) : Prop where
  le : φ.le φ'
  rel : Rel φ' h' w'
  keep : Keeps (Own φ h.get) w w'
  own : ∀ b, Own φ' h'.get b → Own φ h.get b ∨ w.heap.size ≤ b
  nx : h.nx.num ≤ h'.nx.num
  names : ∀ i p, φ' i = some p → φ i = some p ∨ (h.nx.num ≤ i.num ∧ (w.heap.size ≤ p.b ∨ Own φ h.get p.b))
  live : ∀ i, φ i ≠ none → h'.get i ≠ .none → h.get i ≠ .none
theorem Step.refl {φ : Phi} {h : Hp} {w : World} (r : Rel φ h w) : Step φ h w φ h w := ⟨Phi.le_refl φ, r, ⟨rfl, rfl, rfl, Nat.le_refl _, fun _ _ _ => rfl⟩, fun _ h => .inl h, Nat.le_refl _, fun _ _ h => .inl h, fun _ _ h => h⟩
theorem Step.trans {φ ψ χ : Phi} {h h' h'' : Hp} {w w' w'' : World} (a : Step φ h w ψ h' w') (b : Step ψ h' w' χ h'' w'') : Step φ h w χ h'' w'' where
  le := Phi.le_trans a.le b.le
  rel := b.rel
  keep := {
    os := b.keep.os.trans a.keep.os
    tape := b.keep.tape.trans a.keep.tape
    output := b.keep.output.trans a.keep.output
    size := Nat.le_trans a.keep.size b.keep.size
    block := fun k hk ho => (b.keep.block k (Nat.lt_of_lt_of_le hk a.keep.size) fun h' => (a.own k h').elim ho fun hs => absurd hk (Nat.not_lt.2 hs)).trans (a.keep.block k hk ho) }
  own := fun k hk => (b.own k hk).elim (a.own k) fun hs => .inr (Nat.le_trans a.keep.size hs)
  nx := Nat.le_trans a.nx b.nx
  names := fun i p hp => (b.names i p hp).elim (a.names i p) fun ⟨h1, h2⟩ => .inr ⟨Nat.le_trans a.nx h1, h2.elim (fun h3 => .inl (Nat.le_trans a.keep.size h3)) fun h3 => (a.own _ h3).elim .inr .inl⟩
  live := fun i hi hl => a.live i hi (b.live i (fun e => by
    cases hp : φ i with
    | none => exact hi hp
    | some p => have := a.le i p hp; rw [e] at this; cases this) hl)
def upd (φ : Phi) (i : Id) (p : Pl) : Phi := fun j => if j = i then some p else φ j
theorem upd_same (φ : Phi) (i : Id) (p : Pl) : upd φ i p i = some p := by simp [upd]
theorem upd_ne (φ : Phi) {i j : Id} (p : Pl) (h : j ≠ i) : upd φ i p j = φ j := by simp [upd, h]
theorem upd_le {φ : Phi} {i : Id} (p : Pl) (h : φ i = none) : φ.le (upd φ i p) := fun j q hj => by
  have : j ≠ i := fun e => by subst e; rw [h] at hj; cases hj
  rw [upd_ne φ p this]; exact hj
theorem Rel.nx_none {φ : Phi} {h : Hp} {w : World} (r : Rel φ h w) : φ h.nx = none := by
  cases hn : φ h.nx with
  | none => rfl
  | some p => exact absurd (r.fresh _ _ hn).2 (Nat.lt_irrefl _)
theorem Rel.nx_dead {φ : Phi} {h : Hp} {w : World} (r : Rel φ h w) : h.get h.nx = .none := by
  cases hb : h.get h.nx with
  | none => rfl
  | _ => obtain ⟨p, hp, _⟩ := r.f.live h.nx (by rw [hb]; exact fun e => by cases e); rw [r.nx_none] at hp; cases hp
/-- A world that differs in what nobody looks at. -/
theorem Rel.same {φ : Phi} {h : Hp} {w w' : World} (r : Rel φ h w) (hh : w'.heap = w.heap) : Rel φ h w' :=
  ⟨⟨fun i hi => let ⟨p, h1, h2⟩ := r.f.live i hi; ⟨p, h1, h2.mono (Phi.le_refl φ) (.inr (by rw [hh]))⟩, r.f.inj, r.f.glob⟩, fun i p hp => by rw [hh]; exact r.fresh i p hp⟩
theorem Step.same {φ : Phi} {h : Hp} {w w' : World} (r : Rel φ h w) (hh : w'.heap = w.heap) (h1 : w'.os = w.os) (h2 : w'.tape = w.tape) (h3 : w'.output = w.output) : Step φ h w φ h w' :=
  ⟨Phi.le_refl φ, r.same hh, ⟨h1, h2, h3, by rw [hh]; exact Nat.le_refl _, fun _ _ _ => by rw [hh]⟩, fun _ h => .inl h, Nat.le_refl _, fun _ _ h => .inl h, fun _ _ h => h⟩
/-- A new block. -/
theorem Step.new {φ : Phi} {h h' : Hp} {w w' : World} {b : Blk} {p : Pl} {o : Obj} (r : Rel φ h w) (hget : ∀ i, h'.get i = if i = h.nx then b else h.get i) (hnx : h'.nx.num = h.nx.num + 1)
    (hh : w'.heap = w.heap.push o) (h1 : w'.os = w.os) (h2 : w'.tape = w.tape) (h3 : w'.output = w.output) (hp : p.b = w.heap.size) (hb : BRel (upd φ h.nx p) w' b p) :
    Step φ h w (upd φ h.nx p) h' w' := by
  have hle := upd_le p r.nx_none
  have hold : ∀ k, k < w.heap.size → w'.heap[k]? = w.heap[k]? := fun k hk => by rw [hh, Array.getElem?_push, if_neg (by omega)]
  have hget' : ∀ i, i ≠ h.nx → h'.get i = h.get i := fun i hi => by rw [hget, if_neg hi]
  have hnew : h'.get h.nx = b := by rw [hget, if_pos rfl]
  have hlt : ∀ i q, i ≠ h.nx → upd φ h.nx p i = some q → q.b < w.heap.size := fun i q hi hq => by rw [upd_ne φ p hi] at hq; exact (r.fresh i q hq).1
  refine ⟨hle, ⟨⟨fun i hi => ?_, fun i j q s hi hj hq hs e => ?_, fun g hg => hle _ _ (r.f.glob g hg)⟩, fun i q hq => ?_⟩, ⟨h1, h2, h3, by rw [hh]; simp, fun k hk _ => hold k hk⟩, fun k hk => ?_, by omega, fun i q hq => ?_, fun i hi hl => ?_⟩
  · by_cases e : i = h.nx
    · subst e
      rw [hnew]
      exact ⟨p, upd_same _ _ _, hb⟩
    · rw [hget' i e] at hi ⊢
      obtain ⟨q, h4, h5⟩ := r.f.live i hi
      exact ⟨q, hle _ _ h4, h5.mono hle (.inr (hold _ (r.fresh _ _ h4).1))⟩
  · by_cases e1 : i = h.nx
    · by_cases e2 : j = h.nx
      · rw [e1, e2]
      · have := hlt j s e2 hs
        subst e1
        rw [upd_same] at hq
        cases hq
        omega
    · by_cases e2 : j = h.nx
      · have := hlt i q e1 hq
        subst e2
        rw [upd_same] at hs
        cases hs
        omega
      · rw [hget' i e1] at hi
        rw [hget' j e2] at hj
        rw [upd_ne φ p e1] at hq
        rw [upd_ne φ p e2] at hs
        exact r.f.inj i j q s hi hj hq hs e
  · by_cases e : i = h.nx
    · subst e
      rw [upd_same] at hq
      cases hq
      exact ⟨by rw [hh, hp]; simp, by omega⟩
    · rw [upd_ne φ p e] at hq
      have := r.fresh i q hq
      exact ⟨by rw [hh]; simp; omega, by omega⟩
  · obtain ⟨i, q, hi, hq, e⟩ := hk
    by_cases e1 : i = h.nx
    · subst e1
      rw [upd_same] at hq
      cases hq
      exact .inr (by omega)
    · have hi : isRw (h'.get i) = true := hi
      rw [hget' i e1] at hi
      rw [upd_ne φ p e1] at hq
      exact .inl ⟨i, q, hi, hq, e⟩
  · by_cases e : i = h.nx
    · subst e
      rw [upd_same] at hq
      cases hq
      exact .inr ⟨Nat.le_refl _, .inl (by omega)⟩
    · rw [upd_ne φ p e] at hq
      exact .inl hq
  · have e : i ≠ h.nx := fun e => by subst e; exact hi r.nx_none
    rwa [hget' i e] at hl
/-- A block that is one's own, written. -/
theorem Step.put {φ : Phi} {h : Hp} {w w' : World} {b : Blk} {i : Id} {p : Pl} (r : Rel φ h w) (hi : isRw (h.get i) = true) (hp : φ i = some p)
    (hs : w'.heap.size = w.heap.size) (hh : ∀ k, k ≠ p.b → w'.heap[k]? = w.heap[k]?) (h1 : w'.os = w.os) (h2 : w'.tape = w.tape) (h3 : w'.output = w.output)
    (hb : b ≠ .none → BRel φ w' b p ∧ isRw b = true) : Step φ h w φ (h.put i b) w' := by
  have hown : Own φ h.get p.b := ⟨i, p, hi, hp, rfl⟩
  refine ⟨Phi.le_refl φ, ⟨⟨fun j hj => ?_, fun j k q s hj hk hq hs' e => ?_, r.f.glob⟩, fun j q hq => by rw [hs, Hp.put_nx]; exact r.fresh j q hq⟩, ⟨h1, h2, h3, by omega, fun k _ hk => hh k fun e => hk (e ▸ hown)⟩, fun k hk => ?_, by rw [Hp.put_nx]; exact Nat.le_refl _, fun _ _ h => .inl h, fun j _ hj => ?_⟩
  · rw [Hp.get_put] at hj ⊢
    by_cases e : j = i
    · subst e
      rw [if_pos rfl] at hj ⊢
      exact ⟨p, hp, (hb hj).1⟩
    · rw [if_neg e] at hj ⊢
      obtain ⟨q, hq, hB⟩ := r.f.live j hj
      exact ⟨q, hq, hB.mono (Phi.le_refl φ) (.inr (hh _ fun e' => e (r.f.inj i j p q hi hj hp hq e'.symm).symm))⟩
  · rw [Hp.get_put] at hj hk
    have hj' : isRw (h.get j) = true := by
      by_cases e1 : j = i
      · subst e1; exact hi
      · rwa [if_neg e1] at hj
    have hk' : h.get k ≠ .none := by
      by_cases e1 : k = i
      · subst e1; exact isRw_live hi
      · rwa [if_neg e1] at hk
    exact r.f.inj j k q s hj' hk' hq hs' e
  · obtain ⟨j, q, hj, hq, e⟩ := hk
    have hj : isRw ((h.put i b).get j) = true := hj
    rw [Hp.get_put] at hj
    by_cases e1 : j = i
    · subst e1; exact .inl ⟨j, q, hi, hq, e⟩
    · rw [if_neg e1] at hj; exact .inl ⟨j, q, hj, hq, e⟩
  · rw [Hp.get_put] at hj
    by_cases e1 : j = i
    · subst e1; exact isRw_live hi
    · rwa [if_neg e1] at hj
end Go.Ax
namespace Go.Ax
open Go
variable {P : Program}

/-! ### the model's -/
theorem addr_add (b o n : Nat) : (⟨b, o, none⟩ : Addr).add n = ⟨b, o + n, none⟩ := by unfold Addr.add; split <;> simp_all
theorem Pl.at_add (p : Pl) (o n : Nat) : (p.at o).add n = p.at (o + n) := by unfold Pl.at; rw [addr_add, Nat.add_assoc]
theorem cell_row {w : World} {b : Nat} {c : Array Value} {t : TypeId} {fr : Nat × Nat} (h : w.heap[b]? = some (.cells c t fr)) (j : Nat) : w.cell? ⟨b, j, none⟩ = c[j]? := by simp [World.cell?, h]
theorem frozen_row {w : World} {b : Nat} {c : Array Value} {t : TypeId} {fr : Nat × Nat} (h : w.heap[b]? = some (.cells c t fr)) (hf : noFz fr c.size) {j : Nat} (hj : j < c.size) : w.frozen? ⟨b, j, none⟩ = false := by
  have := hf.2 j hj
  simp only [World.frozen?, h, Bool.and_eq_false_iff, decide_eq_false_iff_not]
  by_cases h1 : fr.1 ≤ j
  · exact .inr fun h2 => this ⟨h1, h2⟩
  · exact .inl h1
theorem run_load_row {w : World} {b : Nat} {c : Array Value} {t : TypeId} {fr : Nat × Nat} (h : w.heap[b]? = some (.cells c t fr)) {j : Nat} {v : Value} (hv : c[j]? = some v) :
    (load ⟨b, j, none⟩).run P w = .ok v w := by
  rw [run_load, cell_row h, hv]
theorem run_loadCells_row {w : World} {b : Nat} {c : Array Value} {t : TypeId} {fr : Nat × Nat} (h : w.heap[b]? = some (.cells c t fr)) {o n : Nat} {vs : List Value} (hn : vs.length = n) (hv : vs = (c.toList.drop o).take n) :
    (loadCells ⟨b, o, none⟩ n).run P w = .ok vs.toArray w := by
  subst hn
  refine run_loadCells_list w _ vs fun j v hj => ?_
  rw [addr_add, cell_row h]
  rw [hv] at hj
  rw [List.getElem?_take] at hj
  split at hj
  · rw [List.getElem?_drop] at hj
    simpa using hj
  · cases hj
/-- A row with vs in the places from o on. -/
def splA (c : Array Value) (o : Nat) (vs : List Value) : Array Value := (c.toList.take o ++ vs ++ c.toList.drop (o + vs.length)).toArray
theorem splA_size {c : Array Value} {o : Nat} {vs : List Value} (h : o + vs.length ≤ c.size) : (splA c o vs).size = c.size := by simp [splA]; omega
theorem splA_nil (c : Array Value) (o : Nat) : splA c o [] = c := by simp [splA]
theorem splA_cons (c : Array Value) (o : Nat) (v : Value) (vs : List Value) (h : o + (v :: vs).length ≤ c.size) : splA (c.setIfInBounds o v) (o + 1) vs = splA c o (v :: vs) := by
  simp only [List.length_cons] at h
  apply Array.ext'
  simp only [splA, Array.toList_setIfInBounds, List.length_cons]
  rw [List.drop_set_of_lt (by omega), show o + 1 + vs.length = o + (vs.length + 1) by omega]
  have : (c.toList.set o v).take (o + 1) = c.toList.take o ++ [v] := by
    rw [List.take_add_one, List.take_set_of_le (Nat.le_refl _), List.getElem?_set_self (by simpa using (by omega : o < c.size))]
    rfl
  rw [this]
  simp
theorem putObj_put (w : World) (b : Nat) (x y : Obj) : (w.putObj b x).putObj b y = w.putObj b y := by simp [World.putObj]
theorem putObj_self {w : World} {b : Nat} {x : Obj} (h : w.heap[b]? = some x) : w.putObj b x = w := by
  have hb : b < w.heap.size := (Array.getElem?_eq_some_iff.1 h).1
  have hx : w.heap[b] = x := (Array.getElem?_eq_some_iff.1 h).2
  unfold World.putObj
  have : w.heap.setIfInBounds b x = w.heap := by
    apply Array.ext
    · simp
    · intro i h1 h2
      rw [Array.getElem_setIfInBounds (by simpa using h1)]
      by_cases e : b = i
      · subst e; simp [hx]
      · simp [e]
  rw [this]
theorem run_storeCells_row : ∀ (vs : List Value) (i : Nat) {w : World} {b o : Nat} {c : Array Value} {t : TypeId} {fr : Nat × Nat}, w.heap[b]? = some (.cells c t fr) → noFz fr c.size → o + i + vs.length ≤ c.size → (∀ v ∈ vs, v.oneCell' = true) →
    (storeCells ⟨b, o, none⟩ vs i).run P w = .ok () (w.putObj b (.cells (splA c (o + i) vs) t fr))
  | [], i, w, b, o, c, t, fr, h, _, _, _ => by
    rw [splA_nil, putObj_self h]
    rfl
  | v :: vs, i, w, b, o, c, t, fr, h, hf, hl, h1 => by
    simp only [List.length_cons] at hl
    have hb : b < w.heap.size := (Array.getElem?_eq_some_iff.1 h).1
    have hlt : o + i < c.size := by omega
    have hset : w.setCell ⟨b, o + i, none⟩ v = w.putObj b (.cells (c.setIfInBounds (o + i) v) t fr) := by
      unfold World.setCell World.putObj
      congr 1
      apply Array.ext
      · simp
      · intro k h3 h4
        rw [Array.getElem_modify, Array.getElem_setIfInBounds]
        · by_cases e : b = k
          · subst e
            have : w.heap[b] = .cells c t fr := (Array.getElem?_eq_some_iff.1 h).2
            simp [this]
          · simp [e]
        · simpa using h4
    have hst : (store ((⟨b, o, none⟩ : Addr).add i) v).run P w = .ok () (w.putObj b (.cells (c.setIfInBounds (o + i) v) t fr)) := by
      rw [addr_add, run_store P w _ v _ (h1 v (by simp)), cell_row h, Array.getElem?_eq_getElem hlt, frozen_row h hf hlt, hset]
      rfl
    have h' : (w.putObj b (.cells (c.setIfInBounds (o + i) v) t fr)).heap[b]? = some (.cells (c.setIfInBounds (o + i) v) t fr) := World.putObj_heap_same hb
    have ih := run_storeCells_row vs (i + 1) (o := o) h' (by simpa using hf) (by simp; omega) fun u hu => h1 u (by simp [hu])
    simp only [storeCells, Sem.run_bind, hst, Result.andThen]
    rw [ih, putObj_put, show o + (i + 1) = o + i + 1 by omega, splA_cons c (o + i) v vs (by simp; omega)]
theorem V.oneCell {φ : Phi} {a : AV} {v : Value} (h : V φ a v) (hc : isCell a = true) : v.oneCell' = true := by
  cases a with
  | agg => cases hc
  | tup => cases hc
  | bool => rw [show v = _ from h]; rfl
  | int => rw [show v = _ from h]; rfl
  | str => rw [show v = _ from h]; rfl
  | nilp => rw [show v = _ from h]; rfl
  | nils => rw [show v = _ from h]; rfl
  | nilm => rw [show v = _ from h]; rfl
  | nilf => rw [show v = _ from h]; rfl
  | nili => rw [show v = _ from h]; rfl
  | ptr => obtain ⟨p, _, rfl⟩ := h; rfl
  | sl i o n cap =>
    cases cap with
    | none => obtain ⟨p, c, _, rfl, _⟩ := h; rfl
    | some c => obtain ⟨p, _, rfl, _⟩ := h; rfl
  | emp => obtain ⟨a, c, rfl⟩ := h; rfl
  | mp => obtain ⟨p, _, rfl⟩ := h; rfl
  | fn => obtain ⟨xs, ys, rfl, _⟩ := h; rfl
  | yld => obtain ⟨p, _, rfl⟩ := h; rfl
theorem VL.oneCell {φ : Phi} : ∀ {l : List AV} {vs : List Value}, VL φ l vs → areCells l → ∀ v ∈ vs, v.oneCell' = true
  | [], _, h, _, v, hv => by rw [show _ = [] from h] at hv; cases hv
  | a :: l, _, h, hc, v, hv => by
    obtain ⟨u, r, rfl, h1, h2⟩ := h
    rcases List.mem_cons.1 hv with rfl | hv
    · exact h1.oneCell (hc a (by simp))
    · exact VL.oneCell h2 (fun x hx => hc x (by simp [hx])) v hv
end Go.Ax
namespace Go.Ax
open Go
variable {P : Program}

theorem onCells_some {α : Type} {b : Blk} {f : Nat → Nat → List AV → Bool → Option α} {g : Nat → Nat → Nat → Bool → Els → Option α} {x : α} (h : Blk.onCells b none f g = some x) :
    (∃ ty m l ro, b = .one ty m l ro ∧ f ty m l ro = some x) ∨ (∃ ty es n d t, b = .arr ty es n d t ∧ g ty es n d t = some x) := by
  cases b with
  | one ty m l ro => exact .inl ⟨ty, m, l, ro, rfl, h⟩
  | arr ty es n d t => exact .inr ⟨ty, es, n, d, t, rfl, h⟩
  | _ => cases h
theorem bool_rec {α : Type} {b : Bool} {x y r : α} (h : @Bool.rec (fun _ => α) x y b = r) : (b = false ∧ x = r) ∨ (b = true ∧ y = r) := by
  cases b
  · exact .inl ⟨rfl, h⟩
  · exact .inr ⟨rfl, h⟩
theorem bool_some {α : Type} {b : Bool} {y : Option α} {r : α} (h : @Bool.rec (fun _ => Option α) none y b = some r) : b = true ∧ y = some r := by
  cases b
  · cases h
  · exact ⟨rfl, h⟩
theorem opt_some {α β : Type} {o : Option α} {f : α → Option β} {r : β} (h : @Option.rec α (fun _ => Option β) none f o = some r) : ∃ x, o = some x ∧ f x = some r := by
  cases o with
  | none => cases h
  | some x => exact ⟨x, rfl, h⟩
theorem drop_take_drop (L : List Value) (es r n : Nat) (h : r + n ≤ es) : ((L.take es).drop r).take n = (L.drop r).take n := by
  rw [List.drop_take, List.take_take, Nat.min_eq_left (by omega)]
theorem loadN_row {φ : Phi} {w : World} {b : Blk} {p : Pl} {o n : Nat} {l : List AV} (hb : BRel φ w b p) (h : loadN b o n = some l) :
    ∃ c ty fr, w.heap[p.b]? = some (.cells c ty fr) ∧ (n = 0 ∨ VL φ l ((c.toList.drop (p.base + o)).take n)) ∧ l.length = n ∧ areCells l := by
  rcases onCells_some h with ⟨ty, m, l0, ro, rfl, h1⟩ | ⟨ty, es, m, d, t, rfl, h1⟩
  · obtain ⟨c, fr, ty', hw, hbase, hm, hv, hc, _⟩ := hb
    obtain ⟨hlen, rfl⟩ := cutN_some hm h1
    have hvl := VL.take n (VL.drop o hv)
    exact ⟨c, ty', fr, hw, .inr (by rw [hbase, Nat.zero_add]; exact hvl), hlen, areCells.take n (areCells.drop o hc)⟩
  · obtain ⟨c, fr, hw, hes, hpe, hlim, hsz, hfz, h256, hq⟩ := hb
    obtain ⟨hle, h2⟩ := bool_some h1
    have hle := nat_ble hle
    have hle : o + n ≤ m * es := hle
    by_cases hn : n = 0
    · subst hn
      have hl0 : l = [] := by
        have e : cutN (el2 (Nat.div o es) t) es (Nat.mod o es) 0 = some l := h2
        have e2 : cutN (el2 (Nat.div o es) t) es (Nat.mod o es) 0 = takeX (dropA (el2 (Nat.div o es) t) (Nat.mod o es)) 0 := by
          have : Nat.beq es 0 = false := by cases es with | zero => omega | succ k => rfl
          show @Bool.rec (fun _ => Option (List AV)) _ _ (Nat.beq es 0) = _
          rw [this]
        rw [e2] at e
        obtain ⟨_, rfl⟩ := takeX_some _ _ _ e
        rfl
      subst hl0
      exact ⟨c, ty, fr, hw, .inl rfl, rfl, (fun a ha => by cases ha)⟩
    have hqm : o / es < m := by
      rw [Nat.div_lt_iff_lt_mul hes]
      omega
    obtain ⟨hl1, hv, hc⟩ := hq _ hqm
    obtain ⟨hlen, rfl⟩ := cutN_some hl1.symm h2
    have hr : o % es + n ≤ es := by
      have : (((el2 (Nat.div o es) t).drop (Nat.mod o es)).take n).length = n := hlen
      simp only [List.length_take, List.length_drop] at this
      have e1 : (el2 (Nat.div o es) t).length = es := hl1
      have e2 : Nat.mod o es = o % es := rfl
      have := Nat.mod_lt o hes
      omega
    have hvl := VL.take n (VL.drop (o % es) hv)
    rw [drop_take_drop _ _ _ _ hr, List.drop_drop] at hvl
    have e3 : p.base + o / es * es + o % es = p.base + o := by
      have := Nat.div_add_mod o es
      rw [Nat.mul_comm] at this
      omega
    rw [e3] at hvl
    exact ⟨c, ty, fr, hw, .inr hvl, hlen, areCells.take n (areCells.drop _ hc)⟩
theorem loadN_ok {φ : Phi} {w : World} {b : Blk} {p : Pl} {o n : Nat} {l : List AV} (hb : BRel φ w b p) (h : loadN b o n = some l) :
    ∃ vs, VL φ l vs ∧ l.length = n ∧ vs.length = n ∧ areCells l ∧ (loadCells (p.at o) n).run P w = .ok vs.toArray w := by
  obtain ⟨c, ty, fr, hw, hv, hl, hc⟩ := loadN_row hb h
  rcases hv with rfl | hv
  · exact ⟨[], by rw [List.eq_nil_of_length_eq_zero hl]; exact rfl, hl, rfl, hc, rfl⟩
  · have hl2 : ((c.toList.drop (p.base + o)).take n).length = n := by rw [← hv.length]; exact hl
    exact ⟨_, hv, hl, hl2, hc, run_loadCells_row (P := P) hw hl2 rfl⟩
theorem load1_ok {φ : Phi} {w : World} {b : Blk} {p : Pl} {o : Nat} {a : AV} (hb : BRel φ w b p) (h : load1 b o = some a) :
    ∃ v, V φ a v ∧ isCell a = true ∧ (load (p.at o)).run P w = .ok v w := by
  rcases onCells_some h with ⟨ty, m, l0, ro, rfl, h1⟩ | ⟨ty, es, m, d, t, rfl, h1⟩
  · obtain ⟨c, fr, ty', hw, hbase, hm, hv, hc, _⟩ := hb
    rw [nth_eq] at h1
    obtain ⟨v, h2, h3⟩ := hv.get h1
    refine ⟨v, h3, hc.get h1, ?_⟩
    unfold Pl.at
    rw [hbase, Nat.zero_add]
    exact run_load_row hw (by simpa using h2)
  · obtain ⟨c, fr, hw, hes, hpe, hlim, hsz, hfz, h256, hq⟩ := hb
    obtain ⟨hle, h2⟩ := bool_some h1
    have hle : o + 1 ≤ m * es := nat_ble hle
    have hqm : o / es < m := by
      rw [Nat.div_lt_iff_lt_mul hes]
      omega
    obtain ⟨hl1, hv, hc⟩ := hq _ hqm
    rw [nth_eq] at h2
    obtain ⟨v, h3, h4⟩ := hv.get h2
    refine ⟨v, h4, hc.get h2, run_load_row hw ?_⟩
    have e3 : p.base + o / es * es + o % es = p.base + o := by
      have := Nat.div_add_mod o es
      rw [Nat.mul_comm] at this
      omega
    rw [List.getElem?_take] at h3
    split at h3
    · rw [List.getElem?_drop] at h3
      have e4 : p.base + o / es * es + Nat.mod o es = p.base + o := e3
      rw [e4] at h3
      simpa using h3
    · cases h3
end Go.Ax
namespace Go.Ax
open Go
variable {P : Program}

theorem splL_get (L : List Value) (o : Nat) (vs : List Value) (h : o + vs.length ≤ L.length) (k : Nat) :
    (L.take o ++ vs ++ L.drop (o + vs.length))[k]? = if k < o then L[k]? else if k < o + vs.length then vs[k - o]? else L[k]? := by
  have ht : (L.take o).length = o := by simp; omega
  by_cases h1 : k < o
  · rw [if_pos h1, List.append_assoc, List.getElem?_append_left (by omega), List.getElem?_take, if_pos h1]
  · rw [if_neg h1]
    by_cases h2 : k < o + vs.length
    · rw [if_pos h2, List.append_assoc, List.getElem?_append_right (by omega), List.getElem?_append_left (by omega), ht]
    · rw [if_neg h2, List.getElem?_append_right (by simp; omega)]
      simp only [List.length_append, ht, List.getElem?_drop]
      congr 1
      omega
theorem splA_toList (c : Array Value) (o : Nat) (vs : List Value) : (splA c o vs).toList = c.toList.take o ++ vs ++ c.toList.drop (o + vs.length) := by simp [splA]
theorem splA_get (c : Array Value) (o : Nat) (vs : List Value) (h : o + vs.length ≤ c.size) (k : Nat) :
    (splA c o vs).toList[k]? = if k < o then c.toList[k]? else if k < o + vs.length then vs[k - o]? else c.toList[k]? := by
  rw [splA_toList, splL_get _ _ _ (by simpa using h)]
/-- A stretch of the row that is not written. -/
theorem cut_splA_out (c : Array Value) (o : Nat) (vs : List Value) (h : o + vs.length ≤ c.size) (s n : Nat) (hs : s + n ≤ o ∨ o + vs.length ≤ s) :
    ((splA c o vs).toList.drop s).take n = (c.toList.drop s).take n := by
  apply List.ext_getElem?
  intro k
  simp only [List.getElem?_take, List.getElem?_drop]
  split
  · rw [splA_get _ _ _ h]
    rcases hs with hs | hs
    · rw [if_pos (by omega)]
    · rw [if_neg (by omega), if_neg (by omega)]
  · rfl
/-- A stretch within which is written. -/
theorem cut_splA_in (c : Array Value) (s r : Nat) (vs : List Value) (n : Nat) (hc : s + n ≤ c.size) (hr : r + vs.length ≤ n) :
    ((splA c (s + r) vs).toList.drop s).take n = (((c.toList.drop s).take n).take r ++ vs ++ ((c.toList.drop s).take n).drop (r + vs.length)) := by
  have hL : ((c.toList.drop s).take n).length = n := by simp; omega
  apply List.ext_getElem?
  intro k
  rw [splL_get _ _ _ (by omega)]
  rw [List.getElem?_take, List.getElem?_drop]
  by_cases hk : k < n
  · rw [if_pos hk, splA_get _ _ _ (by omega)]
    by_cases h1 : k < r
    · rw [if_pos h1, if_pos (by omega), List.getElem?_take, if_pos hk, List.getElem?_drop]
    · rw [if_neg h1, if_neg (by omega)]
      by_cases h2 : k < r + vs.length
      · rw [if_pos h2, if_pos (by omega)]
        congr 1
        omega
      · rw [if_neg h2, if_neg (by omega), List.getElem?_take, if_pos hk, List.getElem?_drop]
  · rw [if_neg hk, if_neg (by omega), if_neg (by omega), List.getElem?_eq_none (by omega)]
/-- One block, and it alone, was written. -/
def Wrote (w w' : World) (b : Nat) : Prop := ∃ x, w' = w.putObj b x
theorem Wrote.size {w w' : World} {b : Nat} (h : Wrote w w' b) : w'.heap.size = w.heap.size := by obtain ⟨x, rfl⟩ := h; exact World.putObj_size
theorem Wrote.other {w w' : World} {b : Nat} (h : Wrote w w' b) (k : Nat) (hk : k ≠ b) : w'.heap[k]? = w.heap[k]? := by obtain ⟨x, rfl⟩ := h; exact World.putObj_heap_other hk
theorem Wrote.trans {w w' w'' : World} {b : Nat} (h : Wrote w w' b) (k : Wrote w' w'' b) : Wrote w w'' b := by
  obtain ⟨x, rfl⟩ := h
  obtain ⟨y, rfl⟩ := k
  exact ⟨y, putObj_put _ _ _ _⟩
theorem Wrote.refl {w : World} {b : Nat} {x : Obj} (h : w.heap[b]? = some x) : Wrote w w b := ⟨x, (putObj_self h).symm⟩
theorem BRel.there {φ : Phi} {w : World} {b : Blk} {p : Pl} (h : BRel φ w b p) (hb : b ≠ .none) : ∃ x, w.heap[p.b]? = some x := by
  cases b with
  | none => exact absurd rfl hb
  | one => obtain ⟨c, fr, ty', h1, _⟩ := h; exact ⟨_, h1⟩
  | arr => obtain ⟨c, fr, h1, _⟩ := h; exact ⟨_, h1⟩
  | loop => obtain ⟨r, h1, _⟩ := h; exact ⟨_, h1⟩
  | mp => obtain ⟨r, h1, _⟩ := h; exact ⟨_, h1⟩
  | sit => exact ⟨_, h.2⟩
theorem Step.wrote {φ : Phi} {h : Hp} {w w' : World} {b : Blk} {i : Id} {p : Pl} (r : Rel φ h w) (hi : isRw (h.get i) = true) (hp : φ i = some p) (hw : Wrote w w' p.b)
    (hb : b ≠ .none → BRel φ w' b p ∧ isRw b = true) : Step φ h w φ (h.put i b) w' :=
  Step.put r hi hp hw.size hw.other (by obtain ⟨x, rfl⟩ := hw; rfl) (by obtain ⟨x, rfl⟩ := hw; rfl) (by obtain ⟨x, rfl⟩ := hw; rfl) hb
theorem noFz_zero (n : Nat) : noFz (0, 0) n := ⟨Nat.le_refl _, fun k _ h => by omega⟩
theorem storeN_ok {φ : Phi} {w : World} {b b' : Blk} {p : Pl} {o n : Nat} {l : List AV} {vs : List Value} (hb : BRel φ w b p) (h : storeN b o n l = some b') (hv : VL φ l vs) (hc : areCells l) (hn : l.length = n) (hn1 : 0 < n) :
    ∃ w', (storeCells (p.at o) vs).run P w = .ok () w' ∧ Wrote w w' p.b ∧ BRel φ w' b' p ∧ isRw b = true ∧ isRw b' = true := by
  have hvn : vs.length = n := by rw [← hv.length]; exact hn
  rcases onCells_some h with ⟨ty, m, l0, ro, rfl, h1⟩ | ⟨ty, es, m, d, t, rfl, h1⟩
  · cases ro with
    | true => cases h1
    | false =>
      obtain ⟨c, fr, ty', hw, hbase, hm, hv0, hc0, hfr⟩ := hb
      obtain ⟨rfl, rfl⟩ := hfr rfl
      obtain ⟨l1, h2, h3⟩ := opt_some (o := layN l0 o m n l) (f := fun l => some (Blk.one ty' m l false)) h1
      obtain ⟨hle, rfl⟩ := layN_some hm hn h2
      cases h3
      have hsz : c.size = l0.length := by rw [hv0.length]; simp
      have hst := run_storeCells_row (P := P) vs 0 (o := o) hw (noFz_zero _) (by omega) (hv.oneCell hc)
      have hb : p.b < w.heap.size := (Array.getElem?_eq_some_iff.1 hw).1
      refine ⟨_, by unfold Pl.at; rw [hbase, Nat.zero_add]; exact hst, ⟨_, rfl⟩, ⟨splA c (o + 0) vs, (0, 0), ty', World.putObj_heap_same hb, hbase, by simp; omega, ?_, ?_, fun _ => ⟨rfl, rfl⟩⟩, rfl, rfl⟩
      · rw [splA_toList, Nat.add_zero, hvn]
        exact VL.append (VL.append (VL.take _ hv0) hv) (VL.drop _ hv0)
      · exact areCells.append (areCells.append (areCells.take _ hc0) hc) (areCells.drop _ hc0)
  · obtain ⟨c, fr, hw, hes, hpe, hlim, hsz, hfz, h256, hq⟩ := hb
    obtain ⟨hle, h2⟩ := bool_some h1
    have hle : o + n ≤ m * es := nat_ble hle
    obtain ⟨l1, h3, h4⟩ := opt_some (o := layN (el2 (Nat.div o es) t) (Nat.mod o es) es n l) (f := fun l => some (Blk.arr ty es m d (pl2 (Nat.div o es) l t))) h2
    cases h4
    have hb : p.b < w.heap.size := (Array.getElem?_eq_some_iff.1 hw).1
    have hst := run_storeCells_row (P := P) vs 0 (o := p.base + o) hw hfz (by omega) (hv.oneCell hc)
    refine ⟨_, hst, ⟨_, rfl⟩, ⟨splA c (p.base + o + 0) vs, fr, World.putObj_heap_same hb, hes, hpe, hlim, by rw [splA_size (by omega)]; exact hsz, by rw [splA_size (by omega)]; exact hfz, h256, fun q hqm => ?_⟩, rfl, rfl⟩
    rw [Nat.add_zero]
    have hdm := Nat.div_add_mod o es
    rw [Nat.mul_comm] at hdm
    have e1 : Nat.div o es = o / es := rfl
    have e2 : Nat.mod o es = o % es := rfl
    rw [e1, e2] at h3
    rw [e1]
    by_cases hom : o / es < m
    · obtain ⟨hl1, hv1, hc1⟩ := hq _ hom
      obtain ⟨hr, rfl⟩ := layN_some hl1.symm hn h3
      rw [el2_pl2 _ _ (by omega) (by omega)]
      have hqm' : (q + 1) * es ≤ m * es := Nat.mul_le_mul_right _ hqm
      rw [Nat.add_mul, Nat.one_mul] at hqm'
      have hom' : (o / es + 1) * es ≤ m * es := Nat.mul_le_mul_right _ hom
      rw [Nat.add_mul, Nat.one_mul] at hom'
      by_cases e : q = o / es
      · subst e
        rw [if_pos rfl]
        refine ⟨by simp; omega, ?_, areCells.append (areCells.append (areCells.take _ hc1) hc) (areCells.drop _ hc1)⟩
        rw [show p.base + o = (p.base + o / es * es) + o % es by omega, cut_splA_in _ _ _ _ _ (by omega) (by omega), hvn]
        exact VL.append (VL.append (VL.take _ hv1) hv) (VL.drop _ hv1)
      · rw [if_neg e]
        obtain ⟨hl2, hv2, hc2⟩ := hq _ hqm
        refine ⟨hl2, ?_, hc2⟩
        rw [cut_splA_out _ _ _ (by omega)]
        · exact hv2
        · rcases Nat.lt_or_gt_of_ne e with hlt | hgt
          · have : (q + 1) * es ≤ o / es * es := Nat.mul_le_mul_right _ hlt
            rw [Nat.add_mul, Nat.one_mul] at this
            left; omega
          · have : (o / es + 1) * es ≤ q * es := Nat.mul_le_mul_right _ hgt
            rw [Nat.add_mul, Nat.one_mul] at this
            right; omega
    · have hge : m * es ≤ o / es * es := Nat.mul_le_mul_right _ (by omega)
      omega
theorem store1_ok {φ : Phi} {w : World} {b b' : Blk} {p : Pl} {o : Nat} {a : AV} {v : Value} (hb : BRel φ w b p) (h : store1 b o a = some b') (hv : V φ a v) (hc : isCell a = true) :
    ∃ w', (storeCells (p.at o) [v]).run P w = .ok () w' ∧ Wrote w w' p.b ∧ BRel φ w' b' p ∧ isRw b = true ∧ isRw b' = true := by
  have hc1 : areCells [a] := fun x hx => by rw [List.mem_singleton.1 hx]; exact hc
  refine storeN_ok hb (l := [a]) (n := 1) ?_ (VL.mk1 hv) hc1 rfl (by omega)
  have hset : ∀ (l : List AV) (r m : Nat) (x : List AV), m = l.length → set1 l r a = some x → layN l r m 1 [a] = some x := by
    intro l r m x hm hx
    obtain ⟨hlt, rfl⟩ := set1_some _ _ _ _ hx
    have e : layN l r m 1 [a] = @Bool.rec (fun _ => Option (List AV)) (splice l r [a]) (@Nat.rec (fun _ => Option (List AV)) (some [a]) (fun _ _ => none) r) (Nat.beq m 1) := rfl
    rw [e]
    have hs : ∀ (r : Nat) (l : List AV), r < l.length → splice l r [a] = some (l.set r a) := by
      intro r
      induction r with
      | zero => intro l hl; cases l with | nil => cases hl | cons x l => cases l <;> rfl
      | succ r ih =>
        intro l hl
        cases l with
        | nil => cases hl
        | cons x l =>
          have := ih l (by simpa using hl)
          show @Option.rec _ (fun _ => Option (List AV)) none (fun r => some (x :: r)) (splice l r [a]) = _
          rw [this]
          rfl
    cases hbq : Nat.beq m 1 with
    | false => exact hs _ _ hlt
    | true =>
      have := nat_beq hbq
      cases r with
      | zero => cases l with
        | nil => cases hlt
        | cons x l =>
          have : l = [] := List.eq_nil_of_length_eq_zero (by simp at hm; omega)
          subst this
          rfl
      | succ r => omega
  rcases onCells_some h with ⟨ty, m, l0, ro, rfl, h1⟩ | ⟨ty, es, m, d, t, rfl, h1⟩
  · cases ro with
    | true => cases h1
    | false =>
      obtain ⟨c, fr, ty', hw, hbase, hm, hv0, hc0, hfr⟩ := hb
      obtain ⟨l1, h2, h3⟩ := opt_some (o := set1 l0 o a) (f := fun l => some (Blk.one ty m l false)) h1
      have h4 := hset _ _ m _ hm h2
      show @Option.rec _ (fun _ => Option Blk) none (fun l => some (Blk.one ty m l false)) (layN l0 o m 1 [a]) = _
      rw [h4]
      exact h3
  · obtain ⟨c, fr, hw, hes, hpe, hlim, hsz, hfz, h256, hq⟩ := hb
    obtain ⟨hle, h2⟩ := bool_some h1
    obtain ⟨l1, h3, h4⟩ := opt_some (o := set1 (el2 (Nat.div o es) t) (Nat.mod o es) a) (f := fun l => some (Blk.arr ty es m d (pl2 (Nat.div o es) l t))) h2
    have hqm : o / es < m := by
      rw [Nat.div_lt_iff_lt_mul hes]
      have : o + 1 ≤ m * es := nat_ble hle
      omega
    have h5 : layN (el2 (Nat.div o es) t) (Nat.mod o es) es 1 [a] = some l1 := hset _ _ es _ (hq _ hqm).1.symm h3
    show @Bool.rec (fun _ => Option Blk) none (@Option.rec _ (fun _ => Option Blk) none (fun l => some (Blk.arr ty es m d (pl2 (Nat.div o es) l t))) (layN (el2 (Nat.div o es) t) (Nat.mod o es) es 1 [a])) (Nat.ble (o + 1) (m * es)) = _
    rw [h5, show Nat.ble (o + 1) (m * es) = true from hle]
    exact h4
end Go.Ax
