/- A machine of its own for closed runs, for the kernel: values with names for blocks, a heap, the program's code gone through. -/
import Derived.Orders
set_option linter.unusedVariables false
namespace Go.Ax
noncomputable section
inductive Dg where
  | d0 | d1 | d2 | d3 | d4 | d5 | d6 | d7 | d8 | d9 | d10 | d11 | d12 | d13 | d14 | d15
structure N16 (α : Type) where
  mk ::
  (a0 : α)
  (a1 : α)
  (a2 : α)
  (a3 : α)
  (a4 : α)
  (a5 : α)
  (a6 : α)
  (a7 : α)
  (a8 : α)
  (a9 : α)
  (a10 : α)
  (a11 : α)
  (a12 : α)
  (a13 : α)
  (a14 : α)
  (a15 : α)
namespace N16
variable {α : Type}
def set0 (t : N16 α) (v : α) : N16 α := @N16.rec α (fun _ => N16 α) (fun _ x1 x2 x3 x4 x5 x6 x7 x8 x9 x10 x11 x12 x13 x14 x15 => ⟨v, x1, x2, x3, x4, x5, x6, x7, x8, x9, x10, x11, x12, x13, x14, x15⟩) t
def set1 (t : N16 α) (v : α) : N16 α := @N16.rec α (fun _ => N16 α) (fun x0 _ x2 x3 x4 x5 x6 x7 x8 x9 x10 x11 x12 x13 x14 x15 => ⟨x0, v, x2, x3, x4, x5, x6, x7, x8, x9, x10, x11, x12, x13, x14, x15⟩) t
def set2 (t : N16 α) (v : α) : N16 α := @N16.rec α (fun _ => N16 α) (fun x0 x1 _ x3 x4 x5 x6 x7 x8 x9 x10 x11 x12 x13 x14 x15 => ⟨x0, x1, v, x3, x4, x5, x6, x7, x8, x9, x10, x11, x12, x13, x14, x15⟩) t
def set3 (t : N16 α) (v : α) : N16 α := @N16.rec α (fun _ => N16 α) (fun x0 x1 x2 _ x4 x5 x6 x7 x8 x9 x10 x11 x12 x13 x14 x15 => ⟨x0, x1, x2, v, x4, x5, x6, x7, x8, x9, x10, x11, x12, x13, x14, x15⟩) t
def set4 (t : N16 α) (v : α) : N16 α := @N16.rec α (fun _ => N16 α) (fun x0 x1 x2 x3 _ x5 x6 x7 x8 x9 x10 x11 x12 x13 x14 x15 => ⟨x0, x1, x2, x3, v, x5, x6, x7, x8, x9, x10, x11, x12, x13, x14, x15⟩) t
def set5 (t : N16 α) (v : α) : N16 α := @N16.rec α (fun _ => N16 α) (fun x0 x1 x2 x3 x4 _ x6 x7 x8 x9 x10 x11 x12 x13 x14 x15 => ⟨x0, x1, x2, x3, x4, v, x6, x7, x8, x9, x10, x11, x12, x13, x14, x15⟩) t
def set6 (t : N16 α) (v : α) : N16 α := @N16.rec α (fun _ => N16 α) (fun x0 x1 x2 x3 x4 x5 _ x7 x8 x9 x10 x11 x12 x13 x14 x15 => ⟨x0, x1, x2, x3, x4, x5, v, x7, x8, x9, x10, x11, x12, x13, x14, x15⟩) t
def set7 (t : N16 α) (v : α) : N16 α := @N16.rec α (fun _ => N16 α) (fun x0 x1 x2 x3 x4 x5 x6 _ x8 x9 x10 x11 x12 x13 x14 x15 => ⟨x0, x1, x2, x3, x4, x5, x6, v, x8, x9, x10, x11, x12, x13, x14, x15⟩) t
def set8 (t : N16 α) (v : α) : N16 α := @N16.rec α (fun _ => N16 α) (fun x0 x1 x2 x3 x4 x5 x6 x7 _ x9 x10 x11 x12 x13 x14 x15 => ⟨x0, x1, x2, x3, x4, x5, x6, x7, v, x9, x10, x11, x12, x13, x14, x15⟩) t
def set9 (t : N16 α) (v : α) : N16 α := @N16.rec α (fun _ => N16 α) (fun x0 x1 x2 x3 x4 x5 x6 x7 x8 _ x10 x11 x12 x13 x14 x15 => ⟨x0, x1, x2, x3, x4, x5, x6, x7, x8, v, x10, x11, x12, x13, x14, x15⟩) t
def set10 (t : N16 α) (v : α) : N16 α := @N16.rec α (fun _ => N16 α) (fun x0 x1 x2 x3 x4 x5 x6 x7 x8 x9 _ x11 x12 x13 x14 x15 => ⟨x0, x1, x2, x3, x4, x5, x6, x7, x8, x9, v, x11, x12, x13, x14, x15⟩) t
def set11 (t : N16 α) (v : α) : N16 α := @N16.rec α (fun _ => N16 α) (fun x0 x1 x2 x3 x4 x5 x6 x7 x8 x9 x10 _ x12 x13 x14 x15 => ⟨x0, x1, x2, x3, x4, x5, x6, x7, x8, x9, x10, v, x12, x13, x14, x15⟩) t
def set12 (t : N16 α) (v : α) : N16 α := @N16.rec α (fun _ => N16 α) (fun x0 x1 x2 x3 x4 x5 x6 x7 x8 x9 x10 x11 _ x13 x14 x15 => ⟨x0, x1, x2, x3, x4, x5, x6, x7, x8, x9, x10, x11, v, x13, x14, x15⟩) t
def set13 (t : N16 α) (v : α) : N16 α := @N16.rec α (fun _ => N16 α) (fun x0 x1 x2 x3 x4 x5 x6 x7 x8 x9 x10 x11 x12 _ x14 x15 => ⟨x0, x1, x2, x3, x4, x5, x6, x7, x8, x9, x10, x11, x12, v, x14, x15⟩) t
def set14 (t : N16 α) (v : α) : N16 α := @N16.rec α (fun _ => N16 α) (fun x0 x1 x2 x3 x4 x5 x6 x7 x8 x9 x10 x11 x12 x13 _ x15 => ⟨x0, x1, x2, x3, x4, x5, x6, x7, x8, x9, x10, x11, x12, x13, v, x15⟩) t
def set15 (t : N16 α) (v : α) : N16 α := @N16.rec α (fun _ => N16 α) (fun x0 x1 x2 x3 x4 x5 x6 x7 x8 x9 x10 x11 x12 x13 x14 _ => ⟨x0, x1, x2, x3, x4, x5, x6, x7, x8, x9, x10, x11, x12, x13, x14, v⟩) t
def sel (d : Dg) (t : N16 α) : α := @N16.rec α (fun _ => α) (fun x0 x1 x2 x3 x4 x5 x6 x7 x8 x9 x10 x11 x12 x13 x14 x15 => @Dg.rec (fun _ => α) x0 x1 x2 x3 x4 x5 x6 x7 x8 x9 x10 x11 x12 x13 x14 x15 d) t
def set (d : Dg) (t : N16 α) (v : α) : N16 α := @Dg.rec (fun _ => N16 α) (set0 t v) (set1 t v) (set2 t v) (set3 t v) (set4 t v) (set5 t v) (set6 t v) (set7 t v) (set8 t v) (set9 t v) (set10 t v) (set11 t v) (set12 t v) (set13 t v) (set14 t v) (set15 t v) d
def fill (x : α) : N16 α := ⟨x, x, x, x, x, x, x, x, x, x, x, x, x, x, x, x⟩
end N16
def dgOf (n : Nat) : Dg := match n with
  | 0 => .d0
  | 1 => .d1
  | 2 => .d2
  | 3 => .d3
  | 4 => .d4
  | 5 => .d5
  | 6 => .d6
  | 7 => .d7
  | 8 => .d8
  | 9 => .d9
  | 10 => .d10
  | 11 => .d11
  | 12 => .d12
  | 13 => .d13
  | 14 => .d14
  | _ => .d15
def Dg.next {β : Type} (d : Dg) (carry : β) (k : Dg → β) : β := @Dg.rec (fun _ => β) (k .d1) (k .d2) (k .d3) (k .d4) (k .d5) (k .d6) (k .d7) (k .d8) (k .d9) (k .d10) (k .d11) (k .d12) (k .d13) (k .d14) (k .d15) carry d
def Dg.num (d : Dg) : Nat := @Dg.rec (fun _ => Nat) 0 1 2 3 4 5 6 7 8 9 10 11 12 13 14 15 d
structure Id where
  mk ::
  (a b c d : Dg)

/-- The executor's values: a block is named by a name of its own. -/
inductive AV where
  | bool (b : Bool)
  | int (k : IntKind) (n : Int)
  | str (l : List UInt8)
  | nilp
  | ptr (i : Id) (o : Nat)
  | nils
  | sl (i : Id) (o : Nat) (len : Nat) (cap : Option Nat)
  | emp
  | nilm
  | mp (i : Id)
  | nilf
  | fn (f : Nat) (x : List AV) (y : List AV)
  | yld (l : Id)
  | nili
  | agg (l : List AV)
  | tup (l : List AV)

abbrev TM := N16 (N16 AV)
abbrev Els := N16 (N16 (List AV))
inductive Blk where
  | none
  | one (ty : Nat) (m : Nat) (l : List AV) (ro : Bool)
  | arr (ty : Nat) (es : Nat) (n : Nat) (dyn : Bool) (t : Els)
  | loop (ready : Bool) (n : Nat) (pend : Option Code) (tm : TM) (ps : List Nat) (asg : Code) (body : Code)
  | mp (es : List (AV × AV × Nat)) (clock : Nat)
  | sit (s : List UInt8) (pos : Nat)

abbrev T4 := N16 (N16 (N16 (N16 Blk)))
structure Hp where
  mk ::
  (t : T4) (nx : Id)
inductive RC where
  | bad
  | ok (v : AV) (h : Hp)
inductive R where
  | bad
  | norm (t : TM) (h : Hp)
  | ret (t : TM) (h : Hp)
  | exit (i : Nat) (t : TM) (h : Hp)
structure CK where
  mk ::
  (run : Nat → List AV → Hp → RC)
  (yld : Id → List AV → Hp → RC)
structure K where
  mk ::
  (run : CK → TM → Hp → R)
structure Opd where
  mk ::
  (get : TM → AV)
structure Dst where
  mk ::
  (put : AV → TM → TM)
structure Evs where
  mk ::
  (get : TM → List AV)
inductive NewR where
  | bad
  | ok (b : Blk) (g : Id → AV)
/-- What an operation is, by its operands: a move; of the operands alone; of the heap too; a new block; anything else. -/
inductive OpK where
  | bad
  | mv
  | p1 (f : AV → Option AV)
  | p2 (f : AV → AV → Option AV)
  | pL (f : List AV → Option AV)
  | r1 (f : AV → Hp → Option AV)
  | r2 (f : AV → AV → Hp → Option AV)
  | rL (f : List AV → Hp → Option AV)
  | n0 (b : Blk) (g : Id → AV)
  | n1 (f : AV → NewR)
  | nL (f : List AV → NewR)
  | e2 (f : AV → AV → Hp → RC)
  | eL (f : CK → List AV → Hp → RC)
def AV.onInt {β : Type} (x : AV) (bad : β) (kk : IntKind → Int → β) : β := @AV.rec (fun _ => β) (fun _ => Unit) (fun _ => bad) (fun k n => kk k n) (fun _ => bad) bad (fun _ _ => bad) bad (fun _ _ _ _ => bad) bad bad (fun _ => bad) bad (fun _ _ _ _ _ => bad) (fun _ => bad) bad (fun _ _ => bad) (fun _ _ => bad) () (fun _ _ _ _ => ()) x
def AV.onBool {β : Type} (x : AV) (bad : β) (kk : Bool → β) : β := @AV.rec (fun _ => β) (fun _ => Unit) (fun b => kk b) (fun _ _ => bad) (fun _ => bad) bad (fun _ _ => bad) bad (fun _ _ _ _ => bad) bad bad (fun _ => bad) bad (fun _ _ _ _ _ => bad) (fun _ => bad) bad (fun _ _ => bad) (fun _ _ => bad) () (fun _ _ _ _ => ()) x
def AV.onPtr {β : Type} (x : AV) (bad : β) (kk : Id → Nat → β) : β := @AV.rec (fun _ => β) (fun _ => Unit) (fun _ => bad) (fun _ _ => bad) (fun _ => bad) bad (fun i o => kk i o) bad (fun _ _ _ _ => bad) bad bad (fun _ => bad) bad (fun _ _ _ _ _ => bad) (fun _ => bad) bad (fun _ _ => bad) (fun _ _ => bad) () (fun _ _ _ _ => ()) x
def AV.onSl {β : Type} (x : AV) (bad : β) (kk : Id → Nat → Nat → Option Nat → β) : β := @AV.rec (fun _ => β) (fun _ => Unit) (fun _ => bad) (fun _ _ => bad) (fun _ => bad) bad (fun _ _ => bad) bad (fun i o len cap => kk i o len cap) bad bad (fun _ => bad) bad (fun _ _ _ _ _ => bad) (fun _ => bad) bad (fun _ _ => bad) (fun _ _ => bad) () (fun _ _ _ _ => ()) x
def AV.onIS {β : Type} (x : AV) (bad : β) (kk : IntKind → Int → β) (kk' : List UInt8 → β) : β := @AV.rec (fun _ => β) (fun _ => Unit) (fun _ => bad) (fun k n => kk k n) (fun l => kk' l) bad (fun _ _ => bad) bad (fun _ _ _ _ => bad) bad bad (fun _ => bad) bad (fun _ _ _ _ _ => bad) (fun _ => bad) bad (fun _ _ => bad) (fun _ _ => bad) () (fun _ _ _ _ => ()) x
def AV.onStr {β : Type} (x : AV) (bad : β) (kk : List UInt8 → β) : β := @AV.rec (fun _ => β) (fun _ => Unit) (fun _ => bad) (fun _ _ => bad) (fun l => kk l) bad (fun _ _ => bad) bad (fun _ _ _ _ => bad) bad bad (fun _ => bad) bad (fun _ _ _ _ _ => bad) (fun _ => bad) bad (fun _ _ => bad) (fun _ _ => bad) () (fun _ _ _ _ => ()) x
def AV.onAgg {β : Type} (x : AV) (bad : β) (kk : List AV → β) : β := @AV.rec (fun _ => β) (fun _ => Unit) (fun _ => bad) (fun _ _ => bad) (fun _ => bad) bad (fun _ _ => bad) bad (fun _ _ _ _ => bad) bad bad (fun _ => bad) bad (fun _ _ _ _ _ => bad) (fun _ => bad) bad (fun l _ => kk l) (fun _ _ => bad) () (fun _ _ _ _ => ()) x
def AV.onTup {β : Type} (x : AV) (bad : β) (kk : List AV → β) : β := @AV.rec (fun _ => β) (fun _ => Unit) (fun _ => bad) (fun _ _ => bad) (fun _ => bad) bad (fun _ _ => bad) bad (fun _ _ _ _ => bad) bad bad (fun _ => bad) bad (fun _ _ _ _ _ => bad) (fun _ => bad) bad (fun _ _ => bad) (fun l _ => kk l) () (fun _ _ _ _ => ()) x
def AV.ifCell {β : Type} (x : AV) (bad kk : β) : β := @AV.rec (fun _ => β) (fun _ => Unit) (fun _ => kk) (fun _ _ => kk) (fun _ => kk) kk (fun _ _ => kk) kk (fun _ _ _ _ => kk) kk kk (fun _ => kk) kk (fun _ _ _ _ _ => kk) (fun _ => kk) kk (fun _ _ => bad) (fun _ _ => bad) () (fun _ _ _ _ => ()) x
def AV.onMp {β : Type} (x : AV) (bad : β) (kk : Id → β) : β := @AV.rec (fun _ => β) (fun _ => Unit) (fun _ => bad) (fun _ _ => bad) (fun _ => bad) bad (fun _ _ => bad) bad (fun _ _ _ _ => bad) bad bad (fun i => kk i) bad (fun _ _ _ _ _ => bad) (fun _ => bad) bad (fun _ _ => bad) (fun _ _ => bad) () (fun _ _ _ _ => ()) x

def Blk.onCells {β : Type} (x : Blk) (bad : β) (kk : Nat → Nat → List AV → Bool → β) (kk' : Nat → Nat → Nat → Bool → Els → β) : β := @Blk.rec (fun _ => β) bad (fun ty m l ro => kk ty m l ro) (fun ty es n dyn t => kk' ty es n dyn t) (fun _ _ _ _ _ _ _ => bad) (fun _ _ => bad) (fun _ _ => bad) x
def Blk.onMap {β : Type} (x : Blk) (bad : β) (kk : List (AV × AV × Nat) → Nat → β) : β := @Blk.rec (fun _ => β) bad (fun _ _ _ _ => bad) (fun _ _ _ _ _ => bad) (fun _ _ _ _ _ _ _ => bad) (fun es clock => kk es clock) (fun _ _ => bad) x

namespace T4
def get (i : Id) (t : T4) : Blk := (@Id.rec (fun _ => Blk) (fun a b c d => N16.sel d (N16.sel c (N16.sel b (N16.sel a t)))) i)
def put1 (d : Dg) (v : Blk) (t : N16 Blk) : N16 Blk := N16.set d t v
def put2 (c d : Dg) (v : Blk) (t : N16 (N16 Blk)) : N16 (N16 Blk) := N16.set c t (N16.set d (N16.sel c t) v)
def put3 (b c d : Dg) (v : Blk) (t : N16 (N16 (N16 Blk))) : N16 (N16 (N16 Blk)) := N16.set b t (put2 c d v (N16.sel b t))
def put (i : Id) (v : Blk) (t : T4) : T4 := (@Id.rec (fun _ => T4) (fun a b c d => N16.set a t (put3 b c d v (N16.sel a t))) i)
end T4
def Id.succ (i : Id) : Id := (@Id.rec (fun _ => Id) (fun a b c d => Dg.next d (Dg.next c (Dg.next b (Dg.next a ⟨.d15, .d15, .d15, .d15⟩ fun a => ⟨a, .d0, .d0, .d0⟩) fun b => ⟨a, b, .d0, .d0⟩) fun c => ⟨a, b, c, .d0⟩) fun d => ⟨a, b, c, d⟩) i)
def Dg.beq (x y : Dg) : Bool := Nat.beq x.num y.num
def Id.beq (i j : Id) : Bool := (@Id.rec (fun _ => Bool) (fun a b c d => (@Id.rec (fun _ => Bool) (fun a' b' c' d' => (@Bool.rec (fun _ => Bool) false ((@Bool.rec (fun _ => Bool) false ((@Bool.rec (fun _ => Bool) false (Dg.beq a a') (Dg.beq b b'))) (Dg.beq c c'))) (Dg.beq d d'))) j)) i)
def Id.full (i : Id) : Bool := (@Id.rec (fun _ => Bool) (fun a _ _ _ => Dg.beq a .d15) i)

def undef : AV := .tup []
def tm0 : TM := N16.fill (N16.fill undef)
def els0 : Els := N16.fill (N16.fill [])
def Opd.inn (f : TM → N16 AV) (lo : Dg) : Opd := @Dg.rec (fun _ => Opd) ⟨fun tm => N16.a0 (f tm)⟩ ⟨fun tm => N16.a1 (f tm)⟩ ⟨fun tm => N16.a2 (f tm)⟩ ⟨fun tm => N16.a3 (f tm)⟩ ⟨fun tm => N16.a4 (f tm)⟩ ⟨fun tm => N16.a5 (f tm)⟩ ⟨fun tm => N16.a6 (f tm)⟩ ⟨fun tm => N16.a7 (f tm)⟩ ⟨fun tm => N16.a8 (f tm)⟩ ⟨fun tm => N16.a9 (f tm)⟩ ⟨fun tm => N16.a10 (f tm)⟩ ⟨fun tm => N16.a11 (f tm)⟩ ⟨fun tm => N16.a12 (f tm)⟩ ⟨fun tm => N16.a13 (f tm)⟩ ⟨fun tm => N16.a14 (f tm)⟩ ⟨fun tm => N16.a15 (f tm)⟩ lo
def Opd.mk2 (hi lo : Dg) : Opd := @Dg.rec (fun _ => Opd) (Opd.inn N16.a0 lo) (Opd.inn N16.a1 lo) (Opd.inn N16.a2 lo) (Opd.inn N16.a3 lo) (Opd.inn N16.a4 lo) (Opd.inn N16.a5 lo) (Opd.inn N16.a6 lo) (Opd.inn N16.a7 lo) (Opd.inn N16.a8 lo) (Opd.inn N16.a9 lo) (Opd.inn N16.a10 lo) (Opd.inn N16.a11 lo) (Opd.inn N16.a12 lo) (Opd.inn N16.a13 lo) (Opd.inn N16.a14 lo) (Opd.inn N16.a15 lo) hi
def Dst.inn (f : TM → N16 AV) (g : TM → N16 AV → TM) (lo : Dg) : Dst := @Dg.rec (fun _ => Dst) ⟨fun v tm => g tm (N16.set0 (f tm) v)⟩ ⟨fun v tm => g tm (N16.set1 (f tm) v)⟩ ⟨fun v tm => g tm (N16.set2 (f tm) v)⟩ ⟨fun v tm => g tm (N16.set3 (f tm) v)⟩ ⟨fun v tm => g tm (N16.set4 (f tm) v)⟩ ⟨fun v tm => g tm (N16.set5 (f tm) v)⟩ ⟨fun v tm => g tm (N16.set6 (f tm) v)⟩ ⟨fun v tm => g tm (N16.set7 (f tm) v)⟩ ⟨fun v tm => g tm (N16.set8 (f tm) v)⟩ ⟨fun v tm => g tm (N16.set9 (f tm) v)⟩ ⟨fun v tm => g tm (N16.set10 (f tm) v)⟩ ⟨fun v tm => g tm (N16.set11 (f tm) v)⟩ ⟨fun v tm => g tm (N16.set12 (f tm) v)⟩ ⟨fun v tm => g tm (N16.set13 (f tm) v)⟩ ⟨fun v tm => g tm (N16.set14 (f tm) v)⟩ ⟨fun v tm => g tm (N16.set15 (f tm) v)⟩ lo
def Dst.mk2 (hi lo : Dg) : Dst := @Dg.rec (fun _ => Dst) (Dst.inn N16.a0 N16.set0 lo) (Dst.inn N16.a1 N16.set1 lo) (Dst.inn N16.a2 N16.set2 lo) (Dst.inn N16.a3 N16.set3 lo) (Dst.inn N16.a4 N16.set4 lo) (Dst.inn N16.a5 N16.set5 lo) (Dst.inn N16.a6 N16.set6 lo) (Dst.inn N16.a7 N16.set7 lo) (Dst.inn N16.a8 N16.set8 lo) (Dst.inn N16.a9 N16.set9 lo) (Dst.inn N16.a10 N16.set10 lo) (Dst.inn N16.a11 N16.set11 lo) (Dst.inn N16.a12 N16.set12 lo) (Dst.inn N16.a13 N16.set13 lo) (Dst.inn N16.a14 N16.set14 lo) (Dst.inn N16.a15 N16.set15 lo) hi


/-! ### lists -/
def nth (l : List AV) (n : Nat) : Option AV := (@Nat.rec (fun _ => List AV → Option AV) (fun l => (@List.rec _ (fun _ => Option AV) none (fun a _l _ => some a) l)) (fun _n ih => fun l => (@List.rec _ (fun _ => Option AV) none (fun _a r _ => ih r) l)) n) l
/-- The first n, if there are so many. -/
def takeX (l : List AV) (n : Nat) : Option (List AV) := match l, n with
  | _, 0 => some []
  | [], _ => none
  | a :: l, n + 1 => (@Option.rec _ (fun _ => Option (List AV)) none (fun r => some (a :: r)) (takeX l n))
def dropA (l : List AV) (n : Nat) : List AV := (@Nat.rec (fun _ => List AV → List AV) (fun l => l) (fun _n ih => fun l => (@List.rec _ (fun _ => List AV) ([]) (fun _a r _ => ih r) l)) n) l
def dropB {α : Type} (l : List α) (n : Nat) : List α := match l, n with
  | l, 0 => l
  | [], _ => []
  | _ :: l, n + 1 => dropB l n
def takeB {α : Type} (l : List α) (n : Nat) : List α := match l, n with
  | _, 0 => []
  | [], _ => []
  | a :: l, n + 1 => a :: takeB l n
def len {α : Type} (l : List α) : Nat := (@List.rec _ (fun _ => Nat) 0 (fun _a _l ih => Nat.succ ih) l)
/-- vs laid over l's head, if l is as long. -/
def over (l vs : List AV) : Option (List AV) := match vs, l with
  | [], l => some l
  | _ :: _, [] => none
  | v :: vs, _ :: l => (@Option.rec _ (fun _ => Option (List AV)) none (fun r => some (v :: r)) (over l vs))
def splice (l : List AV) (n : Nat) (vs : List AV) : Option (List AV) := match n, l with
  | 0, l => over l vs
  | _ + 1, [] => none
  | n + 1, a :: l => (@Option.rec _ (fun _ => Option (List AV)) none (fun r => some (a :: r)) (splice l n vs))
/-- v in the place n. -/
def set1 (l : List AV) (n : Nat) (v : AV) : Option (List AV) := (@Nat.rec (fun _ => List AV → Option (List AV)) (fun l => (@List.rec _ (fun _ => Option (List AV)) none (fun _a r _ => some (v :: r)) l)) (fun _n ih => fun l => (@List.rec _ (fun _ => Option (List AV)) none (fun a r _ => (@Option.rec _ (fun _ => Option (List AV)) none (fun r => some (a :: r)) (ih r))) l)) n) l

/-! ### types -/
def lnth {α : Type} (l : List α) (n : Nat) : Option α := (@Nat.rec (fun _ => List α → Option α) (fun l => (@List.rec _ (fun _ => Option α) none (fun a _l _ => some a) l)) (fun _n ih => fun l => (@List.rec _ (fun _ => Option α) none (fun _a r _ => ih r) l)) n) l
def infoAt (P : Program) (t : Nat) : Option TypeInfo := lnth P.types.toList t
def szOf (P : Program) (t : Nat) : Nat := match infoAt P t with
  | some i => i.size
  | none => 0
def undl (P : Program) (t : Nat) : TypeDesc := match infoAt P t with
  | some i => (match i.desc with
    | .named _ u => (match infoAt P u with
      | some j => j.desc
      | none => .invalid)
    | d => d)
  | none => .invalid
def isAggD : TypeDesc → Bool
  | .struct _ => true
  | .array _ _ => true
  | _ => false
def isAggB (P : Program) (t : Nat) : Bool := isAggD (undl P t)
def knownB (P : Program) (t : Nat) : Bool := match undl P t with
  | .invalid => false
  | _ => true
def cellB : AV → Bool
  | .agg _ => false
  | .tup _ => false
  | _ => true
mutual
def ofV : Value → Option AV
  | .bool b => some (.bool b)
  | .int k n => some (.int k n)
  | .string s => some (.str s.data.toList)
  | .pointer none => some .nilp
  | .slice none 0 0 => some .nils
  | .map none => some .nilm
  | .nilFunc => some .nilf
  | .nilIface => some .nili
  | .agg l => (match ofVs l.toList with
    | some r => (match r.all cellB with
      | true => some (.agg r)
      | false => none)
    | none => none)
  | .tuple l => (ofVs l.toList).map .tup
  | _ => none
def ofVs : List Value → Option (List AV)
  | [] => some []
  | v :: l => match ofV v, ofVs l with
    | some a, some r => some (a :: r)
    | _, _ => none
end
/-- The cells of a value that may lie in memory. -/
def cellsO (v : AV) : Option (List AV) := AV.onAgg v (AV.ifCell v none (some [v])) fun l => some l
def zeroA (P : Program) (t : Nat) : Option AV := match infoAt P t with
  | some i => (match i.zero with
    | some v => ofV v
    | none => none)
  | none => none
def zeroCs (P : Program) (t : Nat) : Option (List AV) := match zeroA P t with
  | some v => cellsO v
  | none => none
def idOfGlobal (g : Nat) : Id := ⟨.d0, .d0, dgOf (g / 16), dgOf (g % 16)⟩
def rgGet (t : Nat) : Opd := Opd.mk2 (dgOf (t / 16)) (dgOf (t % 16))
def rgPut (t : Nat) : Dst := Dst.mk2 (dgOf (t / 16)) (dgOf (t % 16))
def cOpd (N : Nat) : Operand → Opd
  | .tmp t => match Nat.ble (t + 1) N with
    | true => rgGet t
    | false => ⟨fun _ => undef⟩
  | .const v => match ofV v with
    | some a => ⟨fun _ => a⟩
    | none => ⟨fun _ => undef⟩
  | .global g => ⟨fun _ => .ptr (idOfGlobal g) 0⟩
  | .func f => ⟨fun _ => .fn f [] []⟩
/-- Can the operand be spoken of? -/
def okOpd : Operand → Bool
  | .const v => (ofV v).isSome
  | .global g => Nat.ble (g + 1) 9
  | _ => true
def cDst : Option Nat → Dst
  | none => ⟨fun _ t => t⟩
  | some d => rgPut d
def okDst (N : Nat) : Option Nat → Bool
  | none => true
  | some d => Nat.ble (d + 1) N
def cEvs : List Opd → Evs
  | [] => ⟨fun _ => []⟩
  | x :: l => match x, cEvs l with
    | ⟨g⟩, ⟨r⟩ => ⟨fun tm => g tm :: r tm⟩

/-! ### heap -/
def alloc (b : Blk) (h : Hp) {β : Type} (bad : β) (k : Id → Hp → β) : β :=
  (@Hp.rec (fun _ => β) (fun t nx => (@Id.rec (fun _ => β) (fun a b' c d => (@Bool.rec (fun _ => β) (k ⟨a, b', c, d⟩ ⟨T4.put ⟨a, b', c, d⟩ b t, Id.succ ⟨a, b', c, d⟩⟩) bad (Dg.beq a .d15))) nx)) h)
def Hp.get (i : Id) (h : Hp) : Blk := T4.get i h.t
def Hp.put (i : Id) (b : Blk) (h : Hp) : Hp := (@Hp.rec (fun _ => Hp) (fun t nx => ⟨T4.put i b t, nx⟩) h)
def el2 (q : Nat) (t : Els) : List AV := N16.sel (dgOf (Nat.mod q 16)) (N16.sel (dgOf (Nat.div q 16)) t)
def pl2 (q : Nat) (l : List AV) (t : Els) : Els := N16.set (dgOf (Nat.div q 16)) t (N16.set (dgOf (Nat.mod q 16)) (N16.sel (dgOf (Nat.div q 16)) t) l)
/-- The n cells of l from place r on; m: how many there are. -/
def cutN (l : List AV) (m r n : Nat) : Option (List AV) := (@Bool.rec (fun _ => Option (List AV)) (takeX (dropA l r) n) ((@Nat.rec (fun _ => Option (List AV)) (some l) (fun _r _ => none) r)) (Nat.beq m n))
/-- The n cells from place o on. -/
def loadN (b : Blk) (o n : Nat) : Option (List AV) :=
  Blk.onCells b none (fun _ m l _ => cutN l m o n)
    fun _ es m _ t => (@Bool.rec (fun _ => Option (List AV)) none (cutN (el2 (Nat.div o es) t) es (Nat.mod o es) n) (Nat.ble (Nat.add o n) (Nat.mul m es)))
/-- The cell in place o. -/
def load1 (b : Blk) (o : Nat) : Option AV :=
  Blk.onCells b none (fun _ _ l _ => nth l o)
    fun _ es m _ t => (@Bool.rec (fun _ => Option AV) none (nth (el2 (Nat.div o es) t) (Nat.mod o es)) (Nat.ble (Nat.succ o) (Nat.mul m es)))
def layN (l : List AV) (r m n : Nat) (vs : List AV) : Option (List AV) := (@Bool.rec (fun _ => Option (List AV)) (splice l r vs) ((@Nat.rec (fun _ => Option (List AV)) (some vs) (fun _r _ => none) r)) (Nat.beq m n))
/-- n cells vs, from place o on. -/
def storeN (b : Blk) (o n : Nat) (vs : List AV) : Option Blk :=
  Blk.onCells b none (fun ty m l ro => (@Bool.rec (fun _ => Option Blk) ((@Option.rec _ (fun _ => Option Blk) none (fun l => some (.one ty m l false)) (layN l o m n vs))) none ro))
    fun ty es m d t => (@Bool.rec (fun _ => Option Blk) none ((@Option.rec _ (fun _ => Option Blk) none (fun l => some (.arr ty es m d (pl2 (Nat.div o es) l t))) (layN (el2 (Nat.div o es) t) (Nat.mod o es) es n vs))) (Nat.ble (Nat.add o n) (Nat.mul m es)))
def store1 (b : Blk) (o : Nat) (v : AV) : Option Blk :=
  Blk.onCells b none (fun ty m l ro => (@Bool.rec (fun _ => Option Blk) ((@Option.rec _ (fun _ => Option Blk) none (fun l => some (.one ty m l false)) (set1 l o v))) none ro))
    fun ty es m d t => (@Bool.rec (fun _ => Option Blk) none ((@Option.rec _ (fun _ => Option Blk) none (fun l => some (.arr ty es m d (pl2 (Nat.div o es) l t))) (set1 (el2 (Nat.div o es) t) (Nat.mod o es) v))) (Nat.ble (Nat.succ o) (Nat.mul m es)))
/-- n elements of es cells each, from place o on. -/
def elems (b : Blk) (es : Nat) (o : Nat) : Nat → Option (List (List AV))
  | 0 => some []
  | n + 1 => (@Option.rec _ (fun _ => Option (List (List AV))) none (fun l => (@Option.rec _ (fun _ => Option (List (List AV))) none (fun r => some (l :: r)) (elems b es (o + es) n))) (loadN b o es))
def fillFrom (q : Nat) (ls : List (List AV)) (t : Els) : Els := match ls with
  | [] => t
  | l :: ls => fillFrom (q + 1) ls (pl2 q l t)
def storeEls (b : Blk) (es o : Nat) : List (List AV) → Option Blk
  | [] => some b
  | l :: ls => (@Option.rec _ (fun _ => Option Blk) none (fun b' => storeEls b' es (o + es) ls) (storeN b o es l))
/-- A row of n elements, 256 at most. -/
def mkArr (ty es n : Nat) (dyn : Bool) (ls : List (List AV)) : Option Blk := (@Bool.rec (fun _ => Option Blk) none (some (.arr ty es n dyn (fillFrom 0 ls els0))) (Nat.ble n 256))
def mkOne (ty : Nat) (l : List AV) : Blk := .one ty (len l) l false

/-! ### values -/
def iadd (a b : Int) : Int := (@Int.rec (fun _ => Int) (fun m => (@Int.rec (fun _ => Int) (fun n => .ofNat (Nat.add m n)) (fun n => Int.subNatNat m (Nat.succ n)) b)) (fun m => (@Int.rec (fun _ => Int) (fun n => Int.subNatNat n (Nat.succ m)) (fun n => .negSucc (Nat.succ (Nat.add m n))) b)) a)
def isub (a b : Int) : Int := (@Int.rec (fun _ => Int) (fun m => (@Int.rec (fun _ => Int) (fun n => (@Bool.rec (fun _ => Int) (Int.subNatNat m n) (.ofNat (Nat.sub m n)) (Nat.ble n m))) (fun n => .ofNat (Nat.add m (Nat.succ n))) b)) (fun m => (@Int.rec (fun _ => Int) (fun n => .negSucc (Nat.add m n)) (fun n => Int.subNatNat n m) b)) a)
def imul (a b : Int) : Int := (@Int.rec (fun _ => Int) (fun m => (@Int.rec (fun _ => Int) (fun n => .ofNat (Nat.mul m n)) (fun _n => Int.mul a b) b)) (fun _m => Int.mul a b) a)
def wrapS (k : IntKind) (n : Int) : Int := k.wrap n
def wrapI (k : IntKind) (n : Int) : Int := (@IntKind.rec (fun _ => Int) (wrapS .i8 n) (wrapS .i16 n) (wrapS .i32 n) ((@Int.rec (fun _ => Int) (fun m => (@Bool.rec (fun _ => Int) n (wrapS .i64 n) (Nat.ble 9223372036854775808 m))) (fun m => (@Bool.rec (fun _ => Int) n (wrapS .i64 n) (Nat.ble 9223372036854775808 m))) n)) ((@Int.rec (fun _ => Int) (fun m => .ofNat (Nat.mod m 256)) (fun _m => wrapS .u8 n) n)) (wrapS .u16 n) ((@Int.rec (fun _ => Int) (fun m => .ofNat (Nat.mod m 4294967296)) (fun _m => wrapS .u32 n) n)) ((@Int.rec (fun _ => Int) (fun m => .ofNat (Nat.mod m 18446744073709551616)) (fun _m => wrapS .u64 n) n)) k)
def iltB (a b : Int) : Bool := (@Int.rec (fun _ => Bool) (fun m => (@Int.rec (fun _ => Bool) (fun n => Nat.ble (Nat.succ m) n) (fun _n => false) b)) (fun m => (@Int.rec (fun _ => Bool) (fun _n => true) (fun n => Nat.ble (Nat.succ n) m) b)) a)
def ieqB (a b : Int) : Bool := (@Int.rec (fun _ => Bool) (fun m => (@Int.rec (fun _ => Bool) (fun n => Nat.beq m n) (fun _n => false) b)) (fun m => (@Int.rec (fun _ => Bool) (fun _n => false) (fun n => Nat.beq m n) b)) a)
def notB (b : Bool) : Bool := (@Bool.rec (fun _ => Bool) true false b)
def boolEq (a b : Bool) : Bool := (@Bool.rec (fun _ => Bool) (notB b) b a)
def bytesEq (a b : List UInt8) : Bool := (@List.rec _ (fun _ => List UInt8 → Bool) (fun b => (@List.rec _ (fun _ => Bool) true (fun _y _r _ => false) b)) (fun x _l ih => fun b => (@List.rec _ (fun _ => Bool) false (fun y r _ => (@Bool.rec (fun _ => Bool) false (ih r) (Nat.beq x.toNat y.toNat))) b)) a) b
def bytesLt : List UInt8 → List UInt8 → Bool
  | _, [] => false
  | [], _ :: _ => true
  | a :: x, b :: y => match Nat.ble (a.toNat + 1) b.toNat with
    | true => true
    | false => match Nat.beq a.toNat b.toNat with
      | true => bytesLt x y
      | false => false
def kNum (k : IntKind) : Nat := (@IntKind.rec (fun _ => Nat) 0 1 2 3 4 5 6 7 k)
def kindB (a b : IntKind) : Bool := Nat.beq (kNum a) (kNum b)
def limK (k : IntKind) : Nat := (@IntKind.rec (fun _ => Nat) 128 32768 2147483648 9223372036854775808 256 65536 4294967296 18446744073709551616 k)
/-- The equality of scalars that needs no memory. -/
def eqS (x y : AV) : Option Bool := AV.onIS x (match x, y with
  | .bool a, .bool b => some (boolEq a b)
  | .nilp, .nilp => some true
  | .nilp, .ptr _ _ => some false
  | .ptr _ _, .nilp => some false
  | .nils, .nils => some true
  | .nils, .sl _ _ _ _ => some false
  | .sl _ _ _ _, .nils => some false
  | .nilf, .nilf => some true
  | .nilf, .fn _ _ _ => some false
  | .fn _ _ _, .nilf => some false
  | _, _ => none) (fun j a => AV.onInt y none fun k b => (@Bool.rec (fun _ => Option Bool) none (some (ieqB a b)) (kindB j k))) fun a => AV.onStr y none fun b => some (bytesEq a b)
def isOne : Blk → Bool
  | .one _ _ _ false => true
  | _ => false
/-- The equality of pointers: to blocks that are there. -/
def eqP (x y : AV) (h : Hp) : Option Bool := match x, y with
  | .ptr i o, .ptr j q => (@Bool.rec (fun _ => Option Bool) none ((@Bool.rec (fun _ => Option Bool) none (some ((@Bool.rec (fun _ => Bool) false (Nat.beq o q) (Id.beq i j)))) (isOne (h.get j)))) (isOne (h.get i)))
  | .nilp, .nilp => some true
  | .nilp, .ptr _ _ => some false
  | .ptr _ _, .nilp => some false
  | _, _ => none
/-- Cells of one kind each. -/
def eqFs : List AV → List AV → Option Bool
  | [], [] => some true
  | a :: x, b :: y => (@Option.rec _ (fun _ => Option Bool) none (fun r => (@Bool.rec (fun _ => Option Bool) (some false) (eqFs x y) r)) (eqS a b))
  | _, _ => none
/-- The equality of keys. -/
def eqK (x y : AV) : Option Bool := AV.onAgg x (eqS x y) fun a => AV.onAgg y none fun b => eqFs a b
def natOp (op : BinOp) (a b : Nat) : Option Nat := match op with
  | .and => some (Nat.land a b)
  | .or => some (Nat.lor a b)
  | .xor => some (Nat.xor a b)
  | .andNot => some (Nat.xor a (Nat.land a b))
  | _ => none
/-- On two numbers of one kind. -/
def binI (op : BinOp) : Option (IntKind → Int → Int → Option AV) := match op with
  | .add => some fun k a b => some (.int k (wrapI k (iadd a b)))
  | .sub => some fun k a b => some (.int k (wrapI k (isub a b)))
  | .mul => some fun k a b => some (.int k (wrapI k (imul a b)))
  | .quo => some fun k a b => (@Bool.rec (fun _ => Option AV) (some (.int k (wrapI k (a.tdiv b)))) none (ieqB b 0))
  | .rem => some fun k a b => (@Bool.rec (fun _ => Option AV) (some (.int k (a.tmod b))) none (ieqB b 0))
  | .eql => some fun _ a b => some (.bool (ieqB a b))
  | .neq => some fun _ a b => some (.bool (notB (ieqB a b)))
  | .lss => some fun _ a b => some (.bool (iltB a b))
  | .gtr => some fun _ a b => some (.bool (iltB b a))
  | .leq => some fun _ a b => some (.bool (notB (iltB b a)))
  | .geq => some fun _ a b => some (.bool (notB (iltB a b)))
  | .and => some fun k a b => (@Int.rec (fun _ => Option AV) (fun m => (@Int.rec (fun _ => Option AV) (fun n => (@Bool.rec (fun _ => Option AV) ((@Bool.rec (fun _ => Option AV) (some (.int k (.ofNat (Nat.land m n)))) none (Nat.ble (limK k) n))) none (Nat.ble (limK k) m))) (fun _n => none) b)) (fun _m => none) a)
  | .or => some fun k a b => (@Int.rec (fun _ => Option AV) (fun m => (@Int.rec (fun _ => Option AV) (fun n => (@Bool.rec (fun _ => Option AV) ((@Bool.rec (fun _ => Option AV) (some (.int k (.ofNat (Nat.lor m n)))) none (Nat.ble (limK k) n))) none (Nat.ble (limK k) m))) (fun _n => none) b)) (fun _m => none) a)
  | .xor => some fun k a b => (@Int.rec (fun _ => Option AV) (fun m => (@Int.rec (fun _ => Option AV) (fun n => (@Bool.rec (fun _ => Option AV) ((@Bool.rec (fun _ => Option AV) (some (.int k (.ofNat (Nat.xor m n)))) none (Nat.ble (limK k) n))) none (Nat.ble (limK k) m))) (fun _n => none) b)) (fun _m => none) a)
  | .andNot => some fun k a b => (@Int.rec (fun _ => Option AV) (fun m => (@Int.rec (fun _ => Option AV) (fun n => (@Bool.rec (fun _ => Option AV) ((@Bool.rec (fun _ => Option AV) (some (.int k (.ofNat (Nat.xor m (Nat.land m n))))) none (Nat.ble (limK k) n))) none (Nat.ble (limK k) m))) (fun _n => none) b)) (fun _m => none) a)
  | _ => none
def binS (op : BinOp) (a b : List UInt8) : Option AV := match op with
  | .add => match Nat.ble (len a + len b) 1000000 with
    | true => some (.str (a ++ b))
    | false => none
  | .eql => some (.bool (bytesEq a b))
  | .neq => some (.bool (notB (bytesEq a b)))
  | .lss => some (.bool (bytesLt a b))
  | .gtr => some (.bool (bytesLt b a))
  | .leq => some (.bool (notB (bytesLt b a)))
  | .geq => some (.bool (notB (bytesLt a b)))
  | _ => none
def bin2 (f : IntKind → Int → Int → Option AV) (op : BinOp) (x y : AV) : Option AV :=
  AV.onIS x none (fun j a => AV.onInt y none fun k b => (@Bool.rec (fun _ => Option AV) none (f j a b) (kindB j k))) fun a => AV.onStr y none fun b => binS op a b
/-- An operation on two numbers or two strings. -/
def kBin (op : BinOp) : OpK := match binI op with
  | some f => .p2 (bin2 f op)
  | none => .bad
def shl (x y : AV) : Option AV := AV.onInt x none fun j a => AV.onInt y none fun _ b => (@Int.rec (fun _ => Option AV) (fun n => some (.int j (wrapI j (a * 2 ^ (min n j.bits))))) (fun _n => none) b)
def shr (x y : AV) : Option AV := AV.onInt x none fun j a => AV.onInt y none fun _ b => (@Int.rec (fun _ => Option AV) (fun n => (@Int.rec (fun _ => Option AV) (fun m => some (.int j (.ofNat (Nat.div m (2 ^ (min n j.bits)))))) (fun _m => none) a)) (fun _n => none) b)
def unsB : IntKind → Bool
  | .u8 => true | .u16 => true | .u32 => true | .u64 => true
  | _ => false
def un (op : UnOp) (x : AV) : Option AV := match op, x with
  | .not, .bool b => some (.bool (notB b))
  | .neg, .int q a => some (.int q (wrapI q (isub 0 a)))
  | .xor, .int q (.ofNat m) => (match unsB q, Nat.ble (m + 1) (limK q) with
      | true, true => some (.int q (.ofNat (Nat.xor (limK q - 1) m)))
      | _, _ => none)
  | _, _ => none
def byteAv (b : UInt8) : AV := .int .u8 (.ofNat b.toNat)
/-- The length of what bears its own. -/
def lenS (x : AV) : Option Nat := match x with
  | .str s => some (len s)
  | .nils => some 0
  | .sl _ _ n _ => some n
  | .emp => some 0
  | _ => none
/-- The length of a slice. -/
def lenSl (x : AV) : Option AV := AV.onSl x (match x with
  | .nils => some (.int .i64 (.ofNat 0))
  | .emp => some (.int .i64 (.ofNat 0))
  | _ => none) fun _ _ n _ => some (.int .i64 (.ofNat n))
def nthB (l : List UInt8) (n : Nat) : Option UInt8 := match l, n with
  | [], _ => none
  | a :: _, 0 => some a
  | _ :: l, n + 1 => nthB l n
def natA (v : AV) : Option Nat := AV.onInt v none fun _ a => (@Int.rec (fun _ => Option Nat) (fun n => some n) (fun _n => none) a)
/-- The bounds of a slice expression: which are given. -/
def bounds (lo hi mx : Bool) (as : List AV) (d : Nat) (k : Nat → Nat → Option Nat → Option AV) : Option AV :=
  match lo, hi, mx, as with
  | false, false, false, [] => k 0 d none
  | true, false, false, [a] => (@Option.rec _ (fun _ => Option AV) none (fun l => k l d none) (natA a))
  | false, true, false, [b] => (@Option.rec _ (fun _ => Option AV) none (fun h => k 0 h none) (natA b))
  | true, true, false, [a, b] => (@Option.rec _ (fun _ => Option AV) none (fun l => (@Option.rec _ (fun _ => Option AV) none (fun h => k l h none) (natA b))) (natA a))
  | false, true, true, [b, c] => (@Option.rec _ (fun _ => Option AV) none (fun h => (@Option.rec _ (fun _ => Option AV) none (fun m => k 0 h (some m)) (natA c))) (natA b))
  | true, true, true, [a, b, c] => (@Option.rec _ (fun _ => Option AV) none (fun l => (@Option.rec _ (fun _ => Option AV) none (fun h => (@Option.rec _ (fun _ => Option AV) none (fun m => k l h (some m)) (natA c))) (natA b))) (natA a))
  | _, _, _, _ => none
def slStr (lo hi mx : Bool) : List AV → Option AV
  | .str s :: as => bounds lo hi mx as (len s) fun l h m => match m with
    | none => (@Bool.rec (fun _ => Option AV) none ((@Bool.rec (fun _ => Option AV) none (some (.str (takeB (dropB s l) (h - l)))) (Nat.ble h (len s)))) (Nat.ble l h))
    | some _ => none
  | _ => none
def slGo (es : Nat) (i : Id) (o n : Nat) (cap : Option Nat) (l h : Nat) (m : Option Nat) : Option AV :=
  (@Bool.rec (fun _ => Option AV) none (match cap with
  | some c => (match m with
    | none => (@Bool.rec (fun _ => Option AV) none (some (.sl i ((@Bool.rec (fun _ => Nat) (Nat.add o (Nat.mul l es)) o (Nat.beq c l))) (Nat.sub h l) (some (Nat.sub c l)))) (Nat.ble h c))
    | some m => (@Bool.rec (fun _ => Option AV) none ((@Bool.rec (fun _ => Option AV) none (some (.sl i ((@Bool.rec (fun _ => Nat) (Nat.add o (Nat.mul l es)) o (Nat.beq m l))) (Nat.sub h l) (some (Nat.sub m l)))) (Nat.ble m c))) (Nat.ble h m)))
  | none => (match m with
    | none => (@Bool.rec (fun _ => Option AV) none ((@Bool.rec (fun _ => Option AV) (some (.sl i (Nat.add o (Nat.mul l es)) (Nat.sub h l) none)) (some .emp) (Nat.beq l n))) (Nat.ble h n))
    | some m => (@Bool.rec (fun _ => Option AV) none ((@Bool.rec (fun _ => Option AV) none (some (.sl i ((@Bool.rec (fun _ => Nat) (Nat.add o (Nat.mul l es)) o (Nat.beq m l))) (Nat.sub h l) (some (Nat.sub m l)))) (Nat.ble m n))) (Nat.ble h m)))) (Nat.ble l h))
def slSl (es : Nat) (lo hi mx : Bool) (xs : List AV) (h : Hp) : Option AV := match xs with
  | .sl i o n cap :: as => (match cap with
    | some c => bounds lo hi mx as n (slGo es i o n (some c))
    | none => Blk.onCells (h.get i) none (fun _ _ _ _ => none) fun _ es' _ _ _ => (@Bool.rec (fun _ => Option AV) none (bounds lo hi mx as n (slGo es i o n none)) (Nat.beq es' es)))
  | .nils :: as => bounds lo hi mx as 0 fun l h m => match l, h, m with
    | 0, 0, none => some .nils
    | 0, 0, some 0 => some .nils
    | _, _, _ => none
  | _ => none
def slArr (es an : Nat) (lo hi mx : Bool) : List AV → Option AV
  | .ptr i o :: as => bounds lo hi mx as an (slGo es i o an (some an))
  | _ => none
def bytesOf : List (List AV) → Option (List UInt8)
  | [] => some []
  | l :: ls => match l with
    | [.int .u8 (.ofNat n)] => (@Option.rec _ (fun _ => Option (List UInt8)) none (fun r => some (UInt8.ofNat n :: r)) (bytesOf ls))
    | _ => none
def bytesEls (s : List UInt8) : List (List AV) := s.map fun b => [byteAv b]
/-- The elements of what is appended or copied: n of them, es cells each. -/
def newEls (es n : Nat) (x : AV) (h : Hp) : Option (List (List AV)) := match n with
  | 0 => some []
  | _ => match x with
    | .sl i o _ _ => elems (h.get i) es o n
    | .str s => (match Nat.beq es 1 with
      | true => some (takeB (bytesEls s) n)
      | false => none)
    | _ => none
def okB (ob : Option Blk) (h : Hp) (g : Id → AV) : RC := (@Option.rec _ (fun _ => RC) RC.bad (fun b => alloc b h RC.bad fun i h => RC.ok (g i) h) ob)
def putB (i : Id) (h : Hp) (v : AV) (ob : Option Blk) : RC := (@Option.rec _ (fun _ => RC) RC.bad (fun b => RC.ok v (h.put i b)) ob)
/-- append(s, x) of a slice whose elements, of type ty, have es cells. -/
def appendF (ty es : Nat) (s x : AV) (h : Hp) : RC :=
    (@Option.rec _ (fun _ => RC) RC.bad (fun n =>
    (@Option.rec _ (fun _ => RC) RC.bad (fun ls =>
    match s with
    | .nils => (match n with
      | 0 => RC.ok .nils h
      | _ => okB (mkArr ty es n true ls) h fun i => .sl i 0 n none)
    | .sl i o m cap => Blk.onCells (h.get i) RC.bad (fun _ _ _ _ => RC.bad) fun ty' es' kn d t =>
        (@Bool.rec (fun _ => RC) RC.bad (match cap with
        | some c => (@Bool.rec (fun _ => RC) ((@Option.rec _ (fun _ => RC) RC.bad (fun old => okB (mkArr ty es (Nat.add m n) true (old ++ ls)) h fun i => .sl i 0 (Nat.add m n) none) (elems (.arr ty' es' kn d t) es o m))) (putB i h (.sl i o (Nat.add m n) cap) (storeEls (.arr ty' es' kn d t) es (Nat.add o (Nat.mul m es)) ls)) (Nat.ble (Nat.add m n) c))
        | none => (@Bool.rec (fun _ => RC) (match o with
             | 0 => (@Bool.rec (fun _ => RC) RC.bad ((@Bool.rec (fun _ => RC) RC.bad (alloc (.arr ty es (Nat.add m n) true (fillFrom m ls t)) (h.put i .none) RC.bad fun i h => RC.ok (.sl i 0 (Nat.add m n) none) h) (Nat.ble (Nat.add m n) 256))) (Nat.beq ty ty' && Nat.ble m kn))
             | _ => RC.bad) (putB i h (.sl i o (Nat.add m n) none) (storeEls (.arr ty' es' kn d t) es (Nat.add o (Nat.mul m es)) ls)) (Nat.ble (Nat.add o (Nat.mul (Nat.add m n) es)) (Nat.mul kn es)))) (Nat.beq es' es))
    | _ => RC.bad) (newEls es n x h))) (lenS x))
def minN (a b : Nat) : Nat := (@Bool.rec (fun _ => Nat) b a (Nat.ble a b))
def copyF (es : Nat) (d x : AV) (h : Hp) : RC :=
    (@Option.rec _ (fun _ => RC) RC.bad (fun n =>
    (@Option.rec _ (fun _ => RC) RC.bad (fun m =>
    (@Option.rec _ (fun _ => RC) RC.bad (fun ls =>
    match d with
    | .sl i o _ _ => putB i h (.int .i64 (.ofNat (minN n m))) (storeEls (h.get i) es o ls)
    | .nils => RC.ok (.int .i64 (.ofNat 0)) h
    | _ => RC.bad) (newEls es (minN n m) x h))) (lenS d))) (lenS x))
def rep {α : Type} (n : Nat) (l : α) : List α := match n with | 0 => [] | n + 1 => l :: rep n l
def clearF (es : Nat) (z : List AV) (_ : CK) (as : List AV) (h : Hp) : RC := match as with
  | [.sl i o n _] => (match n with
    | 0 => RC.ok undef h
    | _ => putB i h undef (storeEls (h.get i) es o (rep n z)))
  | [.nils] => RC.ok undef h
  | [.emp] => RC.ok undef h
  | _ => RC.bad
/-! maps: keys are numbers, strings or bools, or rows of such: a number for each cell's kind -/
def fit1 (c : Nat) (x : AV) : Bool := match x with
  | .int k _ => Nat.beq c (kNum k)
  | .str _ => Nat.beq c 8
  | .bool _ => Nat.beq c 9
  | _ => false
def fits : List Nat → List AV → Bool
  | [], [] => true
  | c :: l, x :: r => fit1 c x && fits l r
  | _, _ => false
structure KeyK where
  mk ::
  (agg : Bool) (sh : List Nat)
def okKey (k : KeyK) (x : AV) : Bool := match k.agg with
  | true => AV.onAgg x false fun l => fits k.sh l
  | false => fits k.sh [x]
def eqKK (k : KeyK) (x y : AV) : Option Bool := match okKey k y with
  | true => eqK x y
  | false => none
def findE (k : KeyK) (x : AV) : List (AV × AV × Nat) → Option (Option (AV × Nat))
  | [] => some none
  | e :: l => (@Option.rec _ (fun _ => Option (Option (AV × Nat))) none (fun r => (@Bool.rec (fun _ => Option (Option (AV × Nat))) (findE k x l) (some (some e.2)) r)) (eqKK k x e.1))
def hitB (o : Option Bool) : Bool := (@Option.rec _ (fun _ => Bool) false (fun b => b) o)
def setAt (k : KeyK) (x v : AV) : List (AV × AV × Nat) → List (AV × AV × Nat)
  | [] => []
  | e :: l => (@Bool.rec (fun _ => List (AV × AV × Nat)) (e :: setAt k x v l) ((x, v, e.2.2) :: l) (hitB (eqKK k x e.1)))
def setBorn (b : Nat) (v : AV) : List (AV × AV × Nat) → Option (List (AV × AV × Nat))
  | [] => none
  | e :: l => (@Bool.rec (fun _ => Option (List (AV × AV × Nat))) ((@Option.rec _ (fun _ => Option (List (AV × AV × Nat))) none (fun l => some (e :: l)) (setBorn b v l))) (some ((e.1, v, e.2.2) :: l)) (Nat.beq e.2.2 b))
def delAt (k : KeyK) (x : AV) : List (AV × AV × Nat) → List (AV × AV × Nat)
  | [] => []
  | e :: l => (@Bool.rec (fun _ => List (AV × AV × Nat)) (e :: delAt k x l) l (hitB (eqKK k x e.1)))
def pushE (es : List (AV × AV × Nat)) (x v : AV) (c : Nat) : List (AV × AV × Nat) := es ++ [(x, v, c)]
def lookupIn (k : KeyK) (m x : AV) (h : Hp) : Option (Option (AV × Nat)) := AV.onMp m (match m with
  | .nilm => some none
  | _ => none) fun i => Blk.onMap (h.get i) none fun es _ => findE k x es
def lookupF (k : KeyK) (z : AV) (ok : Bool) (m x : AV) (h : Hp) : Option AV :=
  (@Bool.rec (fun _ => Option AV) none ((@Option.rec _ (fun _ => Option AV) none (fun r =>
    match ok with
    | true => (match r with
      | some p => some (.tup [p.1, .bool true])
      | none => some (.tup [z, .bool false]))
    | false => (match r with
      | some p => some p.1
      | none => some z)) (lookupIn k m x h))) (okKey k x))
def updateF (k : KeyK) (_ : CK) (as : List AV) (h : Hp) : RC := match as with
  | [.mp i, x, v] => (@Bool.rec (fun _ => RC) RC.bad (Blk.onMap (h.get i) RC.bad fun es c => (@Option.rec _ (fun _ => RC) RC.bad (fun r => match r with
      | some _ => RC.ok undef (h.put i (.mp (setAt k x v es) c))
      | none => RC.ok undef (h.put i (.mp (pushE es x v c) (c + 1)))) (findE k x es))) (okKey k x))
  | _ => RC.bad
def entryF (k : KeyK) (z : AV) (_ : CK) (as : List AV) (h : Hp) : RC := match as with
  | [.mp i, x] => (@Bool.rec (fun _ => RC) RC.bad (Blk.onMap (h.get i) RC.bad fun es c => (@Option.rec _ (fun _ => RC) RC.bad (fun r => match r with
      | some p => RC.ok (.tup [p.1, .int .i64 (.ofNat p.2)]) (h.put i (.mp (setAt k x p.1 es) c))
      | none => RC.ok (.tup [z, .int .i64 (.ofNat c)]) (h.put i (.mp (pushE es x z c) (c + 1)))) (findE k x es))) (okKey k x))
  | _ => RC.bad
def entryStoreF (_ : CK) (as : List AV) (h : Hp) : RC := match as with
  | [.mp i, .int _ (.ofNat b), v] => Blk.onMap (h.get i) RC.bad fun es c => (@Option.rec _ (fun _ => RC) RC.bad (fun es => RC.ok undef (h.put i (.mp es c))) (setBorn b v es))
  | _ => RC.bad
def deleteF (k : KeyK) (_ : CK) (as : List AV) (h : Hp) : RC := match as with
  | [.mp i, x] => (@Bool.rec (fun _ => RC) RC.bad (Blk.onMap (h.get i) RC.bad fun es c => (@Option.rec _ (fun _ => RC) RC.bad (fun r => match r with
      | some _ => RC.ok undef (h.put i (.mp (delAt k x es) c))
      | none => RC.ok undef h) (findE k x es))) (okKey k x))
  | _ => RC.bad
def nextF (_ : CK) (as : List AV) (h : Hp) : RC := match as with
  | [.ptr i o] => (match o, h.get i with
    | 0, .sit s pos => (match dropB s pos with
      | [] => RC.ok (.tup [.bool false]) h
      | _ => (match Utf8.decode ⟨⟨s⟩⟩ pos with
        | (c, w) => RC.ok (.tup [.bool true, .int .i64 (.ofNat pos), .int .i32 (.ofNat c)]) (h.put i (.sit s (pos + w)))))
    | _, _ => RC.bad)
  | _ => RC.bad
def callV (ck : CK) (as : List AV) (h : Hp) : RC := match as with
  | v :: args => (match v with
    | .fn f x y => ck.run f (x ++ args ++ y) h
    | .yld l => ck.yld l args h
    | _ => RC.bad)
  | [] => RC.bad
def callS (f : Nat) (ck : CK) (as : List AV) (h : Hp) : RC := (@List.rec _ (fun _ => RC) RC.bad (fun _a args _ => ck.run f args h) as)

section comp
variable (P : Program)
/-- The parts of a struct or an array, laid into zero cells: the places are known. -/
def fillP (cs : List AV) : List (Nat × Nat) → List AV → Option (List AV)
  | [], [] => some cs
  | p :: ps, v :: vs => (@Option.rec _ (fun _ => Option (List AV)) none (fun l => (@Bool.rec (fun _ => Option (List AV)) none ((@Option.rec _ (fun _ => Option (List AV)) none (fun cs => fillP cs ps vs) (splice cs p.1 l))) (Nat.beq (len l) p.2))) (cellsO v))
  | _, _ => none
def fillE (zs : List (List AV)) (n : Nat) : List Nat → List AV → Option (List (List AV))
  | [], [] => some zs
  | i :: is, v :: vs => (@Option.rec _ (fun _ => Option (List (List AV))) none (fun l => (@Bool.rec (fun _ => Option (List (List AV))) none (fillE (zs.set i l) n is vs) (Nat.beq (len l) n))) (cellsO v))
  | _, _ => none
/-- The kinds of the cells of fields one behind the other. -/
def shFs (f : Nat → Option (List Nat)) (o : Nat) : List Field → Option (List Nat)
  | [] => some []
  | x :: l => match x.name == "_", Nat.beq x.offset o, f x.type with
    | false, true, some s => (match Nat.beq (len s) (szOf P x.type), shFs f (o + len s) l with
      | true, some r => some (s ++ r)
      | _, _ => none)
    | _, _, _ => none
def repS : Nat → List Nat → List Nat
  | 0, _ => []
  | n + 1, s => s ++ repS n s
/-- The kinds of a type's cells, if all are numbers, strings or bools. -/
def shT : Nat → Nat → Option (List Nat)
  | 0, _ => none
  | d + 1, t => match undl P t with
    | .int k => some [kNum k]
    | .string => some [8]
    | .bool => some [9]
    | .struct fs => (match P.stoodInHeld t with
      | true => none
      | false => shFs P (shT d) 0 fs.toList)
    | .array n e => (match shT d e with
      | some s => (match Nat.beq (len s) (szOf P e) with
        | true => some (repS n s)
        | false => none)
      | none => none)
    | _ => none
def keySh (t : Nat) : Option KeyK := match shT P 4 t with
  | some s => (match Nat.beq (len s) (szOf P t) with
    | true => some ⟨isAggB P t, s⟩
    | false => none)
  | none => none
def eqFlat (sh : List Nat) (a b : AV) : Option Bool := match a, b with
  | .agg x, .agg y => (match fits sh x && fits sh y with
    | true => eqFs x y
    | false => none)
  | _, _ => none
def maxF (x y : AV) : Option AV := AV.onInt x none fun j a => AV.onInt y none fun _ b => some (.int j ((@Bool.rec (fun _ => Int) a b (iltB a b))))
def minF (x y : AV) : Option AV := AV.onInt x none fun j a => AV.onInt y none fun _ b => some (.int j ((@Bool.rec (fun _ => Int) a b (iltB b a))))
def ustrF (e : Nat) (i : Id) (o n : Nat) (h : Hp) : RC := match n with
  | 0 => RC.ok (.str []) h
  | _ => Blk.onCells (h.get i) RC.bad (fun _ _ _ _ => RC.bad) fun ty es m d t => (match Nat.beq ty e && Nat.ble n 256, Nat.beq (P.cellsOf e) 1 with
    | true, true => (match elems (.arr ty es m d t) 1 o n with
      | some ls => (match bytesOf ls with
        | some s => RC.ok (.str s) (h.put i .none)
        | none => RC.bad)
      | none => RC.bad)
    | _, _ => RC.bad)
/-- Is a type's zero as long as the type says? -/
def zlOk (e : Nat) : Bool := match zeroCs P e with
  | some z => Nat.beq (len z) (szOf P e)
  | none => false
def undlO (o : Option Nat) : TypeDesc := match o with
  | some t => undl P t
  | none => .invalid
def kBuiltin (b : Builtin) (ts : Array TypeId) : OpK :=
  match b with
  | .len => (match undlO P (lnth ts.toList 0) with
    | .array n _ => .p1 fun _ => some (.int .i64 (.ofNat n))
    | .string => .p1 fun x => AV.onStr x none fun s => some (.int .i64 (.ofNat (len s)))
    | .slice _ => .p1 lenSl
    | .map _ _ => .r1 fun x h => AV.onMp x (match x with | .nilm => some (.int .i64 (.ofNat 0)) | _ => none) fun i => Blk.onMap (h.get i) none fun es _ => some (.int .i64 (.ofNat (len es)))
    | _ => .bad)
  | .max => .p2 maxF
  | .min => .pL fun as => match as with
    | [x, y] => minF x y
    | [x, y, z] => (@Option.rec _ (fun _ => Option AV) none (fun r => minF r z) (minF x y))
    | _ => none
  | .append => (match ts.toList with
    | [t, u] => (match undl P t with
      | .slice e => (match Nat.beq (szOf P e) 0 || !(Nat.ble (P.bytesOf e) 1000000) || !(zlOk P e), undl P u with
        | false, .slice _ => .e2 (appendF e (szOf P e))
        | false, .string => .e2 (appendF e (szOf P e))
        | _, _ => .bad)
      | _ => .bad)
    | _ => .bad)
  | .copy => (match undlO P (lnth ts.toList 0) with
    | .slice e => (match Nat.beq (szOf P e) 0 with
      | true => .bad
      | false => .e2 (copyF (szOf P e)))
    | _ => .bad)
  | .clear => (match undlO P (lnth ts.toList 0) with
    | .slice e => (match Nat.beq (szOf P e) 0, zeroCs P e with
      | false, some z => (match Nat.beq (len z) (szOf P e) with
        | true => .eL (clearF (szOf P e) z)
        | false => .bad)
      | _, _ => .bad)
    | _ => .bad)
  | .delete => (match undlO P (lnth ts.toList 0) with
    | .map q _ => (match keySh P q with
      | some k => .eL (deleteF k)
      | none => .bad)
    | _ => .bad)
  | .unsafeSliceData => .p1 fun x => match x with
    | .nils => some .nilp
    | .sl i o n _ => (match n with
      | 0 => none
      | _ => some (.ptr i o))
    | _ => none
  | .unsafeString => (match undlO P (lnth ts.toList 0) with
    | .pointer e => .e2 fun x y h => match x, y with
      | .nilp, .int _ (.ofNat 0) => RC.ok (.str []) h
      | .ptr i o, .int _ (.ofNat n) => ustrF P e i o n h
      | _, _ => RC.bad
    | _ => .bad)
  | _ => .bad
def placeOf (t : Nat) (i : Nat) : Option (Nat × Nat) := match undl P t with
  | .struct fs => (match fs[i]? with
    | some f => some (f.offset, szOf P f.type)
    | none => none)
  | .array _ e => some (i * szOf P e, szOf P e)
  | _ => none
def placesOf (t : Nat) : List (Nat × Operand) → Option (List (Nat × Nat))
  | [] => some []
  | x :: l => match placeOf P t x.1, placesOf t l with
    | some p, some r => some (p :: r)
    | _, _ => none
/-- Do all the parts have sizes? -/
def sizesOk (t : Nat) : Bool := match undl P t with
  | .struct fs => fs.toList.all fun f => (infoAt P f.type).isSome
  | .array _ e => (infoAt P e).isSome
  | _ => false
def partA (agg : Bool) (l : List AV) (o n : Nat) : Option AV := match agg with
  | true => (match takeX (dropA l o) n with
    | some l => some (.agg l)
    | none => none)
  | false => nth l o
def eqOut (neg : Bool) (o : Option Bool) : Option AV := (@Option.rec _ (fun _ => Option AV) none (fun r => some (.bool ((@Bool.rec (fun _ => Bool) r (notB r) neg)))) o)
def kEq (neg : Bool) (op : BinOp) (t : Nat) : OpK := match undl P t with
  | .int _ => kBin op
  | .string => kBin op
  | .interface _ => .bad
  | .pointer e => (match Nat.beq (szOf P e) 0 with
    | true => .bad
    | false => .r2 fun x y h => eqOut neg (eqP x y h))
  | .bool => .p2 fun x y => AV.onBool x none fun a => AV.onBool y none fun b => eqOut neg (some (boolEq a b))
  | .slice _ => .p2 fun x y => match x, y with
    | .nils, .nils => eqOut neg (some true)
    | .nils, .sl _ _ _ _ => eqOut neg (some false)
    | .sl _ _ _ _, .nils => eqOut neg (some false)
    | _, _ => none
  | .func _ _ _ => .p2 fun x y => match x, y with
    | .nilf, .nilf => eqOut neg (some true)
    | .nilf, .fn _ _ _ => eqOut neg (some false)
    | .fn _ _ _, .nilf => eqOut neg (some false)
    | _, _ => none
  | _ => (match keySh P t with
    | some k => (match k.agg && !(P.eqGuardType P.depth t) with
      | true => .p2 fun x y => eqOut neg (eqFlat k.sh x y)
      | false => .bad)
    | none => .bad)
def kConv (s t : Nat) : OpK := match undl P s, undl P t with
    | .int _, .int q => .p1 fun x => AV.onInt x none fun _ n => some (.int q (wrapI q n))
    | .int _, .string => .p1 fun x => AV.onInt x none fun _ n => some (.str (Utf8.encode n).data.toList)
    | .string, .string => .p1 fun x => AV.onStr x none fun s => some (.str s)
    | .string, .slice e => (match undl P e with
      | .int .u8 => .n1 fun x => AV.onStr x NewR.bad fun s => (@Option.rec _ (fun _ => NewR) NewR.bad (fun b => NewR.ok b fun i => .sl i 0 (len s) none) (mkArr e 1 (len s) true (bytesEls s)))
      | _ => .bad)
    | .slice e, .string => (match undl P e with
      | .int .u8 => .r1 fun x h => match x with
        | .sl i q n _ => (match elems (h.get i) 1 q n with
          | some ls => (match bytesOf ls with
            | some s => some (.str s)
            | none => none)
          | none => none)
        | .nils => some (.str [])
        | _ => none
      | _ => .bad)
    | .slice e, .slice _ => (match Nat.beq s t, undl P e with
      | true, .int .u8 => .eL fun _ as h => match as with
        | [.sl i o n c] => Blk.onCells (h.get i) RC.bad (fun _ _ _ _ => RC.bad) fun _ _ _ _ _ => RC.ok (.sl i o n c) h
        | _ => RC.bad
      | _, _ => .bad)
    | .pointer e, .unsafePointer => (match Nat.beq (szOf P e) 0 with
      | true => .bad
      | false => .r1 fun x h => AV.onPtr x none fun i o => Blk.onCells (h.get i) none (fun _ m _ _ => (@Bool.rec (fun _ => Option AV) none (some (.ptr i o)) (Nat.ble (Nat.succ o) m))) fun _ _ _ _ _ => none)
    | .unsafePointer, .pointer u => (match Nat.beq (szOf P u) 0 with
      | true => .bad
      | false => .r1 fun x h => AV.onPtr x none fun i o => Blk.onCells (h.get i) none (fun ty m _ ro => (@Bool.rec (fun _ => Option AV) none ((@Bool.rec (fun _ => Option AV) (some (.ptr i o)) none ro)) (liesAt P P.depth ty (m / P.cellsOf ty) o u 1))) fun _ _ _ _ _ => none)
    | _, _ => .bad
def ixF (lim : Nat) (es : Nat) (i : Id) (o : Nat) (y : AV) : Option AV := AV.onInt y none fun _ b => (@Int.rec (fun _ => Option AV) (fun n => (@Bool.rec (fun _ => Option AV) none (some (.ptr i (Nat.add o (Nat.mul n es)))) (Nat.ble (Nat.succ n) lim))) (fun _n => none) b)
def kOp (o : Oper) : OpK :=
  match o.op with
  | .move _ => .mv
  | .assign _ => .mv
  | .pick _ _ _ => .pL fun as => match as with | [.bool r, a, b] => some ((@Bool.rec (fun _ => AV) b a r)) | _ => none
  | .alloc e => (match zeroCs P e with
    | some z => .n0 (mkOne e z) fun i => .ptr i 0
    | none => .bad)
  | .box e _ => .n1 fun v => (@Option.rec _ (fun _ => NewR) NewR.bad (fun l => NewR.ok (.one e (len l) l false) fun i => .ptr i 0) (cellsO v))
  | .build t ps => (match sizesOk P t, zeroCs P t, placesOf P t ps.toList with
    | true, some z, some pl => .pL fun as => (@Option.rec _ (fun _ => Option AV) none (fun cs => some (.agg cs)) (fillP z pl as))
    | _, _, _ => .bad)
  | .buildSlice t n ps => (match undl P t with
    | .slice e => (match zeroCs P e with
      | some z => (match Nat.beq (szOf P e) 0 || Nat.beq n 0 || !(Nat.ble n 256) || !(Nat.beq (len z) (szOf P e)) || !(ps.toList.all fun x => Nat.ble (x.1 + 1) n) || !(Nat.ble (n * szOf P e) 16777216) with
        | true => .bad
        | false => .nL fun as => (@Option.rec _ (fun _ => NewR) NewR.bad (fun ls => NewR.ok (.arr e (szOf P e) n false (fillFrom 0 ls els0)) fun i => .sl i 0 n (some n)) (fillE (rep n z) (szOf P e) (ps.toList.map (·.1)) as)))
      | none => .bad)
    | _ => .bad)
  | .load t _ => (match knownB P t, isAggB P t with
    | false, _ => .bad
    | true, true => .r1 fun x h => AV.onPtr x none fun i q => (@Option.rec _ (fun _ => Option AV) none (fun l => some (.agg l)) (loadN (h.get i) q (szOf P t)))
    | true, false => .r1 fun x h => AV.onPtr x none fun i q => load1 (h.get i) q)
  | .store t _ _ => (match Nat.beq (szOf P t) 0, isAggB P t with
    | true, _ => .bad
    | false, true => .e2 fun x v h => AV.onPtr x RC.bad fun i q => AV.onAgg v RC.bad fun l => (@Bool.rec (fun _ => RC) RC.bad (putB i h undef (storeN (h.get i) q (szOf P t) l)) (Nat.beq (len l) (szOf P t)))
    | false, false => (match Nat.beq (szOf P t) 1 with
      | true => .e2 fun x v h => AV.onPtr x RC.bad fun i q => AV.ifCell v RC.bad (putB i h undef (store1 (h.get i) q v))
      | false => .bad))
  | .nilCheck _ => .p1 fun x => AV.onPtr x (match x with
      | .fn _ _ _ => some x
      | .yld _ => some x
      | _ => none) fun _ _ => some x
  | .binOp op t _ _ _ => (match op with
    | .shl => .p2 shl
    | .shr => .p2 shr
    | .eql => kEq P false .eql t
    | .neq => kEq P true .neq t
    | op => kBin op)
  | .unOp op _ _ => .p1 (un op)
  | .convert s t _ => kConv P s t
  | .makeFunc f c b => (match f with
    | .func g => (match b.size, c.size with
      | 0, _ => .pL fun as => some (.fn g as [])
      | _, 0 => .pL fun as => some (.fn g [] as)
      | _, _ => .bad)
    | _ => .bad)
  | .makeMap t r => (match undl P t with
    | .map _ _ => (match r with
      | none => .n0 (.mp [] 0) .mp
      | some _ => .n1 fun x => match x with | .int _ _ => NewR.ok (.mp [] 0) .mp | _ => NewR.bad)
    | _ => .bad)
  | .makeSlice t _ _ => (match undl P t with
    | .slice e => (match zeroCs P e with
      | some z => (match Nat.beq (szOf P e) 0 || !(Nat.beq (len z) (szOf P e)) || !(Nat.ble (P.bytesOf e) 1000000) with
        | true => .bad
        | false => .nL fun as => match as with
          | [.int _ (.ofNat n), .int _ (.ofNat c)] => (match Nat.ble n c, mkArr e (szOf P e) c false (rep c z) with
            | true, some b => NewR.ok b fun i => .sl i 0 n (some c)
            | _, _ => NewR.bad)
          | _ => NewR.bad)
      | none => .bad)
    | _ => .bad)
  | .slice t _ lo hi mx => (match undl P t with
    | .array an e => (match Nat.beq (szOf P e) 0 with
      | true => .bad
      | false => .pL (slArr (szOf P e) an lo.isSome hi.isSome mx.isSome))
    | .slice e => (match Nat.beq (szOf P e) 0 with
      | true => .bad
      | false => .rL (slSl (szOf P e) lo.isSome hi.isSome mx.isSome))
    | .string => .pL (slStr lo.isSome hi.isSome mx.isSome)
    | _ => .bad)
  | .fieldAddr t _ f => (match undl P t, placeOf P t f with
    | .struct _, some p => (match Nat.beq p.2 0 with
      | true => .bad
      | false => .p1 fun x => AV.onPtr x none fun i o => some (.ptr i (Nat.add o p.1)))
    | _, _ => .bad)
  | .field t _ f => (match undl P t with
    | .struct fs => (match fs[f]? with
      | some fd => (match knownB P fd.type with
        | true => .p1 fun x => AV.onAgg x none fun l => partA (isAggB P fd.type) l fd.offset (szOf P fd.type)
        | false => .bad)
      | none => .bad)
    | _ => .bad)
  | .indexAddr t _ _ => (match undl P t with
    | .array an e => (match Nat.beq (szOf P e) 0 with
      | true => .bad
      | false => .p2 fun x y => AV.onPtr x none fun i o => ixF an (szOf P e) i o y)
    | .slice e => (match Nat.beq (szOf P e) 0 with
      | true => .bad
      | false => .p2 fun x y => AV.onSl x none fun i o m _ => ixF m (szOf P e) i o y)
    | _ => .bad)
  | .index t _ _ => (match undl P t with
    | .array an e => (match knownB P e with
      | false => .bad
      | true => .p2 fun x y => AV.onAgg x none fun l => AV.onInt y none fun _ b => (@Int.rec (fun _ => Option AV) (fun n => (@Bool.rec (fun _ => Option AV) none (partA (isAggB P e) l (Nat.mul n (szOf P e)) (szOf P e)) (Nat.ble (Nat.succ n) an))) (fun _n => none) b))
    | .string => .p2 fun x y => AV.onStr x none fun s => AV.onInt y none fun _ b => (@Int.rec (fun _ => Option AV) (fun n => (@Option.rec _ (fun _ => Option AV) none (fun b => some (byteAv b)) (nthB s n))) (fun _n => none) b)
    | _ => .bad)
  | .lookup t _ _ ok => (match undl P t with
    | .map q e => (match keySh P q, zeroA P e with
      | some k, some z => .r2 (lookupF k z ok)
      | _, _ => .bad)
    | _ => .bad)
  | .mapUpdate t _ _ _ => (match undl P t with
    | .map q _ => (match keySh P q with
      | some k => .eL (updateF k)
      | none => .bad)
    | _ => .bad)
  | .insert t _ _ _ => (match undl P t with
    | .map q _ => (match keySh P q with
      | some k => .eL (updateF k)
      | none => .bad)
    | _ => .bad)
  | .mapEntry t _ _ => (match undl P t with
    | .map q e => (match keySh P q, zeroA P e with
      | some k, some z => .eL (entryF k z)
      | _, _ => .bad)
    | _ => .bad)
  | .entryStore _ _ _ _ => .eL entryStoreF
  | .range t _ => (match undl P t with
    | .string => .n1 fun x => match x with | .str s => NewR.ok (.sit s 0) fun i => .ptr i 0 | _ => NewR.bad
    | _ => .bad)
  | .next _ s => (match s with
    | true => .eL nextF
    | false => .bad)
  | .extract _ i => .p1 fun x => AV.onTup x none fun l => nth l i
  | .call c => (match c.callee with
    | .builtin b => kBuiltin P b c.argTypes
    | .value f => (match f with
      | .func f => .eL (callS f)
      | _ => .eL callV)
    | .invoke _ _ => .bad)
  | _ => .bad
/-! ### regions -/
def putC (put : AV → TM → TM) (tm : TM) (k : TM → Hp → R) (r : RC) : R := (@RC.rec (fun _ => R) R.bad (fun v h => k (put v tm) h) r)
def newC (put : AV → TM → TM) (tm : TM) (h : Hp) (k : TM → Hp → R) (r : NewR) : R := (@NewR.rec (fun _ => R) R.bad (fun b g => alloc b h R.bad fun i h => k (put (g i) tm) h) r)
def badK : K := ⟨fun _ _ _ => R.bad⟩
/-- One operation, and k behind it. -/
def opK (xs : List Opd) (put : AV → TM → TM) (k : K) : OpK → K
  | .bad => badK
  | .mv => (match xs with
    | [⟨x⟩] => ⟨fun ck tm h => k.run ck (put (x tm) tm) h⟩
    | _ => badK)
  | .p1 f => (match xs with
    | [⟨x⟩] => ⟨fun ck tm h => (@Option.rec _ (fun _ => R) R.bad (fun v => k.run ck (put v tm) h) (f (x tm)))⟩
    | _ => badK)
  | .p2 f => (match xs with
    | [⟨x⟩, ⟨y⟩] => ⟨fun ck tm h => (@Option.rec _ (fun _ => R) R.bad (fun v => k.run ck (put v tm) h) (f (x tm) (y tm)))⟩
    | _ => badK)
  | .pL f => (match cEvs xs with
    | ⟨x⟩ => ⟨fun ck tm h => (@Option.rec _ (fun _ => R) R.bad (fun v => k.run ck (put v tm) h) (f (x tm)))⟩)
  | .r1 f => (match xs with
    | [⟨x⟩] => ⟨fun ck tm h => (@Option.rec _ (fun _ => R) R.bad (fun v => k.run ck (put v tm) h) (f (x tm) h))⟩
    | _ => badK)
  | .r2 f => (match xs with
    | [⟨x⟩, ⟨y⟩] => ⟨fun ck tm h => (@Option.rec _ (fun _ => R) R.bad (fun v => k.run ck (put v tm) h) (f (x tm) (y tm) h))⟩
    | _ => badK)
  | .rL f => (match cEvs xs with
    | ⟨x⟩ => ⟨fun ck tm h => (@Option.rec _ (fun _ => R) R.bad (fun v => k.run ck (put v tm) h) (f (x tm) h))⟩)
  | .n0 b g => (match xs with
    | [] => ⟨fun ck tm h => alloc b h R.bad fun i h => k.run ck (put (g i) tm) h⟩
    | _ => badK)
  | .n1 f => (match xs with
    | [⟨x⟩] => ⟨fun ck tm h => newC put tm h (k.run ck) (f (x tm))⟩
    | _ => badK)
  | .nL f => (match cEvs xs with
    | ⟨x⟩ => ⟨fun ck tm h => newC put tm h (k.run ck) (f (x tm))⟩)
  | .e2 f => (match xs with
    | [⟨x⟩, ⟨y⟩] => ⟨fun ck tm h => putC put tm (k.run ck) (f (x tm) (y tm) h)⟩
    | _ => badK)
  | .eL f => (match cEvs xs with
    | ⟨x⟩ => ⟨fun ck tm h => putC put tm (k.run ck) (f ck (x tm) h)⟩)
/-- Is the operation wanted? -/
def wantB (g : AV) (want : Bool) : Bool := AV.onBool g false fun b => boolEq b want
/-- The operands, as a list. -/
def optL (x : Option Operand) : List Operand := match x with
  | some a => [a]
  | none => []
def callL (c : Call) : List Operand := match c.callee with
  | .value f => f :: c.args.toList
  | .invoke r _ => r :: c.args.toList
  | .builtin _ => c.args.toList
def opsOf (op : Op) : List Operand := match op with
  | .alloc _ => []
  | .move x => [x]
  | .assign x => [x]
  | .box _ x => [x]
  | .load _ x => [x]
  | .nilCheck x => [x]
  | .unOp _ _ x => [x]
  | .convert _ _ x => [x]
  | .fieldAddr _ x _ => [x]
  | .field _ x _ => [x]
  | .extract x _ => [x]
  | .store _ a v => [a, v]
  | .binOp _ _ a v _ => [a, v]
  | .indexAddr _ a v => [a, v]
  | .index _ a v => [a, v]
  | .lookup _ a v _ => [a, v]
  | .call c => callL c
  | .slice _ x l h m => x :: (optL l ++ optL h ++ optL m)
  | .build _ ps => ps.toList.map (·.2)
  | .buildSlice _ _ ps => ps.toList.map (·.2)
  | .makeMap _ r => optL r
  | .pick a b c => [a, b, c]
  | .mapUpdate _ a b c => [a, b, c]
  | .insert _ a b c => [a, b, c]
  | .entryStore _ a b c => [a, b, c]
  | .mapEntry _ a b => [a, b]
  | .makeSlice _ a b => [a, b]
  | op => op.operands.toList
def okOper (N : Nat) (o : Oper) : Bool := (opsOf o.op).all okOpd && okDst N o.dst
def guardT (ops : List Oper) (j : Nat) : Option Nat := match lnth ops j with
  | some o => o.dst
  | none => none
def xsOf (N : Nat) (o : Oper) : List Opd := (opsOf o.op).map (cOpd N)
def gOpK (N : Nat) (ops : List Oper) (k : K) (o : Oper) : K :=
  match okOper N o, cDst o.dst with
  | true, ⟨put⟩ => (match o.guard with
    | none => opK (xsOf N o) put k (kOp P o)
    | some (j, want) => (match guardT ops j with
      | none => badK
      | some t => (match cOpd N (.tmp t), opK (xsOf N o) put k (kOp P o) with
        | ⟨g⟩, ⟨c⟩ => ⟨fun ck tm h => (@Bool.rec (fun _ => R) (k.run ck (put undef tm) h) (c ck tm h) (wantB (g tm) want))⟩)))
  | false, _ => badK
def cOps (N : Nat) (ops : List Oper) (k : K) : List Oper → K
  | [] => k
  | o :: l => gOpK P N ops (cOps N ops k l) o

/-! a region that draws its order: what acts, in its order; each read as often as the heap may have turned -/
inductive Cls where | bad | pure | read | new | eff
def clsOf : OpK → Cls
  | .bad => .bad
  | .mv => .pure
  | .p1 _ => .pure
  | .p2 _ => .pure
  | .pL _ => .pure
  | .r1 _ => .read
  | .r2 _ => .read
  | .rL _ => .read
  | .n0 _ _ => .new
  | .n1 _ => .new
  | .nL _ => .new
  | .e2 _ => .eff
  | .eL _ => .eff
def isEff (o : Oper) : Bool := match clsOf (kOp P o) with | .eff => true | _ => false
/-- Each operation that binds lies ahead of its own. -/
def edgesOk : Nat → List Oper → Bool
  | _, [] => true
  | i, o :: l => (o.after.toList.all fun e => !(Region.binds .any e) || Nat.ble (e.on + 1) i) && edgesOk (i + 1) l
/-- What must be done ahead of each, as numbers of bits. -/
def maskOf (ms : List Nat) (i : Nat) : Nat := match lnth ms i with
  | some m => m
  | none => 0
def maskE (ms : List Nat) : List Edge → Nat
  | [] => 0
  | e :: l => match Region.binds .any e with
    | true => Nat.lor (Nat.lor (Nat.shiftLeft 1 e.on) (maskOf ms e.on)) (maskE ms l)
    | false => maskE ms l
def masks (ms : List Nat) : List Oper → List Nat
  | [] => ms
  | o :: l => masks (ms ++ [maskE ms o.after.toList]) l
def bit (m i : Nat) : Bool := Nat.beq (Nat.mod (Nat.shiftRight m i) 2) 1
/-- The slots that an operation looks at. -/
def tmpOf : Operand → List Nat
  | .tmp t => [t]
  | _ => []
def looks (ops : List Oper) (o : Oper) : List Nat := (opsOf o.op).flatMap tmpOf ++ (match o.guard with
  | some g => (match guardT ops g.1 with
    | some t => [t]
    | none => [])
  | none => [])
/-- Slots: each is written once; who looks at one is ahead of its writer or behind it. -/
def slotOk (ops : List Oper) (ms : List Nat) (i d : Nat) : Nat → List Oper → Bool
  | _, [] => true
  | j, y :: l => (Nat.beq i j || ((match y.dst with | some e => !(Nat.beq d e) | none => true) && (!((looks ops y).any (Nat.beq d)) || bit (maskOf ms j) i || bit (maskOf ms i) j))) && slotOk ops ms i d (j + 1) l
def slotsOk (ops : List Oper) (ms : List Nat) : Nat → List Oper → Bool
  | _, [] => true
  | i, o :: l => (match o.dst with
    | some d => !((looks ops o).any (Nat.beq d)) && slotOk ops ms i d 0 ops
    | none => true) && slotsOk ops ms (i + 1) l
def effFrom : Nat → List Oper → List Nat
  | _, [] => []
  | i, o :: l => match isEff P o with
    | true => i :: effFrom (i + 1) l
    | false => effFrom (i + 1) l
/-- What acts as early as may be, what it wants ahead of it. -/
def orderOf (n : Nat) (ms : List Nat) : List Nat → List Nat → List Nat
  | done, [] => done ++ (List.range n).filter fun i => !(done.any (Nat.beq i))
  | done, e :: es => orderOf n ms (done ++ ((List.range n).filter fun i => bit (maskOf ms e) i && !(done.any (Nat.beq i))) ++ [e]) es
/-- The last two that act, where neither wants the other ahead of it. -/
def pairOf (ms : List Nat) : List Nat → Option (Nat × Nat)
  | [] => none
  | i :: l => match l with
    | [] => none
    | [j] => (match bit (maskOf ms j) i with
      | true => none
      | false => some (i, j))
    | _ :: _ => pairOf ms l
def extraM (ms : List Nat) (pr : Option (Nat × Nat)) (q : Nat) : Nat := match pr with
  | none => 0
  | some p => match Nat.beq q p.2 with
    | true => Nat.lor (Nat.shiftLeft 1 p.1) (maskOf ms p.1)
    | false => 0
def msIn (ms : List Nat) (pr : Option (Nat × Nat)) : List Nat := match pr with
  | none => ms
  | some p => ms.set p.2 (Nat.lor (maskOf ms p.2) (extraM ms pr p.2))
/-- The masks by which slots are looked at: without what the pair's second one has of the first. -/
def msLook (ops : List Oper) (ms : List Nat) (pr : Option (Nat × Nat)) : List Nat := match pr with
  | none => ms
  | some p => (match lnth ops p.2 with
    | some o => ms.set p.2 (maskE ms o.after.toList)
    | none => ms)
/-- Masks that hold what they should; of two unordered ones the second has the first one's, too. -/
def fixOk (ms : List Nat) (pr : Option (Nat × Nat)) : Nat → List Oper → Bool
  | _, [] => true
  | i, o :: l => Nat.beq (maskOf ms i) (Nat.lor (maskE ms o.after.toList) (extraM ms pr i)) && fixOk ms pr (i + 1) l
/-- An order in which each stands behind what it wants, and what acts wants all that stands ahead of it. -/
def ordOk (ms es : List Nat) : Nat → List Nat → Bool
  | _, [] => true
  | pb, i :: l => !(bit pb i) && Nat.beq (Nat.land (maskOf ms i) pb) (maskOf ms i) && (!(es.any (Nat.beq i)) || Nat.beq (maskOf ms i) pb) && ordOk ms es (Nat.lor pb (Nat.shiftLeft 1 i)) l
def isStore (ops : List Oper) (i : Nat) : Bool := match lnth ops i with
  | some o => (match o.op, o.dst, o.guard with | .store _ _ _, none, none => true | _, _, _ => false)
  | none => false
def isPure (o : Oper) : Bool := match clsOf (kOp P o) with | .pure => true | _ => false
def pairAll (ms : List Nat) (i j mj : Nat) : Nat → List Oper → Bool
  | _, [] => true
  | q, o :: l => (Nat.beq q i || Nat.beq q j || isPure P o || (bit (maskOf ms i) q && bit mj q)) && (Nat.beq q j || (!(bit (maskOf ms q) i) && !(bit (maskOf ms q) j))) && pairAll ms i j mj (q + 1) l
def pairOk (ops : List Oper) (ms : List Nat) (pr : Option (Nat × Nat)) : Bool := match pr with
  | none => true
  | some p => (match lnth ops p.2 with
    | some o => isStore ops p.1 && isStore ops p.2 && Nat.ble (p.1 + 1) p.2 && pairAll P ms p.1 p.2 (maskE ms o.after.toList) 0 ops
    | none => false)
def capEq (c d : Option Nat) : Bool := match c, d with
  | none, none => true
  | some c, some d => Nat.beq c d
  | _, _ => false
mutual
def eqv : AV → AV → Bool
  | .bool a, .bool b => boolEq a b
  | .int j a, .int k b => kindB j k && ieqB a b
  | .str a, .str b => bytesEq a b
  | .nilp, .nilp => true
  | .ptr i o, .ptr j q => Id.beq i j && Nat.beq o q
  | .nils, .nils => true
  | .sl i o n c, .sl j q m d => Id.beq i j && Nat.beq o q && Nat.beq n m && capEq c d
  | .emp, .emp => true
  | .nilm, .nilm => true
  | .mp i, .mp j => Id.beq i j
  | .nilf, .nilf => true
  | .fn f x y, .fn g z u => Nat.beq f g && eqvs x z && eqvs y u
  | .yld i, .yld j => Id.beq i j
  | .nili, .nili => true
  | .agg x, .agg y => eqvs x y
  | .tup x, .tup y => eqvs x y
  | _, _ => false
def eqvs : List AV → List AV → Bool
  | [], [] => true
  | a :: x, b :: y => eqv a b && eqvs x y
  | _, _ => false
end
structure KD where
  mk ::
  (run : CK → TM → List (Nat × Hp) → Hp → R)
def badD : KD := ⟨fun _ _ _ _ => R.bad⟩
/-- e: what has acted last ahead of the heap just looked at; it reads as v in the ones before, too, back to one that it wants ahead of it. -/
def staysM (f : Hp → Option AV) (v : AV) (mk : Nat) (l : List (Nat × Hp)) : Nat → Bool := (@List.rec _ (fun _ => Nat → Bool) (fun _ => true) (fun y _l ih => fun e => (@Bool.rec (fun _ => Bool) ((@Option.rec _ (fun _ => Bool) false (fun u => (@Bool.rec (fun _ => Bool) false (ih y.1) (eqv u v))) (f y.2))) true (bit mk e))) l)
def readD (mk : Nat) (put : AV → TM → TM) (tm : TM) (hs : List (Nat × Hp)) (h : Hp) (k : TM → List (Nat × Hp) → Hp → R) (f : Hp → Option AV) : R :=
  (@List.rec _ (fun _ => R) R.bad (fun h0 r _ => (@Option.rec _ (fun _ => R) R.bad (fun v => (@Bool.rec (fun _ => R) R.bad (k (put v tm) hs h) (staysM f v mk r h0.1))) (f h0.2))) hs)
def idLe (i j : Id) : Bool := Nat.ble (Nat.add (Nat.mul (Nat.add (Nat.mul (Nat.add (Nat.mul i.a.num 16) i.b.num) 16) i.c.num) 16) i.d.num) (Nat.add (Nat.mul (Nat.add (Nat.mul (Nat.add (Nat.mul j.a.num 16) j.b.num) 16) j.c.num) 16) j.d.num)
def putD (i : Nat) (put : AV → TM → TM) (tm : TM) (hs : List (Nat × Hp)) (h : Hp) (k : TM → List (Nat × Hp) → Hp → R) (r : RC) : R := (@RC.rec (fun _ => R) R.bad (fun v h' => (@Bool.rec (fun _ => R) R.bad (k (put v tm) ((i, h') :: hs) h') (idLe h.nx h'.nx))) r)
def opD (xs : List Opd) (put : AV → TM → TM) (i m : Nat) (k : KD) : OpK → KD
  | .bad => badD
  | .mv => (match xs with
    | [⟨x⟩] => ⟨fun ck tm hs h => k.run ck (put (x tm) tm) hs h⟩
    | _ => badD)
  | .p1 f => (match xs with
    | [⟨x⟩] => ⟨fun ck tm hs h => (@Option.rec _ (fun _ => R) R.bad (fun v => k.run ck (put v tm) hs h) (f (x tm)))⟩
    | _ => badD)
  | .p2 f => (match xs with
    | [⟨x⟩, ⟨y⟩] => ⟨fun ck tm hs h => (@Option.rec _ (fun _ => R) R.bad (fun v => k.run ck (put v tm) hs h) (f (x tm) (y tm)))⟩
    | _ => badD)
  | .pL f => (match cEvs xs with
    | ⟨x⟩ => ⟨fun ck tm hs h => (@Option.rec _ (fun _ => R) R.bad (fun v => k.run ck (put v tm) hs h) (f (x tm)))⟩)
  | .r1 f => (match xs with
    | [⟨x⟩] => ⟨fun ck tm hs h => readD m put tm hs h (k.run ck) (f (x tm))⟩
    | _ => badD)
  | .r2 f => (match xs with
    | [⟨x⟩, ⟨y⟩] => ⟨fun ck tm hs h => readD m put tm hs h (k.run ck) (f (x tm) (y tm))⟩
    | _ => badD)
  | .rL f => (match cEvs xs with
    | ⟨x⟩ => ⟨fun ck tm hs h => readD m put tm hs h (k.run ck) (f (x tm))⟩)
  | .n0 b g => (match xs with
    | [] => ⟨fun ck tm hs h => alloc b h R.bad fun i h => k.run ck (put (g i) tm) hs h⟩
    | _ => badD)
  | .n1 f => (match xs with
    | [⟨x⟩] => ⟨fun ck tm hs h => newC put tm h (fun tm h => k.run ck tm hs h) (f (x tm))⟩
    | _ => badD)
  | .nL f => (match cEvs xs with
    | ⟨x⟩ => ⟨fun ck tm hs h => newC put tm h (fun tm h => k.run ck tm hs h) (f (x tm))⟩)
  | .e2 f => (match xs with
    | [⟨x⟩, ⟨y⟩] => ⟨fun ck tm hs h => putD i put tm hs h (k.run ck) (f (x tm) (y tm) h)⟩
    | _ => badD)
  | .eL f => (match cEvs xs with
    | ⟨x⟩ => ⟨fun ck tm hs h => putD i put tm hs h (k.run ck) (f ck (x tm) h)⟩)
def gOpD (N : Nat) (ops : List Oper) (i m : Nat) (k : KD) (o : Oper) : KD :=
  match okOper N o, cDst o.dst with
  | true, ⟨put⟩ => (match o.guard with
    | none => opD (xsOf N o) put i m k (kOp P o)
    | some (j, want) => (match guardT ops j with
      | none => badD
      | some t => (match cOpd N (.tmp t), opD (xsOf N o) put i m k (kOp P o), isEff P o with
        | ⟨g⟩, ⟨c⟩, true => ⟨fun ck tm hs h => (@Bool.rec (fun _ => R) (k.run ck (put undef tm) ((i, h) :: hs) h) (c ck tm hs h) (wantB (g tm) want))⟩
        | ⟨g⟩, ⟨c⟩, false => ⟨fun ck tm hs h => (@Bool.rec (fun _ => R) (k.run ck (put undef tm) hs h) (c ck tm hs h) (wantB (g tm) want))⟩)))
  | false, _ => badD
def cOrd (N : Nat) (ops : List Oper) (ms : List Nat) (k : K) : List Nat → KD
  | [] => ⟨fun ck tm _ h => k.run ck tm h⟩
  | i :: l => match lnth ops i with
    | none => badD
    | some o => gOpD P N ops i (maskOf ms i) (cOrd N ops ms k l) o
def noSel : List Oper → Bool
  | [] => true
  | o :: l => (match o.op with | .select _ _ => false | _ => true) && noSel l
def prOf (ops : List Oper) : Option (Nat × Nat) := pairOf (masks [] ops) (effFrom P 0 ops)
def msOf (ops : List Oper) : List Nat := msIn (masks [] ops) (prOf P ops)
def ordOf (ops : List Oper) : List Nat := orderOf (len ops) (msOf P ops) [] (effFrom P 0 ops)
def drawOk (ops : List Oper) : Bool := edgesOk 0 ops && noSel ops && fixOk (msOf P ops) (prOf P ops) 0 ops && slotsOk ops (msLook ops (msOf P ops) (prOf P ops)) 0 ops && ordOk (msOf P ops) (effFrom P 0 ops) 0 (ordOf P ops) && ((List.range (len ops)).all fun i => (ordOf P ops).any (Nat.beq i)) && pairOk P ops (msOf P ops) (prOf P ops)
/-- Each region that draws its order is one of those. -/
def allDraw : Code → Bool
  | .region _ ops d => match d with
    | true => drawOk P ops.toList
    | false => true
  | .seq a b => allDraw a && allDraw b
  | .cond _ a b => allDraw a && allDraw b
  | .block _ b => allDraw b
  | .loop b => allDraw b
  | .scope b => allDraw b
  | .rangeFunc _ _ a b => allDraw a && allDraw b
  | _ => true
/-- The address that a store writes to. -/
def storeTo (N : Nat) (ops : List Oper) (i : Nat) : Opd := match lnth ops i with
  | some o => (match o.op with
    | .store _ a _ => cOpd N a
    | _ => ⟨fun _ => undef⟩)
  | none => ⟨fun _ => undef⟩
/-- Two unordered stores write to two blocks. -/
def kPair (N : Nat) (ops : List Oper) (pr : Option (Nat × Nat)) (k : K) : K := match pr with
  | none => k
  | some p => (match storeTo N ops p.1, storeTo N ops p.2 with
    | ⟨a⟩, ⟨b⟩ => ⟨fun ck tm h => AV.onPtr (a tm) R.bad fun x _ => AV.onPtr (b tm) R.bad fun y _ => (@Bool.rec (fun _ => R) (k.run ck tm h) R.bad (Id.beq x y))⟩)
def cDraw (N : Nat) (ops : List Oper) (k : K) : K :=
  match cOrd P N ops (msOf P ops) (kPair N ops (prOf P ops) k) (ordOf P ops) with
  | ⟨r⟩ => ⟨fun ck tm h => r ck tm [(0, h)] h⟩

/-! ### code -/
abbrev Env := List (Nat × K)
def envFind (i : Nat) : Env → Option K
  | [] => none
  | x :: l => match Nat.beq i x.1 with
    | true => some x.2
    | false => envFind i l
def goOn (env : Env) (i : Nat) (ck : CK) (tm : TM) (h : Hp) : R := match envFind i env with
  | some k => k.run ck tm h
  | none => R.exit i tm h
def loopRun (b : K) (env : Env) (ck : CK) (n : Nat) : TM → Hp → R :=
  (@Nat.rec (fun _ => TM → Hp → R) (fun _ _ => R.bad) (fun _n ih => fun tm h => (@R.rec (fun _ => R) R.bad (fun tm h => ih tm h) (fun tm h => R.ret tm h) (fun i tm h => goOn env i ck tm h) (b.run ck tm h))) n)
def kEnd : K := ⟨fun _ tm h => R.norm tm h⟩
def afterRange (env : Env) (k : K) (l : Id) (ck : CK) (tm : TM) (r : RC) : R := match r with
  | .bad => R.bad
  | .ok _ h => (match h.get l with
    | .loop ready _ pend _ _ _ _ =>
      (match ready, pend with
       | true, none => k.run ck tm (h.put l .none)
       | false, some .ret => R.ret tm (h.put l .none)
       | false, some (.exit i) => goOn env i ck tm (h.put l .none)
       | _, _ => R.bad)
    | _ => R.bad)
/-- Functions that the model runs by a row of its own. -/
def isExt (f : Nat) : Bool := Nat.beq f 391 || Nat.beq f 221
def callR (ck : CK) (v : AV) (args : List AV) (h : Hp) : RC := match v with
  | .fn f x y => (@Bool.rec (fun _ => RC) (ck.run f (x ++ args ++ y) h) RC.bad (isExt f))
  | _ => RC.bad
def fuel : Nat := 100000
/-- rd: not within a round. -/
def cCode (N : Nat) (rd : Bool) (env : Env) (k : K) : Code → K
  | .skip => k
  | .label _ => k
  | .region _ ops d => (match d with
    | false => cOps P N ops.toList k ops.toList
    | true => (match rd || drawOk P ops.toList with
      | true => cDraw P N ops.toList k
      | false => badK))
  | .seq a b => cCode N rd env (cCode N rd env k b) a
  | .cond c a b => (match okOpd c, cOpd N c, cCode N rd env k a, cCode N rd env k b with
    | true, ⟨c⟩, ⟨x⟩, ⟨y⟩ => ⟨fun ck tm h => AV.onBool (c tm) R.bad fun r => (@Bool.rec (fun _ => R) (y ck tm h) (x ck tm h) r)⟩
    | false, _, _, _ => badK)
  | .block i b => cCode N rd ((i, k) :: env) k b
  | .loop b => (match cCode N rd [] kEnd b with
    | b => ⟨fun ck tm h => loopRun b env ck fuel tm h⟩)
  | .scope b => cCode N rd env k b
  | .exit i => (match envFind i env with
    | some k => k
    | none => ⟨fun _ tm h => R.exit i tm h⟩)
  | .ret => ⟨fun _ tm h => R.ret tm h⟩
  | .rangeFunc f ps a b => (match rd && okOpd f, cOpd N f with
    | true, ⟨f⟩ => ⟨fun ck tm h => alloc (.loop true N none tm ps.toList a b) h R.bad fun l h => afterRange env k l ck tm (callR ck (f tm) [.yld l] h)⟩
    | false, _ => badK)
  | .goto _ => badK
  | .refuse _ => badK

/-! ### functions -/
def setArgs (n : Nat) (tm : TM) : List AV → TM
  | [] => tm
  | v :: l => setArgs (n + 1) ((rgPut n).put v tm) l
def resV (N : Nat) (tm : TM) (h : Hp) : ResultVar → Option AV
  | .tmp t => some ((cOpd N (.tmp t)).get tm)
  | .cell a t => AV.onPtr ((cOpd N (.tmp a)).get tm) none fun i o => match knownB P t, isAggB P t with
      | false, _ => none
      | true, true => (@Option.rec _ (fun _ => Option AV) none (fun l => some (.agg l)) (loadN (h.get i) o (szOf P t)))
      | true, false => load1 (h.get i) o
def resVs (N : Nat) (tm : TM) (h : Hp) : List ResultVar → Option (List AV)
  | [] => some []
  | r :: l => (@Option.rec _ (fun _ => Option (List AV)) none (fun v => (@Option.rec _ (fun _ => Option (List AV)) none (fun vs => some (v :: vs)) (resVs N tm h l))) (resV P N tm h r))
def tupV : List AV → AV
  | [v] => v
  | vs => .tup vs
def resGo (N : Nat) (rs : List ResultVar) (tm : TM) (h : Hp) : RC := (@Option.rec _ (fun _ => RC) RC.bad (fun vs => RC.ok (tupV vs) h) (resVs P N tm h rs))
def resR (N : Nat) (rs : List ResultVar) (r : R) : RC := (@R.rec (fun _ => RC) RC.bad (fun tm h => resGo P N rs tm h) (fun tm h => resGo P N rs tm h) (fun _ _ _ => RC.bad) r)
structure FC where
  mk ::
  (run : CK → List AV → Hp → RC)
def badF : FC := ⟨fun _ _ _ => RC.bad⟩
def cFn (fn : Func) : FC := match fn.body with
  | none => badF
  | some c => (match Nat.ble fn.ntmps 256, cCode P fn.ntmps true [] kEnd c with
    | true, ⟨b⟩ => ⟨fun ck args h => (@Bool.rec (fun _ => RC) RC.bad (resR P fn.ntmps fn.results.toList (b ck (setArgs 0 tm0 args) h)) (Nat.ble (len args) fn.ntmps))⟩
    | false, _ => badF)
/-- U: the functions whose drawn regions were looked at, as bits. -/
def cFunc (U f : Nat) : FC := match bit U f, lnth P.funcs.toList f with
  | true, some fn => cFn P fn
  | _, _ => badF
def setPs (N : Nat) (tm : TM) : List Nat → List AV → Option TM
  | [], [] => some tm
  | p :: ps, v :: vs => (match Nat.ble (p + 1) N with
    | true => setPs N ((rgPut p).put v tm) ps vs
    | false => none)
  | _, _ => none
def endRound (l : Id) (jump : Option Code) (h : Hp) : RC := match h.get l with
  | .loop _ n _ t p a b => RC.ok (.bool jump.isNone) (h.put l (.loop jump.isNone n jump t p a b))
  | _ => RC.bad
def roundGo (ck : CK) (l : Id) (b : K) : R → RC
  | .norm tm h => (match h.get l with
    | .loop true n none t p a' b' =>
      (match b.run ck tm (h.put l (.loop false n none t p a' b')) with
      | .bad => RC.bad
      | .norm _ h => endRound l none h
      | .ret _ h => endRound l (some .ret) h
      | .exit i _ h => endRound l (some (.exit i)) h)
    | _ => RC.bad)
  | _ => RC.bad
def yieldRun (ck : CK) (l : Id) (args : List AV) (h : Hp) : RC := match h.get l with
  | .loop _ n _ tm ps a b => (@Option.rec _ (fun _ => RC) RC.bad (fun tm => roundGo ck l (cCode P n false [] kEnd b) ((cCode P n false [] kEnd a).run ck tm h)) (setPs n tm ps args))
  | _ => RC.bad
structure Prim where
  mk ::
  (run : Option (CK → List AV → Hp → RC))
def ckBad : CK := ⟨fun _ _ _ => RC.bad, fun _ _ _ => RC.bad⟩
def callAt (U : Nat) (prim : Nat → Prim) (n : Nat) : CK :=
  (@Nat.rec (fun _ => CK) ckBad (fun _n ih => ⟨fun f args h => match (prim f).run with
      | some p => p ih args h
      | none => (cFunc P U f).run ih args h, fun l args h => yieldRun P ih l args h⟩) n)
end comp

section six
variable (P : Program)
/-- The first m statements of a body. -/
def cFront (N : Nat) (k : K) : Nat → Code → K
  | 0, _ => k
  | m + 1, c => match c with
    | .seq a b => cCode P N true [] (cFront N k m b) a
    | _ => badK
def insI (x : Int × Int) : List (Int × Int) → List (Int × Int)
  | [] => [x]
  | y :: l => match iltB x.1 y.1 with
    | true => x :: y :: l
    | false => y :: insI x l
def sortI : List (Int × Int) → List (Int × Int)
  | [] => []
  | x :: l => insI x (sortI l)
def pairsI : List (AV × AV × Nat) → Option (List (Int × Int))
  | [] => some []
  | e :: l => match e.1, e.2.1 with
    | .int .i64 a, .int .i64 b => (@Option.rec _ (fun _ => Option (List (Int × Int))) none (fun r => some ((a, b) :: r)) (pairsI l))
    | _, _ => none
def tailSix (ty : Nat) (m : AV) (h : Hp) : RC := AV.onMp m RC.bad fun i => Blk.onMap (h.get i) RC.bad fun es _ => (@Option.rec _ (fun _ => RC) RC.bad (fun l => match sortI l with
      | [] => RC.ok .nils h
      | s => okB (mkArr ty 2 (len s) true (s.map fun x => [.int .i64 x.1, .int .i64 x.2])) h fun i => .sl i 0 (len s) none) (pairsI es))
/-- match.Match: its last loop goes over a map, in any order, and sorts. slot: the matcher; fld: the map's cell. -/
def sixAfter (ty : Nat) (slot : Opd) (fld : Nat) (r : R) : RC := (@R.rec (fun _ => RC) RC.bad (fun tm h => AV.onPtr (slot.get tm) RC.bad fun i o => (@Option.rec _ (fun _ => RC) RC.bad (fun m => tailSix ty m h) (load1 (h.get i) (o + fld)))) (fun _ _ => RC.bad) (fun _ _ _ => RC.bad) r)
def sixPrim (c : Code) (N m ty slot fld : Nat) : Prim := ⟨some fun ck args h => sixAfter ty (rgGet slot) fld ((cFront P N kEnd m c).run ck (setArgs 0 tm0 args) h)⟩
end six
end
end Go.Ax
