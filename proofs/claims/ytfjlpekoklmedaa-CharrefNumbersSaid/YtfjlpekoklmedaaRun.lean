/- A function whose run hangs on nothing that is in memory, run by the kernel: straight-line code that lays new blocks. -/
import Derived.Test.YtfjlpekoklmedaaProg
import Derived.WalkKit
namespace Go.Proofs.Ytfjlpekoklmedaa.Ct
open Go Go.RowKit

/-- How many steps till the first function returns. -/
def toRet (P : Program) : Nat → Machine → Nat
  | 0, _ => 0
  | k + 1, m => match m.gs[0]? with
    | some g => match g.frame.mode with
      | .returning => 0
      | _ => match step P m with
        | .next m' => toRet P k m' + 1
        | _ => 0
    | none => 0
def mRet (P : Program) (f : FuncId) (args : Array Value) (w : World) : Machine := lone (Frame.enter P f args .normal) [] w
def nRet (P : Program) (f : FuncId) (args : Array Value) (w : World) : Nat := toRet P 1000 (mRet P f args w)
/-- The frame as it returns. -/
def frRet (P : Program) (f : FuncId) (args : Array Value) (w : World) : Frame :=
  match runN P (nRet P f args w) (mRet P f args w) with
  | .next m => match m.gs[0]? with
    | some g => g.frame
    | none => Frame.enter P f args .normal
  | _ => Frame.enter P f args .normal
theorem calls_run {P : Program} {f : FuncId} {fn : Func} {args : Array Value} {w w' : World} {v : Value} (hf : P.funcs[f]? = some fn)
    (h : ∀ cs, runN P (nRet P f args w) (lone (Frame.enter P f args .normal) cs w) = .next (lone (frRet P f args w) cs w'))
    (hfn : (frRet P f args w).fn = f) (hm : (frRet P f args w).mode = .returning) (hd : (frRet P f args w).defers = []) (hk : (frRet P f args w).kind = .normal)
    (hr : (results fn (frRet P f args w).tmps).run P w' = .ok v w') : Calls P f args w fun e w1 => e = .returned v ∧ w1 = w' :=
  fun cs => ⟨.returned v, w', frRet P f args w, ⟨rfl, rfl⟩, ⟨_, h cs⟩, hfn, hm, hd, hk, fn, by rw [hfn]; exact hf, hr⟩
end Go.Proofs.Ytfjlpekoklmedaa.Ct
