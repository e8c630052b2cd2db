/-
  No cell of these rows narrows 'for every input' (looked for: loops, veiled, ifaces, maps, wideKeys, modest, calm, conditions, laid).
  DERIVED. THE GIVEN ROWS OF THIS SEAT. 9 by the template 'for every input the law returns true; each argument reads behind the call as it read before'; 0 by the template 'total and deterministic' (their statements: YtfjlpekoklmedaaTotals.lean).
  GIVEN WITH THE SEED: the statements are not yours to turn. If you find one false, say at which input.
  Laid BY PROGRAM, IN A SANDBOX (cutbox-rows.mjs): the forced cells as the released guide's own fill.sh prints them over the translation a84e858a16977366… (all of the seat's roots in one cut). By AI agents, Wed Nov 11 2026. No macro, syntax, notation, axiom, sorry.
-/
import Derived.Test.YtfjlpekoklmedaaChecked
import GoSem.Claim
import GoSem.ClaimJoined
import GoSem.ClaimMapViews
import Derived.JoinedTies
import Derived.KernelRfl
namespace Go.Proofs.Ytfjlpekoklmedaa
/- THE CELL 'sum', in the pinned program and in every row, IS THE sha256 OF THE DUMP (.gsa) THAT YtfjlpekoklmedaaProg.lean LOADS. Nothing in Lean hashes anything: it is a label: what it is worth is what the hold of that sum in a sandbox is worth. -/
noncomputable def Try.pinned : Pinned := { name := "ytfjlpekoklmedaa", sum := "a84e858a169773667af6563fdef6e29fdb93a88c29618c85d613f7c16f6c8183", checked := Try.checked }
namespace Rows
def none {H : Type} : Left H := { results := [], args := [] }

/-- 'topiarylaw08.EntityCodes': WHATEVER THE INPUT: true; the input reads as it did. -/
def entityCodesSpec : ChangeSpec := { name := "entityCodes", fn := fun _ => fun
  | [d] => { results := [.lit (.bool true)], args := [d] }
  | _ => none }
def entityCodesRow : OpenClaim := { program := "ytfjlpekoklmedaa", sum := "a84e858a169773667af6563fdef6e29fdb93a88c29618c85d613f7c16f6c8183", func := "topiary/topiarylaw08.EntityCodes", spec := "entityCodes", apart := false }
def EntityCodesSaid : Prop := entityCodesRow.holds Try.pinned (OpenSpec.ofChange entityCodesSpec)

/-- ITS FALSE NEIGHBOUR: 'it returns false'. Refute it at one input. -/
def entityCodesWrong : ChangeSpec := { name := "entityCodes", fn := fun _ => fun
  | [d] => { results := [.lit (.bool false)], args := [d] }
  | _ => none }
def EntityCodesWrongFalsely : Prop := entityCodesRow.holds Try.pinned (OpenSpec.ofChange entityCodesWrong)

/-- 'topiarylaw08.EntityAll': WHATEVER THE INPUT: true; the input reads as it did. -/
def entityAllSpec : ChangeSpec := { name := "entityAll", fn := fun _ => fun
  | [d1, d2, d3, d4] => { results := [.lit (.bool true)], args := [d1, d2, d3, d4] }
  | _ => none }
def entityAllRow : OpenClaim := { program := "ytfjlpekoklmedaa", sum := "a84e858a169773667af6563fdef6e29fdb93a88c29618c85d613f7c16f6c8183", func := "topiary/topiarylaw08.EntityAll", spec := "entityAll", apart := false }
def EntityAllSaid : Prop := entityAllRow.holds Try.pinned (OpenSpec.ofChange entityAllSpec)

/-- ITS FALSE NEIGHBOUR: 'it returns false'. Refute it at one input. -/
def entityAllWrong : ChangeSpec := { name := "entityAll", fn := fun _ => fun
  | [d1, d2, d3, d4] => { results := [.lit (.bool false)], args := [d1, d2, d3, d4] }
  | _ => none }
def EntityAllWrongFalsely : Prop := entityAllRow.holds Try.pinned (OpenSpec.ofChange entityAllWrong)

/-- 'topiarylaw08.EntityNames': WHATEVER THE INPUT: true; the input reads as it did. -/
def entityNamesSpec : ChangeSpec := { name := "entityNames", fn := fun _ => fun
  | [] => { results := [.lit (.bool true)], args := [] }
  | _ => none }
def entityNamesRow : OpenClaim := { program := "ytfjlpekoklmedaa", sum := "a84e858a169773667af6563fdef6e29fdb93a88c29618c85d613f7c16f6c8183", func := "topiary/topiarylaw08.EntityNames", spec := "entityNames", apart := false }
def EntityNamesSaid : Prop := entityNamesRow.holds Try.pinned (OpenSpec.ofChange entityNamesSpec)

/-- ITS FALSE NEIGHBOUR: 'it returns false'. Refute it at one input. -/
def entityNamesWrong : ChangeSpec := { name := "entityNames", fn := fun _ => fun
  | [] => { results := [.lit (.bool false)], args := [] }
  | _ => none }
def EntityNamesWrongFalsely : Prop := entityNamesRow.holds Try.pinned (OpenSpec.ofChange entityNamesWrong)

/-- 'topiarylaw08.EntityBehind': WHATEVER THE INPUT: true; the input reads as it did. -/
def entityBehindSpec : ChangeSpec := { name := "entityBehind", fn := fun _ => fun
  | [d1, d2, d3] => { results := [.lit (.bool true)], args := [d1, d2, d3] }
  | _ => none }
def entityBehindRow : OpenClaim := { program := "ytfjlpekoklmedaa", sum := "a84e858a169773667af6563fdef6e29fdb93a88c29618c85d613f7c16f6c8183", func := "topiary/topiarylaw08.EntityBehind", spec := "entityBehind", apart := false }
def EntityBehindSaid : Prop := entityBehindRow.holds Try.pinned (OpenSpec.ofChange entityBehindSpec)

/-- ITS FALSE NEIGHBOUR: 'it returns false'. Refute it at one input. -/
def entityBehindWrong : ChangeSpec := { name := "entityBehind", fn := fun _ => fun
  | [d1, d2, d3] => { results := [.lit (.bool false)], args := [d1, d2, d3] }
  | _ => none }
def EntityBehindWrongFalsely : Prop := entityBehindRow.holds Try.pinned (OpenSpec.ofChange entityBehindWrong)

/-- 'topiarylaw09.CharrefNumbers': WHATEVER THE INPUT: true; the input reads as it did. -/
def charrefNumbersSpec : ChangeSpec := { name := "charrefNumbers", fn := fun _ => fun
  | [d1, d2] => { results := [.lit (.bool true)], args := [d1, d2] }
  | _ => none }
def charrefNumbersRow : OpenClaim := { program := "ytfjlpekoklmedaa", sum := "a84e858a169773667af6563fdef6e29fdb93a88c29618c85d613f7c16f6c8183", func := "topiary/topiarylaw09.CharrefNumbers", spec := "charrefNumbers", inPlace := ["sync/atomic.LoadUint32", "(*internal/sync.Mutex).Lock", "internal/race.Disable", "sync/atomic.CompareAndSwapInt32", "internal/race.Enable", "internal/race.Acquire", "(*internal/sync.Mutex).lockSlow", "internal/sync.runtime_canSpin", "internal/sync.runtime_doSpin", "internal/sync.throw", "internal/sync.runtime_nanotime", "internal/sync.runtime_SemacquireMutex", "sync/atomic.AddInt32", "(*internal/sync.Mutex).Unlock", "internal/race.ReleaseMerge", "(*internal/sync.Mutex).unlockSlow", "internal/sync.fatal", "internal/sync.runtime_Semrelease", "sync/atomic.StoreUint32"], unfollowed := true, recurses := true, apart := false }
def CharrefNumbersSaid : Prop := charrefNumbersRow.holds Try.pinned (OpenSpec.ofChange charrefNumbersSpec)

/-- ITS FALSE NEIGHBOUR: 'it returns false'. Refute it at one input. -/
def charrefNumbersWrong : ChangeSpec := { name := "charrefNumbers", fn := fun _ => fun
  | [d1, d2] => { results := [.lit (.bool false)], args := [d1, d2] }
  | _ => none }
def CharrefNumbersWrongFalsely : Prop := charrefNumbersRow.holds Try.pinned (OpenSpec.ofChange charrefNumbersWrong)

/-- 'topiarylaw09.CharrefAll': WHATEVER THE INPUT: true; the input reads as it did. -/
def charrefAllSpec : ChangeSpec := { name := "charrefAll", fn := fun _ => fun
  | [d1, d2, d3] => { results := [.lit (.bool true)], args := [d1, d2, d3] }
  | _ => none }
def charrefAllRow : OpenClaim := { program := "ytfjlpekoklmedaa", sum := "a84e858a169773667af6563fdef6e29fdb93a88c29618c85d613f7c16f6c8183", func := "topiary/topiarylaw09.CharrefAll", spec := "charrefAll", inPlace := ["sync/atomic.LoadUint32", "(*internal/sync.Mutex).Lock", "internal/race.Disable", "sync/atomic.CompareAndSwapInt32", "internal/race.Enable", "internal/race.Acquire", "(*internal/sync.Mutex).lockSlow", "internal/sync.runtime_canSpin", "internal/sync.runtime_doSpin", "internal/sync.throw", "internal/sync.runtime_nanotime", "internal/sync.runtime_SemacquireMutex", "sync/atomic.AddInt32", "(*internal/sync.Mutex).Unlock", "internal/race.ReleaseMerge", "(*internal/sync.Mutex).unlockSlow", "internal/sync.fatal", "internal/sync.runtime_Semrelease", "sync/atomic.StoreUint32", "internal/abi.NoEscape"], unfollowed := true, recurses := true, apart := false }
def CharrefAllSaid : Prop := charrefAllRow.holds Try.pinned (OpenSpec.ofChange charrefAllSpec)

/-- ITS FALSE NEIGHBOUR: 'it returns false'. Refute it at one input. -/
def charrefAllWrong : ChangeSpec := { name := "charrefAll", fn := fun _ => fun
  | [d1, d2, d3] => { results := [.lit (.bool false)], args := [d1, d2, d3] }
  | _ => none }
def CharrefAllWrongFalsely : Prop := charrefAllRow.holds Try.pinned (OpenSpec.ofChange charrefAllWrong)

/-- 'topiarylaw09.CharrefBack': WHATEVER THE INPUT: true; the input reads as it did. -/
def charrefBackSpec : ChangeSpec := { name := "charrefBack", fn := fun _ => fun
  | [d1, d2] => { results := [.lit (.bool true)], args := [d1, d2] }
  | _ => none }
def charrefBackRow : OpenClaim := { program := "ytfjlpekoklmedaa", sum := "a84e858a169773667af6563fdef6e29fdb93a88c29618c85d613f7c16f6c8183", func := "topiary/topiarylaw09.CharrefBack", spec := "charrefBack", inPlace := ["sync/atomic.LoadUint32", "(*internal/sync.Mutex).Lock", "internal/race.Disable", "sync/atomic.CompareAndSwapInt32", "internal/race.Enable", "internal/race.Acquire", "(*internal/sync.Mutex).lockSlow", "internal/sync.runtime_canSpin", "internal/sync.runtime_doSpin", "internal/sync.throw", "internal/sync.runtime_nanotime", "internal/sync.runtime_SemacquireMutex", "sync/atomic.AddInt32", "(*internal/sync.Mutex).Unlock", "internal/race.ReleaseMerge", "(*internal/sync.Mutex).unlockSlow", "internal/sync.fatal", "internal/sync.runtime_Semrelease", "sync/atomic.StoreUint32", "internal/abi.NoEscape"], unfollowed := true, recurses := true, apart := false }
def CharrefBackSaid : Prop := charrefBackRow.holds Try.pinned (OpenSpec.ofChange charrefBackSpec)

/-- ITS FALSE NEIGHBOUR: 'it returns false'. Refute it at one input. -/
def charrefBackWrong : ChangeSpec := { name := "charrefBack", fn := fun _ => fun
  | [d1, d2] => { results := [.lit (.bool false)], args := [d1, d2] }
  | _ => none }
def CharrefBackWrongFalsely : Prop := charrefBackRow.holds Try.pinned (OpenSpec.ofChange charrefBackWrong)

/-- 'topiarylaw09.CharrefPlain': WHATEVER THE INPUT: true; the input reads as it did. -/
def charrefPlainSpec : ChangeSpec := { name := "charrefPlain", fn := fun _ => fun
  | [d1, d2, d3] => { results := [.lit (.bool true)], args := [d1, d2, d3] }
  | _ => none }
def charrefPlainRow : OpenClaim := { program := "ytfjlpekoklmedaa", sum := "a84e858a169773667af6563fdef6e29fdb93a88c29618c85d613f7c16f6c8183", func := "topiary/topiarylaw09.CharrefPlain", spec := "charrefPlain", inPlace := ["sync/atomic.LoadUint32", "(*internal/sync.Mutex).Lock", "internal/race.Disable", "sync/atomic.CompareAndSwapInt32", "internal/race.Enable", "internal/race.Acquire", "(*internal/sync.Mutex).lockSlow", "internal/sync.runtime_canSpin", "internal/sync.runtime_doSpin", "internal/sync.throw", "internal/sync.runtime_nanotime", "internal/sync.runtime_SemacquireMutex", "sync/atomic.AddInt32", "(*internal/sync.Mutex).Unlock", "internal/race.ReleaseMerge", "(*internal/sync.Mutex).unlockSlow", "internal/sync.fatal", "internal/sync.runtime_Semrelease", "sync/atomic.StoreUint32", "internal/abi.NoEscape"], unfollowed := true, recurses := true, apart := false }
def CharrefPlainSaid : Prop := charrefPlainRow.holds Try.pinned (OpenSpec.ofChange charrefPlainSpec)

/-- ITS FALSE NEIGHBOUR: 'it returns false'. Refute it at one input. -/
def charrefPlainWrong : ChangeSpec := { name := "charrefPlain", fn := fun _ => fun
  | [d1, d2, d3] => { results := [.lit (.bool false)], args := [d1, d2, d3] }
  | _ => none }
def CharrefPlainWrongFalsely : Prop := charrefPlainRow.holds Try.pinned (OpenSpec.ofChange charrefPlainWrong)

/-- 'topiarylaw09.CharrefParts': WHATEVER THE INPUT: true; the input reads as it did. -/
def charrefPartsSpec : ChangeSpec := { name := "charrefParts", fn := fun _ => fun
  | [d1, d2, d3] => { results := [.lit (.bool true)], args := [d1, d2, d3] }
  | _ => none }
def charrefPartsRow : OpenClaim := { program := "ytfjlpekoklmedaa", sum := "a84e858a169773667af6563fdef6e29fdb93a88c29618c85d613f7c16f6c8183", func := "topiary/topiarylaw09.CharrefParts", spec := "charrefParts", inPlace := ["sync/atomic.LoadUint32", "(*internal/sync.Mutex).Lock", "internal/race.Disable", "sync/atomic.CompareAndSwapInt32", "internal/race.Enable", "internal/race.Acquire", "(*internal/sync.Mutex).lockSlow", "internal/sync.runtime_canSpin", "internal/sync.runtime_doSpin", "internal/sync.throw", "internal/sync.runtime_nanotime", "internal/sync.runtime_SemacquireMutex", "sync/atomic.AddInt32", "(*internal/sync.Mutex).Unlock", "internal/race.ReleaseMerge", "(*internal/sync.Mutex).unlockSlow", "internal/sync.fatal", "internal/sync.runtime_Semrelease", "sync/atomic.StoreUint32", "internal/abi.NoEscape"], unfollowed := true, recurses := true, apart := false }
def CharrefPartsSaid : Prop := charrefPartsRow.holds Try.pinned (OpenSpec.ofChange charrefPartsSpec)

/-- ITS FALSE NEIGHBOUR: 'it returns false'. Refute it at one input. -/
def charrefPartsWrong : ChangeSpec := { name := "charrefParts", fn := fun _ => fun
  | [d1, d2, d3] => { results := [.lit (.bool false)], args := [d1, d2, d3] }
  | _ => none }
def CharrefPartsWrongFalsely : Prop := charrefPartsRow.holds Try.pinned (OpenSpec.ofChange charrefPartsWrong)

/- THE SECOND FORM. 'bulk': how many values and letters a reading holds, each counted each time it is reached (what is shared counts as often as it is met; a slice's spare places count too). A statement '..UptoSaid' is the law's where the arguments, and the package variables that the reading takes, are together of bulk at most 1048576: NARROWER than '..Said'. Prove '..Said' where nothing that the law and all that it calls make is longer than what came in: it says more and counts as full. Else prove '..UptoSaid'. A law counts once. -/
mutual
def uptoBulk {H : Type} : DataW H → Nat
  | .lit (.string bytes) => bytes.length + 1
  | .lit _ => 1
  | .nil => 1
  | .ptr d => uptoBulk d + 1
  | .slice elems spare => uptoBulkAll elems + uptoBulkAll spare + 1
  | .agg parts => uptoBulkAll parts + 1
  | .iface _ d => uptoBulk d + 1
  | .map entries => uptoBulkEntries entries + 1
  | .held _ => 1
def uptoBulkAll {H : Type} : List (DataW H) → Nat
  | [] => 0
  | d :: r => uptoBulk d + uptoBulkAll r
def uptoBulkEntries {H : Type} : List (Lit × DataW H) → Nat
  | [] => 0
  | x :: r => uptoBulkEntry x + uptoBulkEntries r
def uptoBulkEntry {H : Type} : Lit × DataW H → Nat
  | (.string bytes, d) => bytes.length + uptoBulk d + 1
  | (_, d) => uptoBulk d + 1
 end
def uptoSmall : (H : Type) → List (DataW H) → Bool := fun _ ds => decide (uptoBulkAll ds ≤ 1048576)
def OpenSpec.upto (s : _root_.Go.ChangeSpec) : _root_.Go.OpenSpec := { _root_.Go.OpenSpec.ofChange s with cond := some uptoSmall }

/-- 'topiarylaw08.EntityCodes', WHERE WHAT IT READS IS OF BULK AT MOST 1048576: true; the input reads as it did. -/
def entityCodesUptoRow : OpenClaim := { program := "ytfjlpekoklmedaa", sum := "a84e858a169773667af6563fdef6e29fdb93a88c29618c85d613f7c16f6c8183", func := "topiary/topiarylaw08.EntityCodes", spec := "entityCodes", apart := false, narrowed := true }
def EntityCodesUptoSaid : Prop := entityCodesUptoRow.holds Try.pinned (OpenSpec.upto entityCodesSpec)

/-- 'topiarylaw08.EntityAll', WHERE WHAT IT READS IS OF BULK AT MOST 1048576: true; the input reads as it did. -/
def entityAllUptoRow : OpenClaim := { program := "ytfjlpekoklmedaa", sum := "a84e858a169773667af6563fdef6e29fdb93a88c29618c85d613f7c16f6c8183", func := "topiary/topiarylaw08.EntityAll", spec := "entityAll", apart := false, narrowed := true }
def EntityAllUptoSaid : Prop := entityAllUptoRow.holds Try.pinned (OpenSpec.upto entityAllSpec)

/-- 'topiarylaw08.EntityNames', WHERE WHAT IT READS IS OF BULK AT MOST 1048576: true; the input reads as it did. -/
def entityNamesUptoRow : OpenClaim := { program := "ytfjlpekoklmedaa", sum := "a84e858a169773667af6563fdef6e29fdb93a88c29618c85d613f7c16f6c8183", func := "topiary/topiarylaw08.EntityNames", spec := "entityNames", apart := false, narrowed := true }
def EntityNamesUptoSaid : Prop := entityNamesUptoRow.holds Try.pinned (OpenSpec.upto entityNamesSpec)

/-- 'topiarylaw08.EntityBehind', WHERE WHAT IT READS IS OF BULK AT MOST 1048576: true; the input reads as it did. -/
def entityBehindUptoRow : OpenClaim := { program := "ytfjlpekoklmedaa", sum := "a84e858a169773667af6563fdef6e29fdb93a88c29618c85d613f7c16f6c8183", func := "topiary/topiarylaw08.EntityBehind", spec := "entityBehind", apart := false, narrowed := true }
def EntityBehindUptoSaid : Prop := entityBehindUptoRow.holds Try.pinned (OpenSpec.upto entityBehindSpec)

/-- 'topiarylaw09.CharrefNumbers', WHERE WHAT IT READS IS OF BULK AT MOST 1048576: true; the input reads as it did. -/
def charrefNumbersUptoRow : OpenClaim := { program := "ytfjlpekoklmedaa", sum := "a84e858a169773667af6563fdef6e29fdb93a88c29618c85d613f7c16f6c8183", func := "topiary/topiarylaw09.CharrefNumbers", spec := "charrefNumbers", inPlace := ["sync/atomic.LoadUint32", "(*internal/sync.Mutex).Lock", "internal/race.Disable", "sync/atomic.CompareAndSwapInt32", "internal/race.Enable", "internal/race.Acquire", "(*internal/sync.Mutex).lockSlow", "internal/sync.runtime_canSpin", "internal/sync.runtime_doSpin", "internal/sync.throw", "internal/sync.runtime_nanotime", "internal/sync.runtime_SemacquireMutex", "sync/atomic.AddInt32", "(*internal/sync.Mutex).Unlock", "internal/race.ReleaseMerge", "(*internal/sync.Mutex).unlockSlow", "internal/sync.fatal", "internal/sync.runtime_Semrelease", "sync/atomic.StoreUint32"], unfollowed := true, recurses := true, apart := false, narrowed := true }
def CharrefNumbersUptoSaid : Prop := charrefNumbersUptoRow.holds Try.pinned (OpenSpec.upto charrefNumbersSpec)

/-- 'topiarylaw09.CharrefAll', WHERE WHAT IT READS IS OF BULK AT MOST 1048576: true; the input reads as it did. -/
def charrefAllUptoRow : OpenClaim := { program := "ytfjlpekoklmedaa", sum := "a84e858a169773667af6563fdef6e29fdb93a88c29618c85d613f7c16f6c8183", func := "topiary/topiarylaw09.CharrefAll", spec := "charrefAll", inPlace := ["sync/atomic.LoadUint32", "(*internal/sync.Mutex).Lock", "internal/race.Disable", "sync/atomic.CompareAndSwapInt32", "internal/race.Enable", "internal/race.Acquire", "(*internal/sync.Mutex).lockSlow", "internal/sync.runtime_canSpin", "internal/sync.runtime_doSpin", "internal/sync.throw", "internal/sync.runtime_nanotime", "internal/sync.runtime_SemacquireMutex", "sync/atomic.AddInt32", "(*internal/sync.Mutex).Unlock", "internal/race.ReleaseMerge", "(*internal/sync.Mutex).unlockSlow", "internal/sync.fatal", "internal/sync.runtime_Semrelease", "sync/atomic.StoreUint32", "internal/abi.NoEscape"], unfollowed := true, recurses := true, apart := false, narrowed := true }
def CharrefAllUptoSaid : Prop := charrefAllUptoRow.holds Try.pinned (OpenSpec.upto charrefAllSpec)

/-- 'topiarylaw09.CharrefBack', WHERE WHAT IT READS IS OF BULK AT MOST 1048576: true; the input reads as it did. -/
def charrefBackUptoRow : OpenClaim := { program := "ytfjlpekoklmedaa", sum := "a84e858a169773667af6563fdef6e29fdb93a88c29618c85d613f7c16f6c8183", func := "topiary/topiarylaw09.CharrefBack", spec := "charrefBack", inPlace := ["sync/atomic.LoadUint32", "(*internal/sync.Mutex).Lock", "internal/race.Disable", "sync/atomic.CompareAndSwapInt32", "internal/race.Enable", "internal/race.Acquire", "(*internal/sync.Mutex).lockSlow", "internal/sync.runtime_canSpin", "internal/sync.runtime_doSpin", "internal/sync.throw", "internal/sync.runtime_nanotime", "internal/sync.runtime_SemacquireMutex", "sync/atomic.AddInt32", "(*internal/sync.Mutex).Unlock", "internal/race.ReleaseMerge", "(*internal/sync.Mutex).unlockSlow", "internal/sync.fatal", "internal/sync.runtime_Semrelease", "sync/atomic.StoreUint32", "internal/abi.NoEscape"], unfollowed := true, recurses := true, apart := false, narrowed := true }
def CharrefBackUptoSaid : Prop := charrefBackUptoRow.holds Try.pinned (OpenSpec.upto charrefBackSpec)

/-- 'topiarylaw09.CharrefPlain', WHERE WHAT IT READS IS OF BULK AT MOST 1048576: true; the input reads as it did. -/
def charrefPlainUptoRow : OpenClaim := { program := "ytfjlpekoklmedaa", sum := "a84e858a169773667af6563fdef6e29fdb93a88c29618c85d613f7c16f6c8183", func := "topiary/topiarylaw09.CharrefPlain", spec := "charrefPlain", inPlace := ["sync/atomic.LoadUint32", "(*internal/sync.Mutex).Lock", "internal/race.Disable", "sync/atomic.CompareAndSwapInt32", "internal/race.Enable", "internal/race.Acquire", "(*internal/sync.Mutex).lockSlow", "internal/sync.runtime_canSpin", "internal/sync.runtime_doSpin", "internal/sync.throw", "internal/sync.runtime_nanotime", "internal/sync.runtime_SemacquireMutex", "sync/atomic.AddInt32", "(*internal/sync.Mutex).Unlock", "internal/race.ReleaseMerge", "(*internal/sync.Mutex).unlockSlow", "internal/sync.fatal", "internal/sync.runtime_Semrelease", "sync/atomic.StoreUint32", "internal/abi.NoEscape"], unfollowed := true, recurses := true, apart := false, narrowed := true }
def CharrefPlainUptoSaid : Prop := charrefPlainUptoRow.holds Try.pinned (OpenSpec.upto charrefPlainSpec)

/-- 'topiarylaw09.CharrefParts', WHERE WHAT IT READS IS OF BULK AT MOST 1048576: true; the input reads as it did. -/
def charrefPartsUptoRow : OpenClaim := { program := "ytfjlpekoklmedaa", sum := "a84e858a169773667af6563fdef6e29fdb93a88c29618c85d613f7c16f6c8183", func := "topiary/topiarylaw09.CharrefParts", spec := "charrefParts", inPlace := ["sync/atomic.LoadUint32", "(*internal/sync.Mutex).Lock", "internal/race.Disable", "sync/atomic.CompareAndSwapInt32", "internal/race.Enable", "internal/race.Acquire", "(*internal/sync.Mutex).lockSlow", "internal/sync.runtime_canSpin", "internal/sync.runtime_doSpin", "internal/sync.throw", "internal/sync.runtime_nanotime", "internal/sync.runtime_SemacquireMutex", "sync/atomic.AddInt32", "(*internal/sync.Mutex).Unlock", "internal/race.ReleaseMerge", "(*internal/sync.Mutex).unlockSlow", "internal/sync.fatal", "internal/sync.runtime_Semrelease", "sync/atomic.StoreUint32", "internal/abi.NoEscape"], unfollowed := true, recurses := true, apart := false, narrowed := true }
def CharrefPartsUptoSaid : Prop := charrefPartsUptoRow.holds Try.pinned (OpenSpec.upto charrefPartsSpec)

end Rows
end Go.Proofs.Ytfjlpekoklmedaa
