/-
  NARROWER THAN 'FOR EVERY INPUT', by the rows' own cells (each row's printed sentence says how): WalkOrders: loops · WalkWays: loops · WalkTexts: loops · HashKids: loops · HashAll: loops · HashSame: loops · WalkAll: loops.
  DERIVED. THE GIVEN ROWS OF THIS SEAT. 11 by the template 'for every input the law returns true; each argument reads behind the call as it read before'; 0 by the template 'total and deterministic' (their statements: YtcacgbdnegmfnaaTotals.lean).
  GIVEN WITH THE SEED: the statements are not yours to turn. If you find one false, say at which input.
  Laid BY PROGRAM, IN A SANDBOX (cutbox-rows.mjs): the forced cells as the released guide's own fill.sh prints them over the translation 4e1da6c320d3865d… (all of the seat's roots in one cut). By AI agents, Wed Nov 11 2026. No macro, syntax, notation, axiom, sorry.
-/
import Derived.Test.YtcacgbdnegmfnaaChecked
import GoSem.Claim
import GoSem.ClaimJoined
import GoSem.ClaimMapViews
import Derived.JoinedTies
import Derived.KernelRfl
namespace Go.Proofs.Ytcacgbdnegmfnaa
/- THE CELL 'sum', in the pinned program and in every row, IS THE sha256 OF THE DUMP (.gsa) THAT YtcacgbdnegmfnaaProg.lean LOADS. Nothing in Lean hashes anything: it is a label: what it is worth is what the hold of that sum in a sandbox is worth. -/
noncomputable def Try.pinned : Pinned := { name := "ytcacgbdnegmfnaa", sum := "4e1da6c320d3865d259b22998884705ecbb64ec8f25ae8c8ec74f5d2ae1ea409", checked := Try.checked }
namespace Rows
def none {H : Type} : Left H := { results := [], args := [] }

/-- 'topiarylaw07.WalkOrders': WHATEVER THE INPUT: true; the input reads as it did. -/
def walkOrdersSpec : ChangeSpec := { name := "walkOrders", fn := fun _ => fun
  | [d] => { results := [.lit (.bool true)], args := [d] }
  | _ => none }
def walkOrdersRow : OpenClaim := { program := "ytcacgbdnegmfnaa", sum := "4e1da6c320d3865d259b22998884705ecbb64ec8f25ae8c8ec74f5d2ae1ea409", func := "topiary/topiarylaw07.WalkOrders", spec := "walkOrders", unfollowed := true, recurses := true, loops := true, apart := false }
def WalkOrdersSaid : Prop := walkOrdersRow.holds Try.pinned (OpenSpec.ofChange walkOrdersSpec)

/-- ITS FALSE NEIGHBOUR: 'it returns false'. Refute it at one input. -/
def walkOrdersWrong : ChangeSpec := { name := "walkOrders", fn := fun _ => fun
  | [d] => { results := [.lit (.bool false)], args := [d] }
  | _ => none }
def WalkOrdersWrongFalsely : Prop := walkOrdersRow.holds Try.pinned (OpenSpec.ofChange walkOrdersWrong)

/-- 'topiarylaw07.WalkSubs': WHATEVER THE INPUT: true; the input reads as it did. -/
def walkSubsSpec : ChangeSpec := { name := "walkSubs", fn := fun _ => fun
  | [d1, d2, d3] => { results := [.lit (.bool true)], args := [d1, d2, d3] }
  | _ => none }
def walkSubsRow : OpenClaim := { program := "ytcacgbdnegmfnaa", sum := "4e1da6c320d3865d259b22998884705ecbb64ec8f25ae8c8ec74f5d2ae1ea409", func := "topiary/topiarylaw07.WalkSubs", spec := "walkSubs", unfollowed := true, recurses := true, apart := false }
def WalkSubsSaid : Prop := walkSubsRow.holds Try.pinned (OpenSpec.ofChange walkSubsSpec)

/-- ITS FALSE NEIGHBOUR: 'it returns false'. Refute it at one input. -/
def walkSubsWrong : ChangeSpec := { name := "walkSubs", fn := fun _ => fun
  | [d1, d2, d3] => { results := [.lit (.bool false)], args := [d1, d2, d3] }
  | _ => none }
def WalkSubsWrongFalsely : Prop := walkSubsRow.holds Try.pinned (OpenSpec.ofChange walkSubsWrong)

/-- 'topiarylaw07.WalkDeep': WHATEVER THE INPUT: true; the input reads as it did. -/
def walkDeepSpec : ChangeSpec := { name := "walkDeep", fn := fun _ => fun
  | [d1, d2] => { results := [.lit (.bool true)], args := [d1, d2] }
  | _ => none }
def walkDeepRow : OpenClaim := { program := "ytcacgbdnegmfnaa", sum := "4e1da6c320d3865d259b22998884705ecbb64ec8f25ae8c8ec74f5d2ae1ea409", func := "topiary/topiarylaw07.WalkDeep", spec := "walkDeep", unfollowed := true, recurses := true, apart := false }
def WalkDeepSaid : Prop := walkDeepRow.holds Try.pinned (OpenSpec.ofChange walkDeepSpec)

/-- ITS FALSE NEIGHBOUR: 'it returns false'. Refute it at one input. -/
def walkDeepWrong : ChangeSpec := { name := "walkDeep", fn := fun _ => fun
  | [d1, d2] => { results := [.lit (.bool false)], args := [d1, d2] }
  | _ => none }
def WalkDeepWrongFalsely : Prop := walkDeepRow.holds Try.pinned (OpenSpec.ofChange walkDeepWrong)

/-- 'topiarylaw07.WalkWays': WHATEVER THE INPUT: true; the input reads as it did. -/
def walkWaysSpec : ChangeSpec := { name := "walkWays", fn := fun _ => fun
  | [d1, d2] => { results := [.lit (.bool true)], args := [d1, d2] }
  | _ => none }
def walkWaysRow : OpenClaim := { program := "ytcacgbdnegmfnaa", sum := "4e1da6c320d3865d259b22998884705ecbb64ec8f25ae8c8ec74f5d2ae1ea409", func := "topiary/topiarylaw07.WalkWays", spec := "walkWays", unfollowed := true, recurses := true, loops := true, apart := false }
def WalkWaysSaid : Prop := walkWaysRow.holds Try.pinned (OpenSpec.ofChange walkWaysSpec)

/-- ITS FALSE NEIGHBOUR: 'it returns false'. Refute it at one input. -/
def walkWaysWrong : ChangeSpec := { name := "walkWays", fn := fun _ => fun
  | [d1, d2] => { results := [.lit (.bool false)], args := [d1, d2] }
  | _ => none }
def WalkWaysWrongFalsely : Prop := walkWaysRow.holds Try.pinned (OpenSpec.ofChange walkWaysWrong)

/-- 'topiarylaw07.WalkTexts': WHATEVER THE INPUT: true; the input reads as it did. -/
def walkTextsSpec : ChangeSpec := { name := "walkTexts", fn := fun _ => fun
  | [d] => { results := [.lit (.bool true)], args := [d] }
  | _ => none }
def walkTextsRow : OpenClaim := { program := "ytcacgbdnegmfnaa", sum := "4e1da6c320d3865d259b22998884705ecbb64ec8f25ae8c8ec74f5d2ae1ea409", func := "topiary/topiarylaw07.WalkTexts", spec := "walkTexts", inPlace := ["internal/abi.NoEscape"], unfollowed := true, recurses := true, loops := true, apart := false }
def WalkTextsSaid : Prop := walkTextsRow.holds Try.pinned (OpenSpec.ofChange walkTextsSpec)

/-- ITS FALSE NEIGHBOUR: 'it returns false'. Refute it at one input. -/
def walkTextsWrong : ChangeSpec := { name := "walkTexts", fn := fun _ => fun
  | [d] => { results := [.lit (.bool false)], args := [d] }
  | _ => none }
def WalkTextsWrongFalsely : Prop := walkTextsRow.holds Try.pinned (OpenSpec.ofChange walkTextsWrong)

/-- 'topiarylaw18.HashKids': WHATEVER THE INPUT: true; the input reads as it did. -/
def hashKidsSpec : ChangeSpec := { name := "hashKids", fn := fun _ => fun
  | [d] => { results := [.lit (.bool true)], args := [d] }
  | _ => none }
def hashKidsRow : OpenClaim := { program := "ytcacgbdnegmfnaa", sum := "4e1da6c320d3865d259b22998884705ecbb64ec8f25ae8c8ec74f5d2ae1ea409", func := "topiary/topiarylaw18.HashKids", spec := "hashKids", unfollowed := true, recurses := true, loops := true, apart := false }
def HashKidsSaid : Prop := hashKidsRow.holds Try.pinned (OpenSpec.ofChange hashKidsSpec)

/-- ITS FALSE NEIGHBOUR: 'it returns false'. Refute it at one input. -/
def hashKidsWrong : ChangeSpec := { name := "hashKids", fn := fun _ => fun
  | [d] => { results := [.lit (.bool false)], args := [d] }
  | _ => none }
def HashKidsWrongFalsely : Prop := hashKidsRow.holds Try.pinned (OpenSpec.ofChange hashKidsWrong)

/-- 'topiarylaw18.HashUnlike': WHATEVER THE INPUT: true; the input reads as it did. -/
def hashUnlikeSpec : ChangeSpec := { name := "hashUnlike", fn := fun _ => fun
  | [] => { results := [.lit (.bool true)], args := [] }
  | _ => none }
def hashUnlikeRow : OpenClaim := { program := "ytcacgbdnegmfnaa", sum := "4e1da6c320d3865d259b22998884705ecbb64ec8f25ae8c8ec74f5d2ae1ea409", func := "topiary/topiarylaw18.HashUnlike", spec := "hashUnlike", unfollowed := true, recurses := true, apart := false }
def HashUnlikeSaid : Prop := hashUnlikeRow.holds Try.pinned (OpenSpec.ofChange hashUnlikeSpec)

/-- ITS FALSE NEIGHBOUR: 'it returns false'. Refute it at one input. -/
def hashUnlikeWrong : ChangeSpec := { name := "hashUnlike", fn := fun _ => fun
  | [] => { results := [.lit (.bool false)], args := [] }
  | _ => none }
def HashUnlikeWrongFalsely : Prop := hashUnlikeRow.holds Try.pinned (OpenSpec.ofChange hashUnlikeWrong)

/-- 'topiarylaw18.HashAll': WHATEVER THE INPUT: true; the input reads as it did. -/
def hashAllSpec : ChangeSpec := { name := "hashAll", fn := fun _ => fun
  | [d1, d2] => { results := [.lit (.bool true)], args := [d1, d2] }
  | _ => none }
def hashAllRow : OpenClaim := { program := "ytcacgbdnegmfnaa", sum := "4e1da6c320d3865d259b22998884705ecbb64ec8f25ae8c8ec74f5d2ae1ea409", func := "topiary/topiarylaw18.HashAll", spec := "hashAll", unfollowed := true, recurses := true, loops := true, apart := false }
def HashAllSaid : Prop := hashAllRow.holds Try.pinned (OpenSpec.ofChange hashAllSpec)

/-- ITS FALSE NEIGHBOUR: 'it returns false'. Refute it at one input. -/
def hashAllWrong : ChangeSpec := { name := "hashAll", fn := fun _ => fun
  | [d1, d2] => { results := [.lit (.bool false)], args := [d1, d2] }
  | _ => none }
def HashAllWrongFalsely : Prop := hashAllRow.holds Try.pinned (OpenSpec.ofChange hashAllWrong)

/-- 'topiarylaw18.HashSame': WHATEVER THE INPUT: true; the input reads as it did. -/
def hashSameSpec : ChangeSpec := { name := "hashSame", fn := fun _ => fun
  | [d1, d2] => { results := [.lit (.bool true)], args := [d1, d2] }
  | _ => none }
def hashSameRow : OpenClaim := { program := "ytcacgbdnegmfnaa", sum := "4e1da6c320d3865d259b22998884705ecbb64ec8f25ae8c8ec74f5d2ae1ea409", func := "topiary/topiarylaw18.HashSame", spec := "hashSame", unfollowed := true, recurses := true, loops := true, apart := false }
def HashSameSaid : Prop := hashSameRow.holds Try.pinned (OpenSpec.ofChange hashSameSpec)

/-- ITS FALSE NEIGHBOUR: 'it returns false'. Refute it at one input. -/
def hashSameWrong : ChangeSpec := { name := "hashSame", fn := fun _ => fun
  | [d1, d2] => { results := [.lit (.bool false)], args := [d1, d2] }
  | _ => none }
def HashSameWrongFalsely : Prop := hashSameRow.holds Try.pinned (OpenSpec.ofChange hashSameWrong)

/-- 'topiarylaw18.HashKeys': WHATEVER THE INPUT: true; the input reads as it did. -/
def hashKeysSpec : ChangeSpec := { name := "hashKeys", fn := fun _ => fun
  | [d1, d2] => { results := [.lit (.bool true)], args := [d1, d2] }
  | _ => none }
def hashKeysRow : OpenClaim := { program := "ytcacgbdnegmfnaa", sum := "4e1da6c320d3865d259b22998884705ecbb64ec8f25ae8c8ec74f5d2ae1ea409", func := "topiary/topiarylaw18.HashKeys", spec := "hashKeys", unfollowed := true, recurses := true, apart := false }
def HashKeysSaid : Prop := hashKeysRow.holds Try.pinned (OpenSpec.ofChange hashKeysSpec)

/-- ITS FALSE NEIGHBOUR: 'it returns false'. Refute it at one input. -/
def hashKeysWrong : ChangeSpec := { name := "hashKeys", fn := fun _ => fun
  | [d1, d2] => { results := [.lit (.bool false)], args := [d1, d2] }
  | _ => none }
def HashKeysWrongFalsely : Prop := hashKeysRow.holds Try.pinned (OpenSpec.ofChange hashKeysWrong)

/-- 'topiarylaw07.WalkAll': WHATEVER THE INPUT: true; the input reads as it did. -/
def walkAllSpec : ChangeSpec := { name := "walkAll", fn := fun _ => fun
  | [d1, d2, d3] => { results := [.lit (.bool true)], args := [d1, d2, d3] }
  | _ => none }
def walkAllRow : OpenClaim := { program := "ytcacgbdnegmfnaa", sum := "4e1da6c320d3865d259b22998884705ecbb64ec8f25ae8c8ec74f5d2ae1ea409", func := "topiary/topiarylaw07.WalkAll", spec := "walkAll", inPlace := ["internal/abi.NoEscape"], unfollowed := true, recurses := true, loops := true, apart := false }
def WalkAllSaid : Prop := walkAllRow.holds Try.pinned (OpenSpec.ofChange walkAllSpec)

/-- ITS FALSE NEIGHBOUR: 'it returns false'. Refute it at one input. -/
def walkAllWrong : ChangeSpec := { name := "walkAll", fn := fun _ => fun
  | [d1, d2, d3] => { results := [.lit (.bool false)], args := [d1, d2, d3] }
  | _ => none }
def WalkAllWrongFalsely : Prop := walkAllRow.holds Try.pinned (OpenSpec.ofChange walkAllWrong)

/- THE SECOND FORM. 'bulk': how many values and letters a reading holds, each counted each time it is reached (what is shared counts as often as it is met; a slice's spare places count too). A statement '..UptoSaid' is the law's where the arguments, and the package variables that the reading takes, are together of bulk at most 1048576: NARROWER than '..Said'. Prove '..Said' where nothing that the law and all that it calls make is longer than what came in: it says more and counts as full. Else prove '..UptoSaid'. A law counts once. -/
mutual
def uptoBulk {H : Type} : DataW H → Nat
  | .lit (.string bytes) => bytes.length + 1
  | .lit _ => 1
  | .nil => 1
  | .ptr d => uptoBulk d + 1
  | .slice elems spare => uptoBulkAll elems + uptoBulkAll spare + 1
  | .agg parts => uptoBulkAll parts + 1
  | .iface _ d => uptoBulk d + 1
  | .map entries => uptoBulkEntries entries + 1
  | .held _ => 1
def uptoBulkAll {H : Type} : List (DataW H) → Nat
  | [] => 0
  | d :: r => uptoBulk d + uptoBulkAll r
def uptoBulkEntries {H : Type} : List (Lit × DataW H) → Nat
  | [] => 0
  | x :: r => uptoBulkEntry x + uptoBulkEntries r
def uptoBulkEntry {H : Type} : Lit × DataW H → Nat
  | (.string bytes, d) => bytes.length + uptoBulk d + 1
  | (_, d) => uptoBulk d + 1
 end
def uptoSmall : (H : Type) → List (DataW H) → Bool := fun _ ds => decide (uptoBulkAll ds ≤ 1048576)
def OpenSpec.upto (s : _root_.Go.ChangeSpec) : _root_.Go.OpenSpec := { _root_.Go.OpenSpec.ofChange s with cond := some uptoSmall }

/-- 'topiarylaw07.WalkOrders', WHERE WHAT IT READS IS OF BULK AT MOST 1048576: true; the input reads as it did. -/
def walkOrdersUptoRow : OpenClaim := { program := "ytcacgbdnegmfnaa", sum := "4e1da6c320d3865d259b22998884705ecbb64ec8f25ae8c8ec74f5d2ae1ea409", func := "topiary/topiarylaw07.WalkOrders", spec := "walkOrders", unfollowed := true, recurses := true, loops := true, apart := false, narrowed := true }
def WalkOrdersUptoSaid : Prop := walkOrdersUptoRow.holds Try.pinned (OpenSpec.upto walkOrdersSpec)

/-- 'topiarylaw07.WalkSubs', WHERE WHAT IT READS IS OF BULK AT MOST 1048576: true; the input reads as it did. -/
def walkSubsUptoRow : OpenClaim := { program := "ytcacgbdnegmfnaa", sum := "4e1da6c320d3865d259b22998884705ecbb64ec8f25ae8c8ec74f5d2ae1ea409", func := "topiary/topiarylaw07.WalkSubs", spec := "walkSubs", unfollowed := true, recurses := true, apart := false, narrowed := true }
def WalkSubsUptoSaid : Prop := walkSubsUptoRow.holds Try.pinned (OpenSpec.upto walkSubsSpec)

/-- 'topiarylaw07.WalkDeep', WHERE WHAT IT READS IS OF BULK AT MOST 1048576: true; the input reads as it did. -/
def walkDeepUptoRow : OpenClaim := { program := "ytcacgbdnegmfnaa", sum := "4e1da6c320d3865d259b22998884705ecbb64ec8f25ae8c8ec74f5d2ae1ea409", func := "topiary/topiarylaw07.WalkDeep", spec := "walkDeep", unfollowed := true, recurses := true, apart := false, narrowed := true }
def WalkDeepUptoSaid : Prop := walkDeepUptoRow.holds Try.pinned (OpenSpec.upto walkDeepSpec)

/-- 'topiarylaw07.WalkWays', WHERE WHAT IT READS IS OF BULK AT MOST 1048576: true; the input reads as it did. -/
def walkWaysUptoRow : OpenClaim := { program := "ytcacgbdnegmfnaa", sum := "4e1da6c320d3865d259b22998884705ecbb64ec8f25ae8c8ec74f5d2ae1ea409", func := "topiary/topiarylaw07.WalkWays", spec := "walkWays", unfollowed := true, recurses := true, loops := true, apart := false, narrowed := true }
def WalkWaysUptoSaid : Prop := walkWaysUptoRow.holds Try.pinned (OpenSpec.upto walkWaysSpec)

/-- 'topiarylaw07.WalkTexts', WHERE WHAT IT READS IS OF BULK AT MOST 1048576: true; the input reads as it did. -/
def walkTextsUptoRow : OpenClaim := { program := "ytcacgbdnegmfnaa", sum := "4e1da6c320d3865d259b22998884705ecbb64ec8f25ae8c8ec74f5d2ae1ea409", func := "topiary/topiarylaw07.WalkTexts", spec := "walkTexts", inPlace := ["internal/abi.NoEscape"], unfollowed := true, recurses := true, loops := true, apart := false, narrowed := true }
def WalkTextsUptoSaid : Prop := walkTextsUptoRow.holds Try.pinned (OpenSpec.upto walkTextsSpec)

/-- 'topiarylaw18.HashKids', WHERE WHAT IT READS IS OF BULK AT MOST 1048576: true; the input reads as it did. -/
def hashKidsUptoRow : OpenClaim := { program := "ytcacgbdnegmfnaa", sum := "4e1da6c320d3865d259b22998884705ecbb64ec8f25ae8c8ec74f5d2ae1ea409", func := "topiary/topiarylaw18.HashKids", spec := "hashKids", unfollowed := true, recurses := true, loops := true, apart := false, narrowed := true }
def HashKidsUptoSaid : Prop := hashKidsUptoRow.holds Try.pinned (OpenSpec.upto hashKidsSpec)

/-- 'topiarylaw18.HashUnlike', WHERE WHAT IT READS IS OF BULK AT MOST 1048576: true; the input reads as it did. -/
def hashUnlikeUptoRow : OpenClaim := { program := "ytcacgbdnegmfnaa", sum := "4e1da6c320d3865d259b22998884705ecbb64ec8f25ae8c8ec74f5d2ae1ea409", func := "topiary/topiarylaw18.HashUnlike", spec := "hashUnlike", unfollowed := true, recurses := true, apart := false, narrowed := true }
def HashUnlikeUptoSaid : Prop := hashUnlikeUptoRow.holds Try.pinned (OpenSpec.upto hashUnlikeSpec)

/-- 'topiarylaw18.HashAll', WHERE WHAT IT READS IS OF BULK AT MOST 1048576: true; the input reads as it did. -/
def hashAllUptoRow : OpenClaim := { program := "ytcacgbdnegmfnaa", sum := "4e1da6c320d3865d259b22998884705ecbb64ec8f25ae8c8ec74f5d2ae1ea409", func := "topiary/topiarylaw18.HashAll", spec := "hashAll", unfollowed := true, recurses := true, loops := true, apart := false, narrowed := true }
def HashAllUptoSaid : Prop := hashAllUptoRow.holds Try.pinned (OpenSpec.upto hashAllSpec)

/-- 'topiarylaw18.HashSame', WHERE WHAT IT READS IS OF BULK AT MOST 1048576: true; the input reads as it did. -/
def hashSameUptoRow : OpenClaim := { program := "ytcacgbdnegmfnaa", sum := "4e1da6c320d3865d259b22998884705ecbb64ec8f25ae8c8ec74f5d2ae1ea409", func := "topiary/topiarylaw18.HashSame", spec := "hashSame", unfollowed := true, recurses := true, loops := true, apart := false, narrowed := true }
def HashSameUptoSaid : Prop := hashSameUptoRow.holds Try.pinned (OpenSpec.upto hashSameSpec)

/-- 'topiarylaw18.HashKeys', WHERE WHAT IT READS IS OF BULK AT MOST 1048576: true; the input reads as it did. -/
def hashKeysUptoRow : OpenClaim := { program := "ytcacgbdnegmfnaa", sum := "4e1da6c320d3865d259b22998884705ecbb64ec8f25ae8c8ec74f5d2ae1ea409", func := "topiary/topiarylaw18.HashKeys", spec := "hashKeys", unfollowed := true, recurses := true, apart := false, narrowed := true }
def HashKeysUptoSaid : Prop := hashKeysUptoRow.holds Try.pinned (OpenSpec.upto hashKeysSpec)

/-- 'topiarylaw07.WalkAll', WHERE WHAT IT READS IS OF BULK AT MOST 1048576: true; the input reads as it did. -/
def walkAllUptoRow : OpenClaim := { program := "ytcacgbdnegmfnaa", sum := "4e1da6c320d3865d259b22998884705ecbb64ec8f25ae8c8ec74f5d2ae1ea409", func := "topiary/topiarylaw07.WalkAll", spec := "walkAll", inPlace := ["internal/abi.NoEscape"], unfollowed := true, recurses := true, loops := true, apart := false, narrowed := true }
def WalkAllUptoSaid : Prop := walkAllUptoRow.holds Try.pinned (OpenSpec.upto walkAllSpec)

end Rows
end Go.Proofs.Ytcacgbdnegmfnaa
