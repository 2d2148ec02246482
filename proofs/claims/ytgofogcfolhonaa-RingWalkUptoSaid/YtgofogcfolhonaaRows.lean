/-
  No cell of these rows narrows 'for every input' (looked for: loops, veiled, ifaces, maps, wideKeys, modest, calm, conditions, laid).
  DERIVED. THE GIVEN ROWS OF THIS SEAT. 11 by the template 'for every input the law returns true; each argument reads behind the call as it read before'; 0 by the template 'total and deterministic' (their statements: YtgofogcfolhonaaTotals.lean).
  GIVEN WITH THE SEED: the statements are not yours to turn. If you find one false, say at which input.
  Laid BY PROGRAM, IN A SANDBOX (cutbox-rows.mjs): the forced cells as the released guide's own fill.sh prints them over the translation eb7a8c30bf9f27a3… (all of the seat's roots in one cut). By AI agents, Wed Nov 11 2026. No macro, syntax, notation, axiom, sorry.
-/
import Derived.Test.YtgofogcfolhonaaChecked
import GoSem.Claim
import GoSem.ClaimJoined
import GoSem.ClaimMapViews
import Derived.JoinedTies
import Derived.KernelRfl
namespace Go.Proofs.Ytgofogcfolhonaa
/- THE CELL 'sum', in the pinned program and in every row, IS THE sha256 OF THE DUMP (.gsa) THAT YtgofogcfolhonaaProg.lean LOADS. Nothing in Lean hashes anything: it is a label: what it is worth is what the hold of that sum in a sandbox is worth. -/
noncomputable def Try.pinned : Pinned := { name := "ytgofogcfolhonaa", sum := "eb7a8c30bf9f27a34be81eb8e71b0c0d964d16b5e3cf8e94a5a1b84b4cb89f37", checked := Try.checked }
namespace Rows
def none {H : Type} : Left H := { results := [], args := [] }

/-- 'turnpikelaw02.RingPairs': WHATEVER THE INPUT: true; the input reads as it did. -/
def ringPairsSpec : ChangeSpec := { name := "ringPairs", fn := fun _ => fun
  | [d1, d2, d3] => { results := [.lit (.bool true)], args := [d1, d2, d3] }
  | _ => none }
def ringPairsRow : OpenClaim := { program := "ytgofogcfolhonaa", sum := "eb7a8c30bf9f27a34be81eb8e71b0c0d964d16b5e3cf8e94a5a1b84b4cb89f37", func := "turnpike/turnpikelaw02.RingPairs", spec := "ringPairs", apart := false }
def RingPairsSaid : Prop := ringPairsRow.holds Try.pinned (OpenSpec.ofChange ringPairsSpec)

/-- ITS FALSE NEIGHBOUR: 'it returns false'. Refute it at one input. -/
def ringPairsWrong : ChangeSpec := { name := "ringPairs", fn := fun _ => fun
  | [d1, d2, d3] => { results := [.lit (.bool false)], args := [d1, d2, d3] }
  | _ => none }
def RingPairsWrongFalsely : Prop := ringPairsRow.holds Try.pinned (OpenSpec.ofChange ringPairsWrong)

/-- 'turnpikelaw02.RingQueues': WHATEVER THE INPUT: true; the input reads as it did. -/
def ringQueuesSpec : ChangeSpec := { name := "ringQueues", fn := fun _ => fun
  | [d1, d2] => { results := [.lit (.bool true)], args := [d1, d2] }
  | _ => none }
def ringQueuesRow : OpenClaim := { program := "ytgofogcfolhonaa", sum := "eb7a8c30bf9f27a34be81eb8e71b0c0d964d16b5e3cf8e94a5a1b84b4cb89f37", func := "turnpike/turnpikelaw02.RingQueues", spec := "ringQueues", unfollowed := true, recurses := true, apart := false }
def RingQueuesSaid : Prop := ringQueuesRow.holds Try.pinned (OpenSpec.ofChange ringQueuesSpec)

/-- ITS FALSE NEIGHBOUR: 'it returns false'. Refute it at one input. -/
def ringQueuesWrong : ChangeSpec := { name := "ringQueues", fn := fun _ => fun
  | [d1, d2] => { results := [.lit (.bool false)], args := [d1, d2] }
  | _ => none }
def RingQueuesWrongFalsely : Prop := ringQueuesRow.holds Try.pinned (OpenSpec.ofChange ringQueuesWrong)

/-- 'turnpikelaw02.RingWalk': WHATEVER THE INPUT: true; the input reads as it did. -/
def ringWalkSpec : ChangeSpec := { name := "ringWalk", fn := fun _ => fun
  | [d1, d2, d3] => { results := [.lit (.bool true)], args := [d1, d2, d3] }
  | _ => none }
def ringWalkRow : OpenClaim := { program := "ytgofogcfolhonaa", sum := "eb7a8c30bf9f27a34be81eb8e71b0c0d964d16b5e3cf8e94a5a1b84b4cb89f37", func := "turnpike/turnpikelaw02.RingWalk", spec := "ringWalk", unfollowed := true, recurses := true, apart := false }
def RingWalkSaid : Prop := ringWalkRow.holds Try.pinned (OpenSpec.ofChange ringWalkSpec)

/-- ITS FALSE NEIGHBOUR: 'it returns false'. Refute it at one input. -/
def ringWalkWrong : ChangeSpec := { name := "ringWalk", fn := fun _ => fun
  | [d1, d2, d3] => { results := [.lit (.bool false)], args := [d1, d2, d3] }
  | _ => none }
def RingWalkWrongFalsely : Prop := ringWalkRow.holds Try.pinned (OpenSpec.ofChange ringWalkWrong)

/-- 'turnpikelaw02.RingArgument': WHATEVER THE INPUT: true; the input reads as it did. -/
def ringArgumentSpec : ChangeSpec := { name := "ringArgument", fn := fun _ => fun
  | [d1, d2] => { results := [.lit (.bool true)], args := [d1, d2] }
  | _ => none }
def ringArgumentRow : OpenClaim := { program := "ytgofogcfolhonaa", sum := "eb7a8c30bf9f27a34be81eb8e71b0c0d964d16b5e3cf8e94a5a1b84b4cb89f37", func := "turnpike/turnpikelaw02.RingArgument", spec := "ringArgument", apart := false }
def RingArgumentSaid : Prop := ringArgumentRow.holds Try.pinned (OpenSpec.ofChange ringArgumentSpec)

/-- ITS FALSE NEIGHBOUR: 'it returns false'. Refute it at one input. -/
def ringArgumentWrong : ChangeSpec := { name := "ringArgument", fn := fun _ => fun
  | [d1, d2] => { results := [.lit (.bool false)], args := [d1, d2] }
  | _ => none }
def RingArgumentWrongFalsely : Prop := ringArgumentRow.holds Try.pinned (OpenSpec.ofChange ringArgumentWrong)

/-- 'turnpikelaw02.RingPieces': WHATEVER THE INPUT: true; the input reads as it did. -/
def ringPiecesSpec : ChangeSpec := { name := "ringPieces", fn := fun _ => fun
  | [d1, d2] => { results := [.lit (.bool true)], args := [d1, d2] }
  | _ => none }
def ringPiecesRow : OpenClaim := { program := "ytgofogcfolhonaa", sum := "eb7a8c30bf9f27a34be81eb8e71b0c0d964d16b5e3cf8e94a5a1b84b4cb89f37", func := "turnpike/turnpikelaw02.RingPieces", spec := "ringPieces", apart := false }
def RingPiecesSaid : Prop := ringPiecesRow.holds Try.pinned (OpenSpec.ofChange ringPiecesSpec)

/-- ITS FALSE NEIGHBOUR: 'it returns false'. Refute it at one input. -/
def ringPiecesWrong : ChangeSpec := { name := "ringPieces", fn := fun _ => fun
  | [d1, d2] => { results := [.lit (.bool false)], args := [d1, d2] }
  | _ => none }
def RingPiecesWrongFalsely : Prop := ringPiecesRow.holds Try.pinned (OpenSpec.ofChange ringPiecesWrong)

/-- 'turnpikelaw02.RingStream': WHATEVER THE INPUT: true; the input reads as it did. -/
def ringStreamSpec : ChangeSpec := { name := "ringStream", fn := fun _ => fun
  | [d1, d2, d3] => { results := [.lit (.bool true)], args := [d1, d2, d3] }
  | _ => none }
def ringStreamRow : OpenClaim := { program := "ytgofogcfolhonaa", sum := "eb7a8c30bf9f27a34be81eb8e71b0c0d964d16b5e3cf8e94a5a1b84b4cb89f37", func := "turnpike/turnpikelaw02.RingStream", spec := "ringStream", apart := false }
def RingStreamSaid : Prop := ringStreamRow.holds Try.pinned (OpenSpec.ofChange ringStreamSpec)

/-- ITS FALSE NEIGHBOUR: 'it returns false'. Refute it at one input. -/
def ringStreamWrong : ChangeSpec := { name := "ringStream", fn := fun _ => fun
  | [d1, d2, d3] => { results := [.lit (.bool false)], args := [d1, d2, d3] }
  | _ => none }
def RingStreamWrongFalsely : Prop := ringStreamRow.holds Try.pinned (OpenSpec.ofChange ringStreamWrong)

/-- 'turnpikelaw02.RingMemory': WHATEVER THE INPUT: true; the input reads as it did. -/
def ringMemorySpec : ChangeSpec := { name := "ringMemory", fn := fun _ => fun
  | [d1, d2] => { results := [.lit (.bool true)], args := [d1, d2] }
  | _ => none }
def ringMemoryRow : OpenClaim := { program := "ytgofogcfolhonaa", sum := "eb7a8c30bf9f27a34be81eb8e71b0c0d964d16b5e3cf8e94a5a1b84b4cb89f37", func := "turnpike/turnpikelaw02.RingMemory", spec := "ringMemory", apart := false }
def RingMemorySaid : Prop := ringMemoryRow.holds Try.pinned (OpenSpec.ofChange ringMemorySpec)

/-- ITS FALSE NEIGHBOUR: 'it returns false'. Refute it at one input. -/
def ringMemoryWrong : ChangeSpec := { name := "ringMemory", fn := fun _ => fun
  | [d1, d2] => { results := [.lit (.bool false)], args := [d1, d2] }
  | _ => none }
def RingMemoryWrongFalsely : Prop := ringMemoryRow.holds Try.pinned (OpenSpec.ofChange ringMemoryWrong)

/-- 'turnpikelaw02.RingRound': WHATEVER THE INPUT: true; the input reads as it did. -/
def ringRoundSpec : ChangeSpec := { name := "ringRound", fn := fun _ => fun
  | [d1, d2] => { results := [.lit (.bool true)], args := [d1, d2] }
  | _ => none }
def ringRoundRow : OpenClaim := { program := "ytgofogcfolhonaa", sum := "eb7a8c30bf9f27a34be81eb8e71b0c0d964d16b5e3cf8e94a5a1b84b4cb89f37", func := "turnpike/turnpikelaw02.RingRound", spec := "ringRound", apart := false }
def RingRoundSaid : Prop := ringRoundRow.holds Try.pinned (OpenSpec.ofChange ringRoundSpec)

/-- ITS FALSE NEIGHBOUR: 'it returns false'. Refute it at one input. -/
def ringRoundWrong : ChangeSpec := { name := "ringRound", fn := fun _ => fun
  | [d1, d2] => { results := [.lit (.bool false)], args := [d1, d2] }
  | _ => none }
def RingRoundWrongFalsely : Prop := ringRoundRow.holds Try.pinned (OpenSpec.ofChange ringRoundWrong)

/-- 'turnpikelaw02.RingFound': WHATEVER THE INPUT: true; the input reads as it did. -/
def ringFoundSpec : ChangeSpec := { name := "ringFound", fn := fun _ => fun
  | [d1, d2] => { results := [.lit (.bool true)], args := [d1, d2] }
  | _ => none }
def ringFoundRow : OpenClaim := { program := "ytgofogcfolhonaa", sum := "eb7a8c30bf9f27a34be81eb8e71b0c0d964d16b5e3cf8e94a5a1b84b4cb89f37", func := "turnpike/turnpikelaw02.RingFound", spec := "ringFound", inPlace := ["internal/bytealg.IndexByte", "internal/bytealg.Index"], named := ["internal/bytealg.MaxLen"], apart := false }
def RingFoundSaid : Prop := ringFoundRow.holds Try.pinned (OpenSpec.ofChange ringFoundSpec)

/-- ITS FALSE NEIGHBOUR: 'it returns false'. Refute it at one input. -/
def ringFoundWrong : ChangeSpec := { name := "ringFound", fn := fun _ => fun
  | [d1, d2] => { results := [.lit (.bool false)], args := [d1, d2] }
  | _ => none }
def RingFoundWrongFalsely : Prop := ringFoundRow.holds Try.pinned (OpenSpec.ofChange ringFoundWrong)

/-- 'turnpikelaw02.RingExact': WHATEVER THE INPUT: true; the input reads as it did. -/
def ringExactSpec : ChangeSpec := { name := "ringExact", fn := fun _ => fun
  | [d1, d2] => { results := [.lit (.bool true)], args := [d1, d2] }
  | _ => none }
def ringExactRow : OpenClaim := { program := "ytgofogcfolhonaa", sum := "eb7a8c30bf9f27a34be81eb8e71b0c0d964d16b5e3cf8e94a5a1b84b4cb89f37", func := "turnpike/turnpikelaw02.RingExact", spec := "ringExact", inPlace := ["internal/bytealg.IndexByte", "internal/bytealg.Index"], named := ["internal/bytealg.MaxLen"], apart := false }
def RingExactSaid : Prop := ringExactRow.holds Try.pinned (OpenSpec.ofChange ringExactSpec)

/-- ITS FALSE NEIGHBOUR: 'it returns false'. Refute it at one input. -/
def ringExactWrong : ChangeSpec := { name := "ringExact", fn := fun _ => fun
  | [d1, d2] => { results := [.lit (.bool false)], args := [d1, d2] }
  | _ => none }
def RingExactWrongFalsely : Prop := ringExactRow.holds Try.pinned (OpenSpec.ofChange ringExactWrong)

/-- 'turnpikelaw02.RingTwo': WHATEVER THE INPUT: true; the input reads as it did. -/
def ringTwoSpec : ChangeSpec := { name := "ringTwo", fn := fun _ => fun
  | [d1, d2, d3] => { results := [.lit (.bool true)], args := [d1, d2, d3] }
  | _ => none }
def ringTwoRow : OpenClaim := { program := "ytgofogcfolhonaa", sum := "eb7a8c30bf9f27a34be81eb8e71b0c0d964d16b5e3cf8e94a5a1b84b4cb89f37", func := "turnpike/turnpikelaw02.RingTwo", spec := "ringTwo", inPlace := ["internal/bytealg.IndexByte", "internal/bytealg.Index"], named := ["internal/bytealg.MaxLen"], apart := false }
def RingTwoSaid : Prop := ringTwoRow.holds Try.pinned (OpenSpec.ofChange ringTwoSpec)

/-- ITS FALSE NEIGHBOUR: 'it returns false'. Refute it at one input. -/
def ringTwoWrong : ChangeSpec := { name := "ringTwo", fn := fun _ => fun
  | [d1, d2, d3] => { results := [.lit (.bool false)], args := [d1, d2, d3] }
  | _ => none }
def RingTwoWrongFalsely : Prop := ringTwoRow.holds Try.pinned (OpenSpec.ofChange ringTwoWrong)

/- THE SECOND FORM. 'bulk': how many values and letters a reading holds, each counted each time it is reached (what is shared counts as often as it is met; a slice's spare places count too). A statement '..UptoSaid' is the law's where the arguments, and the package variables that the reading takes, are together of bulk at most 1048576: NARROWER than '..Said'. Prove '..Said' where nothing that the law and all that it calls make is longer than what came in: it says more and counts as full. Else prove '..UptoSaid'. A law counts once. -/
mutual
def uptoBulk {H : Type} : DataW H → Nat
  | .lit (.string bytes) => bytes.length + 1
  | .lit _ => 1
  | .nil => 1
  | .ptr d => uptoBulk d + 1
  | .slice elems spare => uptoBulkAll elems + uptoBulkAll spare + 1
  | .agg parts => uptoBulkAll parts + 1
  | .iface _ d => uptoBulk d + 1
  | .map entries => uptoBulkEntries entries + 1
  | .held _ => 1
def uptoBulkAll {H : Type} : List (DataW H) → Nat
  | [] => 0
  | d :: r => uptoBulk d + uptoBulkAll r
def uptoBulkEntries {H : Type} : List (Lit × DataW H) → Nat
  | [] => 0
  | x :: r => uptoBulkEntry x + uptoBulkEntries r
def uptoBulkEntry {H : Type} : Lit × DataW H → Nat
  | (.string bytes, d) => bytes.length + uptoBulk d + 1
  | (_, d) => uptoBulk d + 1
 end
def uptoSmall : (H : Type) → List (DataW H) → Bool := fun _ ds => decide (uptoBulkAll ds ≤ 1048576)
def OpenSpec.upto (s : _root_.Go.ChangeSpec) : _root_.Go.OpenSpec := { _root_.Go.OpenSpec.ofChange s with cond := some uptoSmall }

/-- 'turnpikelaw02.RingPairs', WHERE WHAT IT READS IS OF BULK AT MOST 1048576: true; the input reads as it did. -/
def ringPairsUptoRow : OpenClaim := { program := "ytgofogcfolhonaa", sum := "eb7a8c30bf9f27a34be81eb8e71b0c0d964d16b5e3cf8e94a5a1b84b4cb89f37", func := "turnpike/turnpikelaw02.RingPairs", spec := "ringPairs", apart := false, narrowed := true }
def RingPairsUptoSaid : Prop := ringPairsUptoRow.holds Try.pinned (OpenSpec.upto ringPairsSpec)

/-- 'turnpikelaw02.RingQueues', WHERE WHAT IT READS IS OF BULK AT MOST 1048576: true; the input reads as it did. -/
def ringQueuesUptoRow : OpenClaim := { program := "ytgofogcfolhonaa", sum := "eb7a8c30bf9f27a34be81eb8e71b0c0d964d16b5e3cf8e94a5a1b84b4cb89f37", func := "turnpike/turnpikelaw02.RingQueues", spec := "ringQueues", unfollowed := true, recurses := true, apart := false, narrowed := true }
def RingQueuesUptoSaid : Prop := ringQueuesUptoRow.holds Try.pinned (OpenSpec.upto ringQueuesSpec)

/-- 'turnpikelaw02.RingWalk', WHERE WHAT IT READS IS OF BULK AT MOST 1048576: true; the input reads as it did. -/
def ringWalkUptoRow : OpenClaim := { program := "ytgofogcfolhonaa", sum := "eb7a8c30bf9f27a34be81eb8e71b0c0d964d16b5e3cf8e94a5a1b84b4cb89f37", func := "turnpike/turnpikelaw02.RingWalk", spec := "ringWalk", unfollowed := true, recurses := true, apart := false, narrowed := true }
def RingWalkUptoSaid : Prop := ringWalkUptoRow.holds Try.pinned (OpenSpec.upto ringWalkSpec)

/-- 'turnpikelaw02.RingArgument', WHERE WHAT IT READS IS OF BULK AT MOST 1048576: true; the input reads as it did. -/
def ringArgumentUptoRow : OpenClaim := { program := "ytgofogcfolhonaa", sum := "eb7a8c30bf9f27a34be81eb8e71b0c0d964d16b5e3cf8e94a5a1b84b4cb89f37", func := "turnpike/turnpikelaw02.RingArgument", spec := "ringArgument", apart := false, narrowed := true }
def RingArgumentUptoSaid : Prop := ringArgumentUptoRow.holds Try.pinned (OpenSpec.upto ringArgumentSpec)

/-- 'turnpikelaw02.RingPieces', WHERE WHAT IT READS IS OF BULK AT MOST 1048576: true; the input reads as it did. -/
def ringPiecesUptoRow : OpenClaim := { program := "ytgofogcfolhonaa", sum := "eb7a8c30bf9f27a34be81eb8e71b0c0d964d16b5e3cf8e94a5a1b84b4cb89f37", func := "turnpike/turnpikelaw02.RingPieces", spec := "ringPieces", apart := false, narrowed := true }
def RingPiecesUptoSaid : Prop := ringPiecesUptoRow.holds Try.pinned (OpenSpec.upto ringPiecesSpec)

/-- 'turnpikelaw02.RingStream', WHERE WHAT IT READS IS OF BULK AT MOST 1048576: true; the input reads as it did. -/
def ringStreamUptoRow : OpenClaim := { program := "ytgofogcfolhonaa", sum := "eb7a8c30bf9f27a34be81eb8e71b0c0d964d16b5e3cf8e94a5a1b84b4cb89f37", func := "turnpike/turnpikelaw02.RingStream", spec := "ringStream", apart := false, narrowed := true }
def RingStreamUptoSaid : Prop := ringStreamUptoRow.holds Try.pinned (OpenSpec.upto ringStreamSpec)

/-- 'turnpikelaw02.RingMemory', WHERE WHAT IT READS IS OF BULK AT MOST 1048576: true; the input reads as it did. -/
def ringMemoryUptoRow : OpenClaim := { program := "ytgofogcfolhonaa", sum := "eb7a8c30bf9f27a34be81eb8e71b0c0d964d16b5e3cf8e94a5a1b84b4cb89f37", func := "turnpike/turnpikelaw02.RingMemory", spec := "ringMemory", apart := false, narrowed := true }
def RingMemoryUptoSaid : Prop := ringMemoryUptoRow.holds Try.pinned (OpenSpec.upto ringMemorySpec)

/-- 'turnpikelaw02.RingRound', WHERE WHAT IT READS IS OF BULK AT MOST 1048576: true; the input reads as it did. -/
def ringRoundUptoRow : OpenClaim := { program := "ytgofogcfolhonaa", sum := "eb7a8c30bf9f27a34be81eb8e71b0c0d964d16b5e3cf8e94a5a1b84b4cb89f37", func := "turnpike/turnpikelaw02.RingRound", spec := "ringRound", apart := false, narrowed := true }
def RingRoundUptoSaid : Prop := ringRoundUptoRow.holds Try.pinned (OpenSpec.upto ringRoundSpec)

/-- 'turnpikelaw02.RingFound', WHERE WHAT IT READS IS OF BULK AT MOST 1048576: true; the input reads as it did. -/
def ringFoundUptoRow : OpenClaim := { program := "ytgofogcfolhonaa", sum := "eb7a8c30bf9f27a34be81eb8e71b0c0d964d16b5e3cf8e94a5a1b84b4cb89f37", func := "turnpike/turnpikelaw02.RingFound", spec := "ringFound", inPlace := ["internal/bytealg.IndexByte", "internal/bytealg.Index"], named := ["internal/bytealg.MaxLen"], apart := false, narrowed := true }
def RingFoundUptoSaid : Prop := ringFoundUptoRow.holds Try.pinned (OpenSpec.upto ringFoundSpec)

/-- 'turnpikelaw02.RingExact', WHERE WHAT IT READS IS OF BULK AT MOST 1048576: true; the input reads as it did. -/
def ringExactUptoRow : OpenClaim := { program := "ytgofogcfolhonaa", sum := "eb7a8c30bf9f27a34be81eb8e71b0c0d964d16b5e3cf8e94a5a1b84b4cb89f37", func := "turnpike/turnpikelaw02.RingExact", spec := "ringExact", inPlace := ["internal/bytealg.IndexByte", "internal/bytealg.Index"], named := ["internal/bytealg.MaxLen"], apart := false, narrowed := true }
def RingExactUptoSaid : Prop := ringExactUptoRow.holds Try.pinned (OpenSpec.upto ringExactSpec)

/-- 'turnpikelaw02.RingTwo', WHERE WHAT IT READS IS OF BULK AT MOST 1048576: true; the input reads as it did. -/
def ringTwoUptoRow : OpenClaim := { program := "ytgofogcfolhonaa", sum := "eb7a8c30bf9f27a34be81eb8e71b0c0d964d16b5e3cf8e94a5a1b84b4cb89f37", func := "turnpike/turnpikelaw02.RingTwo", spec := "ringTwo", inPlace := ["internal/bytealg.IndexByte", "internal/bytealg.Index"], named := ["internal/bytealg.MaxLen"], apart := false, narrowed := true }
def RingTwoUptoSaid : Prop := ringTwoUptoRow.holds Try.pinned (OpenSpec.upto ringTwoSpec)

end Rows
end Go.Proofs.Ytgofogcfolhonaa
