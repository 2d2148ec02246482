/-
  No cell of these rows narrows 'for every input' (looked for: loops, veiled, ifaces, maps, wideKeys, modest, calm, conditions, laid).
  DERIVED. THE GIVEN ROWS OF THIS SEAT. 6 by the template 'for every input the law returns true; each argument reads behind the call as it read before'; 0 by the template 'total and deterministic' (their statements: YtgnjdfnjohgnlaaTotals.lean).
  GIVEN WITH THE SEED: the statements are not yours to turn. If you find one false, say at which input.
  Laid BY PROGRAM, IN A SANDBOX (cutbox-rows.mjs): the forced cells as the released guide's own fill.sh prints them over the translation 053dc8f823b117b8… (all of the seat's roots in one cut). By AI agents, Wed Nov 11 2026. No macro, syntax, notation, axiom, sorry.
-/
import Derived.Test.YtgnjdfnjohgnlaaChecked
import GoSem.Claim
import GoSem.ClaimJoined
import GoSem.ClaimMapViews
import Derived.JoinedTies
import Derived.KernelRfl
namespace Go.Proofs.Ytgnjdfnjohgnlaa
/- THE CELL 'sum', in the pinned program and in every row, IS THE sha256 OF THE DUMP (.gsa) THAT YtgnjdfnjohgnlaaProg.lean LOADS. Nothing in Lean hashes anything: it is a label: what it is worth is what the hold of that sum in a sandbox is worth. -/
noncomputable def Try.pinned : Pinned := { name := "ytgnjdfnjohgnlaa", sum := "053dc8f823b117b84fdb314dda639067691426f1dec85ec82dc3c3541e85b2b7", checked := Try.checked }
namespace Rows
def none {H : Type} : Left H := { results := [], args := [] }

/-- 'turnpikelaw24.WorldMost': WHATEVER THE INPUT: true; the input reads as it did. -/
def worldMostSpec : ChangeSpec := { name := "worldMost", fn := fun _ => fun
  | [d] => { results := [.lit (.bool true)], args := [d] }
  | _ => none }
def worldMostRow : OpenClaim := { program := "ytgnjdfnjohgnlaa", sum := "053dc8f823b117b84fdb314dda639067691426f1dec85ec82dc3c3541e85b2b7", func := "turnpike/turnpikelaw24.WorldMost", spec := "worldMost", unfollowed := true, recurses := true, apart := false }
def WorldMostSaid : Prop := worldMostRow.holds Try.pinned (OpenSpec.ofChange worldMostSpec)

/-- ITS FALSE NEIGHBOUR: 'it returns false'. Refute it at one input. -/
def worldMostWrong : ChangeSpec := { name := "worldMost", fn := fun _ => fun
  | [d] => { results := [.lit (.bool false)], args := [d] }
  | _ => none }
def WorldMostWrongFalsely : Prop := worldMostRow.holds Try.pinned (OpenSpec.ofChange worldMostWrong)

/-- 'turnpikelaw24.WorldApart': WHATEVER THE INPUT: true; the input reads as it did. -/
def worldApartSpec : ChangeSpec := { name := "worldApart", fn := fun _ => fun
  | [d1, d2] => { results := [.lit (.bool true)], args := [d1, d2] }
  | _ => none }
def worldApartRow : OpenClaim := { program := "ytgnjdfnjohgnlaa", sum := "053dc8f823b117b84fdb314dda639067691426f1dec85ec82dc3c3541e85b2b7", func := "turnpike/turnpikelaw24.WorldApart", spec := "worldApart", unfollowed := true, recurses := true, apart := false }
def WorldApartSaid : Prop := worldApartRow.holds Try.pinned (OpenSpec.ofChange worldApartSpec)

/-- ITS FALSE NEIGHBOUR: 'it returns false'. Refute it at one input. -/
def worldApartWrong : ChangeSpec := { name := "worldApart", fn := fun _ => fun
  | [d1, d2] => { results := [.lit (.bool false)], args := [d1, d2] }
  | _ => none }
def WorldApartWrongFalsely : Prop := worldApartRow.holds Try.pinned (OpenSpec.ofChange worldApartWrong)

/-- 'turnpikelaw24.WorldStreams': WHATEVER THE INPUT: true; the input reads as it did. -/
def worldStreamsSpec : ChangeSpec := { name := "worldStreams", fn := fun _ => fun
  | [d1, d2, d3] => { results := [.lit (.bool true)], args := [d1, d2, d3] }
  | _ => none }
def worldStreamsRow : OpenClaim := { program := "ytgnjdfnjohgnlaa", sum := "053dc8f823b117b84fdb314dda639067691426f1dec85ec82dc3c3541e85b2b7", func := "turnpike/turnpikelaw24.WorldStreams", spec := "worldStreams", unfollowed := true, recurses := true, apart := false }
def WorldStreamsSaid : Prop := worldStreamsRow.holds Try.pinned (OpenSpec.ofChange worldStreamsSpec)

/-- ITS FALSE NEIGHBOUR: 'it returns false'. Refute it at one input. -/
def worldStreamsWrong : ChangeSpec := { name := "worldStreams", fn := fun _ => fun
  | [d1, d2, d3] => { results := [.lit (.bool false)], args := [d1, d2, d3] }
  | _ => none }
def WorldStreamsWrongFalsely : Prop := worldStreamsRow.holds Try.pinned (OpenSpec.ofChange worldStreamsWrong)

/-- 'turnpikelaw24.WorldExact': WHATEVER THE INPUT: true; the input reads as it did. -/
def worldExactSpec : ChangeSpec := { name := "worldExact", fn := fun _ => fun
  | [d1, d2] => { results := [.lit (.bool true)], args := [d1, d2] }
  | _ => none }
def worldExactRow : OpenClaim := { program := "ytgnjdfnjohgnlaa", sum := "053dc8f823b117b84fdb314dda639067691426f1dec85ec82dc3c3541e85b2b7", func := "turnpike/turnpikelaw24.WorldExact", spec := "worldExact", unfollowed := true, recurses := true, apart := false }
def WorldExactSaid : Prop := worldExactRow.holds Try.pinned (OpenSpec.ofChange worldExactSpec)

/-- ITS FALSE NEIGHBOUR: 'it returns false'. Refute it at one input. -/
def worldExactWrong : ChangeSpec := { name := "worldExact", fn := fun _ => fun
  | [d1, d2] => { results := [.lit (.bool false)], args := [d1, d2] }
  | _ => none }
def WorldExactWrongFalsely : Prop := worldExactRow.holds Try.pinned (OpenSpec.ofChange worldExactWrong)

/-- 'turnpikelaw24.WorldTwo': WHATEVER THE INPUT: true; the input reads as it did. -/
def worldTwoSpec : ChangeSpec := { name := "worldTwo", fn := fun _ => fun
  | [d] => { results := [.lit (.bool true)], args := [d] }
  | _ => none }
def worldTwoRow : OpenClaim := { program := "ytgnjdfnjohgnlaa", sum := "053dc8f823b117b84fdb314dda639067691426f1dec85ec82dc3c3541e85b2b7", func := "turnpike/turnpikelaw24.WorldTwo", spec := "worldTwo", unfollowed := true, recurses := true, apart := false }
def WorldTwoSaid : Prop := worldTwoRow.holds Try.pinned (OpenSpec.ofChange worldTwoSpec)

/-- ITS FALSE NEIGHBOUR: 'it returns false'. Refute it at one input. -/
def worldTwoWrong : ChangeSpec := { name := "worldTwo", fn := fun _ => fun
  | [d] => { results := [.lit (.bool false)], args := [d] }
  | _ => none }
def WorldTwoWrongFalsely : Prop := worldTwoRow.holds Try.pinned (OpenSpec.ofChange worldTwoWrong)

/-- 'turnpikelaw24.WorldMemory': WHATEVER THE INPUT: true; the input reads as it did. -/
def worldMemorySpec : ChangeSpec := { name := "worldMemory", fn := fun _ => fun
  | [d] => { results := [.lit (.bool true)], args := [d] }
  | _ => none }
def worldMemoryRow : OpenClaim := { program := "ytgnjdfnjohgnlaa", sum := "053dc8f823b117b84fdb314dda639067691426f1dec85ec82dc3c3541e85b2b7", func := "turnpike/turnpikelaw24.WorldMemory", spec := "worldMemory", unfollowed := true, recurses := true, apart := false }
def WorldMemorySaid : Prop := worldMemoryRow.holds Try.pinned (OpenSpec.ofChange worldMemorySpec)

/-- ITS FALSE NEIGHBOUR: 'it returns false'. Refute it at one input. -/
def worldMemoryWrong : ChangeSpec := { name := "worldMemory", fn := fun _ => fun
  | [d] => { results := [.lit (.bool false)], args := [d] }
  | _ => none }
def WorldMemoryWrongFalsely : Prop := worldMemoryRow.holds Try.pinned (OpenSpec.ofChange worldMemoryWrong)

/- THE SECOND FORM. 'bulk': how many values and letters a reading holds, each counted each time it is reached (what is shared counts as often as it is met; a slice's spare places count too). A statement '..UptoSaid' is the law's where the arguments, and the package variables that the reading takes, are together of bulk at most 1048576: NARROWER than '..Said'. Prove '..Said' where nothing that the law and all that it calls make is longer than what came in: it says more and counts as full. Else prove '..UptoSaid'. A law counts once. -/
mutual
def uptoBulk {H : Type} : DataW H → Nat
  | .lit (.string bytes) => bytes.length + 1
  | .lit _ => 1
  | .nil => 1
  | .ptr d => uptoBulk d + 1
  | .slice elems spare => uptoBulkAll elems + uptoBulkAll spare + 1
  | .agg parts => uptoBulkAll parts + 1
  | .iface _ d => uptoBulk d + 1
  | .map entries => uptoBulkEntries entries + 1
  | .held _ => 1
def uptoBulkAll {H : Type} : List (DataW H) → Nat
  | [] => 0
  | d :: r => uptoBulk d + uptoBulkAll r
def uptoBulkEntries {H : Type} : List (Lit × DataW H) → Nat
  | [] => 0
  | x :: r => uptoBulkEntry x + uptoBulkEntries r
def uptoBulkEntry {H : Type} : Lit × DataW H → Nat
  | (.string bytes, d) => bytes.length + uptoBulk d + 1
  | (_, d) => uptoBulk d + 1
 end
def uptoSmall : (H : Type) → List (DataW H) → Bool := fun _ ds => decide (uptoBulkAll ds ≤ 1048576)
def OpenSpec.upto (s : _root_.Go.ChangeSpec) : _root_.Go.OpenSpec := { _root_.Go.OpenSpec.ofChange s with cond := some uptoSmall }

/-- 'turnpikelaw24.WorldMost', WHERE WHAT IT READS IS OF BULK AT MOST 1048576: true; the input reads as it did. -/
def worldMostUptoRow : OpenClaim := { program := "ytgnjdfnjohgnlaa", sum := "053dc8f823b117b84fdb314dda639067691426f1dec85ec82dc3c3541e85b2b7", func := "turnpike/turnpikelaw24.WorldMost", spec := "worldMost", unfollowed := true, recurses := true, apart := false, narrowed := true }
def WorldMostUptoSaid : Prop := worldMostUptoRow.holds Try.pinned (OpenSpec.upto worldMostSpec)

/-- 'turnpikelaw24.WorldApart', WHERE WHAT IT READS IS OF BULK AT MOST 1048576: true; the input reads as it did. -/
def worldApartUptoRow : OpenClaim := { program := "ytgnjdfnjohgnlaa", sum := "053dc8f823b117b84fdb314dda639067691426f1dec85ec82dc3c3541e85b2b7", func := "turnpike/turnpikelaw24.WorldApart", spec := "worldApart", unfollowed := true, recurses := true, apart := false, narrowed := true }
def WorldApartUptoSaid : Prop := worldApartUptoRow.holds Try.pinned (OpenSpec.upto worldApartSpec)

/-- 'turnpikelaw24.WorldStreams', WHERE WHAT IT READS IS OF BULK AT MOST 1048576: true; the input reads as it did. -/
def worldStreamsUptoRow : OpenClaim := { program := "ytgnjdfnjohgnlaa", sum := "053dc8f823b117b84fdb314dda639067691426f1dec85ec82dc3c3541e85b2b7", func := "turnpike/turnpikelaw24.WorldStreams", spec := "worldStreams", unfollowed := true, recurses := true, apart := false, narrowed := true }
def WorldStreamsUptoSaid : Prop := worldStreamsUptoRow.holds Try.pinned (OpenSpec.upto worldStreamsSpec)

/-- 'turnpikelaw24.WorldExact', WHERE WHAT IT READS IS OF BULK AT MOST 1048576: true; the input reads as it did. -/
def worldExactUptoRow : OpenClaim := { program := "ytgnjdfnjohgnlaa", sum := "053dc8f823b117b84fdb314dda639067691426f1dec85ec82dc3c3541e85b2b7", func := "turnpike/turnpikelaw24.WorldExact", spec := "worldExact", unfollowed := true, recurses := true, apart := false, narrowed := true }
def WorldExactUptoSaid : Prop := worldExactUptoRow.holds Try.pinned (OpenSpec.upto worldExactSpec)

/-- 'turnpikelaw24.WorldTwo', WHERE WHAT IT READS IS OF BULK AT MOST 1048576: true; the input reads as it did. -/
def worldTwoUptoRow : OpenClaim := { program := "ytgnjdfnjohgnlaa", sum := "053dc8f823b117b84fdb314dda639067691426f1dec85ec82dc3c3541e85b2b7", func := "turnpike/turnpikelaw24.WorldTwo", spec := "worldTwo", unfollowed := true, recurses := true, apart := false, narrowed := true }
def WorldTwoUptoSaid : Prop := worldTwoUptoRow.holds Try.pinned (OpenSpec.upto worldTwoSpec)

/-- 'turnpikelaw24.WorldMemory', WHERE WHAT IT READS IS OF BULK AT MOST 1048576: true; the input reads as it did. -/
def worldMemoryUptoRow : OpenClaim := { program := "ytgnjdfnjohgnlaa", sum := "053dc8f823b117b84fdb314dda639067691426f1dec85ec82dc3c3541e85b2b7", func := "turnpike/turnpikelaw24.WorldMemory", spec := "worldMemory", unfollowed := true, recurses := true, apart := false, narrowed := true }
def WorldMemoryUptoSaid : Prop := worldMemoryUptoRow.holds Try.pinned (OpenSpec.upto worldMemorySpec)

end Rows
end Go.Proofs.Ytgnjdfnjohgnlaa
