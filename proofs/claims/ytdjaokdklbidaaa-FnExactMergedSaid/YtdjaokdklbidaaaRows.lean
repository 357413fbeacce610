/-
  No cell of these rows narrows 'for every input' (looked for: loops, veiled, ifaces, maps, wideKeys, modest, calm, conditions, laid).
  DERIVED. THE GIVEN ROWS OF THIS SEAT. 12 by the template 'for every input the law returns true; each argument reads behind the call as it read before'; 0 by the template 'total and deterministic' (their statements: YtdjaokdklbidaaaTotals.lean).
  GIVEN WITH THE SEED: the statements are not yours to turn. If you find one false, say at which input.
  Laid BY PROGRAM, IN A SANDBOX (cutbox-rows.mjs): the forced cells as the released guide's own fill.sh prints them over the translation 8a1a1a8570c0fb15… (all of the seat's roots in one cut). By AI agents, Wed Nov 11 2026. No macro, syntax, notation, axiom, sorry.
-/
import Derived.Test.YtdjaokdklbidaaaChecked
import GoSem.Claim
import GoSem.ClaimJoined
import GoSem.ClaimMapViews
import Derived.JoinedTies
import Derived.KernelRfl
namespace Go.Proofs.Ytdjaokdklbidaaa
/- THE CELL 'sum', in the pinned program and in every row, IS THE sha256 OF THE DUMP (.gsa) THAT YtdjaokdklbidaaaProg.lean LOADS. Nothing in Lean hashes anything: it is a label: what it is worth is what the hold of that sum in a sandbox is worth. -/
noncomputable def Try.pinned : Pinned := { name := "ytdjaokdklbidaaa", sum := "8a1a1a8570c0fb1566ab7c35d1bfae31e8ed829bd2354c8d3534409dbff77fc6", checked := Try.checked }
namespace Rows
def none {H : Type} : Left H := { results := [], args := [] }

/-- 'laws.FnExactAhead': WHATEVER THE INPUT: true; the input reads as it did. -/
def fnExactAheadSpec : ChangeSpec := { name := "fnExactAhead", fn := fun _ => fun
  | [d1, d2] => { results := [.lit (.bool true)], args := [d1, d2] }
  | _ => none }
def fnExactAheadRow : OpenClaim := { program := "ytdjaokdklbidaaa", sum := "8a1a1a8570c0fb1566ab7c35d1bfae31e8ed829bd2354c8d3534409dbff77fc6", func := "loop.example/g00474/laws.FnExactAhead", spec := "fnExactAhead", apart := false }
def FnExactAheadSaid : Prop := fnExactAheadRow.holds Try.pinned (OpenSpec.ofChange fnExactAheadSpec)

/-- ITS FALSE NEIGHBOUR: 'it returns false'. Refute it at one input. -/
def fnExactAheadWrong : ChangeSpec := { name := "fnExactAhead", fn := fun _ => fun
  | [d1, d2] => { results := [.lit (.bool false)], args := [d1, d2] }
  | _ => none }
def FnExactAheadWrongFalsely : Prop := fnExactAheadRow.holds Try.pinned (OpenSpec.ofChange fnExactAheadWrong)

/-- 'laws.FnExactSeedOf': WHATEVER THE INPUT: true; the input reads as it did. -/
def fnExactSeedOfSpec : ChangeSpec := { name := "fnExactSeedOf", fn := fun _ => fun
  | [d] => { results := [.lit (.bool true)], args := [d] }
  | _ => none }
def fnExactSeedOfRow : OpenClaim := { program := "ytdjaokdklbidaaa", sum := "8a1a1a8570c0fb1566ab7c35d1bfae31e8ed829bd2354c8d3534409dbff77fc6", func := "loop.example/g00474/laws.FnExactSeedOf", spec := "fnExactSeedOf", apart := false }
def FnExactSeedOfSaid : Prop := fnExactSeedOfRow.holds Try.pinned (OpenSpec.ofChange fnExactSeedOfSpec)

/-- ITS FALSE NEIGHBOUR: 'it returns false'. Refute it at one input. -/
def fnExactSeedOfWrong : ChangeSpec := { name := "fnExactSeedOf", fn := fun _ => fun
  | [d] => { results := [.lit (.bool false)], args := [d] }
  | _ => none }
def FnExactSeedOfWrongFalsely : Prop := fnExactSeedOfRow.holds Try.pinned (OpenSpec.ofChange fnExactSeedOfWrong)

/-- 'laws.FnExactBetween': WHATEVER THE INPUT: true; the input reads as it did. -/
def fnExactBetweenSpec : ChangeSpec := { name := "fnExactBetween", fn := fun _ => fun
  | [d1, d2, d3] => { results := [.lit (.bool true)], args := [d1, d2, d3] }
  | _ => none }
def fnExactBetweenRow : OpenClaim := { program := "ytdjaokdklbidaaa", sum := "8a1a1a8570c0fb1566ab7c35d1bfae31e8ed829bd2354c8d3534409dbff77fc6", func := "loop.example/g00474/laws.FnExactBetween", spec := "fnExactBetween", apart := false }
def FnExactBetweenSaid : Prop := fnExactBetweenRow.holds Try.pinned (OpenSpec.ofChange fnExactBetweenSpec)

/-- ITS FALSE NEIGHBOUR: 'it returns false'. Refute it at one input. -/
def fnExactBetweenWrong : ChangeSpec := { name := "fnExactBetween", fn := fun _ => fun
  | [d1, d2, d3] => { results := [.lit (.bool false)], args := [d1, d2, d3] }
  | _ => none }
def FnExactBetweenWrongFalsely : Prop := fnExactBetweenRow.holds Try.pinned (OpenSpec.ofChange fnExactBetweenWrong)

/-- 'laws.FnExactOwnerOf': WHATEVER THE INPUT: true; the input reads as it did. -/
def fnExactOwnerOfSpec : ChangeSpec := { name := "fnExactOwnerOf", fn := fun _ => fun
  | [d1, d2] => { results := [.lit (.bool true)], args := [d1, d2] }
  | _ => none }
def fnExactOwnerOfRow : OpenClaim := { program := "ytdjaokdklbidaaa", sum := "8a1a1a8570c0fb1566ab7c35d1bfae31e8ed829bd2354c8d3534409dbff77fc6", func := "loop.example/g00474/laws.FnExactOwnerOf", spec := "fnExactOwnerOf", apart := false }
def FnExactOwnerOfSaid : Prop := fnExactOwnerOfRow.holds Try.pinned (OpenSpec.ofChange fnExactOwnerOfSpec)

/-- ITS FALSE NEIGHBOUR: 'it returns false'. Refute it at one input. -/
def fnExactOwnerOfWrong : ChangeSpec := { name := "fnExactOwnerOf", fn := fun _ => fun
  | [d1, d2] => { results := [.lit (.bool false)], args := [d1, d2] }
  | _ => none }
def FnExactOwnerOfWrongFalsely : Prop := fnExactOwnerOfRow.holds Try.pinned (OpenSpec.ofChange fnExactOwnerOfWrong)

/-- 'laws.FnExactEventOk': WHATEVER THE INPUT: true; the input reads as it did. -/
def fnExactEventOkSpec : ChangeSpec := { name := "fnExactEventOk", fn := fun _ => fun
  | [d] => { results := [.lit (.bool true)], args := [d] }
  | _ => none }
def fnExactEventOkRow : OpenClaim := { program := "ytdjaokdklbidaaa", sum := "8a1a1a8570c0fb1566ab7c35d1bfae31e8ed829bd2354c8d3534409dbff77fc6", func := "loop.example/g00474/laws.FnExactEventOk", spec := "fnExactEventOk", apart := false }
def FnExactEventOkSaid : Prop := fnExactEventOkRow.holds Try.pinned (OpenSpec.ofChange fnExactEventOkSpec)

/-- ITS FALSE NEIGHBOUR: 'it returns false'. Refute it at one input. -/
def fnExactEventOkWrong : ChangeSpec := { name := "fnExactEventOk", fn := fun _ => fun
  | [d] => { results := [.lit (.bool false)], args := [d] }
  | _ => none }
def FnExactEventOkWrongFalsely : Prop := fnExactEventOkRow.holds Try.pinned (OpenSpec.ofChange fnExactEventOkWrong)

/-- 'laws.FnExactOrderedFrom': WHATEVER THE INPUT: true; the input reads as it did. -/
def fnExactOrderedFromSpec : ChangeSpec := { name := "fnExactOrderedFrom", fn := fun _ => fun
  | [d1, d2] => { results := [.lit (.bool true)], args := [d1, d2] }
  | _ => none }
def fnExactOrderedFromRow : OpenClaim := { program := "ytdjaokdklbidaaa", sum := "8a1a1a8570c0fb1566ab7c35d1bfae31e8ed829bd2354c8d3534409dbff77fc6", func := "loop.example/g00474/laws.FnExactOrderedFrom", spec := "fnExactOrderedFrom", unfollowed := true, recurses := true, apart := false }
def FnExactOrderedFromSaid : Prop := fnExactOrderedFromRow.holds Try.pinned (OpenSpec.ofChange fnExactOrderedFromSpec)

/-- ITS FALSE NEIGHBOUR: 'it returns false'. Refute it at one input. -/
def fnExactOrderedFromWrong : ChangeSpec := { name := "fnExactOrderedFrom", fn := fun _ => fun
  | [d1, d2] => { results := [.lit (.bool false)], args := [d1, d2] }
  | _ => none }
def FnExactOrderedFromWrongFalsely : Prop := fnExactOrderedFromRow.holds Try.pinned (OpenSpec.ofChange fnExactOrderedFromWrong)

/-- 'laws.FnExactPeerAt': WHATEVER THE INPUT: true; the input reads as it did. -/
def fnExactPeerAtSpec : ChangeSpec := { name := "fnExactPeerAt", fn := fun _ => fun
  | [d1, d2] => { results := [.lit (.bool true)], args := [d1, d2] }
  | _ => none }
def fnExactPeerAtRow : OpenClaim := { program := "ytdjaokdklbidaaa", sum := "8a1a1a8570c0fb1566ab7c35d1bfae31e8ed829bd2354c8d3534409dbff77fc6", func := "loop.example/g00474/laws.FnExactPeerAt", spec := "fnExactPeerAt", unfollowed := true, recurses := true, apart := false }
def FnExactPeerAtSaid : Prop := fnExactPeerAtRow.holds Try.pinned (OpenSpec.ofChange fnExactPeerAtSpec)

/-- ITS FALSE NEIGHBOUR: 'it returns false'. Refute it at one input. -/
def fnExactPeerAtWrong : ChangeSpec := { name := "fnExactPeerAt", fn := fun _ => fun
  | [d1, d2] => { results := [.lit (.bool false)], args := [d1, d2] }
  | _ => none }
def FnExactPeerAtWrongFalsely : Prop := fnExactPeerAtRow.holds Try.pinned (OpenSpec.ofChange fnExactPeerAtWrong)

/-- 'laws.FnExactStepOk': WHATEVER THE INPUT: true; the input reads as it did. -/
def fnExactStepOkSpec : ChangeSpec := { name := "fnExactStepOk", fn := fun _ => fun
  | [d1, d2] => { results := [.lit (.bool true)], args := [d1, d2] }
  | _ => none }
def fnExactStepOkRow : OpenClaim := { program := "ytdjaokdklbidaaa", sum := "8a1a1a8570c0fb1566ab7c35d1bfae31e8ed829bd2354c8d3534409dbff77fc6", func := "loop.example/g00474/laws.FnExactStepOk", spec := "fnExactStepOk", apart := false }
def FnExactStepOkSaid : Prop := fnExactStepOkRow.holds Try.pinned (OpenSpec.ofChange fnExactStepOkSpec)

/-- ITS FALSE NEIGHBOUR: 'it returns false'. Refute it at one input. -/
def fnExactStepOkWrong : ChangeSpec := { name := "fnExactStepOk", fn := fun _ => fun
  | [d1, d2] => { results := [.lit (.bool false)], args := [d1, d2] }
  | _ => none }
def FnExactStepOkWrongFalsely : Prop := fnExactStepOkRow.holds Try.pinned (OpenSpec.ofChange fnExactStepOkWrong)

/-- 'laws.FnExactPeerOk': WHATEVER THE INPUT: true; the input reads as it did. -/
def fnExactPeerOkSpec : ChangeSpec := { name := "fnExactPeerOk", fn := fun _ => fun
  | [d] => { results := [.lit (.bool true)], args := [d] }
  | _ => none }
def fnExactPeerOkRow : OpenClaim := { program := "ytdjaokdklbidaaa", sum := "8a1a1a8570c0fb1566ab7c35d1bfae31e8ed829bd2354c8d3534409dbff77fc6", func := "loop.example/g00474/laws.FnExactPeerOk", spec := "fnExactPeerOk", unfollowed := true, recurses := true, apart := false }
def FnExactPeerOkSaid : Prop := fnExactPeerOkRow.holds Try.pinned (OpenSpec.ofChange fnExactPeerOkSpec)

/-- ITS FALSE NEIGHBOUR: 'it returns false'. Refute it at one input. -/
def fnExactPeerOkWrong : ChangeSpec := { name := "fnExactPeerOk", fn := fun _ => fun
  | [d] => { results := [.lit (.bool false)], args := [d] }
  | _ => none }
def FnExactPeerOkWrongFalsely : Prop := fnExactPeerOkRow.holds Try.pinned (OpenSpec.ofChange fnExactPeerOkWrong)

/-- 'laws.FnExactNextOf': WHATEVER THE INPUT: true; the input reads as it did. -/
def fnExactNextOfSpec : ChangeSpec := { name := "fnExactNextOf", fn := fun _ => fun
  | [d1, d2] => { results := [.lit (.bool true)], args := [d1, d2] }
  | _ => none }
def fnExactNextOfRow : OpenClaim := { program := "ytdjaokdklbidaaa", sum := "8a1a1a8570c0fb1566ab7c35d1bfae31e8ed829bd2354c8d3534409dbff77fc6", func := "loop.example/g00474/laws.FnExactNextOf", spec := "fnExactNextOf", unfollowed := true, recurses := true, apart := false }
def FnExactNextOfSaid : Prop := fnExactNextOfRow.holds Try.pinned (OpenSpec.ofChange fnExactNextOfSpec)

/-- ITS FALSE NEIGHBOUR: 'it returns false'. Refute it at one input. -/
def fnExactNextOfWrong : ChangeSpec := { name := "fnExactNextOf", fn := fun _ => fun
  | [d1, d2] => { results := [.lit (.bool false)], args := [d1, d2] }
  | _ => none }
def FnExactNextOfWrongFalsely : Prop := fnExactNextOfRow.holds Try.pinned (OpenSpec.ofChange fnExactNextOfWrong)

/-- 'laws.FnExactShelfOf': WHATEVER THE INPUT: true; the input reads as it did. -/
def fnExactShelfOfSpec : ChangeSpec := { name := "fnExactShelfOf", fn := fun _ => fun
  | [d1, d2] => { results := [.lit (.bool true)], args := [d1, d2] }
  | _ => none }
def fnExactShelfOfRow : OpenClaim := { program := "ytdjaokdklbidaaa", sum := "8a1a1a8570c0fb1566ab7c35d1bfae31e8ed829bd2354c8d3534409dbff77fc6", func := "loop.example/g00474/laws.FnExactShelfOf", spec := "fnExactShelfOf", unfollowed := true, recurses := true, apart := false }
def FnExactShelfOfSaid : Prop := fnExactShelfOfRow.holds Try.pinned (OpenSpec.ofChange fnExactShelfOfSpec)

/-- ITS FALSE NEIGHBOUR: 'it returns false'. Refute it at one input. -/
def fnExactShelfOfWrong : ChangeSpec := { name := "fnExactShelfOf", fn := fun _ => fun
  | [d1, d2] => { results := [.lit (.bool false)], args := [d1, d2] }
  | _ => none }
def FnExactShelfOfWrongFalsely : Prop := fnExactShelfOfRow.holds Try.pinned (OpenSpec.ofChange fnExactShelfOfWrong)

/-- 'laws.FnExactMerged': WHATEVER THE INPUT: true; the input reads as it did. -/
def fnExactMergedSpec : ChangeSpec := { name := "fnExactMerged", fn := fun _ => fun
  | [d1, d2] => { results := [.lit (.bool true)], args := [d1, d2] }
  | _ => none }
def fnExactMergedRow : OpenClaim := { program := "ytdjaokdklbidaaa", sum := "8a1a1a8570c0fb1566ab7c35d1bfae31e8ed829bd2354c8d3534409dbff77fc6", func := "loop.example/g00474/laws.FnExactMerged", spec := "fnExactMerged", inPlace := ["internal/bytealg.abigen_runtime_cmpstring"], unfollowed := true, recurses := true, apart := false }
def FnExactMergedSaid : Prop := fnExactMergedRow.holds Try.pinned (OpenSpec.ofChange fnExactMergedSpec)

/-- ITS FALSE NEIGHBOUR: 'it returns false'. Refute it at one input. -/
def fnExactMergedWrong : ChangeSpec := { name := "fnExactMerged", fn := fun _ => fun
  | [d1, d2] => { results := [.lit (.bool false)], args := [d1, d2] }
  | _ => none }
def FnExactMergedWrongFalsely : Prop := fnExactMergedRow.holds Try.pinned (OpenSpec.ofChange fnExactMergedWrong)

/- THE SECOND FORM. 'bulk': how many values and letters a reading holds, each counted each time it is reached (what is shared counts as often as it is met; a slice's spare places count too). A statement '..UptoSaid' is the law's where the arguments, and the package variables that the reading takes, are together of bulk at most 1048576: NARROWER than '..Said'. Prove '..Said' where nothing that the law and all that it calls make is longer than what came in: it says more and counts as full. Else prove '..UptoSaid'. A law counts once. -/
mutual
def uptoBulk {H : Type} : DataW H → Nat
  | .lit (.string bytes) => bytes.length + 1
  | .lit _ => 1
  | .nil => 1
  | .ptr d => uptoBulk d + 1
  | .slice elems spare => uptoBulkAll elems + uptoBulkAll spare + 1
  | .agg parts => uptoBulkAll parts + 1
  | .iface _ d => uptoBulk d + 1
  | .map entries => uptoBulkEntries entries + 1
  | .held _ => 1
def uptoBulkAll {H : Type} : List (DataW H) → Nat
  | [] => 0
  | d :: r => uptoBulk d + uptoBulkAll r
def uptoBulkEntries {H : Type} : List (Lit × DataW H) → Nat
  | [] => 0
  | x :: r => uptoBulkEntry x + uptoBulkEntries r
def uptoBulkEntry {H : Type} : Lit × DataW H → Nat
  | (.string bytes, d) => bytes.length + uptoBulk d + 1
  | (_, d) => uptoBulk d + 1
 end
def uptoSmall : (H : Type) → List (DataW H) → Bool := fun _ ds => decide (uptoBulkAll ds ≤ 1048576)
def OpenSpec.upto (s : _root_.Go.ChangeSpec) : _root_.Go.OpenSpec := { _root_.Go.OpenSpec.ofChange s with cond := some uptoSmall }

/-- 'laws.FnExactAhead', WHERE WHAT IT READS IS OF BULK AT MOST 1048576: true; the input reads as it did. -/
def fnExactAheadUptoRow : OpenClaim := { program := "ytdjaokdklbidaaa", sum := "8a1a1a8570c0fb1566ab7c35d1bfae31e8ed829bd2354c8d3534409dbff77fc6", func := "loop.example/g00474/laws.FnExactAhead", spec := "fnExactAhead", apart := false, narrowed := true }
def FnExactAheadUptoSaid : Prop := fnExactAheadUptoRow.holds Try.pinned (OpenSpec.upto fnExactAheadSpec)

/-- 'laws.FnExactSeedOf', WHERE WHAT IT READS IS OF BULK AT MOST 1048576: true; the input reads as it did. -/
def fnExactSeedOfUptoRow : OpenClaim := { program := "ytdjaokdklbidaaa", sum := "8a1a1a8570c0fb1566ab7c35d1bfae31e8ed829bd2354c8d3534409dbff77fc6", func := "loop.example/g00474/laws.FnExactSeedOf", spec := "fnExactSeedOf", apart := false, narrowed := true }
def FnExactSeedOfUptoSaid : Prop := fnExactSeedOfUptoRow.holds Try.pinned (OpenSpec.upto fnExactSeedOfSpec)

/-- 'laws.FnExactBetween', WHERE WHAT IT READS IS OF BULK AT MOST 1048576: true; the input reads as it did. -/
def fnExactBetweenUptoRow : OpenClaim := { program := "ytdjaokdklbidaaa", sum := "8a1a1a8570c0fb1566ab7c35d1bfae31e8ed829bd2354c8d3534409dbff77fc6", func := "loop.example/g00474/laws.FnExactBetween", spec := "fnExactBetween", apart := false, narrowed := true }
def FnExactBetweenUptoSaid : Prop := fnExactBetweenUptoRow.holds Try.pinned (OpenSpec.upto fnExactBetweenSpec)

/-- 'laws.FnExactOwnerOf', WHERE WHAT IT READS IS OF BULK AT MOST 1048576: true; the input reads as it did. -/
def fnExactOwnerOfUptoRow : OpenClaim := { program := "ytdjaokdklbidaaa", sum := "8a1a1a8570c0fb1566ab7c35d1bfae31e8ed829bd2354c8d3534409dbff77fc6", func := "loop.example/g00474/laws.FnExactOwnerOf", spec := "fnExactOwnerOf", apart := false, narrowed := true }
def FnExactOwnerOfUptoSaid : Prop := fnExactOwnerOfUptoRow.holds Try.pinned (OpenSpec.upto fnExactOwnerOfSpec)

/-- 'laws.FnExactEventOk', WHERE WHAT IT READS IS OF BULK AT MOST 1048576: true; the input reads as it did. -/
def fnExactEventOkUptoRow : OpenClaim := { program := "ytdjaokdklbidaaa", sum := "8a1a1a8570c0fb1566ab7c35d1bfae31e8ed829bd2354c8d3534409dbff77fc6", func := "loop.example/g00474/laws.FnExactEventOk", spec := "fnExactEventOk", apart := false, narrowed := true }
def FnExactEventOkUptoSaid : Prop := fnExactEventOkUptoRow.holds Try.pinned (OpenSpec.upto fnExactEventOkSpec)

/-- 'laws.FnExactOrderedFrom', WHERE WHAT IT READS IS OF BULK AT MOST 1048576: true; the input reads as it did. -/
def fnExactOrderedFromUptoRow : OpenClaim := { program := "ytdjaokdklbidaaa", sum := "8a1a1a8570c0fb1566ab7c35d1bfae31e8ed829bd2354c8d3534409dbff77fc6", func := "loop.example/g00474/laws.FnExactOrderedFrom", spec := "fnExactOrderedFrom", unfollowed := true, recurses := true, apart := false, narrowed := true }
def FnExactOrderedFromUptoSaid : Prop := fnExactOrderedFromUptoRow.holds Try.pinned (OpenSpec.upto fnExactOrderedFromSpec)

/-- 'laws.FnExactPeerAt', WHERE WHAT IT READS IS OF BULK AT MOST 1048576: true; the input reads as it did. -/
def fnExactPeerAtUptoRow : OpenClaim := { program := "ytdjaokdklbidaaa", sum := "8a1a1a8570c0fb1566ab7c35d1bfae31e8ed829bd2354c8d3534409dbff77fc6", func := "loop.example/g00474/laws.FnExactPeerAt", spec := "fnExactPeerAt", unfollowed := true, recurses := true, apart := false, narrowed := true }
def FnExactPeerAtUptoSaid : Prop := fnExactPeerAtUptoRow.holds Try.pinned (OpenSpec.upto fnExactPeerAtSpec)

/-- 'laws.FnExactStepOk', WHERE WHAT IT READS IS OF BULK AT MOST 1048576: true; the input reads as it did. -/
def fnExactStepOkUptoRow : OpenClaim := { program := "ytdjaokdklbidaaa", sum := "8a1a1a8570c0fb1566ab7c35d1bfae31e8ed829bd2354c8d3534409dbff77fc6", func := "loop.example/g00474/laws.FnExactStepOk", spec := "fnExactStepOk", apart := false, narrowed := true }
def FnExactStepOkUptoSaid : Prop := fnExactStepOkUptoRow.holds Try.pinned (OpenSpec.upto fnExactStepOkSpec)

/-- 'laws.FnExactPeerOk', WHERE WHAT IT READS IS OF BULK AT MOST 1048576: true; the input reads as it did. -/
def fnExactPeerOkUptoRow : OpenClaim := { program := "ytdjaokdklbidaaa", sum := "8a1a1a8570c0fb1566ab7c35d1bfae31e8ed829bd2354c8d3534409dbff77fc6", func := "loop.example/g00474/laws.FnExactPeerOk", spec := "fnExactPeerOk", unfollowed := true, recurses := true, apart := false, narrowed := true }
def FnExactPeerOkUptoSaid : Prop := fnExactPeerOkUptoRow.holds Try.pinned (OpenSpec.upto fnExactPeerOkSpec)

/-- 'laws.FnExactNextOf', WHERE WHAT IT READS IS OF BULK AT MOST 1048576: true; the input reads as it did. -/
def fnExactNextOfUptoRow : OpenClaim := { program := "ytdjaokdklbidaaa", sum := "8a1a1a8570c0fb1566ab7c35d1bfae31e8ed829bd2354c8d3534409dbff77fc6", func := "loop.example/g00474/laws.FnExactNextOf", spec := "fnExactNextOf", unfollowed := true, recurses := true, apart := false, narrowed := true }
def FnExactNextOfUptoSaid : Prop := fnExactNextOfUptoRow.holds Try.pinned (OpenSpec.upto fnExactNextOfSpec)

/-- 'laws.FnExactShelfOf', WHERE WHAT IT READS IS OF BULK AT MOST 1048576: true; the input reads as it did. -/
def fnExactShelfOfUptoRow : OpenClaim := { program := "ytdjaokdklbidaaa", sum := "8a1a1a8570c0fb1566ab7c35d1bfae31e8ed829bd2354c8d3534409dbff77fc6", func := "loop.example/g00474/laws.FnExactShelfOf", spec := "fnExactShelfOf", unfollowed := true, recurses := true, apart := false, narrowed := true }
def FnExactShelfOfUptoSaid : Prop := fnExactShelfOfUptoRow.holds Try.pinned (OpenSpec.upto fnExactShelfOfSpec)

/-- 'laws.FnExactMerged', WHERE WHAT IT READS IS OF BULK AT MOST 1048576: true; the input reads as it did. -/
def fnExactMergedUptoRow : OpenClaim := { program := "ytdjaokdklbidaaa", sum := "8a1a1a8570c0fb1566ab7c35d1bfae31e8ed829bd2354c8d3534409dbff77fc6", func := "loop.example/g00474/laws.FnExactMerged", spec := "fnExactMerged", inPlace := ["internal/bytealg.abigen_runtime_cmpstring"], unfollowed := true, recurses := true, apart := false, narrowed := true }
def FnExactMergedUptoSaid : Prop := fnExactMergedUptoRow.holds Try.pinned (OpenSpec.upto fnExactMergedSpec)

end Rows
end Go.Proofs.Ytdjaokdklbidaaa
