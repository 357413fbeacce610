/-
  No cell of these rows narrows 'for every input' (looked for: loops, veiled, ifaces, maps, wideKeys, modest, calm, conditions, laid).
  DERIVED. THE GIVEN ROWS OF THIS SEAT. 6 by the template 'for every input the law returns true; each argument reads behind the call as it read before'; 0 by the template 'total and deterministic' (their statements: YtfmlmdnaeonobaaTotals.lean).
  GIVEN WITH THE SEED: the statements are not yours to turn. If you find one false, say at which input.
  Laid BY PROGRAM, IN A SANDBOX (cutbox-rows.mjs): the forced cells as the released guide's own fill.sh prints them over the translation 8a1c2609b1c37890… (all of the seat's roots in one cut). By AI agents, Wed Nov 11 2026. No macro, syntax, notation, axiom, sorry.
-/
import Derived.Test.YtfmlmdnaeonobaaChecked
import GoSem.Claim
import GoSem.ClaimJoined
import GoSem.ClaimMapViews
import Derived.JoinedTies
import Derived.KernelRfl
namespace Go.Proofs.Ytfmlmdnaeonobaa
/- THE CELL 'sum', in the pinned program and in every row, IS THE sha256 OF THE DUMP (.gsa) THAT YtfmlmdnaeonobaaProg.lean LOADS. Nothing in Lean hashes anything: it is a label: what it is worth is what the hold of that sum in a sandbox is worth. -/
noncomputable def Try.pinned : Pinned := { name := "ytfmlmdnaeonobaa", sum := "8a1c2609b1c37890bc2d5b4b57ee2b50b09c7011c8520a63f98d6d9a1e4bd605", checked := Try.checked }
namespace Rows
def none {H : Type} : Left H := { results := [], args := [] }

/-- 'laws.FnFounds': WHATEVER THE INPUT: true; the input reads as it did. -/
def fnFoundsSpec : ChangeSpec := { name := "fnFounds", fn := fun _ => fun
  | [d] => { results := [.lit (.bool true)], args := [d] }
  | _ => none }
def fnFoundsRow : OpenClaim := { program := "ytfmlmdnaeonobaa", sum := "8a1c2609b1c37890bc2d5b4b57ee2b50b09c7011c8520a63f98d6d9a1e4bd605", func := "loop.example/g00474/laws.FnFounds", spec := "fnFounds", unfollowed := true, recurses := true, apart := false }
def FnFoundsSaid : Prop := fnFoundsRow.holds Try.pinned (OpenSpec.ofChange fnFoundsSpec)

/-- ITS FALSE NEIGHBOUR: 'it returns false'. Refute it at one input. -/
def fnFoundsWrong : ChangeSpec := { name := "fnFounds", fn := fun _ => fun
  | [d] => { results := [.lit (.bool false)], args := [d] }
  | _ => none }
def FnFoundsWrongFalsely : Prop := fnFoundsRow.holds Try.pinned (OpenSpec.ofChange fnFoundsWrong)

/-- 'laws.FnExactPut': WHATEVER THE INPUT: true; the input reads as it did. -/
def fnExactPutSpec : ChangeSpec := { name := "fnExactPut", fn := fun _ => fun
  | [d1, d2, d3] => { results := [.lit (.bool true)], args := [d1, d2, d3] }
  | _ => none }
def fnExactPutRow : OpenClaim := { program := "ytfmlmdnaeonobaa", sum := "8a1c2609b1c37890bc2d5b4b57ee2b50b09c7011c8520a63f98d6d9a1e4bd605", func := "loop.example/g00474/laws.FnExactPut", spec := "fnExactPut", inPlace := ["slices.overlaps[loop.example/g00474/impl.Shelf]", "internal/bytealg.abigen_runtime_cmpstring"], unfollowed := true, recurses := true, apart := false }
def FnExactPutSaid : Prop := fnExactPutRow.holds Try.pinned (OpenSpec.ofChange fnExactPutSpec)

/-- ITS FALSE NEIGHBOUR: 'it returns false'. Refute it at one input. -/
def fnExactPutWrong : ChangeSpec := { name := "fnExactPut", fn := fun _ => fun
  | [d1, d2, d3] => { results := [.lit (.bool false)], args := [d1, d2, d3] }
  | _ => none }
def FnExactPutWrongFalsely : Prop := fnExactPutRow.holds Try.pinned (OpenSpec.ofChange fnExactPutWrong)

/-- 'laws.FnExactWantsOf': WHATEVER THE INPUT: true; the input reads as it did. -/
def fnExactWantsOfSpec : ChangeSpec := { name := "fnExactWantsOf", fn := fun _ => fun
  | [d1, d2] => { results := [.lit (.bool true)], args := [d1, d2] }
  | _ => none }
def fnExactWantsOfRow : OpenClaim := { program := "ytfmlmdnaeonobaa", sum := "8a1c2609b1c37890bc2d5b4b57ee2b50b09c7011c8520a63f98d6d9a1e4bd605", func := "loop.example/g00474/laws.FnExactWantsOf", spec := "fnExactWantsOf", unfollowed := true, recurses := true, apart := false }
def FnExactWantsOfSaid : Prop := fnExactWantsOfRow.holds Try.pinned (OpenSpec.ofChange fnExactWantsOfSpec)

/-- ITS FALSE NEIGHBOUR: 'it returns false'. Refute it at one input. -/
def fnExactWantsOfWrong : ChangeSpec := { name := "fnExactWantsOf", fn := fun _ => fun
  | [d1, d2] => { results := [.lit (.bool false)], args := [d1, d2] }
  | _ => none }
def FnExactWantsOfWrongFalsely : Prop := fnExactWantsOfRow.holds Try.pinned (OpenSpec.ofChange fnExactWantsOfWrong)

/-- 'laws.FnExactProofOf': WHATEVER THE INPUT: true; the input reads as it did. -/
def fnExactProofOfSpec : ChangeSpec := { name := "fnExactProofOf", fn := fun _ => fun
  | [d1, d2, d3] => { results := [.lit (.bool true)], args := [d1, d2, d3] }
  | _ => none }
def fnExactProofOfRow : OpenClaim := { program := "ytfmlmdnaeonobaa", sum := "8a1c2609b1c37890bc2d5b4b57ee2b50b09c7011c8520a63f98d6d9a1e4bd605", func := "loop.example/g00474/laws.FnExactProofOf", spec := "fnExactProofOf", unfollowed := true, recurses := true, apart := false }
def FnExactProofOfSaid : Prop := fnExactProofOfRow.holds Try.pinned (OpenSpec.ofChange fnExactProofOfSpec)

/-- ITS FALSE NEIGHBOUR: 'it returns false'. Refute it at one input. -/
def fnExactProofOfWrong : ChangeSpec := { name := "fnExactProofOf", fn := fun _ => fun
  | [d1, d2, d3] => { results := [.lit (.bool false)], args := [d1, d2, d3] }
  | _ => none }
def FnExactProofOfWrongFalsely : Prop := fnExactProofOfRow.holds Try.pinned (OpenSpec.ofChange fnExactProofOfWrong)

/-- 'laws.FnProofs': WHATEVER THE INPUT: true; the input reads as it did. -/
def fnProofsSpec : ChangeSpec := { name := "fnProofs", fn := fun _ => fun
  | [d] => { results := [.lit (.bool true)], args := [d] }
  | _ => none }
def fnProofsRow : OpenClaim := { program := "ytfmlmdnaeonobaa", sum := "8a1c2609b1c37890bc2d5b4b57ee2b50b09c7011c8520a63f98d6d9a1e4bd605", func := "loop.example/g00474/laws.FnProofs", spec := "fnProofs", unfollowed := true, recurses := true, apart := false }
def FnProofsSaid : Prop := fnProofsRow.holds Try.pinned (OpenSpec.ofChange fnProofsSpec)

/-- ITS FALSE NEIGHBOUR: 'it returns false'. Refute it at one input. -/
def fnProofsWrong : ChangeSpec := { name := "fnProofs", fn := fun _ => fun
  | [d] => { results := [.lit (.bool false)], args := [d] }
  | _ => none }
def FnProofsWrongFalsely : Prop := fnProofsRow.holds Try.pinned (OpenSpec.ofChange fnProofsWrong)

/-- 'laws.FnProofsTold': WHATEVER THE INPUT: true; the input reads as it did. -/
def fnProofsToldSpec : ChangeSpec := { name := "fnProofsTold", fn := fun _ => fun
  | [d] => { results := [.lit (.bool true)], args := [d] }
  | _ => none }
def fnProofsToldRow : OpenClaim := { program := "ytfmlmdnaeonobaa", sum := "8a1c2609b1c37890bc2d5b4b57ee2b50b09c7011c8520a63f98d6d9a1e4bd605", func := "loop.example/g00474/laws.FnProofsTold", spec := "fnProofsTold", unfollowed := true, recurses := true, apart := false }
def FnProofsToldSaid : Prop := fnProofsToldRow.holds Try.pinned (OpenSpec.ofChange fnProofsToldSpec)

/-- ITS FALSE NEIGHBOUR: 'it returns false'. Refute it at one input. -/
def fnProofsToldWrong : ChangeSpec := { name := "fnProofsTold", fn := fun _ => fun
  | [d] => { results := [.lit (.bool false)], args := [d] }
  | _ => none }
def FnProofsToldWrongFalsely : Prop := fnProofsToldRow.holds Try.pinned (OpenSpec.ofChange fnProofsToldWrong)

/- THE SECOND FORM. 'bulk': how many values and letters a reading holds, each counted each time it is reached (what is shared counts as often as it is met; a slice's spare places count too). A statement '..UptoSaid' is the law's where the arguments, and the package variables that the reading takes, are together of bulk at most 1048576: NARROWER than '..Said'. Prove '..Said' where nothing that the law and all that it calls make is longer than what came in: it says more and counts as full. Else prove '..UptoSaid'. A law counts once. -/
mutual
def uptoBulk {H : Type} : DataW H → Nat
  | .lit (.string bytes) => bytes.length + 1
  | .lit _ => 1
  | .nil => 1
  | .ptr d => uptoBulk d + 1
  | .slice elems spare => uptoBulkAll elems + uptoBulkAll spare + 1
  | .agg parts => uptoBulkAll parts + 1
  | .iface _ d => uptoBulk d + 1
  | .map entries => uptoBulkEntries entries + 1
  | .held _ => 1
def uptoBulkAll {H : Type} : List (DataW H) → Nat
  | [] => 0
  | d :: r => uptoBulk d + uptoBulkAll r
def uptoBulkEntries {H : Type} : List (Lit × DataW H) → Nat
  | [] => 0
  | x :: r => uptoBulkEntry x + uptoBulkEntries r
def uptoBulkEntry {H : Type} : Lit × DataW H → Nat
  | (.string bytes, d) => bytes.length + uptoBulk d + 1
  | (_, d) => uptoBulk d + 1
 end
def uptoSmall : (H : Type) → List (DataW H) → Bool := fun _ ds => decide (uptoBulkAll ds ≤ 1048576)
def OpenSpec.upto (s : _root_.Go.ChangeSpec) : _root_.Go.OpenSpec := { _root_.Go.OpenSpec.ofChange s with cond := some uptoSmall }

/-- 'laws.FnFounds', WHERE WHAT IT READS IS OF BULK AT MOST 1048576: true; the input reads as it did. -/
def fnFoundsUptoRow : OpenClaim := { program := "ytfmlmdnaeonobaa", sum := "8a1c2609b1c37890bc2d5b4b57ee2b50b09c7011c8520a63f98d6d9a1e4bd605", func := "loop.example/g00474/laws.FnFounds", spec := "fnFounds", unfollowed := true, recurses := true, apart := false, narrowed := true }
def FnFoundsUptoSaid : Prop := fnFoundsUptoRow.holds Try.pinned (OpenSpec.upto fnFoundsSpec)

/-- 'laws.FnExactPut', WHERE WHAT IT READS IS OF BULK AT MOST 1048576: true; the input reads as it did. -/
def fnExactPutUptoRow : OpenClaim := { program := "ytfmlmdnaeonobaa", sum := "8a1c2609b1c37890bc2d5b4b57ee2b50b09c7011c8520a63f98d6d9a1e4bd605", func := "loop.example/g00474/laws.FnExactPut", spec := "fnExactPut", inPlace := ["slices.overlaps[loop.example/g00474/impl.Shelf]", "internal/bytealg.abigen_runtime_cmpstring"], unfollowed := true, recurses := true, apart := false, narrowed := true }
def FnExactPutUptoSaid : Prop := fnExactPutUptoRow.holds Try.pinned (OpenSpec.upto fnExactPutSpec)

/-- 'laws.FnExactWantsOf', WHERE WHAT IT READS IS OF BULK AT MOST 1048576: true; the input reads as it did. -/
def fnExactWantsOfUptoRow : OpenClaim := { program := "ytfmlmdnaeonobaa", sum := "8a1c2609b1c37890bc2d5b4b57ee2b50b09c7011c8520a63f98d6d9a1e4bd605", func := "loop.example/g00474/laws.FnExactWantsOf", spec := "fnExactWantsOf", unfollowed := true, recurses := true, apart := false, narrowed := true }
def FnExactWantsOfUptoSaid : Prop := fnExactWantsOfUptoRow.holds Try.pinned (OpenSpec.upto fnExactWantsOfSpec)

/-- 'laws.FnExactProofOf', WHERE WHAT IT READS IS OF BULK AT MOST 1048576: true; the input reads as it did. -/
def fnExactProofOfUptoRow : OpenClaim := { program := "ytfmlmdnaeonobaa", sum := "8a1c2609b1c37890bc2d5b4b57ee2b50b09c7011c8520a63f98d6d9a1e4bd605", func := "loop.example/g00474/laws.FnExactProofOf", spec := "fnExactProofOf", unfollowed := true, recurses := true, apart := false, narrowed := true }
def FnExactProofOfUptoSaid : Prop := fnExactProofOfUptoRow.holds Try.pinned (OpenSpec.upto fnExactProofOfSpec)

/-- 'laws.FnProofs', WHERE WHAT IT READS IS OF BULK AT MOST 1048576: true; the input reads as it did. -/
def fnProofsUptoRow : OpenClaim := { program := "ytfmlmdnaeonobaa", sum := "8a1c2609b1c37890bc2d5b4b57ee2b50b09c7011c8520a63f98d6d9a1e4bd605", func := "loop.example/g00474/laws.FnProofs", spec := "fnProofs", unfollowed := true, recurses := true, apart := false, narrowed := true }
def FnProofsUptoSaid : Prop := fnProofsUptoRow.holds Try.pinned (OpenSpec.upto fnProofsSpec)

/-- 'laws.FnProofsTold', WHERE WHAT IT READS IS OF BULK AT MOST 1048576: true; the input reads as it did. -/
def fnProofsToldUptoRow : OpenClaim := { program := "ytfmlmdnaeonobaa", sum := "8a1c2609b1c37890bc2d5b4b57ee2b50b09c7011c8520a63f98d6d9a1e4bd605", func := "loop.example/g00474/laws.FnProofsTold", spec := "fnProofsTold", unfollowed := true, recurses := true, apart := false, narrowed := true }
def FnProofsToldUptoSaid : Prop := fnProofsToldUptoRow.holds Try.pinned (OpenSpec.upto fnProofsToldSpec)

end Rows
end Go.Proofs.Ytfmlmdnaeonobaa
