/-
  No cell of these rows narrows 'for every input' (looked for: loops, veiled, ifaces, maps, wideKeys, modest, calm, conditions, laid).
  DERIVED. THE GIVEN ROWS OF THIS SEAT. 7 by the template 'for every input the law returns true; each argument reads behind the call as it read before'; 0 by the template 'total and deterministic' (their statements: YtohmifhnfbncgaaTotals.lean).
  GIVEN WITH THE SEED: the statements are not yours to turn. If you find one false, say at which input.
  Laid BY PROGRAM, IN A SANDBOX (cutbox-rows.mjs): the forced cells as the released guide's own fill.sh prints them over the translation c28158d5ddec8794… (all of the seat's roots in one cut). By AI agents, Wed Nov 11 2026. No macro, syntax, notation, axiom, sorry.
-/
import Derived.Test.YtohmifhnfbncgaaChecked
import GoSem.Claim
import GoSem.ClaimJoined
import GoSem.ClaimMapViews
import Derived.JoinedTies
import Derived.KernelRfl
namespace Go.Proofs.Ytohmifhnfbncgaa
/- THE CELL 'sum', in the pinned program and in every row, IS THE sha256 OF THE DUMP (.gsa) THAT YtohmifhnfbncgaaProg.lean LOADS. Nothing in Lean hashes anything: it is a label: what it is worth is what the hold of that sum in a sandbox is worth. -/
noncomputable def Try.pinned : Pinned := { name := "ytohmifhnfbncgaa", sum := "c28158d5ddec8794327af9f3b7c721b313ec5101a5845d98d4984ea752c4e869", checked := Try.checked }
namespace Rows
def none {H : Type} : Left H := { results := [], args := [] }

/-- 'laws.FnExactVouchFor': WHATEVER THE INPUT: true; the input reads as it did. -/
def fnExactVouchForSpec : ChangeSpec := { name := "fnExactVouchFor", fn := fun _ => fun
  | [d1, d2] => { results := [.lit (.bool true)], args := [d1, d2] }
  | _ => none }
def fnExactVouchForRow : OpenClaim := { program := "ytohmifhnfbncgaa", sum := "c28158d5ddec8794327af9f3b7c721b313ec5101a5845d98d4984ea752c4e869", func := "loop.example/g00474/laws.FnExactVouchFor", spec := "fnExactVouchFor", inPlace := ["internal/abi.NoEscape", "internal/bytealg.MakeNoZero"], apart := false }
def FnExactVouchForSaid : Prop := fnExactVouchForRow.holds Try.pinned (OpenSpec.ofChange fnExactVouchForSpec)

/-- ITS FALSE NEIGHBOUR: 'it returns false'. Refute it at one input. -/
def fnExactVouchForWrong : ChangeSpec := { name := "fnExactVouchFor", fn := fun _ => fun
  | [d1, d2] => { results := [.lit (.bool false)], args := [d1, d2] }
  | _ => none }
def FnExactVouchForWrongFalsely : Prop := fnExactVouchForRow.holds Try.pinned (OpenSpec.ofChange fnExactVouchForWrong)

/-- 'laws.FnExactVerified': WHATEVER THE INPUT: true; the input reads as it did. -/
def fnExactVerifiedSpec : ChangeSpec := { name := "fnExactVerified", fn := fun _ => fun
  | [d1, d2] => { results := [.lit (.bool true)], args := [d1, d2] }
  | _ => none }
def fnExactVerifiedRow : OpenClaim := { program := "ytohmifhnfbncgaa", sum := "c28158d5ddec8794327af9f3b7c721b313ec5101a5845d98d4984ea752c4e869", func := "loop.example/g00474/laws.FnExactVerified", spec := "fnExactVerified", inPlace := ["internal/abi.NoEscape", "internal/bytealg.MakeNoZero"], unfollowed := true, recurses := true, apart := false }
def FnExactVerifiedSaid : Prop := fnExactVerifiedRow.holds Try.pinned (OpenSpec.ofChange fnExactVerifiedSpec)

/-- ITS FALSE NEIGHBOUR: 'it returns false'. Refute it at one input. -/
def fnExactVerifiedWrong : ChangeSpec := { name := "fnExactVerified", fn := fun _ => fun
  | [d1, d2] => { results := [.lit (.bool false)], args := [d1, d2] }
  | _ => none }
def FnExactVerifiedWrongFalsely : Prop := fnExactVerifiedRow.holds Try.pinned (OpenSpec.ofChange fnExactVerifiedWrong)

/-- 'laws.FnExactWorldNew': WHATEVER THE INPUT: true; the input reads as it did. -/
def fnExactWorldNewSpec : ChangeSpec := { name := "fnExactWorldNew", fn := fun _ => fun
  | [d] => { results := [.lit (.bool true)], args := [d] }
  | _ => none }
def fnExactWorldNewRow : OpenClaim := { program := "ytohmifhnfbncgaa", sum := "c28158d5ddec8794327af9f3b7c721b313ec5101a5845d98d4984ea752c4e869", func := "loop.example/g00474/laws.FnExactWorldNew", spec := "fnExactWorldNew", unfollowed := true, recurses := true, apart := false }
def FnExactWorldNewSaid : Prop := fnExactWorldNewRow.holds Try.pinned (OpenSpec.ofChange fnExactWorldNewSpec)

/-- ITS FALSE NEIGHBOUR: 'it returns false'. Refute it at one input. -/
def fnExactWorldNewWrong : ChangeSpec := { name := "fnExactWorldNew", fn := fun _ => fun
  | [d] => { results := [.lit (.bool false)], args := [d] }
  | _ => none }
def FnExactWorldNewWrongFalsely : Prop := fnExactWorldNewRow.holds Try.pinned (OpenSpec.ofChange fnExactWorldNewWrong)

/-- 'laws.FnNumbersRound': WHATEVER THE INPUT: true; the input reads as it did. -/
def fnNumbersRoundSpec : ChangeSpec := { name := "fnNumbersRound", fn := fun _ => fun
  | [d] => { results := [.lit (.bool true)], args := [d] }
  | _ => none }
def fnNumbersRoundRow : OpenClaim := { program := "ytohmifhnfbncgaa", sum := "c28158d5ddec8794327af9f3b7c721b313ec5101a5845d98d4984ea752c4e869", func := "loop.example/g00474/laws.FnNumbersRound", spec := "fnNumbersRound", unfollowed := true, recurses := true, apart := false }
def FnNumbersRoundSaid : Prop := fnNumbersRoundRow.holds Try.pinned (OpenSpec.ofChange fnNumbersRoundSpec)

/-- ITS FALSE NEIGHBOUR: 'it returns false'. Refute it at one input. -/
def fnNumbersRoundWrong : ChangeSpec := { name := "fnNumbersRound", fn := fun _ => fun
  | [d] => { results := [.lit (.bool false)], args := [d] }
  | _ => none }
def FnNumbersRoundWrongFalsely : Prop := fnNumbersRoundRow.holds Try.pinned (OpenSpec.ofChange fnNumbersRoundWrong)

/-- 'laws.FnProofs': WHATEVER THE INPUT: true; the input reads as it did. -/
def fnProofsSpec : ChangeSpec := { name := "fnProofs", fn := fun _ => fun
  | [d] => { results := [.lit (.bool true)], args := [d] }
  | _ => none }
def fnProofsRow : OpenClaim := { program := "ytohmifhnfbncgaa", sum := "c28158d5ddec8794327af9f3b7c721b313ec5101a5845d98d4984ea752c4e869", func := "loop.example/g00474/laws.FnProofs", spec := "fnProofs", unfollowed := true, recurses := true, apart := false }
def FnProofsSaid : Prop := fnProofsRow.holds Try.pinned (OpenSpec.ofChange fnProofsSpec)

/-- ITS FALSE NEIGHBOUR: 'it returns false'. Refute it at one input. -/
def fnProofsWrong : ChangeSpec := { name := "fnProofs", fn := fun _ => fun
  | [d] => { results := [.lit (.bool false)], args := [d] }
  | _ => none }
def FnProofsWrongFalsely : Prop := fnProofsRow.holds Try.pinned (OpenSpec.ofChange fnProofsWrong)

/-- 'laws.FnProofsTold': WHATEVER THE INPUT: true; the input reads as it did. -/
def fnProofsToldSpec : ChangeSpec := { name := "fnProofsTold", fn := fun _ => fun
  | [d] => { results := [.lit (.bool true)], args := [d] }
  | _ => none }
def fnProofsToldRow : OpenClaim := { program := "ytohmifhnfbncgaa", sum := "c28158d5ddec8794327af9f3b7c721b313ec5101a5845d98d4984ea752c4e869", func := "loop.example/g00474/laws.FnProofsTold", spec := "fnProofsTold", unfollowed := true, recurses := true, apart := false }
def FnProofsToldSaid : Prop := fnProofsToldRow.holds Try.pinned (OpenSpec.ofChange fnProofsToldSpec)

/-- ITS FALSE NEIGHBOUR: 'it returns false'. Refute it at one input. -/
def fnProofsToldWrong : ChangeSpec := { name := "fnProofsTold", fn := fun _ => fun
  | [d] => { results := [.lit (.bool false)], args := [d] }
  | _ => none }
def FnProofsToldWrongFalsely : Prop := fnProofsToldRow.holds Try.pinned (OpenSpec.ofChange fnProofsToldWrong)

/-- 'laws.FnFounds': WHATEVER THE INPUT: true; the input reads as it did. -/
def fnFoundsSpec : ChangeSpec := { name := "fnFounds", fn := fun _ => fun
  | [d] => { results := [.lit (.bool true)], args := [d] }
  | _ => none }
def fnFoundsRow : OpenClaim := { program := "ytohmifhnfbncgaa", sum := "c28158d5ddec8794327af9f3b7c721b313ec5101a5845d98d4984ea752c4e869", func := "loop.example/g00474/laws.FnFounds", spec := "fnFounds", unfollowed := true, recurses := true, apart := false }
def FnFoundsSaid : Prop := fnFoundsRow.holds Try.pinned (OpenSpec.ofChange fnFoundsSpec)

/-- ITS FALSE NEIGHBOUR: 'it returns false'. Refute it at one input. -/
def fnFoundsWrong : ChangeSpec := { name := "fnFounds", fn := fun _ => fun
  | [d] => { results := [.lit (.bool false)], args := [d] }
  | _ => none }
def FnFoundsWrongFalsely : Prop := fnFoundsRow.holds Try.pinned (OpenSpec.ofChange fnFoundsWrong)

/- THE SECOND FORM. 'bulk': how many values and letters a reading holds, each counted each time it is reached (what is shared counts as often as it is met; a slice's spare places count too). A statement '..UptoSaid' is the law's where the arguments, and the package variables that the reading takes, are together of bulk at most 1048576: NARROWER than '..Said'. Prove '..Said' where nothing that the law and all that it calls make is longer than what came in: it says more and counts as full. Else prove '..UptoSaid'. A law counts once. -/
mutual
def uptoBulk {H : Type} : DataW H → Nat
  | .lit (.string bytes) => bytes.length + 1
  | .lit _ => 1
  | .nil => 1
  | .ptr d => uptoBulk d + 1
  | .slice elems spare => uptoBulkAll elems + uptoBulkAll spare + 1
  | .agg parts => uptoBulkAll parts + 1
  | .iface _ d => uptoBulk d + 1
  | .map entries => uptoBulkEntries entries + 1
  | .held _ => 1
def uptoBulkAll {H : Type} : List (DataW H) → Nat
  | [] => 0
  | d :: r => uptoBulk d + uptoBulkAll r
def uptoBulkEntries {H : Type} : List (Lit × DataW H) → Nat
  | [] => 0
  | x :: r => uptoBulkEntry x + uptoBulkEntries r
def uptoBulkEntry {H : Type} : Lit × DataW H → Nat
  | (.string bytes, d) => bytes.length + uptoBulk d + 1
  | (_, d) => uptoBulk d + 1
 end
def uptoSmall : (H : Type) → List (DataW H) → Bool := fun _ ds => decide (uptoBulkAll ds ≤ 1048576)
def OpenSpec.upto (s : _root_.Go.ChangeSpec) : _root_.Go.OpenSpec := { _root_.Go.OpenSpec.ofChange s with cond := some uptoSmall }

/-- 'laws.FnExactVouchFor', WHERE WHAT IT READS IS OF BULK AT MOST 1048576: true; the input reads as it did. -/
def fnExactVouchForUptoRow : OpenClaim := { program := "ytohmifhnfbncgaa", sum := "c28158d5ddec8794327af9f3b7c721b313ec5101a5845d98d4984ea752c4e869", func := "loop.example/g00474/laws.FnExactVouchFor", spec := "fnExactVouchFor", inPlace := ["internal/abi.NoEscape", "internal/bytealg.MakeNoZero"], apart := false, narrowed := true }
def FnExactVouchForUptoSaid : Prop := fnExactVouchForUptoRow.holds Try.pinned (OpenSpec.upto fnExactVouchForSpec)

/-- 'laws.FnExactVerified', WHERE WHAT IT READS IS OF BULK AT MOST 1048576: true; the input reads as it did. -/
def fnExactVerifiedUptoRow : OpenClaim := { program := "ytohmifhnfbncgaa", sum := "c28158d5ddec8794327af9f3b7c721b313ec5101a5845d98d4984ea752c4e869", func := "loop.example/g00474/laws.FnExactVerified", spec := "fnExactVerified", inPlace := ["internal/abi.NoEscape", "internal/bytealg.MakeNoZero"], unfollowed := true, recurses := true, apart := false, narrowed := true }
def FnExactVerifiedUptoSaid : Prop := fnExactVerifiedUptoRow.holds Try.pinned (OpenSpec.upto fnExactVerifiedSpec)

/-- 'laws.FnExactWorldNew', WHERE WHAT IT READS IS OF BULK AT MOST 1048576: true; the input reads as it did. -/
def fnExactWorldNewUptoRow : OpenClaim := { program := "ytohmifhnfbncgaa", sum := "c28158d5ddec8794327af9f3b7c721b313ec5101a5845d98d4984ea752c4e869", func := "loop.example/g00474/laws.FnExactWorldNew", spec := "fnExactWorldNew", unfollowed := true, recurses := true, apart := false, narrowed := true }
def FnExactWorldNewUptoSaid : Prop := fnExactWorldNewUptoRow.holds Try.pinned (OpenSpec.upto fnExactWorldNewSpec)

/-- 'laws.FnNumbersRound', WHERE WHAT IT READS IS OF BULK AT MOST 1048576: true; the input reads as it did. -/
def fnNumbersRoundUptoRow : OpenClaim := { program := "ytohmifhnfbncgaa", sum := "c28158d5ddec8794327af9f3b7c721b313ec5101a5845d98d4984ea752c4e869", func := "loop.example/g00474/laws.FnNumbersRound", spec := "fnNumbersRound", unfollowed := true, recurses := true, apart := false, narrowed := true }
def FnNumbersRoundUptoSaid : Prop := fnNumbersRoundUptoRow.holds Try.pinned (OpenSpec.upto fnNumbersRoundSpec)

/-- 'laws.FnProofs', WHERE WHAT IT READS IS OF BULK AT MOST 1048576: true; the input reads as it did. -/
def fnProofsUptoRow : OpenClaim := { program := "ytohmifhnfbncgaa", sum := "c28158d5ddec8794327af9f3b7c721b313ec5101a5845d98d4984ea752c4e869", func := "loop.example/g00474/laws.FnProofs", spec := "fnProofs", unfollowed := true, recurses := true, apart := false, narrowed := true }
def FnProofsUptoSaid : Prop := fnProofsUptoRow.holds Try.pinned (OpenSpec.upto fnProofsSpec)

/-- 'laws.FnProofsTold', WHERE WHAT IT READS IS OF BULK AT MOST 1048576: true; the input reads as it did. -/
def fnProofsToldUptoRow : OpenClaim := { program := "ytohmifhnfbncgaa", sum := "c28158d5ddec8794327af9f3b7c721b313ec5101a5845d98d4984ea752c4e869", func := "loop.example/g00474/laws.FnProofsTold", spec := "fnProofsTold", unfollowed := true, recurses := true, apart := false, narrowed := true }
def FnProofsToldUptoSaid : Prop := fnProofsToldUptoRow.holds Try.pinned (OpenSpec.upto fnProofsToldSpec)

/-- 'laws.FnFounds', WHERE WHAT IT READS IS OF BULK AT MOST 1048576: true; the input reads as it did. -/
def fnFoundsUptoRow : OpenClaim := { program := "ytohmifhnfbncgaa", sum := "c28158d5ddec8794327af9f3b7c721b313ec5101a5845d98d4984ea752c4e869", func := "loop.example/g00474/laws.FnFounds", spec := "fnFounds", unfollowed := true, recurses := true, apart := false, narrowed := true }
def FnFoundsUptoSaid : Prop := fnFoundsUptoRow.holds Try.pinned (OpenSpec.upto fnFoundsSpec)

end Rows
end Go.Proofs.Ytohmifhnfbncgaa
