/-
  No cell of these rows narrows 'for every input' (looked for: loops, veiled, ifaces, maps, wideKeys, modest, calm, conditions, laid).
  DERIVED. THE GIVEN ROWS OF THIS SEAT. 12 by the template 'for every input the law returns true; each argument reads behind the call as it read before'; 0 by the template 'total and deterministic' (their statements: YteadknjgpmnigaaTotals.lean).
  GIVEN WITH THE SEED: the statements are not yours to turn. If you find one false, say at which input.
  Laid BY PROGRAM, IN A SANDBOX (cutbox-rows.mjs): the forced cells as the released guide's own fill.sh prints them over the translation edceee6e3cfab51e… (all of the seat's roots in one cut). By AI agents, Wed Nov 11 2026. No macro, syntax, notation, axiom, sorry.
-/
import Derived.Test.YteadknjgpmnigaaChecked
import GoSem.Claim
import GoSem.ClaimJoined
import GoSem.ClaimMapViews
import Derived.JoinedTies
import Derived.KernelRfl
namespace Go.Proofs.Yteadknjgpmnigaa
/- THE CELL 'sum', in the pinned program and in every row, IS THE sha256 OF THE DUMP (.gsa) THAT YteadknjgpmnigaaProg.lean LOADS. Nothing in Lean hashes anything: it is a label: what it is worth is what the hold of that sum in a sandbox is worth. -/
noncomputable def Try.pinned : Pinned := { name := "yteadknjgpmnigaa", sum := "edceee6e3cfab51eb3ef37a931b9532b8db810ac1b01759d2914321431d2a3a7", checked := Try.checked }
namespace Rows
def none {H : Type} : Left H := { results := [], args := [] }

/-- 'laws.FnExactVouchedText': WHATEVER THE INPUT: true; the input reads as it did. -/
def fnExactVouchedTextSpec : ChangeSpec := { name := "fnExactVouchedText", fn := fun _ => fun
  | [d] => { results := [.lit (.bool true)], args := [d] }
  | _ => none }
def fnExactVouchedTextRow : OpenClaim := { program := "yteadknjgpmnigaa", sum := "edceee6e3cfab51eb3ef37a931b9532b8db810ac1b01759d2914321431d2a3a7", func := "loop.example/g00474/laws.FnExactVouchedText", spec := "fnExactVouchedText", unfollowed := true, recurses := true, apart := false }
def FnExactVouchedTextSaid : Prop := fnExactVouchedTextRow.holds Try.pinned (OpenSpec.ofChange fnExactVouchedTextSpec)

/-- ITS FALSE NEIGHBOUR: 'it returns false'. Refute it at one input. -/
def fnExactVouchedTextWrong : ChangeSpec := { name := "fnExactVouchedText", fn := fun _ => fun
  | [d] => { results := [.lit (.bool false)], args := [d] }
  | _ => none }
def FnExactVouchedTextWrongFalsely : Prop := fnExactVouchedTextRow.holds Try.pinned (OpenSpec.ofChange fnExactVouchedTextWrong)

/-- 'laws.FnExactProofOk': WHATEVER THE INPUT: true; the input reads as it did. -/
def fnExactProofOkSpec : ChangeSpec := { name := "fnExactProofOk", fn := fun _ => fun
  | [d1, d2, d3] => { results := [.lit (.bool true)], args := [d1, d2, d3] }
  | _ => none }
def fnExactProofOkRow : OpenClaim := { program := "yteadknjgpmnigaa", sum := "edceee6e3cfab51eb3ef37a931b9532b8db810ac1b01759d2914321431d2a3a7", func := "loop.example/g00474/laws.FnExactProofOk", spec := "fnExactProofOk", apart := false }
def FnExactProofOkSaid : Prop := fnExactProofOkRow.holds Try.pinned (OpenSpec.ofChange fnExactProofOkSpec)

/-- ITS FALSE NEIGHBOUR: 'it returns false'. Refute it at one input. -/
def fnExactProofOkWrong : ChangeSpec := { name := "fnExactProofOk", fn := fun _ => fun
  | [d1, d2, d3] => { results := [.lit (.bool false)], args := [d1, d2, d3] }
  | _ => none }
def FnExactProofOkWrongFalsely : Prop := fnExactProofOkRow.holds Try.pinned (OpenSpec.ofChange fnExactProofOkWrong)

/-- 'laws.FnExactCredsIn': WHATEVER THE INPUT: true; the input reads as it did. -/
def fnExactCredsInSpec : ChangeSpec := { name := "fnExactCredsIn", fn := fun _ => fun
  | [d] => { results := [.lit (.bool true)], args := [d] }
  | _ => none }
def fnExactCredsInRow : OpenClaim := { program := "yteadknjgpmnigaa", sum := "edceee6e3cfab51eb3ef37a931b9532b8db810ac1b01759d2914321431d2a3a7", func := "loop.example/g00474/laws.FnExactCredsIn", spec := "fnExactCredsIn", apart := false }
def FnExactCredsInSaid : Prop := fnExactCredsInRow.holds Try.pinned (OpenSpec.ofChange fnExactCredsInSpec)

/-- ITS FALSE NEIGHBOUR: 'it returns false'. Refute it at one input. -/
def fnExactCredsInWrong : ChangeSpec := { name := "fnExactCredsIn", fn := fun _ => fun
  | [d] => { results := [.lit (.bool false)], args := [d] }
  | _ => none }
def FnExactCredsInWrongFalsely : Prop := fnExactCredsInRow.holds Try.pinned (OpenSpec.ofChange fnExactCredsInWrong)

/-- 'laws.FnNumbersRound': WHATEVER THE INPUT: true; the input reads as it did. -/
def fnNumbersRoundSpec : ChangeSpec := { name := "fnNumbersRound", fn := fun _ => fun
  | [d] => { results := [.lit (.bool true)], args := [d] }
  | _ => none }
def fnNumbersRoundRow : OpenClaim := { program := "yteadknjgpmnigaa", sum := "edceee6e3cfab51eb3ef37a931b9532b8db810ac1b01759d2914321431d2a3a7", func := "loop.example/g00474/laws.FnNumbersRound", spec := "fnNumbersRound", unfollowed := true, recurses := true, apart := false }
def FnNumbersRoundSaid : Prop := fnNumbersRoundRow.holds Try.pinned (OpenSpec.ofChange fnNumbersRoundSpec)

/-- ITS FALSE NEIGHBOUR: 'it returns false'. Refute it at one input. -/
def fnNumbersRoundWrong : ChangeSpec := { name := "fnNumbersRound", fn := fun _ => fun
  | [d] => { results := [.lit (.bool false)], args := [d] }
  | _ => none }
def FnNumbersRoundWrongFalsely : Prop := fnNumbersRoundRow.holds Try.pinned (OpenSpec.ofChange fnNumbersRoundWrong)

/-- 'laws.FnProofs': WHATEVER THE INPUT: true; the input reads as it did. -/
def fnProofsSpec : ChangeSpec := { name := "fnProofs", fn := fun _ => fun
  | [d] => { results := [.lit (.bool true)], args := [d] }
  | _ => none }
def fnProofsRow : OpenClaim := { program := "yteadknjgpmnigaa", sum := "edceee6e3cfab51eb3ef37a931b9532b8db810ac1b01759d2914321431d2a3a7", func := "loop.example/g00474/laws.FnProofs", spec := "fnProofs", unfollowed := true, recurses := true, apart := false }
def FnProofsSaid : Prop := fnProofsRow.holds Try.pinned (OpenSpec.ofChange fnProofsSpec)

/-- ITS FALSE NEIGHBOUR: 'it returns false'. Refute it at one input. -/
def fnProofsWrong : ChangeSpec := { name := "fnProofs", fn := fun _ => fun
  | [d] => { results := [.lit (.bool false)], args := [d] }
  | _ => none }
def FnProofsWrongFalsely : Prop := fnProofsRow.holds Try.pinned (OpenSpec.ofChange fnProofsWrong)

/-- 'laws.FnExactHoldersOf': WHATEVER THE INPUT: true; the input reads as it did. -/
def fnExactHoldersOfSpec : ChangeSpec := { name := "fnExactHoldersOf", fn := fun _ => fun
  | [d1, d2] => { results := [.lit (.bool true)], args := [d1, d2] }
  | _ => none }
def fnExactHoldersOfRow : OpenClaim := { program := "yteadknjgpmnigaa", sum := "edceee6e3cfab51eb3ef37a931b9532b8db810ac1b01759d2914321431d2a3a7", func := "loop.example/g00474/laws.FnExactHoldersOf", spec := "fnExactHoldersOf", unfollowed := true, recurses := true, apart := false }
def FnExactHoldersOfSaid : Prop := fnExactHoldersOfRow.holds Try.pinned (OpenSpec.ofChange fnExactHoldersOfSpec)

/-- ITS FALSE NEIGHBOUR: 'it returns false'. Refute it at one input. -/
def fnExactHoldersOfWrong : ChangeSpec := { name := "fnExactHoldersOf", fn := fun _ => fun
  | [d1, d2] => { results := [.lit (.bool false)], args := [d1, d2] }
  | _ => none }
def FnExactHoldersOfWrongFalsely : Prop := fnExactHoldersOfRow.holds Try.pinned (OpenSpec.ofChange fnExactHoldersOfWrong)

/-- 'laws.FnExactRingOk': WHATEVER THE INPUT: true; the input reads as it did. -/
def fnExactRingOkSpec : ChangeSpec := { name := "fnExactRingOk", fn := fun _ => fun
  | [d] => { results := [.lit (.bool true)], args := [d] }
  | _ => none }
def fnExactRingOkRow : OpenClaim := { program := "yteadknjgpmnigaa", sum := "edceee6e3cfab51eb3ef37a931b9532b8db810ac1b01759d2914321431d2a3a7", func := "loop.example/g00474/laws.FnExactRingOk", spec := "fnExactRingOk", unfollowed := true, recurses := true, apart := false }
def FnExactRingOkSaid : Prop := fnExactRingOkRow.holds Try.pinned (OpenSpec.ofChange fnExactRingOkSpec)

/-- ITS FALSE NEIGHBOUR: 'it returns false'. Refute it at one input. -/
def fnExactRingOkWrong : ChangeSpec := { name := "fnExactRingOk", fn := fun _ => fun
  | [d] => { results := [.lit (.bool false)], args := [d] }
  | _ => none }
def FnExactRingOkWrongFalsely : Prop := fnExactRingOkRow.holds Try.pinned (OpenSpec.ofChange fnExactRingOkWrong)

/-- 'laws.FnExactAnswerOk': WHATEVER THE INPUT: true; the input reads as it did. -/
def fnExactAnswerOkSpec : ChangeSpec := { name := "fnExactAnswerOk", fn := fun _ => fun
  | [d1, d2, d3, d4] => { results := [.lit (.bool true)], args := [d1, d2, d3, d4] }
  | _ => none }
def fnExactAnswerOkRow : OpenClaim := { program := "yteadknjgpmnigaa", sum := "edceee6e3cfab51eb3ef37a931b9532b8db810ac1b01759d2914321431d2a3a7", func := "loop.example/g00474/laws.FnExactAnswerOk", spec := "fnExactAnswerOk", apart := false }
def FnExactAnswerOkSaid : Prop := fnExactAnswerOkRow.holds Try.pinned (OpenSpec.ofChange fnExactAnswerOkSpec)

/-- ITS FALSE NEIGHBOUR: 'it returns false'. Refute it at one input. -/
def fnExactAnswerOkWrong : ChangeSpec := { name := "fnExactAnswerOk", fn := fun _ => fun
  | [d1, d2, d3, d4] => { results := [.lit (.bool false)], args := [d1, d2, d3, d4] }
  | _ => none }
def FnExactAnswerOkWrongFalsely : Prop := fnExactAnswerOkRow.holds Try.pinned (OpenSpec.ofChange fnExactAnswerOkWrong)

/-- 'laws.FnExactReadVouched': WHATEVER THE INPUT: true; the input reads as it did. -/
def fnExactReadVouchedSpec : ChangeSpec := { name := "fnExactReadVouched", fn := fun _ => fun
  | [d] => { results := [.lit (.bool true)], args := [d] }
  | _ => none }
def fnExactReadVouchedRow : OpenClaim := { program := "yteadknjgpmnigaa", sum := "edceee6e3cfab51eb3ef37a931b9532b8db810ac1b01759d2914321431d2a3a7", func := "loop.example/g00474/laws.FnExactReadVouched", spec := "fnExactReadVouched", unfollowed := true, recurses := true, apart := false }
def FnExactReadVouchedSaid : Prop := fnExactReadVouchedRow.holds Try.pinned (OpenSpec.ofChange fnExactReadVouchedSpec)

/-- ITS FALSE NEIGHBOUR: 'it returns false'. Refute it at one input. -/
def fnExactReadVouchedWrong : ChangeSpec := { name := "fnExactReadVouched", fn := fun _ => fun
  | [d] => { results := [.lit (.bool false)], args := [d] }
  | _ => none }
def FnExactReadVouchedWrongFalsely : Prop := fnExactReadVouchedRow.holds Try.pinned (OpenSpec.ofChange fnExactReadVouchedWrong)

/-- 'laws.FnExactProofOf': WHATEVER THE INPUT: true; the input reads as it did. -/
def fnExactProofOfSpec : ChangeSpec := { name := "fnExactProofOf", fn := fun _ => fun
  | [d1, d2, d3] => { results := [.lit (.bool true)], args := [d1, d2, d3] }
  | _ => none }
def fnExactProofOfRow : OpenClaim := { program := "yteadknjgpmnigaa", sum := "edceee6e3cfab51eb3ef37a931b9532b8db810ac1b01759d2914321431d2a3a7", func := "loop.example/g00474/laws.FnExactProofOf", spec := "fnExactProofOf", unfollowed := true, recurses := true, apart := false }
def FnExactProofOfSaid : Prop := fnExactProofOfRow.holds Try.pinned (OpenSpec.ofChange fnExactProofOfSpec)

/-- ITS FALSE NEIGHBOUR: 'it returns false'. Refute it at one input. -/
def fnExactProofOfWrong : ChangeSpec := { name := "fnExactProofOf", fn := fun _ => fun
  | [d1, d2, d3] => { results := [.lit (.bool false)], args := [d1, d2, d3] }
  | _ => none }
def FnExactProofOfWrongFalsely : Prop := fnExactProofOfRow.holds Try.pinned (OpenSpec.ofChange fnExactProofOfWrong)

/-- 'laws.FnExactSettle': WHATEVER THE INPUT: true; the input reads as it did. -/
def fnExactSettleSpec : ChangeSpec := { name := "fnExactSettle", fn := fun _ => fun
  | [d1, d2] => { results := [.lit (.bool true)], args := [d1, d2] }
  | _ => none }
def fnExactSettleRow : OpenClaim := { program := "yteadknjgpmnigaa", sum := "edceee6e3cfab51eb3ef37a931b9532b8db810ac1b01759d2914321431d2a3a7", func := "loop.example/g00474/laws.FnExactSettle", spec := "fnExactSettle", unfollowed := true, recurses := true, apart := false }
def FnExactSettleSaid : Prop := fnExactSettleRow.holds Try.pinned (OpenSpec.ofChange fnExactSettleSpec)

/-- ITS FALSE NEIGHBOUR: 'it returns false'. Refute it at one input. -/
def fnExactSettleWrong : ChangeSpec := { name := "fnExactSettle", fn := fun _ => fun
  | [d1, d2] => { results := [.lit (.bool false)], args := [d1, d2] }
  | _ => none }
def FnExactSettleWrongFalsely : Prop := fnExactSettleRow.holds Try.pinned (OpenSpec.ofChange fnExactSettleWrong)

/-- 'laws.FnExactRingNew': WHATEVER THE INPUT: true; the input reads as it did. -/
def fnExactRingNewSpec : ChangeSpec := { name := "fnExactRingNew", fn := fun _ => fun
  | [d] => { results := [.lit (.bool true)], args := [d] }
  | _ => none }
def fnExactRingNewRow : OpenClaim := { program := "yteadknjgpmnigaa", sum := "edceee6e3cfab51eb3ef37a931b9532b8db810ac1b01759d2914321431d2a3a7", func := "loop.example/g00474/laws.FnExactRingNew", spec := "fnExactRingNew", unfollowed := true, recurses := true, apart := false }
def FnExactRingNewSaid : Prop := fnExactRingNewRow.holds Try.pinned (OpenSpec.ofChange fnExactRingNewSpec)

/-- ITS FALSE NEIGHBOUR: 'it returns false'. Refute it at one input. -/
def fnExactRingNewWrong : ChangeSpec := { name := "fnExactRingNew", fn := fun _ => fun
  | [d] => { results := [.lit (.bool false)], args := [d] }
  | _ => none }
def FnExactRingNewWrongFalsely : Prop := fnExactRingNewRow.holds Try.pinned (OpenSpec.ofChange fnExactRingNewWrong)

/- THE SECOND FORM. 'bulk': how many values and letters a reading holds, each counted each time it is reached (what is shared counts as often as it is met; a slice's spare places count too). A statement '..UptoSaid' is the law's where the arguments, and the package variables that the reading takes, are together of bulk at most 1048576: NARROWER than '..Said'. Prove '..Said' where nothing that the law and all that it calls make is longer than what came in: it says more and counts as full. Else prove '..UptoSaid'. A law counts once. -/
mutual
def uptoBulk {H : Type} : DataW H → Nat
  | .lit (.string bytes) => bytes.length + 1
  | .lit _ => 1
  | .nil => 1
  | .ptr d => uptoBulk d + 1
  | .slice elems spare => uptoBulkAll elems + uptoBulkAll spare + 1
  | .agg parts => uptoBulkAll parts + 1
  | .iface _ d => uptoBulk d + 1
  | .map entries => uptoBulkEntries entries + 1
  | .held _ => 1
def uptoBulkAll {H : Type} : List (DataW H) → Nat
  | [] => 0
  | d :: r => uptoBulk d + uptoBulkAll r
def uptoBulkEntries {H : Type} : List (Lit × DataW H) → Nat
  | [] => 0
  | x :: r => uptoBulkEntry x + uptoBulkEntries r
def uptoBulkEntry {H : Type} : Lit × DataW H → Nat
  | (.string bytes, d) => bytes.length + uptoBulk d + 1
  | (_, d) => uptoBulk d + 1
 end
def uptoSmall : (H : Type) → List (DataW H) → Bool := fun _ ds => decide (uptoBulkAll ds ≤ 1048576)
def OpenSpec.upto (s : _root_.Go.ChangeSpec) : _root_.Go.OpenSpec := { _root_.Go.OpenSpec.ofChange s with cond := some uptoSmall }

/-- 'laws.FnExactVouchedText', WHERE WHAT IT READS IS OF BULK AT MOST 1048576: true; the input reads as it did. -/
def fnExactVouchedTextUptoRow : OpenClaim := { program := "yteadknjgpmnigaa", sum := "edceee6e3cfab51eb3ef37a931b9532b8db810ac1b01759d2914321431d2a3a7", func := "loop.example/g00474/laws.FnExactVouchedText", spec := "fnExactVouchedText", unfollowed := true, recurses := true, apart := false, narrowed := true }
def FnExactVouchedTextUptoSaid : Prop := fnExactVouchedTextUptoRow.holds Try.pinned (OpenSpec.upto fnExactVouchedTextSpec)

/-- 'laws.FnExactProofOk', WHERE WHAT IT READS IS OF BULK AT MOST 1048576: true; the input reads as it did. -/
def fnExactProofOkUptoRow : OpenClaim := { program := "yteadknjgpmnigaa", sum := "edceee6e3cfab51eb3ef37a931b9532b8db810ac1b01759d2914321431d2a3a7", func := "loop.example/g00474/laws.FnExactProofOk", spec := "fnExactProofOk", apart := false, narrowed := true }
def FnExactProofOkUptoSaid : Prop := fnExactProofOkUptoRow.holds Try.pinned (OpenSpec.upto fnExactProofOkSpec)

/-- 'laws.FnExactCredsIn', WHERE WHAT IT READS IS OF BULK AT MOST 1048576: true; the input reads as it did. -/
def fnExactCredsInUptoRow : OpenClaim := { program := "yteadknjgpmnigaa", sum := "edceee6e3cfab51eb3ef37a931b9532b8db810ac1b01759d2914321431d2a3a7", func := "loop.example/g00474/laws.FnExactCredsIn", spec := "fnExactCredsIn", apart := false, narrowed := true }
def FnExactCredsInUptoSaid : Prop := fnExactCredsInUptoRow.holds Try.pinned (OpenSpec.upto fnExactCredsInSpec)

/-- 'laws.FnNumbersRound', WHERE WHAT IT READS IS OF BULK AT MOST 1048576: true; the input reads as it did. -/
def fnNumbersRoundUptoRow : OpenClaim := { program := "yteadknjgpmnigaa", sum := "edceee6e3cfab51eb3ef37a931b9532b8db810ac1b01759d2914321431d2a3a7", func := "loop.example/g00474/laws.FnNumbersRound", spec := "fnNumbersRound", unfollowed := true, recurses := true, apart := false, narrowed := true }
def FnNumbersRoundUptoSaid : Prop := fnNumbersRoundUptoRow.holds Try.pinned (OpenSpec.upto fnNumbersRoundSpec)

/-- 'laws.FnProofs', WHERE WHAT IT READS IS OF BULK AT MOST 1048576: true; the input reads as it did. -/
def fnProofsUptoRow : OpenClaim := { program := "yteadknjgpmnigaa", sum := "edceee6e3cfab51eb3ef37a931b9532b8db810ac1b01759d2914321431d2a3a7", func := "loop.example/g00474/laws.FnProofs", spec := "fnProofs", unfollowed := true, recurses := true, apart := false, narrowed := true }
def FnProofsUptoSaid : Prop := fnProofsUptoRow.holds Try.pinned (OpenSpec.upto fnProofsSpec)

/-- 'laws.FnExactHoldersOf', WHERE WHAT IT READS IS OF BULK AT MOST 1048576: true; the input reads as it did. -/
def fnExactHoldersOfUptoRow : OpenClaim := { program := "yteadknjgpmnigaa", sum := "edceee6e3cfab51eb3ef37a931b9532b8db810ac1b01759d2914321431d2a3a7", func := "loop.example/g00474/laws.FnExactHoldersOf", spec := "fnExactHoldersOf", unfollowed := true, recurses := true, apart := false, narrowed := true }
def FnExactHoldersOfUptoSaid : Prop := fnExactHoldersOfUptoRow.holds Try.pinned (OpenSpec.upto fnExactHoldersOfSpec)

/-- 'laws.FnExactRingOk', WHERE WHAT IT READS IS OF BULK AT MOST 1048576: true; the input reads as it did. -/
def fnExactRingOkUptoRow : OpenClaim := { program := "yteadknjgpmnigaa", sum := "edceee6e3cfab51eb3ef37a931b9532b8db810ac1b01759d2914321431d2a3a7", func := "loop.example/g00474/laws.FnExactRingOk", spec := "fnExactRingOk", unfollowed := true, recurses := true, apart := false, narrowed := true }
def FnExactRingOkUptoSaid : Prop := fnExactRingOkUptoRow.holds Try.pinned (OpenSpec.upto fnExactRingOkSpec)

/-- 'laws.FnExactAnswerOk', WHERE WHAT IT READS IS OF BULK AT MOST 1048576: true; the input reads as it did. -/
def fnExactAnswerOkUptoRow : OpenClaim := { program := "yteadknjgpmnigaa", sum := "edceee6e3cfab51eb3ef37a931b9532b8db810ac1b01759d2914321431d2a3a7", func := "loop.example/g00474/laws.FnExactAnswerOk", spec := "fnExactAnswerOk", apart := false, narrowed := true }
def FnExactAnswerOkUptoSaid : Prop := fnExactAnswerOkUptoRow.holds Try.pinned (OpenSpec.upto fnExactAnswerOkSpec)

/-- 'laws.FnExactReadVouched', WHERE WHAT IT READS IS OF BULK AT MOST 1048576: true; the input reads as it did. -/
def fnExactReadVouchedUptoRow : OpenClaim := { program := "yteadknjgpmnigaa", sum := "edceee6e3cfab51eb3ef37a931b9532b8db810ac1b01759d2914321431d2a3a7", func := "loop.example/g00474/laws.FnExactReadVouched", spec := "fnExactReadVouched", unfollowed := true, recurses := true, apart := false, narrowed := true }
def FnExactReadVouchedUptoSaid : Prop := fnExactReadVouchedUptoRow.holds Try.pinned (OpenSpec.upto fnExactReadVouchedSpec)

/-- 'laws.FnExactProofOf', WHERE WHAT IT READS IS OF BULK AT MOST 1048576: true; the input reads as it did. -/
def fnExactProofOfUptoRow : OpenClaim := { program := "yteadknjgpmnigaa", sum := "edceee6e3cfab51eb3ef37a931b9532b8db810ac1b01759d2914321431d2a3a7", func := "loop.example/g00474/laws.FnExactProofOf", spec := "fnExactProofOf", unfollowed := true, recurses := true, apart := false, narrowed := true }
def FnExactProofOfUptoSaid : Prop := fnExactProofOfUptoRow.holds Try.pinned (OpenSpec.upto fnExactProofOfSpec)

/-- 'laws.FnExactSettle', WHERE WHAT IT READS IS OF BULK AT MOST 1048576: true; the input reads as it did. -/
def fnExactSettleUptoRow : OpenClaim := { program := "yteadknjgpmnigaa", sum := "edceee6e3cfab51eb3ef37a931b9532b8db810ac1b01759d2914321431d2a3a7", func := "loop.example/g00474/laws.FnExactSettle", spec := "fnExactSettle", unfollowed := true, recurses := true, apart := false, narrowed := true }
def FnExactSettleUptoSaid : Prop := fnExactSettleUptoRow.holds Try.pinned (OpenSpec.upto fnExactSettleSpec)

/-- 'laws.FnExactRingNew', WHERE WHAT IT READS IS OF BULK AT MOST 1048576: true; the input reads as it did. -/
def fnExactRingNewUptoRow : OpenClaim := { program := "yteadknjgpmnigaa", sum := "edceee6e3cfab51eb3ef37a931b9532b8db810ac1b01759d2914321431d2a3a7", func := "loop.example/g00474/laws.FnExactRingNew", spec := "fnExactRingNew", unfollowed := true, recurses := true, apart := false, narrowed := true }
def FnExactRingNewUptoSaid : Prop := fnExactRingNewUptoRow.holds Try.pinned (OpenSpec.upto fnExactRingNewSpec)

end Rows
end Go.Proofs.Yteadknjgpmnigaa
