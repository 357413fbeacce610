/-
  No cell of these rows narrows 'for every input' (looked for: loops, veiled, ifaces, maps, wideKeys, modest, calm, conditions, laid).
  DERIVED. THE GIVEN ROWS OF THIS SEAT. 10 by the template 'for every input the law returns true; each argument reads behind the call as it read before'; 0 by the template 'total and deterministic' (their statements: YtcmlapepofgkpaaTotals.lean).
  GIVEN WITH THE SEED: the statements are not yours to turn. If you find one false, say at which input.
  Laid BY PROGRAM, IN A SANDBOX (cutbox-rows.mjs): the forced cells as the released guide's own fill.sh prints them over the translation 5b7b68c2336975fc… (all of the seat's roots in one cut). By AI agents, Wed Nov 11 2026. No macro, syntax, notation, axiom, sorry.
-/
import Derived.Test.YtcmlapepofgkpaaChecked
import GoSem.Claim
import GoSem.ClaimJoined
import GoSem.ClaimMapViews
import Derived.JoinedTies
import Derived.KernelRfl
namespace Go.Proofs.Ytcmlapepofgkpaa
/- THE CELL 'sum', in the pinned program and in every row, IS THE sha256 OF THE DUMP (.gsa) THAT YtcmlapepofgkpaaProg.lean LOADS. Nothing in Lean hashes anything: it is a label: what it is worth is what the hold of that sum in a sandbox is worth. -/
noncomputable def Try.pinned : Pinned := { name := "ytcmlapepofgkpaa", sum := "5b7b68c2336975fca8e0cc6239efe8f322a191ab74a15ba49e55ad108d9575e4", checked := Try.checked }
namespace Rows
def none {H : Type} : Left H := { results := [], args := [] }

/-- 'laws.FnExactCredsIn': WHATEVER THE INPUT: true; the input reads as it did. -/
def fnExactCredsInSpec : ChangeSpec := { name := "fnExactCredsIn", fn := fun _ => fun
  | [d] => { results := [.lit (.bool true)], args := [d] }
  | _ => none }
def fnExactCredsInRow : OpenClaim := { program := "ytcmlapepofgkpaa", sum := "5b7b68c2336975fca8e0cc6239efe8f322a191ab74a15ba49e55ad108d9575e4", func := "loop.example/g00474/laws.FnExactCredsIn", spec := "fnExactCredsIn", apart := false }
def FnExactCredsInSaid : Prop := fnExactCredsInRow.holds Try.pinned (OpenSpec.ofChange fnExactCredsInSpec)

/-- ITS FALSE NEIGHBOUR: 'it returns false'. Refute it at one input. -/
def fnExactCredsInWrong : ChangeSpec := { name := "fnExactCredsIn", fn := fun _ => fun
  | [d] => { results := [.lit (.bool false)], args := [d] }
  | _ => none }
def FnExactCredsInWrongFalsely : Prop := fnExactCredsInRow.holds Try.pinned (OpenSpec.ofChange fnExactCredsInWrong)

/-- 'laws.FnExactHoldersOf': WHATEVER THE INPUT: true; the input reads as it did. -/
def fnExactHoldersOfSpec : ChangeSpec := { name := "fnExactHoldersOf", fn := fun _ => fun
  | [d1, d2] => { results := [.lit (.bool true)], args := [d1, d2] }
  | _ => none }
def fnExactHoldersOfRow : OpenClaim := { program := "ytcmlapepofgkpaa", sum := "5b7b68c2336975fca8e0cc6239efe8f322a191ab74a15ba49e55ad108d9575e4", func := "loop.example/g00474/laws.FnExactHoldersOf", spec := "fnExactHoldersOf", unfollowed := true, recurses := true, apart := false }
def FnExactHoldersOfSaid : Prop := fnExactHoldersOfRow.holds Try.pinned (OpenSpec.ofChange fnExactHoldersOfSpec)

/-- ITS FALSE NEIGHBOUR: 'it returns false'. Refute it at one input. -/
def fnExactHoldersOfWrong : ChangeSpec := { name := "fnExactHoldersOf", fn := fun _ => fun
  | [d1, d2] => { results := [.lit (.bool false)], args := [d1, d2] }
  | _ => none }
def FnExactHoldersOfWrongFalsely : Prop := fnExactHoldersOfRow.holds Try.pinned (OpenSpec.ofChange fnExactHoldersOfWrong)

/-- 'laws.FnExactVouchedText': WHATEVER THE INPUT: true; the input reads as it did. -/
def fnExactVouchedTextSpec : ChangeSpec := { name := "fnExactVouchedText", fn := fun _ => fun
  | [d] => { results := [.lit (.bool true)], args := [d] }
  | _ => none }
def fnExactVouchedTextRow : OpenClaim := { program := "ytcmlapepofgkpaa", sum := "5b7b68c2336975fca8e0cc6239efe8f322a191ab74a15ba49e55ad108d9575e4", func := "loop.example/g00474/laws.FnExactVouchedText", spec := "fnExactVouchedText", unfollowed := true, recurses := true, apart := false }
def FnExactVouchedTextSaid : Prop := fnExactVouchedTextRow.holds Try.pinned (OpenSpec.ofChange fnExactVouchedTextSpec)

/-- ITS FALSE NEIGHBOUR: 'it returns false'. Refute it at one input. -/
def fnExactVouchedTextWrong : ChangeSpec := { name := "fnExactVouchedText", fn := fun _ => fun
  | [d] => { results := [.lit (.bool false)], args := [d] }
  | _ => none }
def FnExactVouchedTextWrongFalsely : Prop := fnExactVouchedTextRow.holds Try.pinned (OpenSpec.ofChange fnExactVouchedTextWrong)

/-- 'laws.FnExactReadVouched': WHATEVER THE INPUT: true; the input reads as it did. -/
def fnExactReadVouchedSpec : ChangeSpec := { name := "fnExactReadVouched", fn := fun _ => fun
  | [d] => { results := [.lit (.bool true)], args := [d] }
  | _ => none }
def fnExactReadVouchedRow : OpenClaim := { program := "ytcmlapepofgkpaa", sum := "5b7b68c2336975fca8e0cc6239efe8f322a191ab74a15ba49e55ad108d9575e4", func := "loop.example/g00474/laws.FnExactReadVouched", spec := "fnExactReadVouched", unfollowed := true, recurses := true, apart := false }
def FnExactReadVouchedSaid : Prop := fnExactReadVouchedRow.holds Try.pinned (OpenSpec.ofChange fnExactReadVouchedSpec)

/-- ITS FALSE NEIGHBOUR: 'it returns false'. Refute it at one input. -/
def fnExactReadVouchedWrong : ChangeSpec := { name := "fnExactReadVouched", fn := fun _ => fun
  | [d] => { results := [.lit (.bool false)], args := [d] }
  | _ => none }
def FnExactReadVouchedWrongFalsely : Prop := fnExactReadVouchedRow.holds Try.pinned (OpenSpec.ofChange fnExactReadVouchedWrong)

/-- 'laws.FnExactProofOf': WHATEVER THE INPUT: true; the input reads as it did. -/
def fnExactProofOfSpec : ChangeSpec := { name := "fnExactProofOf", fn := fun _ => fun
  | [d1, d2, d3] => { results := [.lit (.bool true)], args := [d1, d2, d3] }
  | _ => none }
def fnExactProofOfRow : OpenClaim := { program := "ytcmlapepofgkpaa", sum := "5b7b68c2336975fca8e0cc6239efe8f322a191ab74a15ba49e55ad108d9575e4", func := "loop.example/g00474/laws.FnExactProofOf", spec := "fnExactProofOf", unfollowed := true, recurses := true, apart := false }
def FnExactProofOfSaid : Prop := fnExactProofOfRow.holds Try.pinned (OpenSpec.ofChange fnExactProofOfSpec)

/-- ITS FALSE NEIGHBOUR: 'it returns false'. Refute it at one input. -/
def fnExactProofOfWrong : ChangeSpec := { name := "fnExactProofOf", fn := fun _ => fun
  | [d1, d2, d3] => { results := [.lit (.bool false)], args := [d1, d2, d3] }
  | _ => none }
def FnExactProofOfWrongFalsely : Prop := fnExactProofOfRow.holds Try.pinned (OpenSpec.ofChange fnExactProofOfWrong)

/-- 'laws.FnExactSettle': WHATEVER THE INPUT: true; the input reads as it did. -/
def fnExactSettleSpec : ChangeSpec := { name := "fnExactSettle", fn := fun _ => fun
  | [d1, d2] => { results := [.lit (.bool true)], args := [d1, d2] }
  | _ => none }
def fnExactSettleRow : OpenClaim := { program := "ytcmlapepofgkpaa", sum := "5b7b68c2336975fca8e0cc6239efe8f322a191ab74a15ba49e55ad108d9575e4", func := "loop.example/g00474/laws.FnExactSettle", spec := "fnExactSettle", unfollowed := true, recurses := true, apart := false }
def FnExactSettleSaid : Prop := fnExactSettleRow.holds Try.pinned (OpenSpec.ofChange fnExactSettleSpec)

/-- ITS FALSE NEIGHBOUR: 'it returns false'. Refute it at one input. -/
def fnExactSettleWrong : ChangeSpec := { name := "fnExactSettle", fn := fun _ => fun
  | [d1, d2] => { results := [.lit (.bool false)], args := [d1, d2] }
  | _ => none }
def FnExactSettleWrongFalsely : Prop := fnExactSettleRow.holds Try.pinned (OpenSpec.ofChange fnExactSettleWrong)

/-- 'laws.FnExactRingNew': WHATEVER THE INPUT: true; the input reads as it did. -/
def fnExactRingNewSpec : ChangeSpec := { name := "fnExactRingNew", fn := fun _ => fun
  | [d] => { results := [.lit (.bool true)], args := [d] }
  | _ => none }
def fnExactRingNewRow : OpenClaim := { program := "ytcmlapepofgkpaa", sum := "5b7b68c2336975fca8e0cc6239efe8f322a191ab74a15ba49e55ad108d9575e4", func := "loop.example/g00474/laws.FnExactRingNew", spec := "fnExactRingNew", unfollowed := true, recurses := true, apart := false }
def FnExactRingNewSaid : Prop := fnExactRingNewRow.holds Try.pinned (OpenSpec.ofChange fnExactRingNewSpec)

/-- ITS FALSE NEIGHBOUR: 'it returns false'. Refute it at one input. -/
def fnExactRingNewWrong : ChangeSpec := { name := "fnExactRingNew", fn := fun _ => fun
  | [d] => { results := [.lit (.bool false)], args := [d] }
  | _ => none }
def FnExactRingNewWrongFalsely : Prop := fnExactRingNewRow.holds Try.pinned (OpenSpec.ofChange fnExactRingNewWrong)

/-- 'laws.FnExactHereOf': WHATEVER THE INPUT: true; the input reads as it did. -/
def fnExactHereOfSpec : ChangeSpec := { name := "fnExactHereOf", fn := fun _ => fun
  | [d] => { results := [.lit (.bool true)], args := [d] }
  | _ => none }
def fnExactHereOfRow : OpenClaim := { program := "ytcmlapepofgkpaa", sum := "5b7b68c2336975fca8e0cc6239efe8f322a191ab74a15ba49e55ad108d9575e4", func := "loop.example/g00474/laws.FnExactHereOf", spec := "fnExactHereOf", recurses := true, apart := false }
def FnExactHereOfSaid : Prop := fnExactHereOfRow.holds Try.pinned (OpenSpec.ofChange fnExactHereOfSpec)

/-- ITS FALSE NEIGHBOUR: 'it returns false'. Refute it at one input. -/
def fnExactHereOfWrong : ChangeSpec := { name := "fnExactHereOf", fn := fun _ => fun
  | [d] => { results := [.lit (.bool false)], args := [d] }
  | _ => none }
def FnExactHereOfWrongFalsely : Prop := fnExactHereOfRow.holds Try.pinned (OpenSpec.ofChange fnExactHereOfWrong)

/-- 'laws.FnExactPut': WHATEVER THE INPUT: true; the input reads as it did. -/
def fnExactPutSpec : ChangeSpec := { name := "fnExactPut", fn := fun _ => fun
  | [d1, d2, d3] => { results := [.lit (.bool true)], args := [d1, d2, d3] }
  | _ => none }
def fnExactPutRow : OpenClaim := { program := "ytcmlapepofgkpaa", sum := "5b7b68c2336975fca8e0cc6239efe8f322a191ab74a15ba49e55ad108d9575e4", func := "loop.example/g00474/laws.FnExactPut", spec := "fnExactPut", inPlace := ["slices.overlaps[loop.example/g00474/impl.Shelf]", "internal/bytealg.abigen_runtime_cmpstring"], unfollowed := true, recurses := true, apart := false }
def FnExactPutSaid : Prop := fnExactPutRow.holds Try.pinned (OpenSpec.ofChange fnExactPutSpec)

/-- ITS FALSE NEIGHBOUR: 'it returns false'. Refute it at one input. -/
def fnExactPutWrong : ChangeSpec := { name := "fnExactPut", fn := fun _ => fun
  | [d1, d2, d3] => { results := [.lit (.bool false)], args := [d1, d2, d3] }
  | _ => none }
def FnExactPutWrongFalsely : Prop := fnExactPutRow.holds Try.pinned (OpenSpec.ofChange fnExactPutWrong)

/-- 'laws.FnExactWantsOf': WHATEVER THE INPUT: true; the input reads as it did. -/
def fnExactWantsOfSpec : ChangeSpec := { name := "fnExactWantsOf", fn := fun _ => fun
  | [d1, d2] => { results := [.lit (.bool true)], args := [d1, d2] }
  | _ => none }
def fnExactWantsOfRow : OpenClaim := { program := "ytcmlapepofgkpaa", sum := "5b7b68c2336975fca8e0cc6239efe8f322a191ab74a15ba49e55ad108d9575e4", func := "loop.example/g00474/laws.FnExactWantsOf", spec := "fnExactWantsOf", unfollowed := true, recurses := true, apart := false }
def FnExactWantsOfSaid : Prop := fnExactWantsOfRow.holds Try.pinned (OpenSpec.ofChange fnExactWantsOfSpec)

/-- ITS FALSE NEIGHBOUR: 'it returns false'. Refute it at one input. -/
def fnExactWantsOfWrong : ChangeSpec := { name := "fnExactWantsOf", fn := fun _ => fun
  | [d1, d2] => { results := [.lit (.bool false)], args := [d1, d2] }
  | _ => none }
def FnExactWantsOfWrongFalsely : Prop := fnExactWantsOfRow.holds Try.pinned (OpenSpec.ofChange fnExactWantsOfWrong)

/- THE SECOND FORM. 'bulk': how many values and letters a reading holds, each counted each time it is reached (what is shared counts as often as it is met; a slice's spare places count too). A statement '..UptoSaid' is the law's where the arguments, and the package variables that the reading takes, are together of bulk at most 1048576: NARROWER than '..Said'. Prove '..Said' where nothing that the law and all that it calls make is longer than what came in: it says more and counts as full. Else prove '..UptoSaid'. A law counts once. -/
mutual
def uptoBulk {H : Type} : DataW H → Nat
  | .lit (.string bytes) => bytes.length + 1
  | .lit _ => 1
  | .nil => 1
  | .ptr d => uptoBulk d + 1
  | .slice elems spare => uptoBulkAll elems + uptoBulkAll spare + 1
  | .agg parts => uptoBulkAll parts + 1
  | .iface _ d => uptoBulk d + 1
  | .map entries => uptoBulkEntries entries + 1
  | .held _ => 1
def uptoBulkAll {H : Type} : List (DataW H) → Nat
  | [] => 0
  | d :: r => uptoBulk d + uptoBulkAll r
def uptoBulkEntries {H : Type} : List (Lit × DataW H) → Nat
  | [] => 0
  | x :: r => uptoBulkEntry x + uptoBulkEntries r
def uptoBulkEntry {H : Type} : Lit × DataW H → Nat
  | (.string bytes, d) => bytes.length + uptoBulk d + 1
  | (_, d) => uptoBulk d + 1
 end
def uptoSmall : (H : Type) → List (DataW H) → Bool := fun _ ds => decide (uptoBulkAll ds ≤ 1048576)
def OpenSpec.upto (s : _root_.Go.ChangeSpec) : _root_.Go.OpenSpec := { _root_.Go.OpenSpec.ofChange s with cond := some uptoSmall }

/-- 'laws.FnExactCredsIn', WHERE WHAT IT READS IS OF BULK AT MOST 1048576: true; the input reads as it did. -/
def fnExactCredsInUptoRow : OpenClaim := { program := "ytcmlapepofgkpaa", sum := "5b7b68c2336975fca8e0cc6239efe8f322a191ab74a15ba49e55ad108d9575e4", func := "loop.example/g00474/laws.FnExactCredsIn", spec := "fnExactCredsIn", apart := false, narrowed := true }
def FnExactCredsInUptoSaid : Prop := fnExactCredsInUptoRow.holds Try.pinned (OpenSpec.upto fnExactCredsInSpec)

/-- 'laws.FnExactHoldersOf', WHERE WHAT IT READS IS OF BULK AT MOST 1048576: true; the input reads as it did. -/
def fnExactHoldersOfUptoRow : OpenClaim := { program := "ytcmlapepofgkpaa", sum := "5b7b68c2336975fca8e0cc6239efe8f322a191ab74a15ba49e55ad108d9575e4", func := "loop.example/g00474/laws.FnExactHoldersOf", spec := "fnExactHoldersOf", unfollowed := true, recurses := true, apart := false, narrowed := true }
def FnExactHoldersOfUptoSaid : Prop := fnExactHoldersOfUptoRow.holds Try.pinned (OpenSpec.upto fnExactHoldersOfSpec)

/-- 'laws.FnExactVouchedText', WHERE WHAT IT READS IS OF BULK AT MOST 1048576: true; the input reads as it did. -/
def fnExactVouchedTextUptoRow : OpenClaim := { program := "ytcmlapepofgkpaa", sum := "5b7b68c2336975fca8e0cc6239efe8f322a191ab74a15ba49e55ad108d9575e4", func := "loop.example/g00474/laws.FnExactVouchedText", spec := "fnExactVouchedText", unfollowed := true, recurses := true, apart := false, narrowed := true }
def FnExactVouchedTextUptoSaid : Prop := fnExactVouchedTextUptoRow.holds Try.pinned (OpenSpec.upto fnExactVouchedTextSpec)

/-- 'laws.FnExactReadVouched', WHERE WHAT IT READS IS OF BULK AT MOST 1048576: true; the input reads as it did. -/
def fnExactReadVouchedUptoRow : OpenClaim := { program := "ytcmlapepofgkpaa", sum := "5b7b68c2336975fca8e0cc6239efe8f322a191ab74a15ba49e55ad108d9575e4", func := "loop.example/g00474/laws.FnExactReadVouched", spec := "fnExactReadVouched", unfollowed := true, recurses := true, apart := false, narrowed := true }
def FnExactReadVouchedUptoSaid : Prop := fnExactReadVouchedUptoRow.holds Try.pinned (OpenSpec.upto fnExactReadVouchedSpec)

/-- 'laws.FnExactProofOf', WHERE WHAT IT READS IS OF BULK AT MOST 1048576: true; the input reads as it did. -/
def fnExactProofOfUptoRow : OpenClaim := { program := "ytcmlapepofgkpaa", sum := "5b7b68c2336975fca8e0cc6239efe8f322a191ab74a15ba49e55ad108d9575e4", func := "loop.example/g00474/laws.FnExactProofOf", spec := "fnExactProofOf", unfollowed := true, recurses := true, apart := false, narrowed := true }
def FnExactProofOfUptoSaid : Prop := fnExactProofOfUptoRow.holds Try.pinned (OpenSpec.upto fnExactProofOfSpec)

/-- 'laws.FnExactSettle', WHERE WHAT IT READS IS OF BULK AT MOST 1048576: true; the input reads as it did. -/
def fnExactSettleUptoRow : OpenClaim := { program := "ytcmlapepofgkpaa", sum := "5b7b68c2336975fca8e0cc6239efe8f322a191ab74a15ba49e55ad108d9575e4", func := "loop.example/g00474/laws.FnExactSettle", spec := "fnExactSettle", unfollowed := true, recurses := true, apart := false, narrowed := true }
def FnExactSettleUptoSaid : Prop := fnExactSettleUptoRow.holds Try.pinned (OpenSpec.upto fnExactSettleSpec)

/-- 'laws.FnExactRingNew', WHERE WHAT IT READS IS OF BULK AT MOST 1048576: true; the input reads as it did. -/
def fnExactRingNewUptoRow : OpenClaim := { program := "ytcmlapepofgkpaa", sum := "5b7b68c2336975fca8e0cc6239efe8f322a191ab74a15ba49e55ad108d9575e4", func := "loop.example/g00474/laws.FnExactRingNew", spec := "fnExactRingNew", unfollowed := true, recurses := true, apart := false, narrowed := true }
def FnExactRingNewUptoSaid : Prop := fnExactRingNewUptoRow.holds Try.pinned (OpenSpec.upto fnExactRingNewSpec)

/-- 'laws.FnExactHereOf', WHERE WHAT IT READS IS OF BULK AT MOST 1048576: true; the input reads as it did. -/
def fnExactHereOfUptoRow : OpenClaim := { program := "ytcmlapepofgkpaa", sum := "5b7b68c2336975fca8e0cc6239efe8f322a191ab74a15ba49e55ad108d9575e4", func := "loop.example/g00474/laws.FnExactHereOf", spec := "fnExactHereOf", recurses := true, apart := false, narrowed := true }
def FnExactHereOfUptoSaid : Prop := fnExactHereOfUptoRow.holds Try.pinned (OpenSpec.upto fnExactHereOfSpec)

/-- 'laws.FnExactPut', WHERE WHAT IT READS IS OF BULK AT MOST 1048576: true; the input reads as it did. -/
def fnExactPutUptoRow : OpenClaim := { program := "ytcmlapepofgkpaa", sum := "5b7b68c2336975fca8e0cc6239efe8f322a191ab74a15ba49e55ad108d9575e4", func := "loop.example/g00474/laws.FnExactPut", spec := "fnExactPut", inPlace := ["slices.overlaps[loop.example/g00474/impl.Shelf]", "internal/bytealg.abigen_runtime_cmpstring"], unfollowed := true, recurses := true, apart := false, narrowed := true }
def FnExactPutUptoSaid : Prop := fnExactPutUptoRow.holds Try.pinned (OpenSpec.upto fnExactPutSpec)

/-- 'laws.FnExactWantsOf', WHERE WHAT IT READS IS OF BULK AT MOST 1048576: true; the input reads as it did. -/
def fnExactWantsOfUptoRow : OpenClaim := { program := "ytcmlapepofgkpaa", sum := "5b7b68c2336975fca8e0cc6239efe8f322a191ab74a15ba49e55ad108d9575e4", func := "loop.example/g00474/laws.FnExactWantsOf", spec := "fnExactWantsOf", unfollowed := true, recurses := true, apart := false, narrowed := true }
def FnExactWantsOfUptoSaid : Prop := fnExactWantsOfUptoRow.holds Try.pinned (OpenSpec.upto fnExactWantsOfSpec)

end Rows
end Go.Proofs.Ytcmlapepofgkpaa
