/-
  No cell of these rows narrows 'for every input' (looked for: loops, veiled, ifaces, maps, wideKeys, modest, calm, conditions, laid).
  DERIVED. THE GIVEN ROWS OF THIS SEAT. 4 by the template 'for every input the law returns true; each argument reads behind the call as it read before'; 0 by the template 'total and deterministic' (their statements: YtfmlmdnaeonobaaGreatTotals.lean).
  GIVEN WITH THE SEED: the statements are not yours to turn. If you find one false, say at which input.
  Laid BY PROGRAM, IN A SANDBOX (cutbox-rows.mjs): the forced cells as the released guide's own fill.sh prints them over the translation 6183f0cb3c08eba2… (all of the seat's roots in one cut). By AI agents, Wed Nov 11 2026. No macro, syntax, notation, axiom, sorry.
-/
import Derived.Test.YtfmlmdnaeonobaaGreatChecked
import GoSem.Claim
import GoSem.ClaimJoined
import GoSem.ClaimMapViews
import Derived.JoinedTies
import Derived.KernelRfl
namespace Go.Proofs.YtfmlmdnaeonobaaGreat
/- THE CELL 'sum', in the pinned program and in every row, IS THE sha256 OF THE DUMP (.gsa) THAT YtfmlmdnaeonobaaGreatProg.lean LOADS. Nothing in Lean hashes anything: it is a label: what it is worth is what the hold of that sum in a sandbox is worth. -/
noncomputable def Tryz.pinned : Pinned := { name := "ytfmlmdnaeonobaagreat", sum := "6183f0cb3c08eba2609923e7e27f0fe22b612ea23b6f6945f9be9456688c1d40", checked := Tryz.checked }
namespace Rows
def none {H : Type} : Left H := { results := [], args := [] }

/-- 'laws.FnPeers': WHATEVER THE INPUT: true; the input reads as it did. -/
def fnPeersSpec : ChangeSpec := { name := "fnPeers", fn := fun _ => fun
  | [d] => { results := [.lit (.bool true)], args := [d] }
  | _ => none }
def fnPeersRow : OpenClaim := { program := "ytfmlmdnaeonobaagreat", sum := "6183f0cb3c08eba2609923e7e27f0fe22b612ea23b6f6945f9be9456688c1d40", func := "loop.example/g00474/laws.FnPeers", spec := "fnPeers", unfollowed := true, recurses := true, apart := false }
def FnPeersSaid : Prop := fnPeersRow.holds Tryz.pinned (OpenSpec.ofChange fnPeersSpec)

/-- ITS FALSE NEIGHBOUR: 'it returns false'. Refute it at one input. -/
def fnPeersWrong : ChangeSpec := { name := "fnPeers", fn := fun _ => fun
  | [d] => { results := [.lit (.bool false)], args := [d] }
  | _ => none }
def FnPeersWrongFalsely : Prop := fnPeersRow.holds Tryz.pinned (OpenSpec.ofChange fnPeersWrong)

/-- 'laws.FnChanges': WHATEVER THE INPUT: true; the input reads as it did. -/
def fnChangesSpec : ChangeSpec := { name := "fnChanges", fn := fun _ => fun
  | [d] => { results := [.lit (.bool true)], args := [d] }
  | _ => none }
def fnChangesRow : OpenClaim := { program := "ytfmlmdnaeonobaagreat", sum := "6183f0cb3c08eba2609923e7e27f0fe22b612ea23b6f6945f9be9456688c1d40", func := "loop.example/g00474/laws.FnChanges", spec := "fnChanges", unfollowed := true, recurses := true, apart := false }
def FnChangesSaid : Prop := fnChangesRow.holds Tryz.pinned (OpenSpec.ofChange fnChangesSpec)

/-- ITS FALSE NEIGHBOUR: 'it returns false'. Refute it at one input. -/
def fnChangesWrong : ChangeSpec := { name := "fnChanges", fn := fun _ => fun
  | [d] => { results := [.lit (.bool false)], args := [d] }
  | _ => none }
def FnChangesWrongFalsely : Prop := fnChangesRow.holds Tryz.pinned (OpenSpec.ofChange fnChangesWrong)

/-- 'laws.FnChangesTold': WHATEVER THE INPUT: true; the input reads as it did. -/
def fnChangesToldSpec : ChangeSpec := { name := "fnChangesTold", fn := fun _ => fun
  | [d] => { results := [.lit (.bool true)], args := [d] }
  | _ => none }
def fnChangesToldRow : OpenClaim := { program := "ytfmlmdnaeonobaagreat", sum := "6183f0cb3c08eba2609923e7e27f0fe22b612ea23b6f6945f9be9456688c1d40", func := "loop.example/g00474/laws.FnChangesTold", spec := "fnChangesTold", unfollowed := true, recurses := true, apart := false }
def FnChangesToldSaid : Prop := fnChangesToldRow.holds Tryz.pinned (OpenSpec.ofChange fnChangesToldSpec)

/-- ITS FALSE NEIGHBOUR: 'it returns false'. Refute it at one input. -/
def fnChangesToldWrong : ChangeSpec := { name := "fnChangesTold", fn := fun _ => fun
  | [d] => { results := [.lit (.bool false)], args := [d] }
  | _ => none }
def FnChangesToldWrongFalsely : Prop := fnChangesToldRow.holds Tryz.pinned (OpenSpec.ofChange fnChangesToldWrong)

/-- 'laws.FnKeepsTold': WHATEVER THE INPUT: true; the input reads as it did. -/
def fnKeepsToldSpec : ChangeSpec := { name := "fnKeepsTold", fn := fun _ => fun
  | [d] => { results := [.lit (.bool true)], args := [d] }
  | _ => none }
def fnKeepsToldRow : OpenClaim := { program := "ytfmlmdnaeonobaagreat", sum := "6183f0cb3c08eba2609923e7e27f0fe22b612ea23b6f6945f9be9456688c1d40", func := "loop.example/g00474/laws.FnKeepsTold", spec := "fnKeepsTold", inPlace := ["slices.overlaps[loop.example/g00474/impl.Shelf]", "internal/bytealg.abigen_runtime_cmpstring"], unfollowed := true, recurses := true, apart := false }
def FnKeepsToldSaid : Prop := fnKeepsToldRow.holds Tryz.pinned (OpenSpec.ofChange fnKeepsToldSpec)

/-- ITS FALSE NEIGHBOUR: 'it returns false'. Refute it at one input. -/
def fnKeepsToldWrong : ChangeSpec := { name := "fnKeepsTold", fn := fun _ => fun
  | [d] => { results := [.lit (.bool false)], args := [d] }
  | _ => none }
def FnKeepsToldWrongFalsely : Prop := fnKeepsToldRow.holds Tryz.pinned (OpenSpec.ofChange fnKeepsToldWrong)

/- THE SECOND FORM. 'bulk': how many values and letters a reading holds, each counted each time it is reached (what is shared counts as often as it is met; a slice's spare places count too). A statement '..UptoSaid' is the law's where the arguments, and the package variables that the reading takes, are together of bulk at most 1048576: NARROWER than '..Said'. Prove '..Said' where nothing that the law and all that it calls make is longer than what came in: it says more and counts as full. Else prove '..UptoSaid'. A law counts once. -/
mutual
def uptoBulk {H : Type} : DataW H → Nat
  | .lit (.string bytes) => bytes.length + 1
  | .lit _ => 1
  | .nil => 1
  | .ptr d => uptoBulk d + 1
  | .slice elems spare => uptoBulkAll elems + uptoBulkAll spare + 1
  | .agg parts => uptoBulkAll parts + 1
  | .iface _ d => uptoBulk d + 1
  | .map entries => uptoBulkEntries entries + 1
  | .held _ => 1
def uptoBulkAll {H : Type} : List (DataW H) → Nat
  | [] => 0
  | d :: r => uptoBulk d + uptoBulkAll r
def uptoBulkEntries {H : Type} : List (Lit × DataW H) → Nat
  | [] => 0
  | x :: r => uptoBulkEntry x + uptoBulkEntries r
def uptoBulkEntry {H : Type} : Lit × DataW H → Nat
  | (.string bytes, d) => bytes.length + uptoBulk d + 1
  | (_, d) => uptoBulk d + 1
 end
def uptoSmall : (H : Type) → List (DataW H) → Bool := fun _ ds => decide (uptoBulkAll ds ≤ 1048576)
def OpenSpec.upto (s : _root_.Go.ChangeSpec) : _root_.Go.OpenSpec := { _root_.Go.OpenSpec.ofChange s with cond := some uptoSmall }

/-- 'laws.FnPeers', WHERE WHAT IT READS IS OF BULK AT MOST 1048576: true; the input reads as it did. -/
def fnPeersUptoRow : OpenClaim := { program := "ytfmlmdnaeonobaagreat", sum := "6183f0cb3c08eba2609923e7e27f0fe22b612ea23b6f6945f9be9456688c1d40", func := "loop.example/g00474/laws.FnPeers", spec := "fnPeers", unfollowed := true, recurses := true, apart := false, narrowed := true }
def FnPeersUptoSaid : Prop := fnPeersUptoRow.holds Tryz.pinned (OpenSpec.upto fnPeersSpec)

/-- 'laws.FnChanges', WHERE WHAT IT READS IS OF BULK AT MOST 1048576: true; the input reads as it did. -/
def fnChangesUptoRow : OpenClaim := { program := "ytfmlmdnaeonobaagreat", sum := "6183f0cb3c08eba2609923e7e27f0fe22b612ea23b6f6945f9be9456688c1d40", func := "loop.example/g00474/laws.FnChanges", spec := "fnChanges", unfollowed := true, recurses := true, apart := false, narrowed := true }
def FnChangesUptoSaid : Prop := fnChangesUptoRow.holds Tryz.pinned (OpenSpec.upto fnChangesSpec)

/-- 'laws.FnChangesTold', WHERE WHAT IT READS IS OF BULK AT MOST 1048576: true; the input reads as it did. -/
def fnChangesToldUptoRow : OpenClaim := { program := "ytfmlmdnaeonobaagreat", sum := "6183f0cb3c08eba2609923e7e27f0fe22b612ea23b6f6945f9be9456688c1d40", func := "loop.example/g00474/laws.FnChangesTold", spec := "fnChangesTold", unfollowed := true, recurses := true, apart := false, narrowed := true }
def FnChangesToldUptoSaid : Prop := fnChangesToldUptoRow.holds Tryz.pinned (OpenSpec.upto fnChangesToldSpec)

/-- 'laws.FnKeepsTold', WHERE WHAT IT READS IS OF BULK AT MOST 1048576: true; the input reads as it did. -/
def fnKeepsToldUptoRow : OpenClaim := { program := "ytfmlmdnaeonobaagreat", sum := "6183f0cb3c08eba2609923e7e27f0fe22b612ea23b6f6945f9be9456688c1d40", func := "loop.example/g00474/laws.FnKeepsTold", spec := "fnKeepsTold", inPlace := ["slices.overlaps[loop.example/g00474/impl.Shelf]", "internal/bytealg.abigen_runtime_cmpstring"], unfollowed := true, recurses := true, apart := false, narrowed := true }
def FnKeepsToldUptoSaid : Prop := fnKeepsToldUptoRow.holds Tryz.pinned (OpenSpec.upto fnKeepsToldSpec)

end Rows
end Go.Proofs.YtfmlmdnaeonobaaGreat
