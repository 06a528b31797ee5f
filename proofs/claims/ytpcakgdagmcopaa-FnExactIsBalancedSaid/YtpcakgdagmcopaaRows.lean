/-
  No cell of these rows narrows 'for every input' (looked for: loops, veiled, ifaces, maps, wideKeys, modest, calm, conditions, laid).
  DERIVED. THE GIVEN ROWS OF THIS SEAT. 4 by the template 'for every input the law returns true; each argument reads behind the call as it read before'; 0 by the template 'total and deterministic' (their statements: YtpcakgdagmcopaaTotals.lean).
  GIVEN WITH THE SEED: the statements are not yours to turn. If you find one false, say at which input.
  Laid BY PROGRAM, IN A SANDBOX (cutbox-rows.mjs): the forced cells as the released guide's own fill.sh prints them over the translation 82d1a63ddfa240e2… (all of the seat's roots in one cut). By AI agents, Wed Nov 11 2026. No macro, syntax, notation, axiom, sorry.
-/
import Derived.Test.YtpcakgdagmcopaaChecked
import GoSem.Claim
import GoSem.ClaimJoined
import GoSem.ClaimMapViews
import Derived.JoinedTies
import Derived.KernelRfl
namespace Go.Proofs.Ytpcakgdagmcopaa
/- THE CELL 'sum', in the pinned program and in every row, IS THE sha256 OF THE DUMP (.gsa) THAT YtpcakgdagmcopaaProg.lean LOADS. Nothing in Lean hashes anything: it is a label: what it is worth is what the hold of that sum in a sandbox is worth. -/
noncomputable def Try.pinned : Pinned := { name := "ytpcakgdagmcopaa", sum := "82d1a63ddfa240e24db40203ea06af737a0402ca1c112f76a374a961c5570adf", checked := Try.checked }
namespace Rows
def none {H : Type} : Left H := { results := [], args := [] }

/-- 'laws.FnExactIsBalanced': WHATEVER THE INPUT: true; the input reads as it did. -/
def fnExactIsBalancedSpec : ChangeSpec := { name := "fnExactIsBalanced", fn := fun _ => fun
  | [d] => { results := [.lit (.bool true)], args := [d] }
  | _ => none }
def fnExactIsBalancedRow : OpenClaim := { program := "ytpcakgdagmcopaa", sum := "82d1a63ddfa240e24db40203ea06af737a0402ca1c112f76a374a961c5570adf", func := "loop.example/g01225/laws.FnExactIsBalanced", spec := "fnExactIsBalanced", unfollowed := true, recurses := true, apart := false }
def FnExactIsBalancedSaid : Prop := fnExactIsBalancedRow.holds Try.pinned (OpenSpec.ofChange fnExactIsBalancedSpec)

/-- ITS FALSE NEIGHBOUR: 'it returns false'. Refute it at one input. -/
def fnExactIsBalancedWrong : ChangeSpec := { name := "fnExactIsBalanced", fn := fun _ => fun
  | [d] => { results := [.lit (.bool false)], args := [d] }
  | _ => none }
def FnExactIsBalancedWrongFalsely : Prop := fnExactIsBalancedRow.holds Try.pinned (OpenSpec.ofChange fnExactIsBalancedWrong)

/-- 'laws.FnExactLegendreCode': WHATEVER THE INPUT: true; the input reads as it did. -/
def fnExactLegendreCodeSpec : ChangeSpec := { name := "fnExactLegendreCode", fn := fun _ => fun
  | [d] => { results := [.lit (.bool true)], args := [d] }
  | _ => none }
def fnExactLegendreCodeRow : OpenClaim := { program := "ytpcakgdagmcopaa", sum := "82d1a63ddfa240e24db40203ea06af737a0402ca1c112f76a374a961c5570adf", func := "loop.example/g01225/laws.FnExactLegendreCode", spec := "fnExactLegendreCode", unfollowed := true, recurses := true, apart := false }
def FnExactLegendreCodeSaid : Prop := fnExactLegendreCodeRow.holds Try.pinned (OpenSpec.ofChange fnExactLegendreCodeSpec)

/-- ITS FALSE NEIGHBOUR: 'it returns false'. Refute it at one input. -/
def fnExactLegendreCodeWrong : ChangeSpec := { name := "fnExactLegendreCode", fn := fun _ => fun
  | [d] => { results := [.lit (.bool false)], args := [d] }
  | _ => none }
def FnExactLegendreCodeWrongFalsely : Prop := fnExactLegendreCodeRow.holds Try.pinned (OpenSpec.ofChange fnExactLegendreCodeWrong)

/-- 'laws.FnExactWalshCode': WHATEVER THE INPUT: true; the input reads as it did. -/
def fnExactWalshCodeSpec : ChangeSpec := { name := "fnExactWalshCode", fn := fun _ => fun
  | [d1, d2] => { results := [.lit (.bool true)], args := [d1, d2] }
  | _ => none }
def fnExactWalshCodeRow : OpenClaim := { program := "ytpcakgdagmcopaa", sum := "82d1a63ddfa240e24db40203ea06af737a0402ca1c112f76a374a961c5570adf", func := "loop.example/g01225/laws.FnExactWalshCode", spec := "fnExactWalshCode", unfollowed := true, recurses := true, apart := false }
def FnExactWalshCodeSaid : Prop := fnExactWalshCodeRow.holds Try.pinned (OpenSpec.ofChange fnExactWalshCodeSpec)

/-- ITS FALSE NEIGHBOUR: 'it returns false'. Refute it at one input. -/
def fnExactWalshCodeWrong : ChangeSpec := { name := "fnExactWalshCode", fn := fun _ => fun
  | [d1, d2] => { results := [.lit (.bool false)], args := [d1, d2] }
  | _ => none }
def FnExactWalshCodeWrongFalsely : Prop := fnExactWalshCodeRow.holds Try.pinned (OpenSpec.ofChange fnExactWalshCodeWrong)

/-- 'laws.FnExactNormWeights': WHATEVER THE INPUT: true; the input reads as it did. -/
def fnExactNormWeightsSpec : ChangeSpec := { name := "fnExactNormWeights", fn := fun _ => fun
  | [d] => { results := [.lit (.bool true)], args := [d] }
  | _ => none }
def fnExactNormWeightsRow : OpenClaim := { program := "ytpcakgdagmcopaa", sum := "82d1a63ddfa240e24db40203ea06af737a0402ca1c112f76a374a961c5570adf", func := "loop.example/g01225/laws.FnExactNormWeights", spec := "fnExactNormWeights", unfollowed := true, recurses := true, apart := false }
def FnExactNormWeightsSaid : Prop := fnExactNormWeightsRow.holds Try.pinned (OpenSpec.ofChange fnExactNormWeightsSpec)

/-- ITS FALSE NEIGHBOUR: 'it returns false'. Refute it at one input. -/
def fnExactNormWeightsWrong : ChangeSpec := { name := "fnExactNormWeights", fn := fun _ => fun
  | [d] => { results := [.lit (.bool false)], args := [d] }
  | _ => none }
def FnExactNormWeightsWrongFalsely : Prop := fnExactNormWeightsRow.holds Try.pinned (OpenSpec.ofChange fnExactNormWeightsWrong)

/- THE SECOND FORM. 'bulk': how many values and letters a reading holds, each counted each time it is reached (what is shared counts as often as it is met; a slice's spare places count too). A statement '..UptoSaid' is the law's where the arguments, and the package variables that the reading takes, are together of bulk at most 1048576: NARROWER than '..Said'. Prove '..Said' where nothing that the law and all that it calls make is longer than what came in: it says more and counts as full. Else prove '..UptoSaid'. A law counts once. -/
mutual
def uptoBulk {H : Type} : DataW H → Nat
  | .lit (.string bytes) => bytes.length + 1
  | .lit _ => 1
  | .nil => 1
  | .ptr d => uptoBulk d + 1
  | .slice elems spare => uptoBulkAll elems + uptoBulkAll spare + 1
  | .agg parts => uptoBulkAll parts + 1
  | .iface _ d => uptoBulk d + 1
  | .map entries => uptoBulkEntries entries + 1
  | .held _ => 1
def uptoBulkAll {H : Type} : List (DataW H) → Nat
  | [] => 0
  | d :: r => uptoBulk d + uptoBulkAll r
def uptoBulkEntries {H : Type} : List (Lit × DataW H) → Nat
  | [] => 0
  | x :: r => uptoBulkEntry x + uptoBulkEntries r
def uptoBulkEntry {H : Type} : Lit × DataW H → Nat
  | (.string bytes, d) => bytes.length + uptoBulk d + 1
  | (_, d) => uptoBulk d + 1
 end
def uptoSmall : (H : Type) → List (DataW H) → Bool := fun _ ds => decide (uptoBulkAll ds ≤ 1048576)
def OpenSpec.upto (s : _root_.Go.ChangeSpec) : _root_.Go.OpenSpec := { _root_.Go.OpenSpec.ofChange s with cond := some uptoSmall }

/-- 'laws.FnExactIsBalanced', WHERE WHAT IT READS IS OF BULK AT MOST 1048576: true; the input reads as it did. -/
def fnExactIsBalancedUptoRow : OpenClaim := { program := "ytpcakgdagmcopaa", sum := "82d1a63ddfa240e24db40203ea06af737a0402ca1c112f76a374a961c5570adf", func := "loop.example/g01225/laws.FnExactIsBalanced", spec := "fnExactIsBalanced", unfollowed := true, recurses := true, apart := false, narrowed := true }
def FnExactIsBalancedUptoSaid : Prop := fnExactIsBalancedUptoRow.holds Try.pinned (OpenSpec.upto fnExactIsBalancedSpec)

/-- 'laws.FnExactLegendreCode', WHERE WHAT IT READS IS OF BULK AT MOST 1048576: true; the input reads as it did. -/
def fnExactLegendreCodeUptoRow : OpenClaim := { program := "ytpcakgdagmcopaa", sum := "82d1a63ddfa240e24db40203ea06af737a0402ca1c112f76a374a961c5570adf", func := "loop.example/g01225/laws.FnExactLegendreCode", spec := "fnExactLegendreCode", unfollowed := true, recurses := true, apart := false, narrowed := true }
def FnExactLegendreCodeUptoSaid : Prop := fnExactLegendreCodeUptoRow.holds Try.pinned (OpenSpec.upto fnExactLegendreCodeSpec)

/-- 'laws.FnExactWalshCode', WHERE WHAT IT READS IS OF BULK AT MOST 1048576: true; the input reads as it did. -/
def fnExactWalshCodeUptoRow : OpenClaim := { program := "ytpcakgdagmcopaa", sum := "82d1a63ddfa240e24db40203ea06af737a0402ca1c112f76a374a961c5570adf", func := "loop.example/g01225/laws.FnExactWalshCode", spec := "fnExactWalshCode", unfollowed := true, recurses := true, apart := false, narrowed := true }
def FnExactWalshCodeUptoSaid : Prop := fnExactWalshCodeUptoRow.holds Try.pinned (OpenSpec.upto fnExactWalshCodeSpec)

/-- 'laws.FnExactNormWeights', WHERE WHAT IT READS IS OF BULK AT MOST 1048576: true; the input reads as it did. -/
def fnExactNormWeightsUptoRow : OpenClaim := { program := "ytpcakgdagmcopaa", sum := "82d1a63ddfa240e24db40203ea06af737a0402ca1c112f76a374a961c5570adf", func := "loop.example/g01225/laws.FnExactNormWeights", spec := "fnExactNormWeights", unfollowed := true, recurses := true, apart := false, narrowed := true }
def FnExactNormWeightsUptoSaid : Prop := fnExactNormWeightsUptoRow.holds Try.pinned (OpenSpec.upto fnExactNormWeightsSpec)

end Rows
end Go.Proofs.Ytpcakgdagmcopaa
