/-
  No cell of these rows narrows 'for every input' (looked for: loops, veiled, ifaces, maps, wideKeys, modest, calm, conditions, laid).
  DERIVED. THE GIVEN ROWS OF THIS SEAT. 9 by the template 'for every input the law returns true; each argument reads behind the call as it read before'; 0 by the template 'total and deterministic' (their statements: YtfoflddjcijaeaaTotals.lean).
  GIVEN WITH THE SEED: the statements are not yours to turn. If you find one false, say at which input.
  Laid BY PROGRAM, IN A SANDBOX (cutbox-rows.mjs): the forced cells as the released guide's own fill.sh prints them over the translation 627a5519dd0d71bd… (all of the seat's roots in one cut). By AI agents, Wed Nov 11 2026. No macro, syntax, notation, axiom, sorry.
-/
import Derived.Test.YtfoflddjcijaeaaChecked
import GoSem.Claim
import GoSem.ClaimJoined
import GoSem.ClaimMapViews
import Derived.JoinedTies
import Derived.KernelRfl
namespace Go.Proofs.Ytfoflddjcijaeaa
/- THE CELL 'sum', in the pinned program and in every row, IS THE sha256 OF THE DUMP (.gsa) THAT YtfoflddjcijaeaaProg.lean LOADS. Nothing in Lean hashes anything: it is a label: what it is worth is what the hold of that sum in a sandbox is worth. -/
noncomputable def Try.pinned : Pinned := { name := "ytfoflddjcijaeaa", sum := "627a5519dd0d71bdab1d2136a5a797ae18c1e9695710e1a74c5b6e34ec0196be", checked := Try.checked }
namespace Rows
def none {H : Type} : Left H := { results := [], args := [] }

/-- 'laws.FnExactIsPicture': WHATEVER THE INPUT: true; the input reads as it did. -/
def fnExactIsPictureSpec : ChangeSpec := { name := "fnExactIsPicture", fn := fun _ => fun
  | [d] => { results := [.lit (.bool true)], args := [d] }
  | _ => none }
def fnExactIsPictureRow : OpenClaim := { program := "ytfoflddjcijaeaa", sum := "627a5519dd0d71bdab1d2136a5a797ae18c1e9695710e1a74c5b6e34ec0196be", func := "loop.example/g01225/laws.FnExactIsPicture", spec := "fnExactIsPicture", apart := false }
def FnExactIsPictureSaid : Prop := fnExactIsPictureRow.holds Try.pinned (OpenSpec.ofChange fnExactIsPictureSpec)

/-- ITS FALSE NEIGHBOUR: 'it returns false'. Refute it at one input. -/
def fnExactIsPictureWrong : ChangeSpec := { name := "fnExactIsPicture", fn := fun _ => fun
  | [d] => { results := [.lit (.bool false)], args := [d] }
  | _ => none }
def FnExactIsPictureWrongFalsely : Prop := fnExactIsPictureRow.holds Try.pinned (OpenSpec.ofChange fnExactIsPictureWrong)

/-- 'laws.FnExactDifferenceOf': WHATEVER THE INPUT: true; the input reads as it did. -/
def fnExactDifferenceOfSpec : ChangeSpec := { name := "fnExactDifferenceOf", fn := fun _ => fun
  | [d1, d2] => { results := [.lit (.bool true)], args := [d1, d2] }
  | _ => none }
def fnExactDifferenceOfRow : OpenClaim := { program := "ytfoflddjcijaeaa", sum := "627a5519dd0d71bdab1d2136a5a797ae18c1e9695710e1a74c5b6e34ec0196be", func := "loop.example/g01225/laws.FnExactDifferenceOf", spec := "fnExactDifferenceOf", unfollowed := true, recurses := true, apart := false }
def FnExactDifferenceOfSaid : Prop := fnExactDifferenceOfRow.holds Try.pinned (OpenSpec.ofChange fnExactDifferenceOfSpec)

/-- ITS FALSE NEIGHBOUR: 'it returns false'. Refute it at one input. -/
def fnExactDifferenceOfWrong : ChangeSpec := { name := "fnExactDifferenceOf", fn := fun _ => fun
  | [d1, d2] => { results := [.lit (.bool false)], args := [d1, d2] }
  | _ => none }
def FnExactDifferenceOfWrongFalsely : Prop := fnExactDifferenceOfRow.holds Try.pinned (OpenSpec.ofChange fnExactDifferenceOfWrong)

/-- 'laws.FnExactThresholdMask': WHATEVER THE INPUT: true; the input reads as it did. -/
def fnExactThresholdMaskSpec : ChangeSpec := { name := "fnExactThresholdMask", fn := fun _ => fun
  | [d1, d2] => { results := [.lit (.bool true)], args := [d1, d2] }
  | _ => none }
def fnExactThresholdMaskRow : OpenClaim := { program := "ytfoflddjcijaeaa", sum := "627a5519dd0d71bdab1d2136a5a797ae18c1e9695710e1a74c5b6e34ec0196be", func := "loop.example/g01225/laws.FnExactThresholdMask", spec := "fnExactThresholdMask", unfollowed := true, recurses := true, apart := false }
def FnExactThresholdMaskSaid : Prop := fnExactThresholdMaskRow.holds Try.pinned (OpenSpec.ofChange fnExactThresholdMaskSpec)

/-- ITS FALSE NEIGHBOUR: 'it returns false'. Refute it at one input. -/
def fnExactThresholdMaskWrong : ChangeSpec := { name := "fnExactThresholdMask", fn := fun _ => fun
  | [d1, d2] => { results := [.lit (.bool false)], args := [d1, d2] }
  | _ => none }
def FnExactThresholdMaskWrongFalsely : Prop := fnExactThresholdMaskRow.holds Try.pinned (OpenSpec.ofChange fnExactThresholdMaskWrong)

/-- 'laws.FnExactScalePicture': WHATEVER THE INPUT: true; the input reads as it did. -/
def fnExactScalePictureSpec : ChangeSpec := { name := "fnExactScalePicture", fn := fun _ => fun
  | [d1, d2] => { results := [.lit (.bool true)], args := [d1, d2] }
  | _ => none }
def fnExactScalePictureRow : OpenClaim := { program := "ytfoflddjcijaeaa", sum := "627a5519dd0d71bdab1d2136a5a797ae18c1e9695710e1a74c5b6e34ec0196be", func := "loop.example/g01225/laws.FnExactScalePicture", spec := "fnExactScalePicture", unfollowed := true, recurses := true, apart := false }
def FnExactScalePictureSaid : Prop := fnExactScalePictureRow.holds Try.pinned (OpenSpec.ofChange fnExactScalePictureSpec)

/-- ITS FALSE NEIGHBOUR: 'it returns false'. Refute it at one input. -/
def fnExactScalePictureWrong : ChangeSpec := { name := "fnExactScalePicture", fn := fun _ => fun
  | [d1, d2] => { results := [.lit (.bool false)], args := [d1, d2] }
  | _ => none }
def FnExactScalePictureWrongFalsely : Prop := fnExactScalePictureRow.holds Try.pinned (OpenSpec.ofChange fnExactScalePictureWrong)

/-- 'laws.FnExactContrastOf': WHATEVER THE INPUT: true; the input reads as it did. -/
def fnExactContrastOfSpec : ChangeSpec := { name := "fnExactContrastOf", fn := fun _ => fun
  | [d] => { results := [.lit (.bool true)], args := [d] }
  | _ => none }
def fnExactContrastOfRow : OpenClaim := { program := "ytfoflddjcijaeaa", sum := "627a5519dd0d71bdab1d2136a5a797ae18c1e9695710e1a74c5b6e34ec0196be", func := "loop.example/g01225/laws.FnExactContrastOf", spec := "fnExactContrastOf", unfollowed := true, recurses := true, apart := false }
def FnExactContrastOfSaid : Prop := fnExactContrastOfRow.holds Try.pinned (OpenSpec.ofChange fnExactContrastOfSpec)

/-- ITS FALSE NEIGHBOUR: 'it returns false'. Refute it at one input. -/
def fnExactContrastOfWrong : ChangeSpec := { name := "fnExactContrastOf", fn := fun _ => fun
  | [d] => { results := [.lit (.bool false)], args := [d] }
  | _ => none }
def FnExactContrastOfWrongFalsely : Prop := fnExactContrastOfRow.holds Try.pinned (OpenSpec.ofChange fnExactContrastOfWrong)

/-- 'laws.FnExactAddPictures': WHATEVER THE INPUT: true; the input reads as it did. -/
def fnExactAddPicturesSpec : ChangeSpec := { name := "fnExactAddPictures", fn := fun _ => fun
  | [d1, d2] => { results := [.lit (.bool true)], args := [d1, d2] }
  | _ => none }
def fnExactAddPicturesRow : OpenClaim := { program := "ytfoflddjcijaeaa", sum := "627a5519dd0d71bdab1d2136a5a797ae18c1e9695710e1a74c5b6e34ec0196be", func := "loop.example/g01225/laws.FnExactAddPictures", spec := "fnExactAddPictures", unfollowed := true, recurses := true, apart := false }
def FnExactAddPicturesSaid : Prop := fnExactAddPicturesRow.holds Try.pinned (OpenSpec.ofChange fnExactAddPicturesSpec)

/-- ITS FALSE NEIGHBOUR: 'it returns false'. Refute it at one input. -/
def fnExactAddPicturesWrong : ChangeSpec := { name := "fnExactAddPictures", fn := fun _ => fun
  | [d1, d2] => { results := [.lit (.bool false)], args := [d1, d2] }
  | _ => none }
def FnExactAddPicturesWrongFalsely : Prop := fnExactAddPicturesRow.holds Try.pinned (OpenSpec.ofChange fnExactAddPicturesWrong)

/-- 'laws.FnExactNegativeOf': WHATEVER THE INPUT: true; the input reads as it did. -/
def fnExactNegativeOfSpec : ChangeSpec := { name := "fnExactNegativeOf", fn := fun _ => fun
  | [d1, d2] => { results := [.lit (.bool true)], args := [d1, d2] }
  | _ => none }
def fnExactNegativeOfRow : OpenClaim := { program := "ytfoflddjcijaeaa", sum := "627a5519dd0d71bdab1d2136a5a797ae18c1e9695710e1a74c5b6e34ec0196be", func := "loop.example/g01225/laws.FnExactNegativeOf", spec := "fnExactNegativeOf", unfollowed := true, recurses := true, apart := false }
def FnExactNegativeOfSaid : Prop := fnExactNegativeOfRow.holds Try.pinned (OpenSpec.ofChange fnExactNegativeOfSpec)

/-- ITS FALSE NEIGHBOUR: 'it returns false'. Refute it at one input. -/
def fnExactNegativeOfWrong : ChangeSpec := { name := "fnExactNegativeOf", fn := fun _ => fun
  | [d1, d2] => { results := [.lit (.bool false)], args := [d1, d2] }
  | _ => none }
def FnExactNegativeOfWrongFalsely : Prop := fnExactNegativeOfRow.holds Try.pinned (OpenSpec.ofChange fnExactNegativeOfWrong)

/-- 'laws.FnExactStepsOf': WHATEVER THE INPUT: true; the input reads as it did. -/
def fnExactStepsOfSpec : ChangeSpec := { name := "fnExactStepsOf", fn := fun _ => fun
  | [d1, d2, d3] => { results := [.lit (.bool true)], args := [d1, d2, d3] }
  | _ => none }
def fnExactStepsOfRow : OpenClaim := { program := "ytfoflddjcijaeaa", sum := "627a5519dd0d71bdab1d2136a5a797ae18c1e9695710e1a74c5b6e34ec0196be", func := "loop.example/g01225/laws.FnExactStepsOf", spec := "fnExactStepsOf", inPlace := ["math.archFloor", "math.Float64bits", "math.Float64frombits", "math.archTrunc"], apart := false }
def FnExactStepsOfSaid : Prop := fnExactStepsOfRow.holds Try.pinned (OpenSpec.ofChange fnExactStepsOfSpec)

/-- ITS FALSE NEIGHBOUR: 'it returns false'. Refute it at one input. -/
def fnExactStepsOfWrong : ChangeSpec := { name := "fnExactStepsOf", fn := fun _ => fun
  | [d1, d2, d3] => { results := [.lit (.bool false)], args := [d1, d2, d3] }
  | _ => none }
def FnExactStepsOfWrongFalsely : Prop := fnExactStepsOfRow.holds Try.pinned (OpenSpec.ofChange fnExactStepsOfWrong)

/-- 'laws.FnExactSumOfPicture': WHATEVER THE INPUT: true; the input reads as it did. -/
def fnExactSumOfPictureSpec : ChangeSpec := { name := "fnExactSumOfPicture", fn := fun _ => fun
  | [d1, d2] => { results := [.lit (.bool true)], args := [d1, d2] }
  | _ => none }
def fnExactSumOfPictureRow : OpenClaim := { program := "ytfoflddjcijaeaa", sum := "627a5519dd0d71bdab1d2136a5a797ae18c1e9695710e1a74c5b6e34ec0196be", func := "loop.example/g01225/laws.FnExactSumOfPicture", spec := "fnExactSumOfPicture", unfollowed := true, recurses := true, apart := false }
def FnExactSumOfPictureSaid : Prop := fnExactSumOfPictureRow.holds Try.pinned (OpenSpec.ofChange fnExactSumOfPictureSpec)

/-- ITS FALSE NEIGHBOUR: 'it returns false'. Refute it at one input. -/
def fnExactSumOfPictureWrong : ChangeSpec := { name := "fnExactSumOfPicture", fn := fun _ => fun
  | [d1, d2] => { results := [.lit (.bool false)], args := [d1, d2] }
  | _ => none }
def FnExactSumOfPictureWrongFalsely : Prop := fnExactSumOfPictureRow.holds Try.pinned (OpenSpec.ofChange fnExactSumOfPictureWrong)

/- THE SECOND FORM. 'bulk': how many values and letters a reading holds, each counted each time it is reached (what is shared counts as often as it is met; a slice's spare places count too). A statement '..UptoSaid' is the law's where the arguments, and the package variables that the reading takes, are together of bulk at most 1048576: NARROWER than '..Said'. Prove '..Said' where nothing that the law and all that it calls make is longer than what came in: it says more and counts as full. Else prove '..UptoSaid'. A law counts once. -/
mutual
def uptoBulk {H : Type} : DataW H → Nat
  | .lit (.string bytes) => bytes.length + 1
  | .lit _ => 1
  | .nil => 1
  | .ptr d => uptoBulk d + 1
  | .slice elems spare => uptoBulkAll elems + uptoBulkAll spare + 1
  | .agg parts => uptoBulkAll parts + 1
  | .iface _ d => uptoBulk d + 1
  | .map entries => uptoBulkEntries entries + 1
  | .held _ => 1
def uptoBulkAll {H : Type} : List (DataW H) → Nat
  | [] => 0
  | d :: r => uptoBulk d + uptoBulkAll r
def uptoBulkEntries {H : Type} : List (Lit × DataW H) → Nat
  | [] => 0
  | x :: r => uptoBulkEntry x + uptoBulkEntries r
def uptoBulkEntry {H : Type} : Lit × DataW H → Nat
  | (.string bytes, d) => bytes.length + uptoBulk d + 1
  | (_, d) => uptoBulk d + 1
 end
def uptoSmall : (H : Type) → List (DataW H) → Bool := fun _ ds => decide (uptoBulkAll ds ≤ 1048576)
def OpenSpec.upto (s : _root_.Go.ChangeSpec) : _root_.Go.OpenSpec := { _root_.Go.OpenSpec.ofChange s with cond := some uptoSmall }

/-- 'laws.FnExactIsPicture', WHERE WHAT IT READS IS OF BULK AT MOST 1048576: true; the input reads as it did. -/
def fnExactIsPictureUptoRow : OpenClaim := { program := "ytfoflddjcijaeaa", sum := "627a5519dd0d71bdab1d2136a5a797ae18c1e9695710e1a74c5b6e34ec0196be", func := "loop.example/g01225/laws.FnExactIsPicture", spec := "fnExactIsPicture", apart := false, narrowed := true }
def FnExactIsPictureUptoSaid : Prop := fnExactIsPictureUptoRow.holds Try.pinned (OpenSpec.upto fnExactIsPictureSpec)

/-- 'laws.FnExactDifferenceOf', WHERE WHAT IT READS IS OF BULK AT MOST 1048576: true; the input reads as it did. -/
def fnExactDifferenceOfUptoRow : OpenClaim := { program := "ytfoflddjcijaeaa", sum := "627a5519dd0d71bdab1d2136a5a797ae18c1e9695710e1a74c5b6e34ec0196be", func := "loop.example/g01225/laws.FnExactDifferenceOf", spec := "fnExactDifferenceOf", unfollowed := true, recurses := true, apart := false, narrowed := true }
def FnExactDifferenceOfUptoSaid : Prop := fnExactDifferenceOfUptoRow.holds Try.pinned (OpenSpec.upto fnExactDifferenceOfSpec)

/-- 'laws.FnExactThresholdMask', WHERE WHAT IT READS IS OF BULK AT MOST 1048576: true; the input reads as it did. -/
def fnExactThresholdMaskUptoRow : OpenClaim := { program := "ytfoflddjcijaeaa", sum := "627a5519dd0d71bdab1d2136a5a797ae18c1e9695710e1a74c5b6e34ec0196be", func := "loop.example/g01225/laws.FnExactThresholdMask", spec := "fnExactThresholdMask", unfollowed := true, recurses := true, apart := false, narrowed := true }
def FnExactThresholdMaskUptoSaid : Prop := fnExactThresholdMaskUptoRow.holds Try.pinned (OpenSpec.upto fnExactThresholdMaskSpec)

/-- 'laws.FnExactScalePicture', WHERE WHAT IT READS IS OF BULK AT MOST 1048576: true; the input reads as it did. -/
def fnExactScalePictureUptoRow : OpenClaim := { program := "ytfoflddjcijaeaa", sum := "627a5519dd0d71bdab1d2136a5a797ae18c1e9695710e1a74c5b6e34ec0196be", func := "loop.example/g01225/laws.FnExactScalePicture", spec := "fnExactScalePicture", unfollowed := true, recurses := true, apart := false, narrowed := true }
def FnExactScalePictureUptoSaid : Prop := fnExactScalePictureUptoRow.holds Try.pinned (OpenSpec.upto fnExactScalePictureSpec)

/-- 'laws.FnExactContrastOf', WHERE WHAT IT READS IS OF BULK AT MOST 1048576: true; the input reads as it did. -/
def fnExactContrastOfUptoRow : OpenClaim := { program := "ytfoflddjcijaeaa", sum := "627a5519dd0d71bdab1d2136a5a797ae18c1e9695710e1a74c5b6e34ec0196be", func := "loop.example/g01225/laws.FnExactContrastOf", spec := "fnExactContrastOf", unfollowed := true, recurses := true, apart := false, narrowed := true }
def FnExactContrastOfUptoSaid : Prop := fnExactContrastOfUptoRow.holds Try.pinned (OpenSpec.upto fnExactContrastOfSpec)

/-- 'laws.FnExactAddPictures', WHERE WHAT IT READS IS OF BULK AT MOST 1048576: true; the input reads as it did. -/
def fnExactAddPicturesUptoRow : OpenClaim := { program := "ytfoflddjcijaeaa", sum := "627a5519dd0d71bdab1d2136a5a797ae18c1e9695710e1a74c5b6e34ec0196be", func := "loop.example/g01225/laws.FnExactAddPictures", spec := "fnExactAddPictures", unfollowed := true, recurses := true, apart := false, narrowed := true }
def FnExactAddPicturesUptoSaid : Prop := fnExactAddPicturesUptoRow.holds Try.pinned (OpenSpec.upto fnExactAddPicturesSpec)

/-- 'laws.FnExactNegativeOf', WHERE WHAT IT READS IS OF BULK AT MOST 1048576: true; the input reads as it did. -/
def fnExactNegativeOfUptoRow : OpenClaim := { program := "ytfoflddjcijaeaa", sum := "627a5519dd0d71bdab1d2136a5a797ae18c1e9695710e1a74c5b6e34ec0196be", func := "loop.example/g01225/laws.FnExactNegativeOf", spec := "fnExactNegativeOf", unfollowed := true, recurses := true, apart := false, narrowed := true }
def FnExactNegativeOfUptoSaid : Prop := fnExactNegativeOfUptoRow.holds Try.pinned (OpenSpec.upto fnExactNegativeOfSpec)

/-- 'laws.FnExactStepsOf', WHERE WHAT IT READS IS OF BULK AT MOST 1048576: true; the input reads as it did. -/
def fnExactStepsOfUptoRow : OpenClaim := { program := "ytfoflddjcijaeaa", sum := "627a5519dd0d71bdab1d2136a5a797ae18c1e9695710e1a74c5b6e34ec0196be", func := "loop.example/g01225/laws.FnExactStepsOf", spec := "fnExactStepsOf", inPlace := ["math.archFloor", "math.Float64bits", "math.Float64frombits", "math.archTrunc"], apart := false, narrowed := true }
def FnExactStepsOfUptoSaid : Prop := fnExactStepsOfUptoRow.holds Try.pinned (OpenSpec.upto fnExactStepsOfSpec)

/-- 'laws.FnExactSumOfPicture', WHERE WHAT IT READS IS OF BULK AT MOST 1048576: true; the input reads as it did. -/
def fnExactSumOfPictureUptoRow : OpenClaim := { program := "ytfoflddjcijaeaa", sum := "627a5519dd0d71bdab1d2136a5a797ae18c1e9695710e1a74c5b6e34ec0196be", func := "loop.example/g01225/laws.FnExactSumOfPicture", spec := "fnExactSumOfPicture", unfollowed := true, recurses := true, apart := false, narrowed := true }
def FnExactSumOfPictureUptoSaid : Prop := fnExactSumOfPictureUptoRow.holds Try.pinned (OpenSpec.upto fnExactSumOfPictureSpec)

end Rows
end Go.Proofs.Ytfoflddjcijaeaa
