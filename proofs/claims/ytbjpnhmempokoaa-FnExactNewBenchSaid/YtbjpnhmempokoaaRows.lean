/-
  No cell of these rows narrows 'for every input' (looked for: loops, veiled, ifaces, maps, wideKeys, modest, calm, conditions, laid).
  DERIVED. THE GIVEN ROWS OF THIS SEAT. 7 by the template 'for every input the law returns true; each argument reads behind the call as it read before'; 0 by the template 'total and deterministic' (their statements: YtbjpnhmempokoaaTotals.lean).
  GIVEN WITH THE SEED: the statements are not yours to turn. If you find one false, say at which input.
  Laid BY PROGRAM, IN A SANDBOX (cutbox-rows.mjs): the forced cells as the released guide's own fill.sh prints them over the translation 2f42dbcf676eaccf… (all of the seat's roots in one cut). By AI agents, Wed Nov 11 2026. No macro, syntax, notation, axiom, sorry.
-/
import Derived.Test.YtbjpnhmempokoaaChecked
import GoSem.Claim
import GoSem.ClaimJoined
import GoSem.ClaimMapViews
import Derived.JoinedTies
import Derived.KernelRfl
namespace Go.Proofs.Ytbjpnhmempokoaa
/- THE CELL 'sum', in the pinned program and in every row, IS THE sha256 OF THE DUMP (.gsa) THAT YtbjpnhmempokoaaProg.lean LOADS. Nothing in Lean hashes anything: it is a label: what it is worth is what the hold of that sum in a sandbox is worth. -/
noncomputable def Try.pinned : Pinned := { name := "ytbjpnhmempokoaa", sum := "2f42dbcf676eaccf9a6cfa5c676e8e64f204531b28c80e0ee3f9436dc46f15e6", checked := Try.checked }
namespace Rows
def none {H : Type} : Left H := { results := [], args := [] }

/-- 'laws.FnExactGratingMask': WHATEVER THE INPUT: true; the input reads as it did. -/
def fnExactGratingMaskSpec : ChangeSpec := { name := "fnExactGratingMask", fn := fun _ => fun
  | [d1, d2, d3] => { results := [.lit (.bool true)], args := [d1, d2, d3] }
  | _ => none }
def fnExactGratingMaskRow : OpenClaim := { program := "ytbjpnhmempokoaa", sum := "2f42dbcf676eaccf9a6cfa5c676e8e64f204531b28c80e0ee3f9436dc46f15e6", func := "loop.example/g01225/laws.FnExactGratingMask", spec := "fnExactGratingMask", unfollowed := true, recurses := true, apart := false }
def FnExactGratingMaskSaid : Prop := fnExactGratingMaskRow.holds Try.pinned (OpenSpec.ofChange fnExactGratingMaskSpec)

/-- ITS FALSE NEIGHBOUR: 'it returns false'. Refute it at one input. -/
def fnExactGratingMaskWrong : ChangeSpec := { name := "fnExactGratingMask", fn := fun _ => fun
  | [d1, d2, d3] => { results := [.lit (.bool false)], args := [d1, d2, d3] }
  | _ => none }
def FnExactGratingMaskWrongFalsely : Prop := fnExactGratingMaskRow.holds Try.pinned (OpenSpec.ofChange fnExactGratingMaskWrong)

/-- 'laws.FnExactSlitMask': WHATEVER THE INPUT: true; the input reads as it did. -/
def fnExactSlitMaskSpec : ChangeSpec := { name := "fnExactSlitMask", fn := fun _ => fun
  | [d1, d2, d3] => { results := [.lit (.bool true)], args := [d1, d2, d3] }
  | _ => none }
def fnExactSlitMaskRow : OpenClaim := { program := "ytbjpnhmempokoaa", sum := "2f42dbcf676eaccf9a6cfa5c676e8e64f204531b28c80e0ee3f9436dc46f15e6", func := "loop.example/g01225/laws.FnExactSlitMask", spec := "fnExactSlitMask", unfollowed := true, recurses := true, apart := false }
def FnExactSlitMaskSaid : Prop := fnExactSlitMaskRow.holds Try.pinned (OpenSpec.ofChange fnExactSlitMaskSpec)

/-- ITS FALSE NEIGHBOUR: 'it returns false'. Refute it at one input. -/
def fnExactSlitMaskWrong : ChangeSpec := { name := "fnExactSlitMask", fn := fun _ => fun
  | [d1, d2, d3] => { results := [.lit (.bool false)], args := [d1, d2, d3] }
  | _ => none }
def FnExactSlitMaskWrongFalsely : Prop := fnExactSlitMaskRow.holds Try.pinned (OpenSpec.ofChange fnExactSlitMaskWrong)

/-- 'laws.FnExactCheckMask': WHATEVER THE INPUT: true; the input reads as it did. -/
def fnExactCheckMaskSpec : ChangeSpec := { name := "fnExactCheckMask", fn := fun _ => fun
  | [d1, d2] => { results := [.lit (.bool true)], args := [d1, d2] }
  | _ => none }
def fnExactCheckMaskRow : OpenClaim := { program := "ytbjpnhmempokoaa", sum := "2f42dbcf676eaccf9a6cfa5c676e8e64f204531b28c80e0ee3f9436dc46f15e6", func := "loop.example/g01225/laws.FnExactCheckMask", spec := "fnExactCheckMask", unfollowed := true, recurses := true, apart := false }
def FnExactCheckMaskSaid : Prop := fnExactCheckMaskRow.holds Try.pinned (OpenSpec.ofChange fnExactCheckMaskSpec)

/-- ITS FALSE NEIGHBOUR: 'it returns false'. Refute it at one input. -/
def fnExactCheckMaskWrong : ChangeSpec := { name := "fnExactCheckMask", fn := fun _ => fun
  | [d1, d2] => { results := [.lit (.bool false)], args := [d1, d2] }
  | _ => none }
def FnExactCheckMaskWrongFalsely : Prop := fnExactCheckMaskRow.holds Try.pinned (OpenSpec.ofChange fnExactCheckMaskWrong)

/-- 'laws.FnExactDiscMask': WHATEVER THE INPUT: true; the input reads as it did. -/
def fnExactDiscMaskSpec : ChangeSpec := { name := "fnExactDiscMask", fn := fun _ => fun
  | [d1, d2, d3, d4] => { results := [.lit (.bool true)], args := [d1, d2, d3, d4] }
  | _ => none }
def fnExactDiscMaskRow : OpenClaim := { program := "ytbjpnhmempokoaa", sum := "2f42dbcf676eaccf9a6cfa5c676e8e64f204531b28c80e0ee3f9436dc46f15e6", func := "loop.example/g01225/laws.FnExactDiscMask", spec := "fnExactDiscMask", unfollowed := true, recurses := true, apart := false }
def FnExactDiscMaskSaid : Prop := fnExactDiscMaskRow.holds Try.pinned (OpenSpec.ofChange fnExactDiscMaskSpec)

/-- ITS FALSE NEIGHBOUR: 'it returns false'. Refute it at one input. -/
def fnExactDiscMaskWrong : ChangeSpec := { name := "fnExactDiscMask", fn := fun _ => fun
  | [d1, d2, d3, d4] => { results := [.lit (.bool false)], args := [d1, d2, d3, d4] }
  | _ => none }
def FnExactDiscMaskWrongFalsely : Prop := fnExactDiscMaskRow.holds Try.pinned (OpenSpec.ofChange fnExactDiscMaskWrong)

/-- 'laws.FnExactZoneMask': WHATEVER THE INPUT: true; the input reads as it did. -/
def fnExactZoneMaskSpec : ChangeSpec := { name := "fnExactZoneMask", fn := fun _ => fun
  | [d1, d2, d3, d4] => { results := [.lit (.bool true)], args := [d1, d2, d3, d4] }
  | _ => none }
def fnExactZoneMaskRow : OpenClaim := { program := "ytbjpnhmempokoaa", sum := "2f42dbcf676eaccf9a6cfa5c676e8e64f204531b28c80e0ee3f9436dc46f15e6", func := "loop.example/g01225/laws.FnExactZoneMask", spec := "fnExactZoneMask", unfollowed := true, recurses := true, apart := false }
def FnExactZoneMaskSaid : Prop := fnExactZoneMaskRow.holds Try.pinned (OpenSpec.ofChange fnExactZoneMaskSpec)

/-- ITS FALSE NEIGHBOUR: 'it returns false'. Refute it at one input. -/
def fnExactZoneMaskWrong : ChangeSpec := { name := "fnExactZoneMask", fn := fun _ => fun
  | [d1, d2, d3, d4] => { results := [.lit (.bool false)], args := [d1, d2, d3, d4] }
  | _ => none }
def FnExactZoneMaskWrongFalsely : Prop := fnExactZoneMaskRow.holds Try.pinned (OpenSpec.ofChange fnExactZoneMaskWrong)

/-- 'laws.FnExactCodeWave': WHATEVER THE INPUT: true; the input reads as it did. -/
def fnExactCodeWaveSpec : ChangeSpec := { name := "fnExactCodeWave", fn := fun _ => fun
  | [d1, d2] => { results := [.lit (.bool true)], args := [d1, d2] }
  | _ => none }
def fnExactCodeWaveRow : OpenClaim := { program := "ytbjpnhmempokoaa", sum := "2f42dbcf676eaccf9a6cfa5c676e8e64f204531b28c80e0ee3f9436dc46f15e6", func := "loop.example/g01225/laws.FnExactCodeWave", spec := "fnExactCodeWave", unfollowed := true, recurses := true, apart := false }
def FnExactCodeWaveSaid : Prop := fnExactCodeWaveRow.holds Try.pinned (OpenSpec.ofChange fnExactCodeWaveSpec)

/-- ITS FALSE NEIGHBOUR: 'it returns false'. Refute it at one input. -/
def fnExactCodeWaveWrong : ChangeSpec := { name := "fnExactCodeWave", fn := fun _ => fun
  | [d1, d2] => { results := [.lit (.bool false)], args := [d1, d2] }
  | _ => none }
def FnExactCodeWaveWrongFalsely : Prop := fnExactCodeWaveRow.holds Try.pinned (OpenSpec.ofChange fnExactCodeWaveWrong)

/-- 'laws.FnExactNewBench': WHATEVER THE INPUT: true; the input reads as it did. -/
def fnExactNewBenchSpec : ChangeSpec := { name := "fnExactNewBench", fn := fun _ => fun
  | [] => { results := [.lit (.bool true)], args := [] }
  | _ => none }
def fnExactNewBenchRow : OpenClaim := { program := "ytbjpnhmempokoaa", sum := "2f42dbcf676eaccf9a6cfa5c676e8e64f204531b28c80e0ee3f9436dc46f15e6", func := "loop.example/g01225/laws.FnExactNewBench", spec := "fnExactNewBench", unfollowed := true, recurses := true, apart := false }
def FnExactNewBenchSaid : Prop := fnExactNewBenchRow.holds Try.pinned (OpenSpec.ofChange fnExactNewBenchSpec)

/-- ITS FALSE NEIGHBOUR: 'it returns false'. Refute it at one input. -/
def fnExactNewBenchWrong : ChangeSpec := { name := "fnExactNewBench", fn := fun _ => fun
  | [] => { results := [.lit (.bool false)], args := [] }
  | _ => none }
def FnExactNewBenchWrongFalsely : Prop := fnExactNewBenchRow.holds Try.pinned (OpenSpec.ofChange fnExactNewBenchWrong)

/- THE SECOND FORM. 'bulk': how many values and letters a reading holds, each counted each time it is reached (what is shared counts as often as it is met; a slice's spare places count too). A statement '..UptoSaid' is the law's where the arguments, and the package variables that the reading takes, are together of bulk at most 1048576: NARROWER than '..Said'. Prove '..Said' where nothing that the law and all that it calls make is longer than what came in: it says more and counts as full. Else prove '..UptoSaid'. A law counts once. -/
mutual
def uptoBulk {H : Type} : DataW H → Nat
  | .lit (.string bytes) => bytes.length + 1
  | .lit _ => 1
  | .nil => 1
  | .ptr d => uptoBulk d + 1
  | .slice elems spare => uptoBulkAll elems + uptoBulkAll spare + 1
  | .agg parts => uptoBulkAll parts + 1
  | .iface _ d => uptoBulk d + 1
  | .map entries => uptoBulkEntries entries + 1
  | .held _ => 1
def uptoBulkAll {H : Type} : List (DataW H) → Nat
  | [] => 0
  | d :: r => uptoBulk d + uptoBulkAll r
def uptoBulkEntries {H : Type} : List (Lit × DataW H) → Nat
  | [] => 0
  | x :: r => uptoBulkEntry x + uptoBulkEntries r
def uptoBulkEntry {H : Type} : Lit × DataW H → Nat
  | (.string bytes, d) => bytes.length + uptoBulk d + 1
  | (_, d) => uptoBulk d + 1
 end
def uptoSmall : (H : Type) → List (DataW H) → Bool := fun _ ds => decide (uptoBulkAll ds ≤ 1048576)
def OpenSpec.upto (s : _root_.Go.ChangeSpec) : _root_.Go.OpenSpec := { _root_.Go.OpenSpec.ofChange s with cond := some uptoSmall }

/-- 'laws.FnExactGratingMask', WHERE WHAT IT READS IS OF BULK AT MOST 1048576: true; the input reads as it did. -/
def fnExactGratingMaskUptoRow : OpenClaim := { program := "ytbjpnhmempokoaa", sum := "2f42dbcf676eaccf9a6cfa5c676e8e64f204531b28c80e0ee3f9436dc46f15e6", func := "loop.example/g01225/laws.FnExactGratingMask", spec := "fnExactGratingMask", unfollowed := true, recurses := true, apart := false, narrowed := true }
def FnExactGratingMaskUptoSaid : Prop := fnExactGratingMaskUptoRow.holds Try.pinned (OpenSpec.upto fnExactGratingMaskSpec)

/-- 'laws.FnExactSlitMask', WHERE WHAT IT READS IS OF BULK AT MOST 1048576: true; the input reads as it did. -/
def fnExactSlitMaskUptoRow : OpenClaim := { program := "ytbjpnhmempokoaa", sum := "2f42dbcf676eaccf9a6cfa5c676e8e64f204531b28c80e0ee3f9436dc46f15e6", func := "loop.example/g01225/laws.FnExactSlitMask", spec := "fnExactSlitMask", unfollowed := true, recurses := true, apart := false, narrowed := true }
def FnExactSlitMaskUptoSaid : Prop := fnExactSlitMaskUptoRow.holds Try.pinned (OpenSpec.upto fnExactSlitMaskSpec)

/-- 'laws.FnExactCheckMask', WHERE WHAT IT READS IS OF BULK AT MOST 1048576: true; the input reads as it did. -/
def fnExactCheckMaskUptoRow : OpenClaim := { program := "ytbjpnhmempokoaa", sum := "2f42dbcf676eaccf9a6cfa5c676e8e64f204531b28c80e0ee3f9436dc46f15e6", func := "loop.example/g01225/laws.FnExactCheckMask", spec := "fnExactCheckMask", unfollowed := true, recurses := true, apart := false, narrowed := true }
def FnExactCheckMaskUptoSaid : Prop := fnExactCheckMaskUptoRow.holds Try.pinned (OpenSpec.upto fnExactCheckMaskSpec)

/-- 'laws.FnExactDiscMask', WHERE WHAT IT READS IS OF BULK AT MOST 1048576: true; the input reads as it did. -/
def fnExactDiscMaskUptoRow : OpenClaim := { program := "ytbjpnhmempokoaa", sum := "2f42dbcf676eaccf9a6cfa5c676e8e64f204531b28c80e0ee3f9436dc46f15e6", func := "loop.example/g01225/laws.FnExactDiscMask", spec := "fnExactDiscMask", unfollowed := true, recurses := true, apart := false, narrowed := true }
def FnExactDiscMaskUptoSaid : Prop := fnExactDiscMaskUptoRow.holds Try.pinned (OpenSpec.upto fnExactDiscMaskSpec)

/-- 'laws.FnExactZoneMask', WHERE WHAT IT READS IS OF BULK AT MOST 1048576: true; the input reads as it did. -/
def fnExactZoneMaskUptoRow : OpenClaim := { program := "ytbjpnhmempokoaa", sum := "2f42dbcf676eaccf9a6cfa5c676e8e64f204531b28c80e0ee3f9436dc46f15e6", func := "loop.example/g01225/laws.FnExactZoneMask", spec := "fnExactZoneMask", unfollowed := true, recurses := true, apart := false, narrowed := true }
def FnExactZoneMaskUptoSaid : Prop := fnExactZoneMaskUptoRow.holds Try.pinned (OpenSpec.upto fnExactZoneMaskSpec)

/-- 'laws.FnExactCodeWave', WHERE WHAT IT READS IS OF BULK AT MOST 1048576: true; the input reads as it did. -/
def fnExactCodeWaveUptoRow : OpenClaim := { program := "ytbjpnhmempokoaa", sum := "2f42dbcf676eaccf9a6cfa5c676e8e64f204531b28c80e0ee3f9436dc46f15e6", func := "loop.example/g01225/laws.FnExactCodeWave", spec := "fnExactCodeWave", unfollowed := true, recurses := true, apart := false, narrowed := true }
def FnExactCodeWaveUptoSaid : Prop := fnExactCodeWaveUptoRow.holds Try.pinned (OpenSpec.upto fnExactCodeWaveSpec)

/-- 'laws.FnExactNewBench', WHERE WHAT IT READS IS OF BULK AT MOST 1048576: true; the input reads as it did. -/
def fnExactNewBenchUptoRow : OpenClaim := { program := "ytbjpnhmempokoaa", sum := "2f42dbcf676eaccf9a6cfa5c676e8e64f204531b28c80e0ee3f9436dc46f15e6", func := "loop.example/g01225/laws.FnExactNewBench", spec := "fnExactNewBench", unfollowed := true, recurses := true, apart := false, narrowed := true }
def FnExactNewBenchUptoSaid : Prop := fnExactNewBenchUptoRow.holds Try.pinned (OpenSpec.upto fnExactNewBenchSpec)

end Rows
end Go.Proofs.Ytbjpnhmempokoaa
