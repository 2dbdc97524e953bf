/-
  No cell of these rows narrows 'for every input' (looked for: loops, veiled, ifaces, maps, wideKeys, modest, calm, conditions, laid).
  DERIVED. THE GIVEN ROWS OF THIS SEAT. 8 by the template 'for every input the law returns true; each argument reads behind the call as it read before'; 0 by the template 'total and deterministic' (their statements: YtakhgppjgeeihaaTotals.lean).
  GIVEN WITH THE SEED: the statements are not yours to turn. If you find one false, say at which input.
  Laid BY PROGRAM, IN A SANDBOX (cutbox-rows.mjs): the forced cells as the released guide's own fill.sh prints them over the translation 273f20d6bc18a473… (all of the seat's roots in one cut). By AI agents, Wed Nov 11 2026. No macro, syntax, notation, axiom, sorry.
-/
import Derived.Test.YtakhgppjgeeihaaChecked
import GoSem.Claim
import GoSem.ClaimJoined
import GoSem.ClaimMapViews
import Derived.JoinedTies
import Derived.KernelRfl
namespace Go.Proofs.Ytakhgppjgeeihaa
/- THE CELL 'sum', in the pinned program and in every row, IS THE sha256 OF THE DUMP (.gsa) THAT YtakhgppjgeeihaaProg.lean LOADS. Nothing in Lean hashes anything: it is a label: what it is worth is what the hold of that sum in a sandbox is worth. -/
noncomputable def Try.pinned : Pinned := { name := "ytakhgppjgeeihaa", sum := "273f20d6bc18a47334b0702aa44c34464ca89c422d3d829f88820700e6019c99", checked := Try.checked }
namespace Rows
def none {H : Type} : Left H := { results := [], args := [] }

/-- 'laws.FnSmooth': WHATEVER THE INPUT: true; the input reads as it did. -/
def fnSmoothSpec : ChangeSpec := { name := "fnSmooth", fn := fun _ => fun
  | [d] => { results := [.lit (.bool true)], args := [d] }
  | _ => none }
def fnSmoothRow : OpenClaim := { program := "ytakhgppjgeeihaa", sum := "273f20d6bc18a47334b0702aa44c34464ca89c422d3d829f88820700e6019c99", func := "loop.example/quadraticorbits/laws.FnSmooth", spec := "fnSmooth", unfollowed := true, recurses := true, apart := false }
def FnSmoothSaid : Prop := fnSmoothRow.holds Try.pinned (OpenSpec.ofChange fnSmoothSpec)

/-- ITS FALSE NEIGHBOUR: 'it returns false'. Refute it at one input. -/
def fnSmoothWrong : ChangeSpec := { name := "fnSmooth", fn := fun _ => fun
  | [d] => { results := [.lit (.bool false)], args := [d] }
  | _ => none }
def FnSmoothWrongFalsely : Prop := fnSmoothRow.holds Try.pinned (OpenSpec.ofChange fnSmoothWrong)

/-- 'laws.FnCentre': WHATEVER THE INPUT: true; the input reads as it did. -/
def fnCentreSpec : ChangeSpec := { name := "fnCentre", fn := fun _ => fun
  | [d] => { results := [.lit (.bool true)], args := [d] }
  | _ => none }
def fnCentreRow : OpenClaim := { program := "ytakhgppjgeeihaa", sum := "273f20d6bc18a47334b0702aa44c34464ca89c422d3d829f88820700e6019c99", func := "loop.example/quadraticorbits/laws.FnCentre", spec := "fnCentre", unfollowed := true, recurses := true, apart := false }
def FnCentreSaid : Prop := fnCentreRow.holds Try.pinned (OpenSpec.ofChange fnCentreSpec)

/-- ITS FALSE NEIGHBOUR: 'it returns false'. Refute it at one input. -/
def fnCentreWrong : ChangeSpec := { name := "fnCentre", fn := fun _ => fun
  | [d] => { results := [.lit (.bool false)], args := [d] }
  | _ => none }
def FnCentreWrongFalsely : Prop := fnCentreRow.holds Try.pinned (OpenSpec.ofChange fnCentreWrong)

/-- 'laws.FnDiffer': WHATEVER THE INPUT: true; the input reads as it did. -/
def fnDifferSpec : ChangeSpec := { name := "fnDiffer", fn := fun _ => fun
  | [d] => { results := [.lit (.bool true)], args := [d] }
  | _ => none }
def fnDifferRow : OpenClaim := { program := "ytakhgppjgeeihaa", sum := "273f20d6bc18a47334b0702aa44c34464ca89c422d3d829f88820700e6019c99", func := "loop.example/quadraticorbits/laws.FnDiffer", spec := "fnDiffer", unfollowed := true, recurses := true, apart := false }
def FnDifferSaid : Prop := fnDifferRow.holds Try.pinned (OpenSpec.ofChange fnDifferSpec)

/-- ITS FALSE NEIGHBOUR: 'it returns false'. Refute it at one input. -/
def fnDifferWrong : ChangeSpec := { name := "fnDiffer", fn := fun _ => fun
  | [d] => { results := [.lit (.bool false)], args := [d] }
  | _ => none }
def FnDifferWrongFalsely : Prop := fnDifferRow.holds Try.pinned (OpenSpec.ofChange fnDifferWrong)

/-- 'laws.FnOrbitWide': WHATEVER THE INPUT: true; the input reads as it did. -/
def fnOrbitWideSpec : ChangeSpec := { name := "fnOrbitWide", fn := fun _ => fun
  | [d] => { results := [.lit (.bool true)], args := [d] }
  | _ => none }
def fnOrbitWideRow : OpenClaim := { program := "ytakhgppjgeeihaa", sum := "273f20d6bc18a47334b0702aa44c34464ca89c422d3d829f88820700e6019c99", func := "loop.example/quadraticorbits/laws.FnOrbitWide", spec := "fnOrbitWide", unfollowed := true, recurses := true, apart := false }
def FnOrbitWideSaid : Prop := fnOrbitWideRow.holds Try.pinned (OpenSpec.ofChange fnOrbitWideSpec)

/-- ITS FALSE NEIGHBOUR: 'it returns false'. Refute it at one input. -/
def fnOrbitWideWrong : ChangeSpec := { name := "fnOrbitWide", fn := fun _ => fun
  | [d] => { results := [.lit (.bool false)], args := [d] }
  | _ => none }
def FnOrbitWideWrongFalsely : Prop := fnOrbitWideRow.holds Try.pinned (OpenSpec.ofChange fnOrbitWideWrong)

/-- 'laws.FnCycle': WHATEVER THE INPUT: true; the input reads as it did. -/
def fnCycleSpec : ChangeSpec := { name := "fnCycle", fn := fun _ => fun
  | [d] => { results := [.lit (.bool true)], args := [d] }
  | _ => none }
def fnCycleRow : OpenClaim := { program := "ytakhgppjgeeihaa", sum := "273f20d6bc18a47334b0702aa44c34464ca89c422d3d829f88820700e6019c99", func := "loop.example/quadraticorbits/laws.FnCycle", spec := "fnCycle", unfollowed := true, recurses := true, apart := false }
def FnCycleSaid : Prop := fnCycleRow.holds Try.pinned (OpenSpec.ofChange fnCycleSpec)

/-- ITS FALSE NEIGHBOUR: 'it returns false'. Refute it at one input. -/
def fnCycleWrong : ChangeSpec := { name := "fnCycle", fn := fun _ => fun
  | [d] => { results := [.lit (.bool false)], args := [d] }
  | _ => none }
def FnCycleWrongFalsely : Prop := fnCycleRow.holds Try.pinned (OpenSpec.ofChange fnCycleWrong)

/-- 'laws.FnEscapeWide': WHATEVER THE INPUT: true; the input reads as it did. -/
def fnEscapeWideSpec : ChangeSpec := { name := "fnEscapeWide", fn := fun _ => fun
  | [d] => { results := [.lit (.bool true)], args := [d] }
  | _ => none }
def fnEscapeWideRow : OpenClaim := { program := "ytakhgppjgeeihaa", sum := "273f20d6bc18a47334b0702aa44c34464ca89c422d3d829f88820700e6019c99", func := "loop.example/quadraticorbits/laws.FnEscapeWide", spec := "fnEscapeWide", unfollowed := true, recurses := true, apart := false }
def FnEscapeWideSaid : Prop := fnEscapeWideRow.holds Try.pinned (OpenSpec.ofChange fnEscapeWideSpec)

/-- ITS FALSE NEIGHBOUR: 'it returns false'. Refute it at one input. -/
def fnEscapeWideWrong : ChangeSpec := { name := "fnEscapeWide", fn := fun _ => fun
  | [d] => { results := [.lit (.bool false)], args := [d] }
  | _ => none }
def FnEscapeWideWrongFalsely : Prop := fnEscapeWideRow.holds Try.pinned (OpenSpec.ofChange fnEscapeWideWrong)

/-- 'laws.FnOrbitSingle': WHATEVER THE INPUT: true; the input reads as it did. -/
def fnOrbitSingleSpec : ChangeSpec := { name := "fnOrbitSingle", fn := fun _ => fun
  | [d] => { results := [.lit (.bool true)], args := [d] }
  | _ => none }
def fnOrbitSingleRow : OpenClaim := { program := "ytakhgppjgeeihaa", sum := "273f20d6bc18a47334b0702aa44c34464ca89c422d3d829f88820700e6019c99", func := "loop.example/quadraticorbits/laws.FnOrbitSingle", spec := "fnOrbitSingle", unfollowed := true, recurses := true, apart := false }
def FnOrbitSingleSaid : Prop := fnOrbitSingleRow.holds Try.pinned (OpenSpec.ofChange fnOrbitSingleSpec)

/-- ITS FALSE NEIGHBOUR: 'it returns false'. Refute it at one input. -/
def fnOrbitSingleWrong : ChangeSpec := { name := "fnOrbitSingle", fn := fun _ => fun
  | [d] => { results := [.lit (.bool false)], args := [d] }
  | _ => none }
def FnOrbitSingleWrongFalsely : Prop := fnOrbitSingleRow.holds Try.pinned (OpenSpec.ofChange fnOrbitSingleWrong)

/-- 'laws.FnEscapeSingle': WHATEVER THE INPUT: true; the input reads as it did. -/
def fnEscapeSingleSpec : ChangeSpec := { name := "fnEscapeSingle", fn := fun _ => fun
  | [d] => { results := [.lit (.bool true)], args := [d] }
  | _ => none }
def fnEscapeSingleRow : OpenClaim := { program := "ytakhgppjgeeihaa", sum := "273f20d6bc18a47334b0702aa44c34464ca89c422d3d829f88820700e6019c99", func := "loop.example/quadraticorbits/laws.FnEscapeSingle", spec := "fnEscapeSingle", unfollowed := true, recurses := true, apart := false }
def FnEscapeSingleSaid : Prop := fnEscapeSingleRow.holds Try.pinned (OpenSpec.ofChange fnEscapeSingleSpec)

/-- ITS FALSE NEIGHBOUR: 'it returns false'. Refute it at one input. -/
def fnEscapeSingleWrong : ChangeSpec := { name := "fnEscapeSingle", fn := fun _ => fun
  | [d] => { results := [.lit (.bool false)], args := [d] }
  | _ => none }
def FnEscapeSingleWrongFalsely : Prop := fnEscapeSingleRow.holds Try.pinned (OpenSpec.ofChange fnEscapeSingleWrong)

/- THE SECOND FORM. 'bulk': how many values and letters a reading holds, each counted each time it is reached (what is shared counts as often as it is met; a slice's spare places count too). A statement '..UptoSaid' is the law's where the arguments, and the package variables that the reading takes, are together of bulk at most 1048576: NARROWER than '..Said'. Prove '..Said' where nothing that the law and all that it calls make is longer than what came in: it says more and counts as full. Else prove '..UptoSaid'. A law counts once. -/
mutual
def uptoBulk {H : Type} : DataW H → Nat
  | .lit (.string bytes) => bytes.length + 1
  | .lit _ => 1
  | .nil => 1
  | .ptr d => uptoBulk d + 1
  | .slice elems spare => uptoBulkAll elems + uptoBulkAll spare + 1
  | .agg parts => uptoBulkAll parts + 1
  | .iface _ d => uptoBulk d + 1
  | .map entries => uptoBulkEntries entries + 1
  | .held _ => 1
def uptoBulkAll {H : Type} : List (DataW H) → Nat
  | [] => 0
  | d :: r => uptoBulk d + uptoBulkAll r
def uptoBulkEntries {H : Type} : List (Lit × DataW H) → Nat
  | [] => 0
  | x :: r => uptoBulkEntry x + uptoBulkEntries r
def uptoBulkEntry {H : Type} : Lit × DataW H → Nat
  | (.string bytes, d) => bytes.length + uptoBulk d + 1
  | (_, d) => uptoBulk d + 1
 end
def uptoSmall : (H : Type) → List (DataW H) → Bool := fun _ ds => decide (uptoBulkAll ds ≤ 1048576)
def OpenSpec.upto (s : _root_.Go.ChangeSpec) : _root_.Go.OpenSpec := { _root_.Go.OpenSpec.ofChange s with cond := some uptoSmall }

/-- 'laws.FnSmooth', WHERE WHAT IT READS IS OF BULK AT MOST 1048576: true; the input reads as it did. -/
def fnSmoothUptoRow : OpenClaim := { program := "ytakhgppjgeeihaa", sum := "273f20d6bc18a47334b0702aa44c34464ca89c422d3d829f88820700e6019c99", func := "loop.example/quadraticorbits/laws.FnSmooth", spec := "fnSmooth", unfollowed := true, recurses := true, apart := false, narrowed := true }
def FnSmoothUptoSaid : Prop := fnSmoothUptoRow.holds Try.pinned (OpenSpec.upto fnSmoothSpec)

/-- 'laws.FnCentre', WHERE WHAT IT READS IS OF BULK AT MOST 1048576: true; the input reads as it did. -/
def fnCentreUptoRow : OpenClaim := { program := "ytakhgppjgeeihaa", sum := "273f20d6bc18a47334b0702aa44c34464ca89c422d3d829f88820700e6019c99", func := "loop.example/quadraticorbits/laws.FnCentre", spec := "fnCentre", unfollowed := true, recurses := true, apart := false, narrowed := true }
def FnCentreUptoSaid : Prop := fnCentreUptoRow.holds Try.pinned (OpenSpec.upto fnCentreSpec)

/-- 'laws.FnDiffer', WHERE WHAT IT READS IS OF BULK AT MOST 1048576: true; the input reads as it did. -/
def fnDifferUptoRow : OpenClaim := { program := "ytakhgppjgeeihaa", sum := "273f20d6bc18a47334b0702aa44c34464ca89c422d3d829f88820700e6019c99", func := "loop.example/quadraticorbits/laws.FnDiffer", spec := "fnDiffer", unfollowed := true, recurses := true, apart := false, narrowed := true }
def FnDifferUptoSaid : Prop := fnDifferUptoRow.holds Try.pinned (OpenSpec.upto fnDifferSpec)

/-- 'laws.FnOrbitWide', WHERE WHAT IT READS IS OF BULK AT MOST 1048576: true; the input reads as it did. -/
def fnOrbitWideUptoRow : OpenClaim := { program := "ytakhgppjgeeihaa", sum := "273f20d6bc18a47334b0702aa44c34464ca89c422d3d829f88820700e6019c99", func := "loop.example/quadraticorbits/laws.FnOrbitWide", spec := "fnOrbitWide", unfollowed := true, recurses := true, apart := false, narrowed := true }
def FnOrbitWideUptoSaid : Prop := fnOrbitWideUptoRow.holds Try.pinned (OpenSpec.upto fnOrbitWideSpec)

/-- 'laws.FnCycle', WHERE WHAT IT READS IS OF BULK AT MOST 1048576: true; the input reads as it did. -/
def fnCycleUptoRow : OpenClaim := { program := "ytakhgppjgeeihaa", sum := "273f20d6bc18a47334b0702aa44c34464ca89c422d3d829f88820700e6019c99", func := "loop.example/quadraticorbits/laws.FnCycle", spec := "fnCycle", unfollowed := true, recurses := true, apart := false, narrowed := true }
def FnCycleUptoSaid : Prop := fnCycleUptoRow.holds Try.pinned (OpenSpec.upto fnCycleSpec)

/-- 'laws.FnEscapeWide', WHERE WHAT IT READS IS OF BULK AT MOST 1048576: true; the input reads as it did. -/
def fnEscapeWideUptoRow : OpenClaim := { program := "ytakhgppjgeeihaa", sum := "273f20d6bc18a47334b0702aa44c34464ca89c422d3d829f88820700e6019c99", func := "loop.example/quadraticorbits/laws.FnEscapeWide", spec := "fnEscapeWide", unfollowed := true, recurses := true, apart := false, narrowed := true }
def FnEscapeWideUptoSaid : Prop := fnEscapeWideUptoRow.holds Try.pinned (OpenSpec.upto fnEscapeWideSpec)

/-- 'laws.FnOrbitSingle', WHERE WHAT IT READS IS OF BULK AT MOST 1048576: true; the input reads as it did. -/
def fnOrbitSingleUptoRow : OpenClaim := { program := "ytakhgppjgeeihaa", sum := "273f20d6bc18a47334b0702aa44c34464ca89c422d3d829f88820700e6019c99", func := "loop.example/quadraticorbits/laws.FnOrbitSingle", spec := "fnOrbitSingle", unfollowed := true, recurses := true, apart := false, narrowed := true }
def FnOrbitSingleUptoSaid : Prop := fnOrbitSingleUptoRow.holds Try.pinned (OpenSpec.upto fnOrbitSingleSpec)

/-- 'laws.FnEscapeSingle', WHERE WHAT IT READS IS OF BULK AT MOST 1048576: true; the input reads as it did. -/
def fnEscapeSingleUptoRow : OpenClaim := { program := "ytakhgppjgeeihaa", sum := "273f20d6bc18a47334b0702aa44c34464ca89c422d3d829f88820700e6019c99", func := "loop.example/quadraticorbits/laws.FnEscapeSingle", spec := "fnEscapeSingle", unfollowed := true, recurses := true, apart := false, narrowed := true }
def FnEscapeSingleUptoSaid : Prop := fnEscapeSingleUptoRow.holds Try.pinned (OpenSpec.upto fnEscapeSingleSpec)

end Rows
end Go.Proofs.Ytakhgppjgeeihaa
