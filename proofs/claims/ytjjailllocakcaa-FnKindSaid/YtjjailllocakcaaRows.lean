/-
  No cell of these rows narrows 'for every input' (looked for: loops, veiled, ifaces, maps, wideKeys, modest, calm, conditions, laid).
  DERIVED. THE GIVEN ROWS OF THIS SEAT. 10 by the template 'for every input the law returns true; each argument reads behind the call as it read before'; 0 by the template 'total and deterministic' (their statements: YtjjailllocakcaaTotals.lean).
  GIVEN WITH THE SEED: the statements are not yours to turn. If you find one false, say at which input.
  Laid BY PROGRAM, IN A SANDBOX (cutbox-rows.mjs): the forced cells as the released guide's own fill.sh prints them over the translation 18404bdcd08cc5a3… (all of the seat's roots in one cut). By AI agents, Wed Nov 11 2026. No macro, syntax, notation, axiom, sorry.
-/
import Derived.Test.YtjjailllocakcaaChecked
import GoSem.Claim
import GoSem.ClaimJoined
import GoSem.ClaimMapViews
import Derived.JoinedTies
import Derived.KernelRfl
namespace Go.Proofs.Ytjjailllocakcaa
/- THE CELL 'sum', in the pinned program and in every row, IS THE sha256 OF THE DUMP (.gsa) THAT YtjjailllocakcaaProg.lean LOADS. Nothing in Lean hashes anything: it is a label: what it is worth is what the hold of that sum in a sandbox is worth. -/
noncomputable def Try.pinned : Pinned := { name := "ytjjailllocakcaa", sum := "18404bdcd08cc5a3acf65c8b9b9b3652669f7f52b7844f0458a3ff351bcf304c", checked := Try.checked }
namespace Rows
def none {H : Type} : Left H := { results := [], args := [] }

/-- 'laws.FnTurn': WHATEVER THE INPUT: true; the input reads as it did. -/
def fnTurnSpec : ChangeSpec := { name := "fnTurn", fn := fun _ => fun
  | [d] => { results := [.lit (.bool true)], args := [d] }
  | _ => none }
def fnTurnRow : OpenClaim := { program := "ytjjailllocakcaa", sum := "18404bdcd08cc5a3acf65c8b9b9b3652669f7f52b7844f0458a3ff351bcf304c", func := "loop.example/quadraticorbits/laws.FnTurn", spec := "fnTurn", apart := false }
def FnTurnSaid : Prop := fnTurnRow.holds Try.pinned (OpenSpec.ofChange fnTurnSpec)

/-- ITS FALSE NEIGHBOUR: 'it returns false'. Refute it at one input. -/
def fnTurnWrong : ChangeSpec := { name := "fnTurn", fn := fun _ => fun
  | [d] => { results := [.lit (.bool false)], args := [d] }
  | _ => none }
def FnTurnWrongFalsely : Prop := fnTurnRow.holds Try.pinned (OpenSpec.ofChange fnTurnWrong)

/-- 'laws.FnNarrow': WHATEVER THE INPUT: true; the input reads as it did. -/
def fnNarrowSpec : ChangeSpec := { name := "fnNarrow", fn := fun _ => fun
  | [d] => { results := [.lit (.bool true)], args := [d] }
  | _ => none }
def fnNarrowRow : OpenClaim := { program := "ytjjailllocakcaa", sum := "18404bdcd08cc5a3acf65c8b9b9b3652669f7f52b7844f0458a3ff351bcf304c", func := "loop.example/quadraticorbits/laws.FnNarrow", spec := "fnNarrow", apart := false }
def FnNarrowSaid : Prop := fnNarrowRow.holds Try.pinned (OpenSpec.ofChange fnNarrowSpec)

/-- ITS FALSE NEIGHBOUR: 'it returns false'. Refute it at one input. -/
def fnNarrowWrong : ChangeSpec := { name := "fnNarrow", fn := fun _ => fun
  | [d] => { results := [.lit (.bool false)], args := [d] }
  | _ => none }
def FnNarrowWrongFalsely : Prop := fnNarrowRow.holds Try.pinned (OpenSpec.ofChange fnNarrowWrong)

/-- 'laws.FnWiden': WHATEVER THE INPUT: true; the input reads as it did. -/
def fnWidenSpec : ChangeSpec := { name := "fnWiden", fn := fun _ => fun
  | [d] => { results := [.lit (.bool true)], args := [d] }
  | _ => none }
def fnWidenRow : OpenClaim := { program := "ytjjailllocakcaa", sum := "18404bdcd08cc5a3acf65c8b9b9b3652669f7f52b7844f0458a3ff351bcf304c", func := "loop.example/quadraticorbits/laws.FnWiden", spec := "fnWiden", apart := false }
def FnWidenSaid : Prop := fnWidenRow.holds Try.pinned (OpenSpec.ofChange fnWidenSpec)

/-- ITS FALSE NEIGHBOUR: 'it returns false'. Refute it at one input. -/
def fnWidenWrong : ChangeSpec := { name := "fnWiden", fn := fun _ => fun
  | [d] => { results := [.lit (.bool false)], args := [d] }
  | _ => none }
def FnWidenWrongFalsely : Prop := fnWidenRow.holds Try.pinned (OpenSpec.ofChange fnWidenWrong)

/-- 'laws.FnProduct': WHATEVER THE INPUT: true; the input reads as it did. -/
def fnProductSpec : ChangeSpec := { name := "fnProduct", fn := fun _ => fun
  | [d] => { results := [.lit (.bool true)], args := [d] }
  | _ => none }
def fnProductRow : OpenClaim := { program := "ytjjailllocakcaa", sum := "18404bdcd08cc5a3acf65c8b9b9b3652669f7f52b7844f0458a3ff351bcf304c", func := "loop.example/quadraticorbits/laws.FnProduct", spec := "fnProduct", apart := false }
def FnProductSaid : Prop := fnProductRow.holds Try.pinned (OpenSpec.ofChange fnProductSpec)

/-- ITS FALSE NEIGHBOUR: 'it returns false'. Refute it at one input. -/
def fnProductWrong : ChangeSpec := { name := "fnProduct", fn := fun _ => fun
  | [d] => { results := [.lit (.bool false)], args := [d] }
  | _ => none }
def FnProductWrongFalsely : Prop := fnProductRow.holds Try.pinned (OpenSpec.ofChange fnProductWrong)

/-- 'laws.FnProductSingle': WHATEVER THE INPUT: true; the input reads as it did. -/
def fnProductSingleSpec : ChangeSpec := { name := "fnProductSingle", fn := fun _ => fun
  | [d] => { results := [.lit (.bool true)], args := [d] }
  | _ => none }
def fnProductSingleRow : OpenClaim := { program := "ytjjailllocakcaa", sum := "18404bdcd08cc5a3acf65c8b9b9b3652669f7f52b7844f0458a3ff351bcf304c", func := "loop.example/quadraticorbits/laws.FnProductSingle", spec := "fnProductSingle", apart := false }
def FnProductSingleSaid : Prop := fnProductSingleRow.holds Try.pinned (OpenSpec.ofChange fnProductSingleSpec)

/-- ITS FALSE NEIGHBOUR: 'it returns false'. Refute it at one input. -/
def fnProductSingleWrong : ChangeSpec := { name := "fnProductSingle", fn := fun _ => fun
  | [d] => { results := [.lit (.bool false)], args := [d] }
  | _ => none }
def FnProductSingleWrongFalsely : Prop := fnProductSingleRow.holds Try.pinned (OpenSpec.ofChange fnProductSingleWrong)

/-- 'laws.FnStepWide': WHATEVER THE INPUT: true; the input reads as it did. -/
def fnStepWideSpec : ChangeSpec := { name := "fnStepWide", fn := fun _ => fun
  | [d] => { results := [.lit (.bool true)], args := [d] }
  | _ => none }
def fnStepWideRow : OpenClaim := { program := "ytjjailllocakcaa", sum := "18404bdcd08cc5a3acf65c8b9b9b3652669f7f52b7844f0458a3ff351bcf304c", func := "loop.example/quadraticorbits/laws.FnStepWide", spec := "fnStepWide", apart := false }
def FnStepWideSaid : Prop := fnStepWideRow.holds Try.pinned (OpenSpec.ofChange fnStepWideSpec)

/-- ITS FALSE NEIGHBOUR: 'it returns false'. Refute it at one input. -/
def fnStepWideWrong : ChangeSpec := { name := "fnStepWide", fn := fun _ => fun
  | [d] => { results := [.lit (.bool false)], args := [d] }
  | _ => none }
def FnStepWideWrongFalsely : Prop := fnStepWideRow.holds Try.pinned (OpenSpec.ofChange fnStepWideWrong)

/-- 'laws.FnSquareSingle': WHATEVER THE INPUT: true; the input reads as it did. -/
def fnSquareSingleSpec : ChangeSpec := { name := "fnSquareSingle", fn := fun _ => fun
  | [d] => { results := [.lit (.bool true)], args := [d] }
  | _ => none }
def fnSquareSingleRow : OpenClaim := { program := "ytjjailllocakcaa", sum := "18404bdcd08cc5a3acf65c8b9b9b3652669f7f52b7844f0458a3ff351bcf304c", func := "loop.example/quadraticorbits/laws.FnSquareSingle", spec := "fnSquareSingle", apart := false }
def FnSquareSingleSaid : Prop := fnSquareSingleRow.holds Try.pinned (OpenSpec.ofChange fnSquareSingleSpec)

/-- ITS FALSE NEIGHBOUR: 'it returns false'. Refute it at one input. -/
def fnSquareSingleWrong : ChangeSpec := { name := "fnSquareSingle", fn := fun _ => fun
  | [d] => { results := [.lit (.bool false)], args := [d] }
  | _ => none }
def FnSquareSingleWrongFalsely : Prop := fnSquareSingleRow.holds Try.pinned (OpenSpec.ofChange fnSquareSingleWrong)

/-- 'laws.FnUnlike': WHATEVER THE INPUT: true; the input reads as it did. -/
def fnUnlikeSpec : ChangeSpec := { name := "fnUnlike", fn := fun _ => fun
  | [d] => { results := [.lit (.bool true)], args := [d] }
  | _ => none }
def fnUnlikeRow : OpenClaim := { program := "ytjjailllocakcaa", sum := "18404bdcd08cc5a3acf65c8b9b9b3652669f7f52b7844f0458a3ff351bcf304c", func := "loop.example/quadraticorbits/laws.FnUnlike", spec := "fnUnlike", inPlace := ["math.Float64bits", "math.Float64frombits"], apart := false }
def FnUnlikeSaid : Prop := fnUnlikeRow.holds Try.pinned (OpenSpec.ofChange fnUnlikeSpec)

/-- ITS FALSE NEIGHBOUR: 'it returns false'. Refute it at one input. -/
def fnUnlikeWrong : ChangeSpec := { name := "fnUnlike", fn := fun _ => fun
  | [d] => { results := [.lit (.bool false)], args := [d] }
  | _ => none }
def FnUnlikeWrongFalsely : Prop := fnUnlikeRow.holds Try.pinned (OpenSpec.ofChange fnUnlikeWrong)

/-- 'laws.FnStepSingle': WHATEVER THE INPUT: true; the input reads as it did. -/
def fnStepSingleSpec : ChangeSpec := { name := "fnStepSingle", fn := fun _ => fun
  | [d] => { results := [.lit (.bool true)], args := [d] }
  | _ => none }
def fnStepSingleRow : OpenClaim := { program := "ytjjailllocakcaa", sum := "18404bdcd08cc5a3acf65c8b9b9b3652669f7f52b7844f0458a3ff351bcf304c", func := "loop.example/quadraticorbits/laws.FnStepSingle", spec := "fnStepSingle", apart := false }
def FnStepSingleSaid : Prop := fnStepSingleRow.holds Try.pinned (OpenSpec.ofChange fnStepSingleSpec)

/-- ITS FALSE NEIGHBOUR: 'it returns false'. Refute it at one input. -/
def fnStepSingleWrong : ChangeSpec := { name := "fnStepSingle", fn := fun _ => fun
  | [d] => { results := [.lit (.bool false)], args := [d] }
  | _ => none }
def FnStepSingleWrongFalsely : Prop := fnStepSingleRow.holds Try.pinned (OpenSpec.ofChange fnStepSingleWrong)

/-- 'laws.FnKind': WHATEVER THE INPUT: true; the input reads as it did. -/
def fnKindSpec : ChangeSpec := { name := "fnKind", fn := fun _ => fun
  | [d] => { results := [.lit (.bool true)], args := [d] }
  | _ => none }
def fnKindRow : OpenClaim := { program := "ytjjailllocakcaa", sum := "18404bdcd08cc5a3acf65c8b9b9b3652669f7f52b7844f0458a3ff351bcf304c", func := "loop.example/quadraticorbits/laws.FnKind", spec := "fnKind", inPlace := ["math.Float64bits", "math.Float64frombits"], apart := false }
def FnKindSaid : Prop := fnKindRow.holds Try.pinned (OpenSpec.ofChange fnKindSpec)

/-- ITS FALSE NEIGHBOUR: 'it returns false'. Refute it at one input. -/
def fnKindWrong : ChangeSpec := { name := "fnKind", fn := fun _ => fun
  | [d] => { results := [.lit (.bool false)], args := [d] }
  | _ => none }
def FnKindWrongFalsely : Prop := fnKindRow.holds Try.pinned (OpenSpec.ofChange fnKindWrong)

/- THE SECOND FORM. 'bulk': how many values and letters a reading holds, each counted each time it is reached (what is shared counts as often as it is met; a slice's spare places count too). A statement '..UptoSaid' is the law's where the arguments, and the package variables that the reading takes, are together of bulk at most 1048576: NARROWER than '..Said'. Prove '..Said' where nothing that the law and all that it calls make is longer than what came in: it says more and counts as full. Else prove '..UptoSaid'. A law counts once. -/
mutual
def uptoBulk {H : Type} : DataW H → Nat
  | .lit (.string bytes) => bytes.length + 1
  | .lit _ => 1
  | .nil => 1
  | .ptr d => uptoBulk d + 1
  | .slice elems spare => uptoBulkAll elems + uptoBulkAll spare + 1
  | .agg parts => uptoBulkAll parts + 1
  | .iface _ d => uptoBulk d + 1
  | .map entries => uptoBulkEntries entries + 1
  | .held _ => 1
def uptoBulkAll {H : Type} : List (DataW H) → Nat
  | [] => 0
  | d :: r => uptoBulk d + uptoBulkAll r
def uptoBulkEntries {H : Type} : List (Lit × DataW H) → Nat
  | [] => 0
  | x :: r => uptoBulkEntry x + uptoBulkEntries r
def uptoBulkEntry {H : Type} : Lit × DataW H → Nat
  | (.string bytes, d) => bytes.length + uptoBulk d + 1
  | (_, d) => uptoBulk d + 1
 end
def uptoSmall : (H : Type) → List (DataW H) → Bool := fun _ ds => decide (uptoBulkAll ds ≤ 1048576)
def OpenSpec.upto (s : _root_.Go.ChangeSpec) : _root_.Go.OpenSpec := { _root_.Go.OpenSpec.ofChange s with cond := some uptoSmall }

/-- 'laws.FnTurn', WHERE WHAT IT READS IS OF BULK AT MOST 1048576: true; the input reads as it did. -/
def fnTurnUptoRow : OpenClaim := { program := "ytjjailllocakcaa", sum := "18404bdcd08cc5a3acf65c8b9b9b3652669f7f52b7844f0458a3ff351bcf304c", func := "loop.example/quadraticorbits/laws.FnTurn", spec := "fnTurn", apart := false, narrowed := true }
def FnTurnUptoSaid : Prop := fnTurnUptoRow.holds Try.pinned (OpenSpec.upto fnTurnSpec)

/-- 'laws.FnNarrow', WHERE WHAT IT READS IS OF BULK AT MOST 1048576: true; the input reads as it did. -/
def fnNarrowUptoRow : OpenClaim := { program := "ytjjailllocakcaa", sum := "18404bdcd08cc5a3acf65c8b9b9b3652669f7f52b7844f0458a3ff351bcf304c", func := "loop.example/quadraticorbits/laws.FnNarrow", spec := "fnNarrow", apart := false, narrowed := true }
def FnNarrowUptoSaid : Prop := fnNarrowUptoRow.holds Try.pinned (OpenSpec.upto fnNarrowSpec)

/-- 'laws.FnWiden', WHERE WHAT IT READS IS OF BULK AT MOST 1048576: true; the input reads as it did. -/
def fnWidenUptoRow : OpenClaim := { program := "ytjjailllocakcaa", sum := "18404bdcd08cc5a3acf65c8b9b9b3652669f7f52b7844f0458a3ff351bcf304c", func := "loop.example/quadraticorbits/laws.FnWiden", spec := "fnWiden", apart := false, narrowed := true }
def FnWidenUptoSaid : Prop := fnWidenUptoRow.holds Try.pinned (OpenSpec.upto fnWidenSpec)

/-- 'laws.FnProduct', WHERE WHAT IT READS IS OF BULK AT MOST 1048576: true; the input reads as it did. -/
def fnProductUptoRow : OpenClaim := { program := "ytjjailllocakcaa", sum := "18404bdcd08cc5a3acf65c8b9b9b3652669f7f52b7844f0458a3ff351bcf304c", func := "loop.example/quadraticorbits/laws.FnProduct", spec := "fnProduct", apart := false, narrowed := true }
def FnProductUptoSaid : Prop := fnProductUptoRow.holds Try.pinned (OpenSpec.upto fnProductSpec)

/-- 'laws.FnProductSingle', WHERE WHAT IT READS IS OF BULK AT MOST 1048576: true; the input reads as it did. -/
def fnProductSingleUptoRow : OpenClaim := { program := "ytjjailllocakcaa", sum := "18404bdcd08cc5a3acf65c8b9b9b3652669f7f52b7844f0458a3ff351bcf304c", func := "loop.example/quadraticorbits/laws.FnProductSingle", spec := "fnProductSingle", apart := false, narrowed := true }
def FnProductSingleUptoSaid : Prop := fnProductSingleUptoRow.holds Try.pinned (OpenSpec.upto fnProductSingleSpec)

/-- 'laws.FnStepWide', WHERE WHAT IT READS IS OF BULK AT MOST 1048576: true; the input reads as it did. -/
def fnStepWideUptoRow : OpenClaim := { program := "ytjjailllocakcaa", sum := "18404bdcd08cc5a3acf65c8b9b9b3652669f7f52b7844f0458a3ff351bcf304c", func := "loop.example/quadraticorbits/laws.FnStepWide", spec := "fnStepWide", apart := false, narrowed := true }
def FnStepWideUptoSaid : Prop := fnStepWideUptoRow.holds Try.pinned (OpenSpec.upto fnStepWideSpec)

/-- 'laws.FnSquareSingle', WHERE WHAT IT READS IS OF BULK AT MOST 1048576: true; the input reads as it did. -/
def fnSquareSingleUptoRow : OpenClaim := { program := "ytjjailllocakcaa", sum := "18404bdcd08cc5a3acf65c8b9b9b3652669f7f52b7844f0458a3ff351bcf304c", func := "loop.example/quadraticorbits/laws.FnSquareSingle", spec := "fnSquareSingle", apart := false, narrowed := true }
def FnSquareSingleUptoSaid : Prop := fnSquareSingleUptoRow.holds Try.pinned (OpenSpec.upto fnSquareSingleSpec)

/-- 'laws.FnUnlike', WHERE WHAT IT READS IS OF BULK AT MOST 1048576: true; the input reads as it did. -/
def fnUnlikeUptoRow : OpenClaim := { program := "ytjjailllocakcaa", sum := "18404bdcd08cc5a3acf65c8b9b9b3652669f7f52b7844f0458a3ff351bcf304c", func := "loop.example/quadraticorbits/laws.FnUnlike", spec := "fnUnlike", inPlace := ["math.Float64bits", "math.Float64frombits"], apart := false, narrowed := true }
def FnUnlikeUptoSaid : Prop := fnUnlikeUptoRow.holds Try.pinned (OpenSpec.upto fnUnlikeSpec)

/-- 'laws.FnStepSingle', WHERE WHAT IT READS IS OF BULK AT MOST 1048576: true; the input reads as it did. -/
def fnStepSingleUptoRow : OpenClaim := { program := "ytjjailllocakcaa", sum := "18404bdcd08cc5a3acf65c8b9b9b3652669f7f52b7844f0458a3ff351bcf304c", func := "loop.example/quadraticorbits/laws.FnStepSingle", spec := "fnStepSingle", apart := false, narrowed := true }
def FnStepSingleUptoSaid : Prop := fnStepSingleUptoRow.holds Try.pinned (OpenSpec.upto fnStepSingleSpec)

/-- 'laws.FnKind', WHERE WHAT IT READS IS OF BULK AT MOST 1048576: true; the input reads as it did. -/
def fnKindUptoRow : OpenClaim := { program := "ytjjailllocakcaa", sum := "18404bdcd08cc5a3acf65c8b9b9b3652669f7f52b7844f0458a3ff351bcf304c", func := "loop.example/quadraticorbits/laws.FnKind", spec := "fnKind", inPlace := ["math.Float64bits", "math.Float64frombits"], apart := false, narrowed := true }
def FnKindUptoSaid : Prop := fnKindUptoRow.holds Try.pinned (OpenSpec.upto fnKindSpec)

end Rows
end Go.Proofs.Ytjjailllocakcaa
