/-
  No cell of these rows narrows 'for every input' (looked for: loops, veiled, ifaces, maps, wideKeys, modest, calm, conditions, laid).
  DERIVED. THE GIVEN ROWS OF THIS SEAT. 12 by the template 'for every input the law returns true; each argument reads behind the call as it read before'; 0 by the template 'total and deterministic' (their statements: YtjhleindjllibaaTotals.lean).
  GIVEN WITH THE SEED: the statements are not yours to turn. If you find one false, say at which input.
  Laid BY PROGRAM, IN A SANDBOX (cutbox-rows.mjs): the forced cells as the released guide's own fill.sh prints them over the translation 2802388424d20224… (all of the seat's roots in one cut). By AI agents, Wed Nov 11 2026. No macro, syntax, notation, axiom, sorry.
-/
import Derived.Test.YtjhleindjllibaaChecked
import GoSem.Claim
import GoSem.ClaimJoined
import GoSem.ClaimMapViews
import Derived.JoinedTies
import Derived.KernelRfl
namespace Go.Proofs.Ytjhleindjllibaa
/- THE CELL 'sum', in the pinned program and in every row, IS THE sha256 OF THE DUMP (.gsa) THAT YtjhleindjllibaaProg.lean LOADS. Nothing in Lean hashes anything: it is a label: what it is worth is what the hold of that sum in a sandbox is worth. -/
noncomputable def Try.pinned : Pinned := { name := "ytjhleindjllibaa", sum := "2802388424d20224cb62b53ca7ce360e894edac9253872f1a19d2eba71bd4713", checked := Try.checked }
namespace Rows
def none {H : Type} : Left H := { results := [], args := [] }

/-- 'laws.FnExactConstants': WHATEVER THE INPUT: true; the input reads as it did. -/
def fnExactConstantsSpec : ChangeSpec := { name := "fnExactConstants", fn := fun _ => fun
  | [] => { results := [.lit (.bool true)], args := [] }
  | _ => none }
def fnExactConstantsRow : OpenClaim := { program := "ytjhleindjllibaa", sum := "2802388424d20224cb62b53ca7ce360e894edac9253872f1a19d2eba71bd4713", func := "loop.example/quadraticorbits/laws.FnExactConstants", spec := "fnExactConstants", apart := false }
def FnExactConstantsSaid : Prop := fnExactConstantsRow.holds Try.pinned (OpenSpec.ofChange fnExactConstantsSpec)

/-- ITS FALSE NEIGHBOUR: 'it returns false'. Refute it at one input. -/
def fnExactConstantsWrong : ChangeSpec := { name := "fnExactConstants", fn := fun _ => fun
  | [] => { results := [.lit (.bool false)], args := [] }
  | _ => none }
def FnExactConstantsWrongFalsely : Prop := fnExactConstantsRow.holds Try.pinned (OpenSpec.ofChange fnExactConstantsWrong)

/-- 'laws.FnExactDyadValid': WHATEVER THE INPUT: true; the input reads as it did. -/
def fnExactDyadValidSpec : ChangeSpec := { name := "fnExactDyadValid", fn := fun _ => fun
  | [d] => { results := [.lit (.bool true)], args := [d] }
  | _ => none }
def fnExactDyadValidRow : OpenClaim := { program := "ytjhleindjllibaa", sum := "2802388424d20224cb62b53ca7ce360e894edac9253872f1a19d2eba71bd4713", func := "loop.example/quadraticorbits/laws.FnExactDyadValid", spec := "fnExactDyadValid", apart := false }
def FnExactDyadValidSaid : Prop := fnExactDyadValidRow.holds Try.pinned (OpenSpec.ofChange fnExactDyadValidSpec)

/-- ITS FALSE NEIGHBOUR: 'it returns false'. Refute it at one input. -/
def fnExactDyadValidWrong : ChangeSpec := { name := "fnExactDyadValid", fn := fun _ => fun
  | [d] => { results := [.lit (.bool false)], args := [d] }
  | _ => none }
def FnExactDyadValidWrongFalsely : Prop := fnExactDyadValidRow.holds Try.pinned (OpenSpec.ofChange fnExactDyadValidWrong)

/-- 'laws.FnExactBoxValid': WHATEVER THE INPUT: true; the input reads as it did. -/
def fnExactBoxValidSpec : ChangeSpec := { name := "fnExactBoxValid", fn := fun _ => fun
  | [d] => { results := [.lit (.bool true)], args := [d] }
  | _ => none }
def fnExactBoxValidRow : OpenClaim := { program := "ytjhleindjllibaa", sum := "2802388424d20224cb62b53ca7ce360e894edac9253872f1a19d2eba71bd4713", func := "loop.example/quadraticorbits/laws.FnExactBoxValid", spec := "fnExactBoxValid", apart := false }
def FnExactBoxValidSaid : Prop := fnExactBoxValidRow.holds Try.pinned (OpenSpec.ofChange fnExactBoxValidSpec)

/-- ITS FALSE NEIGHBOUR: 'it returns false'. Refute it at one input. -/
def fnExactBoxValidWrong : ChangeSpec := { name := "fnExactBoxValid", fn := fun _ => fun
  | [d] => { results := [.lit (.bool false)], args := [d] }
  | _ => none }
def FnExactBoxValidWrongFalsely : Prop := fnExactBoxValidRow.holds Try.pinned (OpenSpec.ofChange fnExactBoxValidWrong)

/-- 'laws.FnExactBoxWithin': WHATEVER THE INPUT: true; the input reads as it did. -/
def fnExactBoxWithinSpec : ChangeSpec := { name := "fnExactBoxWithin", fn := fun _ => fun
  | [d1, d2] => { results := [.lit (.bool true)], args := [d1, d2] }
  | _ => none }
def fnExactBoxWithinRow : OpenClaim := { program := "ytjhleindjllibaa", sum := "2802388424d20224cb62b53ca7ce360e894edac9253872f1a19d2eba71bd4713", func := "loop.example/quadraticorbits/laws.FnExactBoxWithin", spec := "fnExactBoxWithin", apart := false }
def FnExactBoxWithinSaid : Prop := fnExactBoxWithinRow.holds Try.pinned (OpenSpec.ofChange fnExactBoxWithinSpec)

/-- ITS FALSE NEIGHBOUR: 'it returns false'. Refute it at one input. -/
def fnExactBoxWithinWrong : ChangeSpec := { name := "fnExactBoxWithin", fn := fun _ => fun
  | [d1, d2] => { results := [.lit (.bool false)], args := [d1, d2] }
  | _ => none }
def FnExactBoxWithinWrongFalsely : Prop := fnExactBoxWithinRow.holds Try.pinned (OpenSpec.ofChange fnExactBoxWithinWrong)

/-- 'laws.FnAlike': WHATEVER THE INPUT: true; the input reads as it did. -/
def fnAlikeSpec : ChangeSpec := { name := "fnAlike", fn := fun _ => fun
  | [d] => { results := [.lit (.bool true)], args := [d] }
  | _ => none }
def fnAlikeRow : OpenClaim := { program := "ytjhleindjllibaa", sum := "2802388424d20224cb62b53ca7ce360e894edac9253872f1a19d2eba71bd4713", func := "loop.example/quadraticorbits/laws.FnAlike", spec := "fnAlike", apart := false }
def FnAlikeSaid : Prop := fnAlikeRow.holds Try.pinned (OpenSpec.ofChange fnAlikeSpec)

/-- ITS FALSE NEIGHBOUR: 'it returns false'. Refute it at one input. -/
def fnAlikeWrong : ChangeSpec := { name := "fnAlike", fn := fun _ => fun
  | [d] => { results := [.lit (.bool false)], args := [d] }
  | _ => none }
def FnAlikeWrongFalsely : Prop := fnAlikeRow.holds Try.pinned (OpenSpec.ofChange fnAlikeWrong)

/-- 'laws.FnMirror': WHATEVER THE INPUT: true; the input reads as it did. -/
def fnMirrorSpec : ChangeSpec := { name := "fnMirror", fn := fun _ => fun
  | [d] => { results := [.lit (.bool true)], args := [d] }
  | _ => none }
def fnMirrorRow : OpenClaim := { program := "ytjhleindjllibaa", sum := "2802388424d20224cb62b53ca7ce360e894edac9253872f1a19d2eba71bd4713", func := "loop.example/quadraticorbits/laws.FnMirror", spec := "fnMirror", apart := false }
def FnMirrorSaid : Prop := fnMirrorRow.holds Try.pinned (OpenSpec.ofChange fnMirrorSpec)

/-- ITS FALSE NEIGHBOUR: 'it returns false'. Refute it at one input. -/
def fnMirrorWrong : ChangeSpec := { name := "fnMirror", fn := fun _ => fun
  | [d] => { results := [.lit (.bool false)], args := [d] }
  | _ => none }
def FnMirrorWrongFalsely : Prop := fnMirrorRow.holds Try.pinned (OpenSpec.ofChange fnMirrorWrong)

/-- 'laws.FnExactBoxAdd': WHATEVER THE INPUT: true; the input reads as it did. -/
def fnExactBoxAddSpec : ChangeSpec := { name := "fnExactBoxAdd", fn := fun _ => fun
  | [d1, d2] => { results := [.lit (.bool true)], args := [d1, d2] }
  | _ => none }
def fnExactBoxAddRow : OpenClaim := { program := "ytjhleindjllibaa", sum := "2802388424d20224cb62b53ca7ce360e894edac9253872f1a19d2eba71bd4713", func := "loop.example/quadraticorbits/laws.FnExactBoxAdd", spec := "fnExactBoxAdd", apart := false }
def FnExactBoxAddSaid : Prop := fnExactBoxAddRow.holds Try.pinned (OpenSpec.ofChange fnExactBoxAddSpec)

/-- ITS FALSE NEIGHBOUR: 'it returns false'. Refute it at one input. -/
def fnExactBoxAddWrong : ChangeSpec := { name := "fnExactBoxAdd", fn := fun _ => fun
  | [d1, d2] => { results := [.lit (.bool false)], args := [d1, d2] }
  | _ => none }
def FnExactBoxAddWrongFalsely : Prop := fnExactBoxAddRow.holds Try.pinned (OpenSpec.ofChange fnExactBoxAddWrong)

/-- 'laws.FnExactBoxNorm': WHATEVER THE INPUT: true; the input reads as it did. -/
def fnExactBoxNormSpec : ChangeSpec := { name := "fnExactBoxNorm", fn := fun _ => fun
  | [d] => { results := [.lit (.bool true)], args := [d] }
  | _ => none }
def fnExactBoxNormRow : OpenClaim := { program := "ytjhleindjllibaa", sum := "2802388424d20224cb62b53ca7ce360e894edac9253872f1a19d2eba71bd4713", func := "loop.example/quadraticorbits/laws.FnExactBoxNorm", spec := "fnExactBoxNorm", apart := false }
def FnExactBoxNormSaid : Prop := fnExactBoxNormRow.holds Try.pinned (OpenSpec.ofChange fnExactBoxNormSpec)

/-- ITS FALSE NEIGHBOUR: 'it returns false'. Refute it at one input. -/
def fnExactBoxNormWrong : ChangeSpec := { name := "fnExactBoxNorm", fn := fun _ => fun
  | [d] => { results := [.lit (.bool false)], args := [d] }
  | _ => none }
def FnExactBoxNormWrongFalsely : Prop := fnExactBoxNormRow.holds Try.pinned (OpenSpec.ofChange fnExactBoxNormWrong)

/-- 'laws.FnFits': WHATEVER THE INPUT: true; the input reads as it did. -/
def fnFitsSpec : ChangeSpec := { name := "fnFits", fn := fun _ => fun
  | [d] => { results := [.lit (.bool true)], args := [d] }
  | _ => none }
def fnFitsRow : OpenClaim := { program := "ytjhleindjllibaa", sum := "2802388424d20224cb62b53ca7ce360e894edac9253872f1a19d2eba71bd4713", func := "loop.example/quadraticorbits/laws.FnFits", spec := "fnFits", apart := false }
def FnFitsSaid : Prop := fnFitsRow.holds Try.pinned (OpenSpec.ofChange fnFitsSpec)

/-- ITS FALSE NEIGHBOUR: 'it returns false'. Refute it at one input. -/
def fnFitsWrong : ChangeSpec := { name := "fnFits", fn := fun _ => fun
  | [d] => { results := [.lit (.bool false)], args := [d] }
  | _ => none }
def FnFitsWrongFalsely : Prop := fnFitsRow.holds Try.pinned (OpenSpec.ofChange fnFitsWrong)

/-- 'laws.FnSquare': WHATEVER THE INPUT: true; the input reads as it did. -/
def fnSquareSpec : ChangeSpec := { name := "fnSquare", fn := fun _ => fun
  | [d] => { results := [.lit (.bool true)], args := [d] }
  | _ => none }
def fnSquareRow : OpenClaim := { program := "ytjhleindjllibaa", sum := "2802388424d20224cb62b53ca7ce360e894edac9253872f1a19d2eba71bd4713", func := "loop.example/quadraticorbits/laws.FnSquare", spec := "fnSquare", apart := false }
def FnSquareSaid : Prop := fnSquareRow.holds Try.pinned (OpenSpec.ofChange fnSquareSpec)

/-- ITS FALSE NEIGHBOUR: 'it returns false'. Refute it at one input. -/
def fnSquareWrong : ChangeSpec := { name := "fnSquare", fn := fun _ => fun
  | [d] => { results := [.lit (.bool false)], args := [d] }
  | _ => none }
def FnSquareWrongFalsely : Prop := fnSquareRow.holds Try.pinned (OpenSpec.ofChange fnSquareWrong)

/-- 'laws.FnQuotient': WHATEVER THE INPUT: true; the input reads as it did. -/
def fnQuotientSpec : ChangeSpec := { name := "fnQuotient", fn := fun _ => fun
  | [d] => { results := [.lit (.bool true)], args := [d] }
  | _ => none }
def fnQuotientRow : OpenClaim := { program := "ytjhleindjllibaa", sum := "2802388424d20224cb62b53ca7ce360e894edac9253872f1a19d2eba71bd4713", func := "loop.example/quadraticorbits/laws.FnQuotient", spec := "fnQuotient", apart := false }
def FnQuotientSaid : Prop := fnQuotientRow.holds Try.pinned (OpenSpec.ofChange fnQuotientSpec)

/-- ITS FALSE NEIGHBOUR: 'it returns false'. Refute it at one input. -/
def fnQuotientWrong : ChangeSpec := { name := "fnQuotient", fn := fun _ => fun
  | [d] => { results := [.lit (.bool false)], args := [d] }
  | _ => none }
def FnQuotientWrongFalsely : Prop := fnQuotientRow.holds Try.pinned (OpenSpec.ofChange fnQuotientWrong)

/-- 'laws.FnNorm': WHATEVER THE INPUT: true; the input reads as it did. -/
def fnNormSpec : ChangeSpec := { name := "fnNorm", fn := fun _ => fun
  | [d] => { results := [.lit (.bool true)], args := [d] }
  | _ => none }
def fnNormRow : OpenClaim := { program := "ytjhleindjllibaa", sum := "2802388424d20224cb62b53ca7ce360e894edac9253872f1a19d2eba71bd4713", func := "loop.example/quadraticorbits/laws.FnNorm", spec := "fnNorm", apart := false }
def FnNormSaid : Prop := fnNormRow.holds Try.pinned (OpenSpec.ofChange fnNormSpec)

/-- ITS FALSE NEIGHBOUR: 'it returns false'. Refute it at one input. -/
def fnNormWrong : ChangeSpec := { name := "fnNorm", fn := fun _ => fun
  | [d] => { results := [.lit (.bool false)], args := [d] }
  | _ => none }
def FnNormWrongFalsely : Prop := fnNormRow.holds Try.pinned (OpenSpec.ofChange fnNormWrong)

/- THE SECOND FORM. 'bulk': how many values and letters a reading holds, each counted each time it is reached (what is shared counts as often as it is met; a slice's spare places count too). A statement '..UptoSaid' is the law's where the arguments, and the package variables that the reading takes, are together of bulk at most 1048576: NARROWER than '..Said'. Prove '..Said' where nothing that the law and all that it calls make is longer than what came in: it says more and counts as full. Else prove '..UptoSaid'. A law counts once. -/
mutual
def uptoBulk {H : Type} : DataW H → Nat
  | .lit (.string bytes) => bytes.length + 1
  | .lit _ => 1
  | .nil => 1
  | .ptr d => uptoBulk d + 1
  | .slice elems spare => uptoBulkAll elems + uptoBulkAll spare + 1
  | .agg parts => uptoBulkAll parts + 1
  | .iface _ d => uptoBulk d + 1
  | .map entries => uptoBulkEntries entries + 1
  | .held _ => 1
def uptoBulkAll {H : Type} : List (DataW H) → Nat
  | [] => 0
  | d :: r => uptoBulk d + uptoBulkAll r
def uptoBulkEntries {H : Type} : List (Lit × DataW H) → Nat
  | [] => 0
  | x :: r => uptoBulkEntry x + uptoBulkEntries r
def uptoBulkEntry {H : Type} : Lit × DataW H → Nat
  | (.string bytes, d) => bytes.length + uptoBulk d + 1
  | (_, d) => uptoBulk d + 1
 end
def uptoSmall : (H : Type) → List (DataW H) → Bool := fun _ ds => decide (uptoBulkAll ds ≤ 1048576)
def OpenSpec.upto (s : _root_.Go.ChangeSpec) : _root_.Go.OpenSpec := { _root_.Go.OpenSpec.ofChange s with cond := some uptoSmall }

/-- 'laws.FnExactConstants', WHERE WHAT IT READS IS OF BULK AT MOST 1048576: true; the input reads as it did. -/
def fnExactConstantsUptoRow : OpenClaim := { program := "ytjhleindjllibaa", sum := "2802388424d20224cb62b53ca7ce360e894edac9253872f1a19d2eba71bd4713", func := "loop.example/quadraticorbits/laws.FnExactConstants", spec := "fnExactConstants", apart := false, narrowed := true }
def FnExactConstantsUptoSaid : Prop := fnExactConstantsUptoRow.holds Try.pinned (OpenSpec.upto fnExactConstantsSpec)

/-- 'laws.FnExactDyadValid', WHERE WHAT IT READS IS OF BULK AT MOST 1048576: true; the input reads as it did. -/
def fnExactDyadValidUptoRow : OpenClaim := { program := "ytjhleindjllibaa", sum := "2802388424d20224cb62b53ca7ce360e894edac9253872f1a19d2eba71bd4713", func := "loop.example/quadraticorbits/laws.FnExactDyadValid", spec := "fnExactDyadValid", apart := false, narrowed := true }
def FnExactDyadValidUptoSaid : Prop := fnExactDyadValidUptoRow.holds Try.pinned (OpenSpec.upto fnExactDyadValidSpec)

/-- 'laws.FnExactBoxValid', WHERE WHAT IT READS IS OF BULK AT MOST 1048576: true; the input reads as it did. -/
def fnExactBoxValidUptoRow : OpenClaim := { program := "ytjhleindjllibaa", sum := "2802388424d20224cb62b53ca7ce360e894edac9253872f1a19d2eba71bd4713", func := "loop.example/quadraticorbits/laws.FnExactBoxValid", spec := "fnExactBoxValid", apart := false, narrowed := true }
def FnExactBoxValidUptoSaid : Prop := fnExactBoxValidUptoRow.holds Try.pinned (OpenSpec.upto fnExactBoxValidSpec)

/-- 'laws.FnExactBoxWithin', WHERE WHAT IT READS IS OF BULK AT MOST 1048576: true; the input reads as it did. -/
def fnExactBoxWithinUptoRow : OpenClaim := { program := "ytjhleindjllibaa", sum := "2802388424d20224cb62b53ca7ce360e894edac9253872f1a19d2eba71bd4713", func := "loop.example/quadraticorbits/laws.FnExactBoxWithin", spec := "fnExactBoxWithin", apart := false, narrowed := true }
def FnExactBoxWithinUptoSaid : Prop := fnExactBoxWithinUptoRow.holds Try.pinned (OpenSpec.upto fnExactBoxWithinSpec)

/-- 'laws.FnAlike', WHERE WHAT IT READS IS OF BULK AT MOST 1048576: true; the input reads as it did. -/
def fnAlikeUptoRow : OpenClaim := { program := "ytjhleindjllibaa", sum := "2802388424d20224cb62b53ca7ce360e894edac9253872f1a19d2eba71bd4713", func := "loop.example/quadraticorbits/laws.FnAlike", spec := "fnAlike", apart := false, narrowed := true }
def FnAlikeUptoSaid : Prop := fnAlikeUptoRow.holds Try.pinned (OpenSpec.upto fnAlikeSpec)

/-- 'laws.FnMirror', WHERE WHAT IT READS IS OF BULK AT MOST 1048576: true; the input reads as it did. -/
def fnMirrorUptoRow : OpenClaim := { program := "ytjhleindjllibaa", sum := "2802388424d20224cb62b53ca7ce360e894edac9253872f1a19d2eba71bd4713", func := "loop.example/quadraticorbits/laws.FnMirror", spec := "fnMirror", apart := false, narrowed := true }
def FnMirrorUptoSaid : Prop := fnMirrorUptoRow.holds Try.pinned (OpenSpec.upto fnMirrorSpec)

/-- 'laws.FnExactBoxAdd', WHERE WHAT IT READS IS OF BULK AT MOST 1048576: true; the input reads as it did. -/
def fnExactBoxAddUptoRow : OpenClaim := { program := "ytjhleindjllibaa", sum := "2802388424d20224cb62b53ca7ce360e894edac9253872f1a19d2eba71bd4713", func := "loop.example/quadraticorbits/laws.FnExactBoxAdd", spec := "fnExactBoxAdd", apart := false, narrowed := true }
def FnExactBoxAddUptoSaid : Prop := fnExactBoxAddUptoRow.holds Try.pinned (OpenSpec.upto fnExactBoxAddSpec)

/-- 'laws.FnExactBoxNorm', WHERE WHAT IT READS IS OF BULK AT MOST 1048576: true; the input reads as it did. -/
def fnExactBoxNormUptoRow : OpenClaim := { program := "ytjhleindjllibaa", sum := "2802388424d20224cb62b53ca7ce360e894edac9253872f1a19d2eba71bd4713", func := "loop.example/quadraticorbits/laws.FnExactBoxNorm", spec := "fnExactBoxNorm", apart := false, narrowed := true }
def FnExactBoxNormUptoSaid : Prop := fnExactBoxNormUptoRow.holds Try.pinned (OpenSpec.upto fnExactBoxNormSpec)

/-- 'laws.FnFits', WHERE WHAT IT READS IS OF BULK AT MOST 1048576: true; the input reads as it did. -/
def fnFitsUptoRow : OpenClaim := { program := "ytjhleindjllibaa", sum := "2802388424d20224cb62b53ca7ce360e894edac9253872f1a19d2eba71bd4713", func := "loop.example/quadraticorbits/laws.FnFits", spec := "fnFits", apart := false, narrowed := true }
def FnFitsUptoSaid : Prop := fnFitsUptoRow.holds Try.pinned (OpenSpec.upto fnFitsSpec)

/-- 'laws.FnSquare', WHERE WHAT IT READS IS OF BULK AT MOST 1048576: true; the input reads as it did. -/
def fnSquareUptoRow : OpenClaim := { program := "ytjhleindjllibaa", sum := "2802388424d20224cb62b53ca7ce360e894edac9253872f1a19d2eba71bd4713", func := "loop.example/quadraticorbits/laws.FnSquare", spec := "fnSquare", apart := false, narrowed := true }
def FnSquareUptoSaid : Prop := fnSquareUptoRow.holds Try.pinned (OpenSpec.upto fnSquareSpec)

/-- 'laws.FnQuotient', WHERE WHAT IT READS IS OF BULK AT MOST 1048576: true; the input reads as it did. -/
def fnQuotientUptoRow : OpenClaim := { program := "ytjhleindjllibaa", sum := "2802388424d20224cb62b53ca7ce360e894edac9253872f1a19d2eba71bd4713", func := "loop.example/quadraticorbits/laws.FnQuotient", spec := "fnQuotient", apart := false, narrowed := true }
def FnQuotientUptoSaid : Prop := fnQuotientUptoRow.holds Try.pinned (OpenSpec.upto fnQuotientSpec)

/-- 'laws.FnNorm', WHERE WHAT IT READS IS OF BULK AT MOST 1048576: true; the input reads as it did. -/
def fnNormUptoRow : OpenClaim := { program := "ytjhleindjllibaa", sum := "2802388424d20224cb62b53ca7ce360e894edac9253872f1a19d2eba71bd4713", func := "loop.example/quadraticorbits/laws.FnNorm", spec := "fnNorm", apart := false, narrowed := true }
def FnNormUptoSaid : Prop := fnNormUptoRow.holds Try.pinned (OpenSpec.upto fnNormSpec)

end Rows
end Go.Proofs.Ytjhleindjllibaa
