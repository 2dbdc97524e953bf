/-
  BoxAdd of the program and of the reference agree: FnExactBoxAdd returns true for every two boxes, valid or not. Conditions: none.
-/
import Derived.Test.YtjhleindjllibaaExact4
import Derived.WalkKit
import Derived.ProofKit
import Derived.OpenShut
import Derived.ShutString
import Derived.ChangeOld
import Derived.Below
import Derived.Lib.SmallJoins
namespace Go.Proofs.Ytjhleindjllibaa.fnExactBoxAdd
open Go.ChangeShapes Go.WideShapes Go.ChangeAt Go.RowKit Go.Joins
set_option linter.unusedVariables false

theorem own : ownKnob Try.prog.godebug = none := by kernel_rfl
theorem laidOut : laidOutB Try.prog = true := by kernel_rfl
theorem cellsT : Try.prog.cellsOf 30 = 4 := by kernel_rfl

/-! ### The row's step -/
set_option maxRecDepth 100000 in
theorem lifted (os : Os) (started : os.Started) (H : Type) (enc : TypeId × Value → H) :
    ReturnsInHanded {} Try.checked os 9 .any (Rows.fnExactBoxAddSpec.pre6 enc Try.prog Try.f9 Rows.fnExactBoxAddRow.domain false) (Rows.fnExactBoxAddSpec.post enc Try.prog Try.f9 false true false false) := by
  refine returnsInHanded_of_change (C := Try.checked) own started (by kernel_rfl) Try.func9
    (ChangeSpec.witness6 (enc := enc) (C := Try.checked) false ⟨#[], #[.agg #[.int .i64 0, .int .i64 0, .int .i64 0, .int .i64 0], .agg #[.int .i64 0, .int .i64 0, .int .i64 0, .int .i64 0]], []⟩ 8 (by kernel_rfl) (by kernel_rfl) (by kernel_rfl) (by kernel_rfl)) ?_
  intro W base args ds gs before hval0 hW hcnd _
  have hval : ∀ (j : Nat) t v, Try.f9.params[j]? = some t → args[j]? = some v → Value.okWide Try.prog W .any base t v := hval0
  have hW' := hW
  obtain ⟨p, q, hA0, hV, rfl, hfz, hnd⟩ := hW
  have hA : DataW.TrodAll enc Try.prog W 0 (fun _ => true) true Try.f9.params.toList args.toList ds p := hA0
  rw [Try.params9] at hA hval
  obtain ⟨v0, v1, d0, d1, p0, p1, rfl, rfl, rfl, h0, h1⟩ := trodAll_two hA
  obtain ⟨rfl, rfl⟩ := trodVars_none hV
  have k0 := h0
  have lt0 : ∀ x ∈ p0, x.block < W.heap.size := by obtain ⟨m, hm⟩ := k0; exact DataW.trod_lt m _ _ _ hm
  have k1 := h1
  have lt1 : ∀ x ∈ p1, x.block < W.heap.size := by obtain ⟨m, hm⟩ := k1; exact DataW.trod_lt m _ _ _ hm
  obtain ⟨c00, c01, c02, c03, y00, y01, y02, y03, m0, rfl, -, -, g00, g01, g02, g03⟩ := open_agg4 Try.underlying30 (by kernel_rfl) cellsT (hval 0 30 v0 rfl rfl) h0
  obtain ⟨a, e00, -, -⟩ := DataW.trod_int Try.underlying3 g00
  obtain ⟨b, e01, -, -⟩ := DataW.trod_int Try.underlying3 g01
  obtain ⟨c, e02, -, -⟩ := DataW.trod_int Try.underlying3 g02
  obtain ⟨d, e03, -, -⟩ := DataW.trod_int Try.underlying3 g03
  simp at e00 e01 e02 e03
  subst e00 e01 e02 e03
  obtain ⟨c10, c11, c12, c13, y10, y11, y12, y13, m1, rfl, -, -, g10, g11, g12, g13⟩ := open_agg4 Try.underlying30 (by kernel_rfl) cellsT (hval 1 30 v1 rfl rfl) h1
  obtain ⟨a', e10, -, -⟩ := DataW.trod_int Try.underlying3 g10
  obtain ⟨b', e11, -, -⟩ := DataW.trod_int Try.underlying3 g11
  obtain ⟨c', e12, -, -⟩ := DataW.trod_int Try.underlying3 g12
  obtain ⟨d', e13, -, -⟩ := DataW.trod_int Try.underlying3 g13
  simp at e10 e11 e12 e13
  subst e10 e11 e12 e13
  clear hA0 hval0
  refine (walkBoxAdd a b c d a' b' c' d' W).mono fun e W' ⟨he, bel⟩ => ?_
  subst he
  exact ⟨_, rfl, _, _, _, [], _, [], hW', trodAll_mk1 (shut_bool Try.underlying4 _), (trodAll_mk2 (Below.trod laidOut (by kernel_rfl) (of_decide_eq_true (by kernel_rfl)) k0 bel lt0) (Below.trod laidOut (by kernel_rfl) (of_decide_eq_true (by kernel_rfl)) k1 bel lt1)), rfl, bel.frame _, fun h => by cases h⟩

theorem over : Rows.fnExactBoxAddRow.holds Try.pinned (OpenSpec.ofChange Rows.fnExactBoxAddSpec) :=
  OpenClaim.holds_of_wide 9 Try.f9 rfl rfl rfl rfl rfl rfl rfl ⟨rfl, rfl, rfl, rfl, rfl⟩ rfl rfl rfl rfl rfl (by kernel_rfl) Try.func9 (by kernel_rfl)
    (of_decide_eq_true (by kernel_rfl)) (by unfold Func.isWrapper; first | (rw [if_pos (by decide +kernel)]; kernel_rfl) | (rw [if_neg (by decide +kernel)]; exact ⟨rfl, rfl⟩))
    (fun os started H enc _ => lifted os started H enc)

/-- The statement. -/
theorem proved : Rows.FnExactBoxAddSaid := over
#print axioms proved
end Go.Proofs.Ytjhleindjllibaa.fnExactBoxAdd
