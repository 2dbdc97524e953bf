/-
  Widening loses nothing, and Widen is the reference's: FnWiden returns true for every code. Conditions: none.
-/
import Derived.Test.YtjjailllocakcaaDrawc
import Derived.Test.YtjjailllocakcaaCfn2
import Derived.Test.YtjjailllocakcaaRows
import Derived.WalkKit
import Derived.ProofKit
import Derived.OpenShut
import Derived.ShutString
import Derived.ChangeOld
import Derived.Below
import Derived.Handy
import Derived.Lib.Hide
namespace Go.Proofs.Ytjjailllocakcaa.fnWiden
open Go.ChangeShapes Go.WideShapes Go.ChangeAt Go.RowKit
open Go.ChangeMaps (open_string shut_string)
open Go.Proofs.Ytjjailllocakcaa Fl
set_option linter.unusedVariables false

theorem own : ownKnob Try.prog.godebug = none := by kernel_rfl
theorem laidOut : laidOutB Try.prog = true := by kernel_rfl

/-- What the walk is told of a slice of integers that came in: it is nil, or it leads to a row of 'cap' cells, the numbers 'zs'. -/
def IsRow (k : IntKind) (w : World) (a : Option Addr) (len cap : Nat) (zs : List Int) : Prop :=
  (a = none ∧ len = 0 ∧ cap = 0 ∧ zs = []) ∨
  ∃ x, a = some x ∧ len ≤ cap ∧ cap ≤ maxLen ∧ zs.length = cap ∧ (∀ i, i < zs.length → w.cell? (x.add i) = some (.int k (zs.getD i 0))) ∧ ∀ n ∈ zs, (Lit.int k n).wf = true

/-- The walk: the Go text returns true and writes nothing that was there. -/
theorem walk (a0 : Option Addr) (len0 cap0 : Nat) (z0 : List Int) (w : World) (w0 : IsRow .u8 w a0 len0 cap0 z0) :
    Calls Try.prog 5 #[.slice a0 len0 cap0] w fun e w' => e = .returned (.bool true) ∧ Below w.heap.size w w' := by
  have hC : Code8 w a0 len0 cap0 := isrow_bytes w0
  by_cases hl : 1048576 < len0
  · go_enter Try.func5, Try.ntmps5
    go_wp2
    go_ret
    exact ⟨rfl, Below.refl _ _⟩
  · go_enter Try.func5, Try.ntmps5
    go_wp2_with fail
    refine (DrawWiden_any _ _ _ _ hC).mono ?_
    rintro e w1 ⟨x, y, rfl, hx, hy, hb⟩
    have HB := Lib.hid hb
    clear hb
    by_cases hnn : isN F x = false ∧ isN F y = false
    · obtain ⟨hnx, hny⟩ := hnn
      have o1 := order_self (k := .f32) hnx
      have o2 := order_self (k := .f32) hny
      have r1 : ∀ w, ffV .f32 .f64 x w = widW x := fun w => wid_run x w hnx
      have r2 : ∀ w, ffV .f32 .f64 y w = widW y := fun w => wid_run y w hny
      have q1 := narW_widW x hnx hx
      have q2 := narW_widW y hny hy
      have r3 : ∀ w, ffV .f64 .f32 (widW x) w = x := fun w => by rw [nar_run _ w (isN_widW x hnx) q1.2, q1.1]
      have r4 : ∀ w, ffV .f64 .f32 (widW y) w = y := fun w => by rw [nar_run _ w (isN_widW y hny) q2.2, q2.1]
      have f1 : (fitB (widW x) && fitB (widW y)) = true := by
        unfold fitB; rw [isN_widW x hnx, isN_widW y hny, q1.1, q2.1]; simp
      have hF := fun w => fits_impl (widW x) (widW y) w
      rw [f1] at hF
      have HF := Lib.hid hF
      clear hnx hny q1 q2 f1 hF
      go_wp2_with fail
      refine (widen_impl _ _ _).mono ?_; rintro e w' ⟨rfl, rfl⟩
      go_wp2_with fail
      refine (widen_spec _ _ _).mono ?_; rintro e w' ⟨rfl, rfl⟩
      go_wp2_with fail
      refine (sameWide_any _ _ _ _ (Sim.refl _ _) (Sim.refl _ _) _).mono ?_; rintro e w2 ⟨rfl, n3, rfl⟩
      go_wp2_with fail
      refine (narrow_impl _ _ _).mono ?_; rintro e w' ⟨rfl, rfl⟩
      go_wp2_with fail
      refine (sameSingle_any _ _ _ _ (Sim.refl _ _) (Sim.refl _ _) _).mono ?_; rintro e w2 ⟨rfl, n4, rfl⟩
      go_wp2_with fail
      refine (HF.out _).mono ?_; rintro e w2 ⟨rfl, n5, rfl⟩
      go_wp2
      go_ret
      exact ⟨rfl, below_drewN HB.out _⟩
    · have ho : (F.order x x == some .eq && F.order y y == some .eq) = false := by
        cases h1 : isN F x with
        | true => rw [order_self_nan (k := .f32) h1]; rfl
        | false =>
          cases h2 : isN F y with
          | true => rw [order_self_nan (k := .f32) h2]; simp
          | false => exact absurd ⟨h1, h2⟩ hnn
      clear hnn
      go_wp2_with fail
      refine (widen_impl _ _ _).mono ?_; rintro e w' ⟨rfl, rfl⟩
      go_wp2_with fail
      refine (widen_spec _ _ _).mono ?_; rintro e w' ⟨rfl, rfl⟩
      go_wp2_with fail
      refine (sameWide_any _ _ _ _ (wid_sim _ _ (Sim.refl _ _) _ _) (wid_sim _ _ (Sim.refl _ _) _ _) _).mono ?_; rintro e w2 ⟨rfl, n3, rfl⟩
      go_wp2_with fail
      refine (sameWide_any _ _ _ _ (wid_sim _ _ (Sim.refl _ _) _ _) (wid_sim _ _ (Sim.refl _ _) _ _) _).mono ?_; rintro e w2 ⟨rfl, n4, rfl⟩
      go_wp2
      go_ret
      exact ⟨rfl, below_drewN HB.out _⟩

/-! ### The row's step -/
set_option maxRecDepth 100000 in
theorem lifted (os : Os) (started : os.Started) (H : Type) (enc : TypeId × Value → H) :
    ReturnsInHanded {} Try.checked os 5 .any (Rows.fnWidenSpec.pre6 enc Try.prog Try.f5 Rows.fnWidenRow.domain false) (Rows.fnWidenSpec.post enc Try.prog Try.f5 false true false false) := by
  refine returnsInHanded_of_change (C := Try.checked) own started (by kernel_rfl) Try.func5
    (ChangeSpec.witness6 (enc := enc) (C := Try.checked) false ⟨#[], #[.slice none 0 0], []⟩ 8 (by kernel_rfl) (by kernel_rfl) (by kernel_rfl) (by kernel_rfl)) ?_
  intro W base args ds gs before hval0 hW hcnd _
  have hval : ∀ (j : Nat) t v, Try.f5.params[j]? = some t → args[j]? = some v → Value.okWide Try.prog W .any base t v := hval0
  have hW' := hW
  obtain ⟨p, q, hA0, hV, rfl, hfz, hnd⟩ := hW
  have hA : DataW.TrodAll enc Try.prog W 0 (fun _ => true) true Try.f5.params.toList args.toList ds p := hA0
  rw [Try.params5] at hA hval
  obtain ⟨v0, vs0, d0, ds0, p0, q0, hargs, rfl, rfl, h0, r0⟩ := trodAll_cons hA
  obtain ⟨rfl, rfl, rfl⟩ := trodAll_nil r0
  obtain rfl : args = #[v0] := by cases args; simp_all
  obtain ⟨rfl, rfl⟩ := trodVars_none hV
  obtain ⟨a0, len0, cap0, rfl⟩ := okWide_slice Try.underlying22 (hval 0 22 v0 rfl rfl)
  have k0 := h0
  have lt0 : ∀ x ∈ p0, x.block < W.heap.size := by obtain ⟨m, hm⟩ := k0; exact DataW.trod_lt m _ _ _ hm
  obtain ⟨z0, w0⟩ : ∃ zs, IsRow .u8 W a0 len0 cap0 zs := by
    obtain ⟨fuel, hf⟩ := h0
    rcases open_ints Try.underlying22 Try.underlying5 (by kernel_rfl) hf with ⟨hcs, _⟩ | ⟨x, l, c, zs, hcs, _, hl, hm, hz, _, hcell, hwz⟩
    · simp [Value.cells] at hcs
      obtain ⟨rfl, rfl, rfl⟩ := hcs
      exact ⟨[], .inl ⟨rfl, rfl, rfl, rfl⟩⟩
    · simp [Value.cells] at hcs
      obtain ⟨rfl, rfl, rfl⟩ := hcs
      exact ⟨zs, .inr ⟨_, rfl, hl, hm, by simpa using hz, hcell, hwz⟩⟩
  clear hA0 hval0
  refine (walk a0 len0 cap0 z0 W w0).mono fun e W' ⟨he, bel⟩ => ?_
  subst he
  exact ⟨_, rfl, _, _, _, [], _, [], hW', trodAll_mk1 (shut_bool Try.underlying4 _), (trodAll_cons_mk (Below.trod laidOut (by kernel_rfl) (of_decide_eq_true (by kernel_rfl)) k0 bel lt0) trodAll_mk0), rfl, bel.frame _, fun h => by cases h⟩

theorem over : Rows.fnWidenRow.holds Try.pinned (OpenSpec.ofChange Rows.fnWidenSpec) :=
  OpenClaim.holds_of_wide 5 Try.f5 rfl rfl rfl rfl rfl rfl rfl ⟨rfl, rfl, rfl, rfl, rfl⟩ rfl rfl rfl rfl rfl (by kernel_rfl) Try.func5 (by kernel_rfl)
    (of_decide_eq_true (by kernel_rfl)) (by unfold Func.isWrapper; first | (rw [if_pos (by decide +kernel)]; kernel_rfl) | (rw [if_neg (by decide +kernel)]; exact ⟨rfl, rfl⟩))
    (fun os started H enc _ => lifted os started H enc)

/-- The statement. -/
theorem proved : Rows.FnWidenSaid := over
#print axioms proved
end Go.Proofs.Ytjjailllocakcaa.fnWiden
