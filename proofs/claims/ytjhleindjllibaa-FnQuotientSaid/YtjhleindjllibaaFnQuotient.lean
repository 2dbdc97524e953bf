/-
  Dividing by 1 and by 2 gives the number and its half, and Quotient is the reference's: FnQuotient returns true for every code. Conditions: none.
-/
import Derived.Test.YtjhleindjllibaaQuo2
import Derived.Test.YtjhleindjllibaaDrawn
import Derived.Test.YtjhleindjllibaaFn
import Derived.Test.YtjhleindjllibaaRows
import Derived.WalkKit
import Derived.ProofKit
import Derived.OpenShut
import Derived.ShutString
import Derived.ChangeOld
import Derived.Below
import Derived.Handy
import Derived.Lib.Hide
namespace Go.Proofs.Ytjhleindjllibaa.fnQuotient
open Go.ChangeShapes Go.WideShapes Go.ChangeAt Go.RowKit
open Go.ChangeMaps (open_string shut_string)
open Go.Proofs.Ytjhleindjllibaa Fl
set_option linter.unusedVariables false

theorem own : ownKnob Try.prog.godebug = none := by kernel_rfl
theorem laidOut : laidOutB Try.prog = true := by kernel_rfl

/-- What the walk is told of a slice of integers that came in: it is nil, or it leads to a row of 'cap' cells, the numbers 'zs'. -/
def IsRow (k : IntKind) (w : World) (a : Option Addr) (len cap : Nat) (zs : List Int) : Prop :=
  (a = none ∧ len = 0 ∧ cap = 0 ∧ zs = []) ∨
  ∃ x, a = some x ∧ len ≤ cap ∧ cap ≤ maxLen ∧ zs.length = cap ∧ (∀ i, i < zs.length → w.cell? (x.add i) = some (.int k (zs.getD i 0))) ∧ ∀ n ∈ zs, (Lit.int k n).wf = true

/-- The walk: the Go text returns true and writes nothing that was there. -/
theorem walk (a0 : Option Addr) (len0 cap0 : Nat) (z0 : List Int) (w : World) (w0 : IsRow .u8 w a0 len0 cap0 z0) :
    Calls Try.prog 13 #[.slice a0 len0 cap0] w fun e w' => e = .returned (.bool true) ∧ Below w.heap.size w w' := by
  have hC : Code8 w a0 len0 cap0 := isrow_bytes w0
  by_cases hl : 1048576 < len0
  · go_enter Try.func13, Try.ntmps13
    go_wp2
    go_ret
    exact ⟨rfl, Below.refl _ _⟩
  · go_enter Try.func13, Try.ntmps13
    go_wp2_with fail
    refine (DrawQuotient_any _ _ _ _ hC).mono ?_
    rintro e w1 ⟨x, y, u, v, rfl, hx, hy, hu, hv, hb⟩
    have HB := Lib.hid hb
    clear hb
    go_wp2_with fail
    refine (quo_impl _ _ _ _ _).mono ?_; rintro e w' ⟨a, b, n1, rfl, ha, hb, la, lb, rfl⟩
    go_wp2_with fail
    refine (quo_spec _ _ _ _ _).mono ?_; rintro e w' ⟨a', b', n2, rfl, ha', hb', la', lb', rfl⟩
    go_wp2_with fail
    refine (sameWide_any _ _ _ _ (ha.trans ha'.symm) (hb.trans hb'.symm) _).mono ?_; rintro e w2 ⟨rfl, n3, rfl⟩
    have hf := fun w => finite_any x y hx hy w
    cases hfin : (finB x && finB y) with
    | false =>
      rw [hfin] at hf
      clear hfin
      go_wp2_with fail
      refine (hf _).mono ?_; rintro e w2 ⟨rfl, n4, rfl⟩
      clear hf
      go_wp2
      go_ret
      exact ⟨rfl, below_drewN HB.out _⟩
    | true =>
      rw [hfin] at hf
      rw [Bool.and_eq_true] at hfin
      have fx : rung D x < D.infRung := by simpa [finB] using hfin.1
      have fy : rung D y < D.infRung := by simpa [finB] using hfin.2
      have nx : isN D x = false := by simp [isN]; omega
      have ny : isN D y = false := by simp [isN]; omega
      have q1 := quoT_one x y fx fy
      have q2 := quoT_two x y fx fy hx hy
      have hx2 := isN_half x fx
      have hy2 := isN_half y fy
      have HF := Lib.hid hf
      clear hfin fx fy hf
      go_wp2_with fail
      refine (HF.out _).mono ?_; rintro e w2 ⟨rfl, n4, rfl⟩
      go_wp2_with fail
      refine (quo_impl _ _ _ _ _).mono ?_; rintro e w' ⟨c, d, n5, rfl, hc, hd, lc, ld, rfl⟩
      have e1 : eqC .f64 c d x y = true := eqC_like _ _ _ _ (hc.like.trans q1.1) (hd.like.trans q1.2) nx ny
      go_wp2_with fail
      refine (alike_impl _ _ _ _ _).mono ?_; rintro e w' ⟨rfl, rfl⟩
      go_wp2_with fail
      refine (quo_impl _ _ _ _ _).mono ?_; rintro e w' ⟨c2, d2, n6, rfl, hc2, hd2, lc2, ld2, rfl⟩
      have e2 : ∀ w3 w4, eqC .f64 c2 d2 (faV .quo .f64 x 4611686018427387904 w3) (faV .quo .f64 y 4611686018427387904 w4) = true := fun w3 w4 => by
        have h1 := faV_quo x 4611686018427387904 x 4611686018427387904 w3 (Sim.refl _ _) (Sim.refl _ _)
        have h2 := faV_quo y 4611686018427387904 y 4611686018427387904 w4 (Sim.refl _ _) (Sim.refl _ _)
        exact eqC_like _ _ _ _ ((hc2.like.trans q2.1).trans h1.symm.like) ((hd2.like.trans q2.2).trans h2.symm.like) (by rw [h1.isN]; exact hx2) (by rw [h2.isN]; exact hy2)
      go_wp2_with fail
      refine (alike_impl _ _ _ _ _).mono ?_; rintro e w' ⟨rfl, rfl⟩
      go_wp2
      go_ret
      exact ⟨rfl, below_drewN HB.out _⟩

/-! ### The row's step -/
set_option maxRecDepth 100000 in
theorem lifted (os : Os) (started : os.Started) (H : Type) (enc : TypeId × Value → H) :
    ReturnsInHanded {} Try.checked os 13 .any (Rows.fnQuotientSpec.pre6 enc Try.prog Try.f13 Rows.fnQuotientRow.domain false) (Rows.fnQuotientSpec.post enc Try.prog Try.f13 false true false false) := by
  refine returnsInHanded_of_change (C := Try.checked) own started (by kernel_rfl) Try.func13
    (ChangeSpec.witness6 (enc := enc) (C := Try.checked) false ⟨#[], #[.slice none 0 0], []⟩ 8 (by kernel_rfl) (by kernel_rfl) (by kernel_rfl) (by kernel_rfl)) ?_
  intro W base args ds gs before hval0 hW hcnd _
  have hval : ∀ (j : Nat) t v, Try.f13.params[j]? = some t → args[j]? = some v → Value.okWide Try.prog W .any base t v := hval0
  have hW' := hW
  obtain ⟨p, q, hA0, hV, rfl, hfz, hnd⟩ := hW
  have hA : DataW.TrodAll enc Try.prog W 0 (fun _ => true) true Try.f13.params.toList args.toList ds p := hA0
  rw [Try.params13] at hA hval
  obtain ⟨v0, vs0, d0, ds0, p0, q0, hargs, rfl, rfl, h0, r0⟩ := trodAll_cons hA
  obtain ⟨rfl, rfl, rfl⟩ := trodAll_nil r0
  obtain rfl : args = #[v0] := by cases args; simp_all
  obtain ⟨rfl, rfl⟩ := trodVars_none hV
  obtain ⟨a0, len0, cap0, rfl⟩ := okWide_slice Try.underlying37 (hval 0 37 v0 rfl rfl)
  have k0 := h0
  have lt0 : ∀ x ∈ p0, x.block < W.heap.size := by obtain ⟨m, hm⟩ := k0; exact DataW.trod_lt m _ _ _ hm
  obtain ⟨z0, w0⟩ : ∃ zs, IsRow .u8 W a0 len0 cap0 zs := by
    obtain ⟨fuel, hf⟩ := h0
    rcases open_ints Try.underlying37 Try.underlying5 (by kernel_rfl) hf with ⟨hcs, _⟩ | ⟨x, l, c, zs, hcs, _, hl, hm, hz, _, hcell, hwz⟩
    · simp [Value.cells] at hcs
      obtain ⟨rfl, rfl, rfl⟩ := hcs
      exact ⟨[], .inl ⟨rfl, rfl, rfl, rfl⟩⟩
    · simp [Value.cells] at hcs
      obtain ⟨rfl, rfl, rfl⟩ := hcs
      exact ⟨zs, .inr ⟨_, rfl, hl, hm, by simpa using hz, hcell, hwz⟩⟩
  clear hA0 hval0
  refine (walk a0 len0 cap0 z0 W w0).mono fun e W' ⟨he, bel⟩ => ?_
  subst he
  exact ⟨_, rfl, _, _, _, [], _, [], hW', trodAll_mk1 (shut_bool Try.underlying4 _), (trodAll_cons_mk (Below.trod laidOut (by kernel_rfl) (of_decide_eq_true (by kernel_rfl)) k0 bel lt0) trodAll_mk0), rfl, bel.frame _, fun h => by cases h⟩

theorem over : Rows.fnQuotientRow.holds Try.pinned (OpenSpec.ofChange Rows.fnQuotientSpec) :=
  OpenClaim.holds_of_wide 13 Try.f13 rfl rfl rfl rfl rfl rfl rfl ⟨rfl, rfl, rfl, rfl, rfl⟩ rfl rfl rfl rfl rfl (by kernel_rfl) Try.func13 (by kernel_rfl)
    (of_decide_eq_true (by kernel_rfl)) (by unfold Func.isWrapper; first | (rw [if_pos (by decide +kernel)]; kernel_rfl) | (rw [if_neg (by decide +kernel)]; exact ⟨rfl, rfl⟩))
    (fun os started H enc _ => lifted os started H enc)

/-- The statement. -/
theorem proved : Rows.FnQuotientSaid := over
#print axioms proved
end Go.Proofs.Ytjhleindjllibaa.fnQuotient
