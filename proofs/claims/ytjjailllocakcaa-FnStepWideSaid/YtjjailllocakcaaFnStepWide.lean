/-
  Mirrored numbers step to mirrored numbers, a step from 0 leads to c, and StepWide is the reference's: FnStepWide returns true for every code. Conditions: none.
-/
import Derived.Test.YtjjailllocakcaaDrawc
import Derived.Test.YtjjailllocakcaaCfn2
import Derived.Test.YtjjailllocakcaaRows
import Derived.WalkKit
import Derived.ProofKit
import Derived.OpenShut
import Derived.ShutString
import Derived.ChangeOld
import Derived.Below
import Derived.Handy
import Derived.Lib.Hide
namespace Go.Proofs.Ytjjailllocakcaa.fnStepWide
open Go.ChangeShapes Go.WideShapes Go.ChangeAt Go.RowKit
open Go.ChangeMaps (open_string shut_string)
open Go.Proofs.Ytjjailllocakcaa Fl
set_option linter.unusedVariables false

theorem own : ownKnob Try.prog.godebug = none := by kernel_rfl
theorem laidOut : laidOutB Try.prog = true := by kernel_rfl

/-- What the walk is told of a slice of integers that came in: it is nil, or it leads to a row of 'cap' cells, the numbers 'zs'. -/
def IsRow (k : IntKind) (w : World) (a : Option Addr) (len cap : Nat) (zs : List Int) : Prop :=
  (a = none ∧ len = 0 ∧ cap = 0 ∧ zs = []) ∨
  ∃ x, a = some x ∧ len ≤ cap ∧ cap ≤ maxLen ∧ zs.length = cap ∧ (∀ i, i < zs.length → w.cell? (x.add i) = some (.int k (zs.getD i 0))) ∧ ∀ n ∈ zs, (Lit.int k n).wf = true

/-- The walk: the Go text returns true and writes nothing that was there. -/
theorem walk (a0 : Option Addr) (len0 cap0 : Nat) (z0 : List Int) (w : World) (w0 : IsRow .u8 w a0 len0 cap0 z0) :
    Calls Try.prog 8 #[.slice a0 len0 cap0] w fun e w' => e = .returned (.bool true) ∧ Below w.heap.size w w' := by
  have hC : Code8 w a0 len0 cap0 := isrow_bytes w0
  by_cases hl : 1048576 < len0
  · go_enter Try.func8, Try.ntmps8
    go_wp2
    go_ret
    exact ⟨rfl, Below.refl _ _⟩
  · go_enter Try.func8, Try.ntmps8
    go_wp2_with fail
    refine (DrawStepWide_any _ _ _ _ hC).mono ?_
    rintro e w1 ⟨x, y, u, v, rfl, hx, hy, hu, hv, hb⟩
    have HB := Lib.hid hb
    clear hb
    go_wp2_with fail
    refine (step_impl _ _ _ _ x y u v (Sim.refl _ _) (Sim.refl _ _) (Sim.refl _ _) (Sim.refl _ _) _).mono ?_; rintro e w' ⟨a, b, n1, rfl, ha, hb, la, lb, rfl⟩
    go_wp2_with fail
    refine (step_spec _ _ _ _ x y u v (Sim.refl _ _) (Sim.refl _ _) (Sim.refl _ _) (Sim.refl _ _) _).mono ?_; rintro e w' ⟨a', b', n2, rfl, ha', hb', la', lb', rfl⟩
    go_wp2_with fail
    refine (sameWide_any _ _ _ _ (ha.trans ha'.symm) (hb.trans hb'.symm) _).mono ?_; rintro e w2 ⟨rfl, n3, rfl⟩
    go_wp2_with fail
    refine (mirror_impl _ _ _).mono ?_; rintro e w' ⟨rfl, rfl⟩
    go_wp2_with fail
    refine (mirror_impl _ _ _).mono ?_; rintro e w' ⟨rfl, rfl⟩
    go_wp2_with fail
    refine (step_impl _ _ _ _ x (negw D y) u (negw D v) (Sim.refl _ _) (Sim.refl _ _) (Sim.refl _ _) (Sim.refl _ _) _).mono ?_; rintro e w' ⟨c, d, n4, rfl, hc, hd, lc, ld, rfl⟩
    obtain ⟨m1, m2⟩ := st_mirror x y u v hy hv
    go_wp2_with fail
    refine (mirror_impl _ _ _).mono ?_; rintro e w' ⟨rfl, rfl⟩
    go_wp2_with fail
    refine (likeWide_any _ _ _ _ (hc.like.trans (m1.trans ha.symm.like)) (hd.like.trans (m2.trans (negw_sim D (addT_lt D gD _ _) lb hb.symm).like)) _).mono ?_; rintro e w2 ⟨rfl, n5, rfl⟩
    go_wp2_with fail
    refine (step_impl _ _ _ _ 0 0 u v (Sim.refl _ _) (Sim.refl _ _) (Sim.refl _ _) (Sim.refl _ _) _).mono ?_; rintro e w' ⟨p, q, n6, rfl, hp, hq, lp, lq, rfl⟩
    obtain ⟨z1, z2⟩ := st_zero u v
    go_wp2_with fail
    refine (likeWide_any _ _ _ _ (hp.like.trans z1) (hq.like.trans z2) _).mono ?_; rintro e w2 ⟨rfl, n7, rfl⟩
    go_wp2
    go_ret
    exact ⟨rfl, below_drewN HB.out _⟩

/-! ### The row's step -/
set_option maxRecDepth 100000 in
theorem lifted (os : Os) (started : os.Started) (H : Type) (enc : TypeId × Value → H) :
    ReturnsInHanded {} Try.checked os 8 .any (Rows.fnStepWideSpec.pre6 enc Try.prog Try.f8 Rows.fnStepWideRow.domain false) (Rows.fnStepWideSpec.post enc Try.prog Try.f8 false true false false) := by
  refine returnsInHanded_of_change (C := Try.checked) own started (by kernel_rfl) Try.func8
    (ChangeSpec.witness6 (enc := enc) (C := Try.checked) false ⟨#[], #[.slice none 0 0], []⟩ 8 (by kernel_rfl) (by kernel_rfl) (by kernel_rfl) (by kernel_rfl)) ?_
  intro W base args ds gs before hval0 hW hcnd _
  have hval : ∀ (j : Nat) t v, Try.f8.params[j]? = some t → args[j]? = some v → Value.okWide Try.prog W .any base t v := hval0
  have hW' := hW
  obtain ⟨p, q, hA0, hV, rfl, hfz, hnd⟩ := hW
  have hA : DataW.TrodAll enc Try.prog W 0 (fun _ => true) true Try.f8.params.toList args.toList ds p := hA0
  rw [Try.params8] at hA hval
  obtain ⟨v0, vs0, d0, ds0, p0, q0, hargs, rfl, rfl, h0, r0⟩ := trodAll_cons hA
  obtain ⟨rfl, rfl, rfl⟩ := trodAll_nil r0
  obtain rfl : args = #[v0] := by cases args; simp_all
  obtain ⟨rfl, rfl⟩ := trodVars_none hV
  obtain ⟨a0, len0, cap0, rfl⟩ := okWide_slice Try.underlying22 (hval 0 22 v0 rfl rfl)
  have k0 := h0
  have lt0 : ∀ x ∈ p0, x.block < W.heap.size := by obtain ⟨m, hm⟩ := k0; exact DataW.trod_lt m _ _ _ hm
  obtain ⟨z0, w0⟩ : ∃ zs, IsRow .u8 W a0 len0 cap0 zs := by
    obtain ⟨fuel, hf⟩ := h0
    rcases open_ints Try.underlying22 Try.underlying5 (by kernel_rfl) hf with ⟨hcs, _⟩ | ⟨x, l, c, zs, hcs, _, hl, hm, hz, _, hcell, hwz⟩
    · simp [Value.cells] at hcs
      obtain ⟨rfl, rfl, rfl⟩ := hcs
      exact ⟨[], .inl ⟨rfl, rfl, rfl, rfl⟩⟩
    · simp [Value.cells] at hcs
      obtain ⟨rfl, rfl, rfl⟩ := hcs
      exact ⟨zs, .inr ⟨_, rfl, hl, hm, by simpa using hz, hcell, hwz⟩⟩
  clear hA0 hval0
  refine (walk a0 len0 cap0 z0 W w0).mono fun e W' ⟨he, bel⟩ => ?_
  subst he
  exact ⟨_, rfl, _, _, _, [], _, [], hW', trodAll_mk1 (shut_bool Try.underlying4 _), (trodAll_cons_mk (Below.trod laidOut (by kernel_rfl) (of_decide_eq_true (by kernel_rfl)) k0 bel lt0) trodAll_mk0), rfl, bel.frame _, fun h => by cases h⟩

theorem over : Rows.fnStepWideRow.holds Try.pinned (OpenSpec.ofChange Rows.fnStepWideSpec) :=
  OpenClaim.holds_of_wide 8 Try.f8 rfl rfl rfl rfl rfl rfl rfl ⟨rfl, rfl, rfl, rfl, rfl⟩ rfl rfl rfl rfl rfl (by kernel_rfl) Try.func8 (by kernel_rfl)
    (of_decide_eq_true (by kernel_rfl)) (by unfold Func.isWrapper; first | (rw [if_pos (by decide +kernel)]; kernel_rfl) | (rw [if_neg (by decide +kernel)]; exact ⟨rfl, rfl⟩))
    (fun os started H enc _ => lifted os started H enc)

/-- The statement. -/
theorem proved : Rows.FnStepWideSaid := over
#print axioms proved
end Go.Proofs.Ytjjailllocakcaa.fnStepWide
