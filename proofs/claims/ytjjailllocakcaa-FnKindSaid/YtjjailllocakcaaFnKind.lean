/-
  Kinds are told apart: FnKind returns true for every code. Conditions: none.
-/
import Derived.Test.YtjjailllocakcaaDrawc
import Derived.Test.YtjjailllocakcaaKind3
import Derived.Test.YtjjailllocakcaaRows
import Derived.WalkKit
import Derived.ProofKit
import Derived.OpenShut
import Derived.ShutString
import Derived.ChangeOld
import Derived.Below
import Derived.Handy
import Derived.LoopN
import Derived.Lib.Hide
namespace Go.Proofs.Ytjjailllocakcaa.fnKind
open Go.ChangeShapes Go.WideShapes Go.ChangeAt Go.RowKit
open Go.ChangeMaps (open_string shut_string)
open Go.Proofs.Ytjjailllocakcaa Fl
set_option linter.unusedVariables false

theorem own : ownKnob Try.prog.godebug = none := by kernel_rfl
theorem laidOut : laidOutB Try.prog = true := by kernel_rfl

/-- What the walk is told of a slice of integers that came in: it is nil, or it leads to a row of 'cap' cells, the numbers 'zs'. -/
def IsRow (k : IntKind) (w : World) (a : Option Addr) (len cap : Nat) (zs : List Int) : Prop :=
  (a = none ∧ len = 0 ∧ cap = 0 ∧ zs = []) ∨
  ∃ x, a = some x ∧ len ≤ cap ∧ cap ≤ maxLen ∧ zs.length = cap ∧ (∀ i, i < zs.length → w.cell? (x.add i) = some (.int k (zs.getD i 0))) ∧ ∀ n ∈ zs, (Lit.int k n).wf = true

/-- The walk: the Go text returns true and writes nothing that was there. -/
theorem walk (a0 : Option Addr) (len0 cap0 : Nat) (z0 : List Int) (w : World) (w0 : IsRow .u8 w a0 len0 cap0 z0) :
    Calls Try.prog 12 #[.slice a0 len0 cap0] w fun e w' => e = .returned (.bool true) ∧ Below w.heap.size w w' := by
  have hC : Code8 w a0 len0 cap0 := isrow_bytes w0
  by_cases hl : 1048576 < len0
  · go_enter Try.func12, Try.ntmps12
    go_wp2
    go_ret
    exact ⟨rfl, Below.refl _ _⟩
  · go_enter Try.func12, Try.ntmps12
    go_wp2_with fail
    refine (DrawKind_any _ _ _ _ hC).mono ?_
    rintro e w1 ⟨x, y, rfl, hx, hy, hb⟩
    have HB := Lib.hid hb
    clear hb
    have h1 := fun w => kind_impl x y hx hy w
    have h2 := fun w => kind_spec x y hx hy w
    have h3 := fun a b u v w => alike_impl (ffV .f32 .f64 x a) (ffV .f32 .f64 y b) u v w
    have t0 : ∀ a b w, Calls Try.prog 18 #[.complex .f64 (ffV .f32 .f64 x a) (ffV .f32 .f64 y b), .complex .f64 0 0] w fun e w' => e = .returned (.bool (kindN x y == 0)) ∧ w = w' := fun a b w => by
      rw [← al0 x y a b]; exact alike_impl _ _ _ _ _
    have t1 : ∀ a b w, Calls Try.prog 18 #[.complex .f64 (ffV .f32 .f64 x a) (ffV .f32 .f64 y b), .complex .f64 4607182418800017408 0] w fun e w' => e = .returned (.bool (kindN x y == 1)) ∧ w = w' := fun a b w => by
      rw [← al1 x y a b]; exact alike_impl _ _ _ _ _
    have t2 : ∀ a b w, Calls Try.prog 18 #[.complex .f64 (ffV .f32 .f64 x a) (ffV .f32 .f64 y b), .complex .f64 0 4607182418800017408] w fun e w' => e = .returned (.bool (kindN x y == 2)) ∧ w = w' := fun a b w => by
      rw [← al2 x y a b]; exact alike_impl _ _ _ _ _
    have t3 : ∀ a b w, Calls Try.prog 18 #[.complex .f64 (ffV .f32 .f64 x a) (ffV .f32 .f64 y b), .complex .f64 13830554455654793216 0] w fun e w' => e = .returned (.bool (kindN x y == 3)) ∧ w = w' := fun a b w => by
      rw [← al3 x y a b]; exact alike_impl _ _ _ _ _
    have t4 : ∀ a b w, Calls Try.prog 18 #[.complex .f64 (ffV .f32 .f64 x a) (ffV .f32 .f64 y b), .complex .f64 9223372036854775808 13830554455654793216] w fun e w' => e = .returned (.bool (kindN x y == 4)) ∧ w = w' := fun a b w => by
      rw [← al4 x y a b]; exact alike_impl _ _ _ _ _
    have t5 : ∀ w, Calls Try.prog 45 #[.complex .f32 x y, .complex .f32 x y] w fun e w' => e = .returned (.bool (kindN x y == 5)) ∧ w = w' := fun w => by
      rw [← un5 x y]; exact unlike_impl _ _ _ _ _
    have hr := kind_range x y
    have hs := kind_sq x y hx hy
    unfold KV at h1 h2
    generalize kindN x y = K at h1 h2 t0 t1 t2 t3 t4 t5 hr hs
    have H1 := Lib.hid h1
    have H2 := Lib.hid h2
    have T0 := Lib.hid t0
    have T1 := Lib.hid t1
    have T2 := Lib.hid t2
    have T3 := Lib.hid t3
    have T4 := Lib.hid t4
    have T5 := Lib.hid t5
    have HR := Lib.hid hr
    have HS := Lib.hid hs
    clear h1 h2 h3 t0 t1 t2 t3 t4 t5 hr hs
    go_wp2_with fail
    refine (H1.out _).mono ?_; rintro e w' ⟨rfl, n1, rfl⟩
    go_wp2_with fail
    refine (H2.out _).mono ?_; rintro e w' ⟨rfl, n2, rfl⟩
    go_wp2_with fail
    refine wp_loop_rounds 5 ?_
    rw [rounds_succ]
    go_wp2_with fail
    refine (widen_impl _ _ _).mono ?_; rintro e w' ⟨rfl, rfl⟩
    go_wp2_with fail
    refine (T1.out _ _ _).mono ?_; rintro e w' ⟨rfl, rfl⟩
    go_wp2_with fail
    refine (turn1 _).mono ?_; rintro e w' ⟨rfl, m1, rfl⟩
    go_wp2_with fail
    rw [rounds_succ]
    go_wp2_with fail
    refine (widen_impl _ _ _).mono ?_; rintro e w' ⟨rfl, rfl⟩
    go_wp2_with fail
    refine (T2.out _ _ _).mono ?_; rintro e w' ⟨rfl, rfl⟩
    go_wp2_with fail
    refine (turn2 _).mono ?_; rintro e w' ⟨rfl, m2, rfl⟩
    go_wp2_with fail
    rw [rounds_succ]
    go_wp2_with fail
    refine (widen_impl _ _ _).mono ?_; rintro e w' ⟨rfl, rfl⟩
    go_wp2_with fail
    refine (T3.out _ _ _).mono ?_; rintro e w' ⟨rfl, rfl⟩
    go_wp2_with fail
    refine (turn3 _).mono ?_; rintro e w' ⟨rfl, m3, rfl⟩
    go_wp2_with fail
    rw [rounds_succ]
    go_wp2_with fail
    refine (widen_impl _ _ _).mono ?_; rintro e w' ⟨rfl, rfl⟩
    go_wp2_with fail
    refine (T4.out _ _ _).mono ?_; rintro e w' ⟨rfl, rfl⟩
    go_wp2_with fail
    refine (turn_impl _ _ _).mono ?_; rintro e w' ⟨p, q, m4, rfl, _, _, _, _, rfl⟩
    go_wp2_with fail
    rw [rounds_succ]
    go_wp2_with fail
    refine (widen_impl _ _ _).mono ?_; rintro e w' ⟨rfl, rfl⟩
    go_wp2_with fail
    refine (T0.out _ _ _).mono ?_; rintro e w' ⟨rfl, rfl⟩
    go_wp2_with fail
    refine (T5.out _).mono ?_; rintro e w' ⟨rfl, rfl⟩
    obtain ⟨hk0, hk7⟩ := HR.out
    by_cases hk5 : K < 5
    · have S5 := Lib.hid (HS.out hk5)
      have hk5' : ¬ 5 ≤ K := by omega
      go_wp2_with fail
      refine (S5.out _).mono ?_; rintro e w' ⟨a, b, n3, rfl, rfl, ha, hb, hab⟩
      have S6 := kind_impl a b ha hb
      unfold KV at S6
      generalize kindN a b = L at S6 hab
      go_wp2_with fail
      refine (S6 _).mono ?_; rintro e w' ⟨rfl, n4, rfl⟩
      go_wp2
      go_ret
      refine ⟨?_, below_drewN HB.out _⟩
      clear HB H1 H2 T0 T1 T2 T3 T4 T5 HR HS
      first | rfl | (congr 2; first | rfl | (simp; omega))

    · have hk5' : 5 ≤ K := by omega
      go_wp2
      go_ret
      refine ⟨?_, below_drewN HB.out _⟩
      clear HB H1 H2 T0 T1 T2 T3 T4 T5 HR HS
      first | rfl | (congr 2; first | rfl | (simp; omega))

/-! ### The row's step -/
set_option maxRecDepth 100000 in
theorem lifted (os : Os) (started : os.Started) (H : Type) (enc : TypeId × Value → H) :
    ReturnsInHanded {} Try.checked os 12 .any (Rows.fnKindSpec.pre6 enc Try.prog Try.f12 Rows.fnKindRow.domain false) (Rows.fnKindSpec.post enc Try.prog Try.f12 false true false false) := by
  refine returnsInHanded_of_change (C := Try.checked) own started (by kernel_rfl) Try.func12
    (ChangeSpec.witness6 (enc := enc) (C := Try.checked) false ⟨#[], #[.slice none 0 0], []⟩ 8 (by kernel_rfl) (by kernel_rfl) (by kernel_rfl) (by kernel_rfl)) ?_
  intro W base args ds gs before hval0 hW hcnd _
  have hval : ∀ (j : Nat) t v, Try.f12.params[j]? = some t → args[j]? = some v → Value.okWide Try.prog W .any base t v := hval0
  have hW' := hW
  obtain ⟨p, q, hA0, hV, rfl, hfz, hnd⟩ := hW
  have hA : DataW.TrodAll enc Try.prog W 0 (fun _ => true) true Try.f12.params.toList args.toList ds p := hA0
  rw [Try.params12] at hA hval
  obtain ⟨v0, vs0, d0, ds0, p0, q0, hargs, rfl, rfl, h0, r0⟩ := trodAll_cons hA
  obtain ⟨rfl, rfl, rfl⟩ := trodAll_nil r0
  obtain rfl : args = #[v0] := by cases args; simp_all
  obtain ⟨rfl, rfl⟩ := trodVars_none hV
  obtain ⟨a0, len0, cap0, rfl⟩ := okWide_slice Try.underlying22 (hval 0 22 v0 rfl rfl)
  have k0 := h0
  have lt0 : ∀ x ∈ p0, x.block < W.heap.size := by obtain ⟨m, hm⟩ := k0; exact DataW.trod_lt m _ _ _ hm
  obtain ⟨z0, w0⟩ : ∃ zs, IsRow .u8 W a0 len0 cap0 zs := by
    obtain ⟨fuel, hf⟩ := h0
    rcases open_ints Try.underlying22 Try.underlying5 (by kernel_rfl) hf with ⟨hcs, _⟩ | ⟨x, l, c, zs, hcs, _, hl, hm, hz, _, hcell, hwz⟩
    · simp [Value.cells] at hcs
      obtain ⟨rfl, rfl, rfl⟩ := hcs
      exact ⟨[], .inl ⟨rfl, rfl, rfl, rfl⟩⟩
    · simp [Value.cells] at hcs
      obtain ⟨rfl, rfl, rfl⟩ := hcs
      exact ⟨zs, .inr ⟨_, rfl, hl, hm, by simpa using hz, hcell, hwz⟩⟩
  clear hA0 hval0
  refine (walk a0 len0 cap0 z0 W w0).mono fun e W' ⟨he, bel⟩ => ?_
  subst he
  exact ⟨_, rfl, _, _, _, [], _, [], hW', trodAll_mk1 (shut_bool Try.underlying4 _), (trodAll_cons_mk (Below.trod laidOut (by kernel_rfl) (of_decide_eq_true (by kernel_rfl)) k0 bel lt0) trodAll_mk0), rfl, bel.frame _, fun h => by cases h⟩

theorem over : Rows.fnKindRow.holds Try.pinned (OpenSpec.ofChange Rows.fnKindSpec) :=
  OpenClaim.holds_of_wide 12 Try.f12 rfl rfl rfl rfl rfl rfl rfl ⟨rfl, rfl, rfl, rfl, rfl⟩ rfl rfl rfl rfl rfl (by kernel_rfl) Try.func12 (by kernel_rfl)
    (of_decide_eq_true (by kernel_rfl)) (by unfold Func.isWrapper; first | (rw [if_pos (by decide +kernel)]; kernel_rfl) | (rw [if_neg (by decide +kernel)]; exact ⟨rfl, rfl⟩))
    (fun os started H enc _ => lifted os started H enc)

/-- The statement. -/
theorem proved : Rows.FnKindSaid := over
#print axioms proved
end Go.Proofs.Ytjjailllocakcaa.fnKind
