/-
  Kinds of turned and of squared numbers. Conditions: none.
-/
import Derived.Test.YtjjailllocakcaaKind2
namespace Go.Proofs.Ytjjailllocakcaa
open Fl

theorem ord0 (x : Nat) : (FloatKind.f32.format.order x 0 == some .eq) = true ↔ isN F x = false ∧ key F x = 0 := by
  rw [show FloatKind.f32.format = F from rfl, eq_iff F gF, show isN F 0 = false by decide, show key F 0 = 0 by decide]; simp
theorem ord1 (x : Nat) : (FloatKind.f32.format.order x 1065353216 == some .eq) = true ↔ isN F x = false ∧ key F x = 1065353216 := by
  rw [show FloatKind.f32.format = F from rfl, eq_iff F gF, show isN F 1065353216 = false by decide, show key F 1065353216 = 1065353216 by decide]; simp
theorem ordm (x : Nat) : (FloatKind.f32.format.order x 3212836864 == some .eq) = true ↔ isN F x = false ∧ key F x = -1065353216 := by
  rw [show FloatKind.f32.format = F from rfl, eq_iff F gF, show isN F 3212836864 = false by decide, show key F 3212836864 = -1065353216 by decide]; simp
theorem kind_is (x y : Nat) : eqC .f32 x y 0 0 = (kindN x y == 0) ∧ eqC .f32 x y 1065353216 0 = (kindN x y == 1) ∧ eqC .f32 x y 0 1065353216 = (kindN x y == 2) ∧
    eqC .f32 x y 3212836864 0 = (kindN x y == 3) ∧ eqC .f32 x y 0 3212836864 = (kindN x y == 4) := by
  have a0 := ord0 x
  have a1 := ord1 x
  have a2 := ordm x
  have b0 := ord0 y
  have b1 := ord1 y
  have b2 := ordm y
  unfold kindN
  generalize eqC .f32 x y x y = s
  generalize (infB x || infB y) = t
  unfold eqC
  generalize (FloatKind.f32.format.order x 0 == some .eq) = p0 at *
  generalize (FloatKind.f32.format.order x 1065353216 == some .eq) = p1 at *
  generalize (FloatKind.f32.format.order x 3212836864 == some .eq) = p2 at *
  generalize (FloatKind.f32.format.order y 0 == some .eq) = q0 at *
  generalize (FloatKind.f32.format.order y 1065353216 == some .eq) = q1 at *
  generalize (FloatKind.f32.format.order y 3212836864 == some .eq) = q2 at *
  have n1 : ¬ (p0 = true ∧ p1 = true) := by rw [a0, a1]; omega
  have n2 : ¬ (p0 = true ∧ p2 = true) := by rw [a0, a2]; omega
  have n3 : ¬ (p1 = true ∧ p2 = true) := by rw [a1, a2]; omega
  have n4 : ¬ (q0 = true ∧ q1 = true) := by rw [b0, b1]; omega
  have n5 : ¬ (q0 = true ∧ q2 = true) := by rw [b0, b2]; omega
  have n6 : ¬ (q1 = true ∧ q2 = true) := by rw [b1, b2]; omega
  clear a0 a1 a2 b0 b1 b2
  revert n1 n2 n3 n4 n5 n6
  cases p0 <;> cases p1 <;> cases p2 <;> cases q0 <;> cases q1 <;> cases q2 <;> cases s <;> cases t <;> simp
theorem wide_one (w : World) : ffV .f32 .f64 1065353216 w = 4607182418800017408 := by rw [wid_run _ w (by decide)]; decide +kernel
theorem wide_zero (w : World) : ffV .f32 .f64 0 w = 0 := by rw [wid_run _ w (by decide)]; decide +kernel
theorem wide_mone (w : World) : ffV .f32 .f64 3212836864 w = 13830554455654793216 := by rw [wid_run _ w (by decide)]; decide +kernel
theorem ord_mz (a : Nat) : (FloatKind.f64.format.order a 9223372036854775808 == some .eq) = (FloatKind.f64.format.order a 0 == some .eq) := by
  rw [Bool.eq_iff_iff, show FloatKind.f64.format = D from rfl, eq_iff D gD, eq_iff D gD, show isN D 9223372036854775808 = false by decide, show isN D 0 = false by decide, show key D 9223372036854775808 = key D 0 by decide]
theorem al0 (x y : Nat) (a b : World) : eqC .f64 (ffV .f32 .f64 x a) (ffV .f32 .f64 y b) 0 0 = (kindN x y == 0) := by
  rw [← (kind_is x y).1, ← eqC_wid x y 0 0 a b a b, wide_zero, wide_zero]
theorem al1 (x y : Nat) (a b : World) : eqC .f64 (ffV .f32 .f64 x a) (ffV .f32 .f64 y b) 4607182418800017408 0 = (kindN x y == 1) := by
  rw [← (kind_is x y).2.1, ← eqC_wid x y _ 0 a b a b, wide_one, wide_zero]
theorem al2 (x y : Nat) (a b : World) : eqC .f64 (ffV .f32 .f64 x a) (ffV .f32 .f64 y b) 0 4607182418800017408 = (kindN x y == 2) := by
  rw [← (kind_is x y).2.2.1, ← eqC_wid x y 0 _ a b a b, wide_one, wide_zero]
theorem al3 (x y : Nat) (a b : World) : eqC .f64 (ffV .f32 .f64 x a) (ffV .f32 .f64 y b) 13830554455654793216 0 = (kindN x y == 3) := by
  rw [← (kind_is x y).2.2.2.1, ← eqC_wid x y _ 0 a b a b, wide_mone, wide_zero]
theorem al4 (x y : Nat) (a b : World) : eqC .f64 (ffV .f32 .f64 x a) (ffV .f32 .f64 y b) 9223372036854775808 13830554455654793216 = (kindN x y == 4) := by
  rw [← (kind_is x y).2.2.2.2, ← eqC_wid x y 0 _ a b a b, wide_mone, wide_zero]
  unfold eqC; rw [ord_mz]
theorem un5 (x y : Nat) : (!eqC .f32 x y x y) = (kindN x y == 5) := by
  have := kind_five x y
  cases h : eqC .f32 x y x y <;> simp_all
/-- Turn at words that are no NaN -/
theorem turn_at (x y a b : Nat) (ha : isN D a = false) (hb : isN D b = false) (h1 : prR x y 0 4607182418800017408 = a) (h2 : prI x y 0 4607182418800017408 = b) (w : World) :
    Calls Try.prog 14 #[.complex .f64 x y] w fun e w' => e = .returned (.complex .f64 a b) ∧ ∃ n, w' = w.drewN n := by
  refine (turn_impl x y w).mono ?_
  rintro e w' ⟨p, q, n, rfl, hp, hq, _, _, rfl⟩
  rw [h1] at hp; rw [h2] at hq
  rw [hp.eq_of ha, hq.eq_of hb]
  exact ⟨rfl, n, rfl⟩
theorem turn1 (w : World) : Calls Try.prog 14 #[.complex .f64 4607182418800017408 0] w fun e w' => e = .returned (.complex .f64 0 4607182418800017408) ∧ ∃ n, w' = w.drewN n :=
  turn_at _ _ _ _ (by decide) (by decide) (by decide +kernel) (by decide +kernel) w
theorem turn2 (w : World) : Calls Try.prog 14 #[.complex .f64 0 4607182418800017408] w fun e w' => e = .returned (.complex .f64 13830554455654793216 0) ∧ ∃ n, w' = w.drewN n :=
  turn_at _ _ _ _ (by decide) (by decide) (by decide +kernel) (by decide +kernel) w
theorem turn3 (w : World) : Calls Try.prog 14 #[.complex .f64 13830554455654793216 0] w fun e w' => e = .returned (.complex .f64 9223372036854775808 13830554455654793216) ∧ ∃ n, w' = w.drewN n :=
  turn_at _ _ _ _ (by decide) (by decide) (by decide +kernel) (by decide +kernel) w
/-! ### the square of 0, 1, i and their opposites -/
theorem is_zero (x : Nat) (hx : x < 2 ^ F.width) (h : (FloatKind.f32.format.order x 0 == some .eq) = true) : x = 0 ∨ x = 2147483648 := by
  obtain ⟨h1, h2⟩ := (ord0 x).1 h
  have : rung F x = 0 := by
    unfold key at h2
    split at h2 <;> omega
  have e : x % 2147483648 = 0 := this
  have hx' : x < 4294967296 := hx
  omega
theorem is_one (x : Nat) (hx : x < 2 ^ F.width) (h : (FloatKind.f32.format.order x 1065353216 == some .eq) = true) : x = 1065353216 := by
  obtain ⟨h1, h2⟩ := (ord1 x).1 h
  unfold key at h2
  split at h2
  · omega
  · rename_i hs
    have e : x % 2147483648 = 1065353216 := by have e2 : rung F x = 1065353216 := by omega
                                               exact e2
    have hs' : ¬ ((x / 2147483648 % 2 == 1) = true) := hs
    have hx' : x < 4294967296 := hx
    simp at hs'
    omega
theorem is_mone (x : Nat) (hx : x < 2 ^ F.width) (h : (FloatKind.f32.format.order x 3212836864 == some .eq) = true) : x = 3212836864 := by
  obtain ⟨h1, h2⟩ := (ordm x).1 h
  unfold key at h2
  split at h2
  · rename_i hs
    have e : x % 2147483648 = 1065353216 := by have e2 : rung F x = 1065353216 := by omega
                                               exact e2
    have hs' : (x / 2147483648 % 2 == 1) = true := hs
    have hx' : x < 4294967296 := hx
    simp at hs'
    omega
  · omega
/-- what the square of such a number has -/
def sqOk (x y : Nat) : Prop := isN F x = false ∧ isN F y = false ∧ isN D (sqR (widW x) (widW y)) = false ∧ isN D (sqI (widW x) (widW y)) = false ∧ noOv (sqR (widW x) (widW y)) ∧ noOv (sqI (widW x) (widW y)) ∧
  kindN (narW (sqR (widW x) (widW y))) (narW (sqI (widW x) (widW y))) < 5
instance (x y : Nat) : Decidable (sqOk x y) := by unfold sqOk noOv; infer_instance
theorem sqOk_all : ∀ p ∈ [(0, 0), (0, 2147483648), (2147483648, 0), (2147483648, 2147483648), (1065353216, 0), (1065353216, 2147483648), (0, 1065353216), (2147483648, 1065353216), (3212836864, 0), (3212836864, 2147483648), (0, 3212836864), (2147483648, 3212836864)], sqOk p.1 p.2 := by
  decide +kernel
theorem sqOk_of (x y : Nat) (hx : x < 2 ^ F.width) (hy : y < 2 ^ F.width) (h : kindN x y < 5) : sqOk x y := by
  have hc : (eqC .f32 x y 0 0 = true ∨ eqC .f32 x y 1065353216 0 = true ∨ eqC .f32 x y 0 1065353216 = true ∨ eqC .f32 x y 3212836864 0 = true ∨ eqC .f32 x y 0 3212836864 = true) := by
    unfold kindN at h; grind
  unfold eqC at hc
  simp only [Bool.and_eq_true] at hc
  rcases hc with ⟨a, b⟩ | ⟨a, b⟩ | ⟨a, b⟩ | ⟨a, b⟩ | ⟨a, b⟩
  · rcases is_zero x hx a with rfl | rfl <;> rcases is_zero y hy b with rfl | rfl <;> exact sqOk_all (_, _) (by simp)
  · obtain rfl := is_one x hx a
    rcases is_zero y hy b with rfl | rfl <;> exact sqOk_all (_, _) (by simp)
  · obtain rfl := is_one y hy b
    rcases is_zero x hx a with rfl | rfl <;> exact sqOk_all (_, _) (by simp)
  · obtain rfl := is_mone x hx a
    rcases is_zero y hy b with rfl | rfl <;> exact sqOk_all (_, _) (by simp)
  · obtain rfl := is_mone y hy b
    rcases is_zero x hx a with rfl | rfl <;> exact sqOk_all (_, _) (by simp)
theorem kind_sq (x y : Nat) (hx : x < 2 ^ F.width) (hy : y < 2 ^ F.width) (h : kindN x y < 5) (w : World) : Calls Try.prog 42 #[.complex .f32 x y] w fun e w' =>
    ∃ a b n, e = .returned (.complex .f32 a b) ∧ w' = w.drewN n ∧ a < 2 ^ F.width ∧ b < 2 ^ F.width ∧ kindN a b < 5 := by
  obtain ⟨n1, n2, n3, n4, o1, o2, hk⟩ := sqOk_of x y hx hy h
  have r1 : ∀ w, ffV .f32 .f64 x w = widW x := fun w => wid_run x w n1
  have r2 : ∀ w, ffV .f32 .f64 y w = widW y := fun w => wid_run y w n2
  go_enter Try.func42, Try.ntmps42
  go_wp2_with fail
  refine (widen_impl _ _ _).mono ?_; rintro e w' ⟨rfl, rfl⟩
  go_wp2_with fail
  refine (square_impl _ _ (widW x) (widW y) (Sim.refl _ _) (Sim.refl _ _) _).mono ?_; rintro e w' ⟨a, b, n, rfl, ha, hb, la, lb, rfl⟩
  have e1 := ha.eq_of n3
  have e2 := hb.eq_of n4
  clear ha hb
  subst e1 e2
  go_wp2_with fail
  refine (narrow_impl _ _ _).mono ?_; rintro e w' ⟨rfl, rfl⟩
  have s1 : ∀ w, ffV .f64 .f32 (sqR (widW x) (widW y)) w = narW (sqR (widW x) (widW y)) := fun w => nar_run _ w n3 o1
  have s2 : ∀ w, ffV .f64 .f32 (sqI (widW x) (widW y)) w = narW (sqI (widW x) (widW y)) := fun w => nar_run _ w n4 o2
  rw [s1, s2]
  go_wp2
  go_ret
  exact ⟨_, _, _, rfl, rfl, narW_lt _, narW_lt _, hk⟩
end Go.Proofs.Ytjjailllocakcaa
