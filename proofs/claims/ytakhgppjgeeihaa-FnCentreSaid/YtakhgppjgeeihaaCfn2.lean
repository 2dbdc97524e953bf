/-
  What StepWide, likeWide, sameSingle, Widen, Unlike and Kind return. Conditions: none.
-/
import Derived.Test.YtakhgppjgeeihaaCfn
namespace Go.Proofs.Ytakhgppjgeeihaa
open Fl

/-! ### steps -/
/-- the parts of a step -/
def stR (x y u : Nat) : Nat := addT D (sqR x y) u
def stI (x y v : Nat) : Nat := addT D (sqI x y) v
theorem step_impl (x y u v x' y' u' v' : Nat) (hx : Sim D x x') (hy : Sim D y y') (hu : Sim D u u') (hv : Sim D v v') (w : World) : Calls Try.prog 32 #[.complex .f64 x y, .complex .f64 u v] w (CV .f64 (stR x' y' u') (stI x' y' v') w) := by
  go_enter Try.func32, Try.ntmps32
  go_wp2_with fail
  refine (square_impl _ _ x' y' hx hy _).mono ?_; rintro e w' ⟨a, b, n1, rfl, ha, hb, la, lb, rfl⟩
  go_wp2
  go_ret
  exact ⟨_, _, _, rfl, faV_add _ _ _ _ _ ha hu, faV_add _ _ _ _ _ hb hv, faV_lt _ _ _ _ _, faV_lt _ _ _ _ _, rfl⟩
theorem step_spec (x y u v x' y' u' v' : Nat) (hx : Sim D x x') (hy : Sim D y y') (hu : Sim D u u') (hv : Sim D v v') (w : World) : Calls Try.prog 59 #[.complex .f64 x y, .complex .f64 u v] w (CV .f64 (stR x' y' u') (stI x' y' v') w) := by
  go_enter Try.func59, Try.ntmps59
  go_wp2_with fail
  refine (square_spec _ _ x' y' hx hy _).mono ?_; rintro e w' ⟨a, b, n1, rfl, ha, hb, la, lb, rfl⟩
  go_wp2
  go_ret
  exact ⟨_, _, _, rfl, faV_add _ _ _ _ _ ha hu, faV_add _ _ _ _ _ hb hv, faV_lt _ _ _ _ _, faV_lt _ _ _ _ _, rfl⟩
theorem like_order (a b : Nat) (h : Like D a b) : (isN D a = true ∧ D.order a a = none ∧ D.order b b = none ∧ D.order a b = none) ∨ (isN D a = false ∧ D.order a a = some .eq ∧ D.order b b = some .eq ∧ D.order a b = some .eq) := by
  rcases h with ⟨h1, h2⟩ | ⟨h1, h2, h3⟩
  · exact .inl ⟨h1, order_nan D gD _ _ (.inl h1), order_nan D gD _ _ (.inl h2), order_nan D gD _ _ (.inl h1)⟩
  · refine .inr ⟨h1, order_self (k := .f64) h1, order_self (k := .f64) h2, ?_⟩
    rw [order_key D gD _ _ h1 h2, h3]; simp [compare, compareOfLessAndEq]
theorem sq_mirror (x y : Nat) (hy : y < 2 ^ D.width) : Like D (sqR x (negw D y)) (sqR x y) ∧ Like D (sqI x (negw D y)) (negw D (sqI x y)) := ⟨(sqR_neg x y hy).like, (sqI_neg x y hy).like⟩
theorem sqI_lt (x y : Nat) : sqI x y < 2 ^ D.width := mulT_lt D gD _ _
theorem sqR_lt (x y : Nat) : sqR x y < 2 ^ D.width := subT_lt D gD _ _
/-- a step of mirrored numbers -/
theorem st_mirror (x y u v : Nat) (hy : y < 2 ^ D.width) (hv : v < 2 ^ D.width) : Like D (stR x (negw D y) u) (stR x y u) ∧ Like D (stI x (negw D y) (negw D v)) (negw D (stI x y v)) := by
  obtain ⟨h1, h2⟩ := sq_mirror x y hy
  exact ⟨addT_like D gD h1 (Like.refl D _), (addT_like D gD h2 (Like.refl D _)).trans (addT_neg_like D gD _ _ (sqI_lt x y) hv)⟩
theorem st_zero (u v : Nat) : Like D (stR 0 0 u) u ∧ Like D (stI 0 0 v) v := by
  have h1 : rung D (sqR 0 0) = 0 := by decide +kernel
  have h2 : rung D (sqI 0 0) = 0 := by decide +kernel
  constructor
  · unfold stR; rw [addT_comm D gD]; exact addT_zero_any _ _ h1
  · unfold stI; rw [addT_comm D gD]; exact addT_zero_any _ _ h2

/-! ### single numbers -/
theorem wid_sim (a b : Nat) (h : Sim F a b) (w1 w2 : World) : Sim D (ffV .f32 .f64 a w1) (ffV .f32 .f64 b w2) := by
  cases hn : isN F b with
  | true => exact .inr ⟨wid_nan _ _ (by rw [h.isN]; exact hn), wid_nan _ _ hn⟩
  | false =>
    have e := h.eq_of hn
    subst e
    rw [wid_run a w1 hn, wid_run a w2 hn]; exact Sim.refl _ _
theorem sameSingle_any (a b c d : Nat) (h : Sim F a c) (k : Sim F b d) (w : World) : Calls Try.prog 44 #[.complex .f32 a b, .complex .f32 c d] w (BV true w) := by
  go_enter Try.func44, Try.ntmps44
  go_wp2_with fail
  refine (sameWide_any _ _ _ _ (wid_sim _ _ h _ _) (wid_sim _ _ k _ _) _).mono ?_; rintro e w2 ⟨rfl, n, rfl⟩
  go_wp2
  go_ret
  exact ⟨rfl, _, rfl⟩
/-- widening keeps equality -/
theorem wid_order (a b : Nat) (w1 w2 : World) : (D.order (ffV .f32 .f64 a w1) (ffV .f32 .f64 b w2) == some .eq) = (F.order a b == some .eq) := by
  cases ha : isN F a with
  | true => rw [order_nan D gD _ _ (.inl (wid_nan a w1 ha)), order_nan F gF _ _ (.inl ha)]
  | false =>
    cases hb : isN F b with
    | true => rw [order_nan D gD _ _ (.inr (wid_nan b w2 hb)), order_nan F gF _ _ (.inr hb)]
    | false =>
      rw [wid_run a w1 ha, wid_run b w2 hb, Bool.eq_iff_iff, eq_iff D gD, eq_iff F gF, key_widW a b ha hb]
      simp [isN_widW a ha, isN_widW b hb, ha, hb]
end Go.Proofs.Ytakhgppjgeeihaa
