/-
  Laws of kinds. Conditions: none.
-/
import Derived.Test.YtjjailllocakcaaKind
namespace Go.Proofs.Ytjjailllocakcaa
open Fl
theorem eqC_comm (a b c d : Nat) : eqC .f32 c d a b = eqC .f32 a b c d := by unfold eqC; rw [order_comm .f32 c a, order_comm .f32 d b]
theorem eqC_wid (a b c d : Nat) (w1 w2 w3 w4 : World) : eqC .f64 (ffV .f32 .f64 a w1) (ffV .f32 .f64 b w2) (ffV .f32 .f64 c w3) (ffV .f32 .f64 d w4) = eqC .f32 a b c d := by
  unfold eqC
  have h1 : (FloatKind.f64.format.order (ffV .f32 .f64 a w1) (ffV .f32 .f64 c w3) == some .eq) = (FloatKind.f32.format.order a c == some .eq) := wid_order a c w1 w3
  have h2 : (FloatKind.f64.format.order (ffV .f32 .f64 b w2) (ffV .f32 .f64 d w4) == some .eq) = (FloatKind.f32.format.order b d == some .eq) := wid_order b d w2 w4
  rw [h1, h2]
theorem eqC_self (x y u v : Nat) (h : eqC .f32 x y u v = true) : eqC .f32 x y x y = true := by
  unfold eqC at h ⊢
  rw [Bool.and_eq_true] at h ⊢
  exact ⟨(eq_iff F gF _ _).2 ⟨((eq_iff F gF _ _).1 h.1).1, ((eq_iff F gF _ _).1 h.1).1, rfl⟩, (eq_iff F gF _ _).2 ⟨((eq_iff F gF _ _).1 h.2).1, ((eq_iff F gF _ _).1 h.2).1, rfl⟩⟩
theorem kind_five (x y : Nat) : kindN x y = 5 ↔ eqC .f32 x y x y = false := by
  have h0 := eqC_self x y 0 0
  have h1 := eqC_self x y 1065353216 0
  have h2 := eqC_self x y 0 1065353216
  have h3 := eqC_self x y 3212836864 0
  have h4 := eqC_self x y 0 3212836864
  unfold kindN
  grind
theorem kind_range (x y : Nat) : 0 ≤ kindN x y ∧ kindN x y ≤ 7 := by
  unfold kindN
  repeat' split
  all_goals decide
end Go.Proofs.Ytjjailllocakcaa
