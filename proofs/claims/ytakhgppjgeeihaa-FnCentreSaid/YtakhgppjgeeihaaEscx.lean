/-
  Where the mirrored orbit escapes, and where an orbit escapes that is followed further. Conditions: none.
-/
import Derived.Test.YtakhgppjgeeihaaSam
namespace Go.Proofs.Ytakhgppjgeeihaa
open Go.RowKit Go.Shelf Fl
theorem escWide_mirror (x y L : Nat) (m : Int) (I : Nat) (hL : (L : Int) = min (max m 0) 400) (he : EscAt (BdD x y) L I) (hy : y < 2 ^ D.width) (W : World) :
    Calls Try.prog 26 #[.complex .f64 x (negw D y), .int .i64 m] W fun e w' => e = .returned (.int .i64 I) ∧ Below W.heap.size W w' := by
  refine (escWide_impl x (negw D y) m W).mono ?_
  rintro e w' ⟨L2, i2, h1, rfl, h2, h3⟩
  have hLL : L2 = L := by omega
  have hB : BdD x (negw D y) = BdD x y := funext (fun k => BdD_mirror x y hy k)
  rw [hB, hLL] at h2
  rw [h2.unique he]
  exact ⟨rfl, h3⟩
theorem half_range (m : Int) (h1 : -100 ≤ m) (h2 : m ≤ 600) : -50 ≤ m.tdiv 2 ∧ m.tdiv 2 ≤ 300 ∧ (0 ≤ m → 0 ≤ m.tdiv 2) := by
  rcases Int.lt_or_le m 0 with h | h
  · have e : m.tdiv 2 = -((-m).tdiv 2) := by rw [Int.neg_tdiv]; omega
    rw [e, Int.tdiv_eq_ediv_of_nonneg (by omega)]; omega
  · rw [Int.tdiv_eq_ediv_of_nonneg h]; omega
theorem escWide_more (x y L : Nat) (m q : Int) (I : Nat) (hL : (L : Int) = min (max m 0) 400) (he : EscAt (BdD x y) L I) (hq : (m < 0 ∧ -50 ≤ q) ∨ 0 ≤ q) (W : World) :
    Calls Try.prog 26 #[.complex .f64 x y, .int .i64 (q + 400)] W fun e w' => e = .returned (.int .i64 I) ∧ Below W.heap.size W w' := by
  refine (escWide_impl x y (q + 400) W).mono ?_
  rintro e w' ⟨L2, i2, h1, rfl, h2, h3⟩
  have hle : L ≤ L2 := by omega
  rw [h2.unique (he.up (by omega) hle)]
  exact ⟨rfl, h3⟩
end Go.Proofs.Ytakhgppjgeeihaa
