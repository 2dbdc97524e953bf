/-
  Draws of a single number and a whole number. Conditions: none.
-/
import Derived.Test.YtakhgppjgeeihaaDrawi
namespace Go.Proofs.Ytakhgppjgeeihaa
open Go.RowKit
/-- a single number and a whole number have come -/
def GotJ (w : World) (e : Ending) (w' : World) : Prop := ∃ (x y : Nat) (k : Int), e = .returned (.tuple #[.complex .f32 x y, .int .i64 k]) ∧ x < 2 ^ Ieee.Format.width FloatKind.f32.format ∧ y < 2 ^ Ieee.Format.width FloatKind.f32.format ∧ -100 ≤ k ∧ k ≤ 600 ∧ Below w.heap.size w w'
theorem l91Two_any (w : World) (a : Option Addr) (len cap : Nat) (h : Code8 w a len cap) : Calls Try.prog 48 #[.slice a len cap] w (GotJ w) := by
  go_enter Try.func48, Try.ntmps48
  go_wp2_with fail
  refine (open_any _ _ _ _ h).mono ?_
  rintro e w1 ⟨g, rfl, hr, hg, hb⟩
  go_wp2_with fail
  refine (l91C_any _ _ _ hr (by omega)).mono ?_
  rintro e w2 ⟨⟨x, y, rfl, hx, hy⟩, hr2, hb2⟩
  have HX := Lib.hid hx
  have HY := Lib.hid hy
  clear hx hy
  go_wp2_with fail
  refine (l91Most_any _ _ _ (hr2.drewN _) (by omega)).mono ?_
  rintro e w3 ⟨⟨k, rfl, h1, h2⟩, hr3, hb3⟩
  go_wp2
  go_ret2
  exact ⟨_, _, k, rfl, ffV_lt .f64 .f32 _ _ HX.out, ffV_lt .f64 .f32 _ _ HY.out, h1, h2, hb.trans (((below_drewN hb2 _).trans hb3).mono hg)⟩
theorem DrawEscapeSingle_any (w : World) (a : Option Addr) (len cap : Nat) (h : Code8 w a len cap) : Calls Try.prog 46 #[.slice a len cap] w (GotJ w) := by
  go_enter Try.func46, Try.ntmps46
  go_wp2_with fail
  refine (l91Two_any _ _ _ _ h).mono ?_
  rintro e w1 ⟨x, y, k, rfl, hx, hy, h1, h2, hb⟩
  go_wp2
  go_ret2
  exact ⟨x, y, k, rfl, hx, hy, h1, h2, hb⟩
end Go.Proofs.Ytakhgppjgeeihaa
