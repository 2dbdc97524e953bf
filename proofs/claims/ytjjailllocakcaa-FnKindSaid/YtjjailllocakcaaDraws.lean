/-
  What l91Single gives: some single number. Conditions: the code reads as bytes.
-/
import Derived.Test.YtjjailllocakcaaDraw2
namespace Go.Proofs.Ytjjailllocakcaa
open Go.ChangeShapes Go.WideShapes Go.ChangeAt Go.RowKit
theorem single_any (w : World) (g m : Nat) (hr : Rd w g m) (hm : m ≤ 800) : Calls Try.prog 57 #[.pointer (some ⟨g, 0, none⟩)] w (GotC .f32 g (m + 6) w) := by
  go_enter Try.func57, Try.ntmps57
  go_wp2_with fail
  refine (wide_any _ _ _ hr (by omega)).mono ?_
  rintro e w1 ⟨⟨x, y, rfl, hx, hy⟩, hr1, hb1⟩
  go_wp2
  go_ret
  exact ⟨⟨_, _, rfl, ffV_lt _ _ _ _ hx, ffV_lt _ _ _ _ hy⟩, hr1.drewN _, below_drewN hb1 _⟩
end Go.Proofs.Ytjjailllocakcaa
