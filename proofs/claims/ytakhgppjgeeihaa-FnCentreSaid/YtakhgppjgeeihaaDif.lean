/-
  WidthsDiffer in the program and in the reference; AgreeCount where the widths part. Conditions: none.
-/
import Derived.Test.YtakhgppjgeeihaaEsp
namespace Go.Proofs.Ytakhgppjgeeihaa
open Go.RowKit Go.Shelf Fl
attribute [local go_sem] Oper.semAt_some
theorem orbD_sim {cx cy cx' cy' : Nat} (h : Sim D cx cx') (k : Sim D cy cy') (n : Nat) : orbD cx cy n = orbD cx' cy' n := by
  induction n with
  | zero => rfl
  | succ n ih =>
    show (stR _ _ cx, stI _ _ cy) = (stR _ _ cx', stI _ _ cy')
    rw [ih]
    unfold stR stI
    rw [addT_sim D gD (Sim.refl D _) h, addT_sim D gD (Sim.refl D (sqI _ _)) k]
/-- the wide orbit of a single number -/
def BdW (cx cy k : Nat) : Bool := BdD (widT cx) (widT cy) k
theorem BdW_of (cx cy : Nat) (w1 w2 : World) : BdD (ffV .f32 .f64 cx w1) (ffV .f32 .f64 cy w2) = BdW cx cy := by
  funext k
  unfold BdW BdD
  rw [orbD_sim (wid_T cx w1) (wid_T cy w2) k]
/-- what WidthsDiffer tells -/
def DifPost (cx cy : Nat) (m : Int) (w : World) (e : Ending) (w' : World) : Prop :=
  ∃ (L : Nat) (i j : Int), (L : Int) = min (max m 0) 400 ∧ e = .returned (.bool (!(i == j))) ∧ EscAt (BdF cx cy) L i ∧ EscAt (BdW cx cy) L j ∧ Below w.heap.size w w'
theorem dif_impl (cx cy : Nat) (m : Int) (w : World) : Calls Try.prog 24 #[.complex .f32 cx cy, .int .i64 m] w (DifPost cx cy m w) := by
  go_enter Try.func24, Try.ntmps24
  go_wp2_with fail
  refine (escSingle_impl _ _ _ _).mono ?_
  rintro e w1 ⟨L, i, hL, rfl, he, hb⟩
  have HL := Lib.hid hL
  clear hL
  go_wp2_with fail
  refine (widen_impl _ _ _).mono ?_
  rintro e w' ⟨rfl, rfl⟩
  go_wp2_with fail
  refine (escWide_impl _ _ _ _).mono ?_
  rintro e w2 ⟨L', j, hL', rfl, he', hb'⟩
  rw [BdW_of] at he'
  obtain rfl : L' = L := by have := HL.out; omega
  clear hL'
  go_wp2
  go_ret
  exact ⟨L', i, j, HL.out, rfl, he, he', below_step (below_drewN hb _) hb'⟩
theorem dif_spec (cx cy : Nat) (m : Int) (w : World) : Calls Try.prog 25 #[.complex .f32 cx cy, .int .i64 m] w (DifPost cx cy m w) := by
  go_enter Try.func25, Try.ntmps25
  go_wp2_with fail
  refine (escSingle_spec _ _ _ _).mono ?_
  rintro e w1 ⟨L, i, hL, rfl, he, hb⟩
  have HL := Lib.hid hL
  clear hL
  go_wp2_with fail
  refine (escWide_spec _ _ _ _).mono ?_
  rintro e w2 ⟨L', j, hL', rfl, he', hb'⟩
  rw [BdW_of] at he'
  obtain rfl : L' = L := by have := HL.out; omega
  clear hL'
  go_wp2
  go_ret
  exact ⟨L', i, j, HL.out, rfl, he, he', below_step (below_drewN hb _) hb'⟩
end Go.Proofs.Ytakhgppjgeeihaa
