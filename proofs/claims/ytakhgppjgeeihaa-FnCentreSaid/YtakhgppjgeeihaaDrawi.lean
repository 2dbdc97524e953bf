/-
  Draws of whole numbers. Conditions: none.
-/
import Derived.Test.YtakhgppjgeeihaaDrawc
namespace Go.Proofs.Ytakhgppjgeeihaa
open Go.RowKit
theorem l91Most_any (w : World) (g m : Nat) (hr : Rd w g m) (hm : m ≤ 700) : Calls Try.prog 61 #[.pointer (some ⟨g, 0, none⟩)] w fun e w' => (∃ k : Int, e = .returned (.int .i64 k) ∧ -100 ≤ k ∧ k ≤ 600) ∧ Rd w' g (m + 3) ∧ Below g w w' := by
  go_enter Try.func61, Try.ntmps61
  go_wp2_with fail
  refine (pick_call _ _ _ _ hr (by omega) (by omega) (by omega)).mono ?_
  rintro e w1 ⟨k1, rfl, h1, h2, hr1, hb1⟩
  go_wp2_with fail
  refine (pick_call _ _ _ _ hr1 (by omega) (by omega) (by omega)).mono ?_
  rintro e w2 ⟨k2, rfl, h3, h4, hr2, hb2⟩
  go_wp2_with fail
  refine (pick_call _ _ _ _ hr2 (by omega) (by omega) (by omega)).mono ?_
  rintro e w3 ⟨k3, rfl, h5, h6, hr3, hb3⟩
  have HR := Lib.hid hr3
  have HB := Lib.hid ((hb1.trans hb2).trans hb3)
  clear hr hr1 hr2 hr3 hb1 hb2 hb3
  obtain ⟨q2, hq2, a2, b2⟩ : ∃ q : Int, k2.tdiv 19 = q ∧ 0 ≤ q ∧ q ≤ 1 := ⟨_, rfl, by rw [Int.tdiv_eq_ediv_of_nonneg h3]; omega, by rw [Int.tdiv_eq_ediv_of_nonneg h3]; omega⟩
  obtain ⟨q3, hq3, a3, b3⟩ : ∃ q : Int, k3.tdiv 19 = q ∧ 0 ≤ q ∧ q ≤ 1 := ⟨_, rfl, by rw [Int.tdiv_eq_ediv_of_nonneg h5]; omega, by rw [Int.tdiv_eq_ediv_of_nonneg h5]; omega⟩
  go_wp2
  go_ret
  clear hq2 hq3
  exact ⟨⟨_, rfl, by omega, by omega⟩, HR.out, HB.out⟩
/-- a wide number and a whole number have come -/
def GotI (w : World) (e : Ending) (w' : World) : Prop := ∃ (x y : Nat) (k : Int), e = .returned (.tuple #[.complex .f64 x y, .int .i64 k]) ∧ x < 2 ^ Ieee.Format.width FloatKind.f64.format ∧ y < 2 ^ Ieee.Format.width FloatKind.f64.format ∧ -100 ≤ k ∧ k ≤ 600 ∧ Below w.heap.size w w'
theorem DrawEscapeWide_any (w : World) (a : Option Addr) (len cap : Nat) (h : Code8 w a len cap) : Calls Try.prog 36 #[.slice a len cap] w (GotI w) := by
  go_enter Try.func36, Try.ntmps36
  go_wp2_with fail
  refine (open_any _ _ _ _ h).mono ?_
  rintro e w1 ⟨g, rfl, hr, hg, hb⟩
  go_wp2_with fail
  refine (l91C_any _ _ _ hr (by omega)).mono ?_
  rintro e w2 ⟨⟨x, y, rfl, hx, hy⟩, hr2, hb2⟩
  go_wp2_with fail
  refine (l91Most_any _ _ _ hr2 (by omega)).mono ?_
  rintro e w3 ⟨⟨k, rfl, h1, h2⟩, hr3, hb3⟩
  go_wp2
  go_ret2
  exact ⟨x, y, k, rfl, hx, hy, h1, h2, hb.trans ((hb2.trans hb3).mono hg)⟩
theorem DrawOrbitWide_any (w : World) (a : Option Addr) (len cap : Nat) (h : Code8 w a len cap) : Calls Try.prog 29 #[.slice a len cap] w (GotI w) := by
  go_enter Try.func29, Try.ntmps29
  go_wp2_with fail
  refine (open_any _ _ _ _ h).mono ?_
  rintro e w1 ⟨g, rfl, hr, hg, hb⟩
  go_wp2_with fail
  refine (l91C_any _ _ _ hr (by omega)).mono ?_
  rintro e w2 ⟨⟨x, y, rfl, hx, hy⟩, hr2, hb2⟩
  go_wp2_with fail
  refine (pick_call _ _ _ _ hr2 (by omega) (by omega) (by omega)).mono ?_
  rintro e w3 ⟨k1, rfl, h1, h2, hr3, hb3⟩
  go_wp2_with fail
  refine (pick_call _ _ _ _ hr3 (by omega) (by omega) (by omega)).mono ?_
  rintro e w4 ⟨k2, rfl, h3, h4, hr4, hb4⟩
  go_wp2_with fail
  refine (pick_call _ _ _ _ hr4 (by omega) (by omega) (by omega)).mono ?_
  rintro e w5 ⟨k3, rfl, h5, h6, hr5, hb5⟩
  have HB := Lib.hid (hb.trans ((((hb2.trans hb3).trans hb4).trans hb5).mono hg))
  clear hr hr2 hr3 hr4 hr5 hb hb2 hb3 hb4 hb5 hg h
  obtain ⟨q2, hq2, a2, b2⟩ : ∃ q : Int, k2.tdiv 19 = q ∧ 0 ≤ q ∧ q ≤ 1 := ⟨_, rfl, by rw [Int.tdiv_eq_ediv_of_nonneg h3]; omega, by rw [Int.tdiv_eq_ediv_of_nonneg h3]; omega⟩
  obtain ⟨q3, hq3, a3, b3⟩ : ∃ q : Int, k3.tdiv 19 = q ∧ 0 ≤ q ∧ q ≤ 1 := ⟨_, rfl, by rw [Int.tdiv_eq_ediv_of_nonneg h5]; omega, by rw [Int.tdiv_eq_ediv_of_nonneg h5]; omega⟩
  go_wp2
  go_ret2
  clear hq2 hq3
  exact ⟨x, y, _, rfl, hx, hy, by omega, by omega, HB.out⟩
theorem DrawCycleWide_any (w : World) (a : Option Addr) (len cap : Nat) (h : Code8 w a len cap) : Calls Try.prog 33 #[.slice a len cap] w (GotI w) := by
  go_enter Try.func33, Try.ntmps33
  go_wp2_with fail
  refine (open_any _ _ _ _ h).mono ?_
  rintro e w1 ⟨g, rfl, hr, hg, hb⟩
  go_wp2_with fail
  refine (l91C_any _ _ _ hr (by omega)).mono ?_
  rintro e w2 ⟨⟨x, y, rfl, hx, hy⟩, hr2, hb2⟩
  go_wp2_with fail
  refine (pick_call _ _ _ _ hr2 (by omega) (by omega) (by omega)).mono ?_
  rintro e w3 ⟨k1, rfl, h1, h2, hr3, hb3⟩
  go_wp2_with fail
  refine (pick_call _ _ _ _ hr3 (by omega) (by omega) (by omega)).mono ?_
  rintro e w4 ⟨k2, rfl, h3, h4, hr4, hb4⟩
  go_wp2_with fail
  refine (pick_call _ _ _ _ hr4 (by omega) (by omega) (by omega)).mono ?_
  rintro e w5 ⟨k3, rfl, h5, h6, hr5, hb5⟩
  have HB := Lib.hid (hb.trans ((((hb2.trans hb3).trans hb4).trans hb5).mono hg))
  clear hr hr2 hr3 hr4 hr5 hb hb2 hb3 hb4 hb5 hg h
  obtain ⟨q2, hq2, a2, b2⟩ : ∃ q : Int, k2.tdiv 19 = q ∧ 0 ≤ q ∧ q ≤ 1 := ⟨_, rfl, by rw [Int.tdiv_eq_ediv_of_nonneg h3]; omega, by rw [Int.tdiv_eq_ediv_of_nonneg h3]; omega⟩
  obtain ⟨q3, hq3, a3, b3⟩ : ∃ q : Int, k3.tdiv 19 = q ∧ 0 ≤ q ∧ q ≤ 1 := ⟨_, rfl, by rw [Int.tdiv_eq_ediv_of_nonneg h5]; omega, by rw [Int.tdiv_eq_ediv_of_nonneg h5]; omega⟩
  go_wp2
  go_ret2
  clear hq2 hq3
  exact ⟨x, y, _, rfl, hx, hy, by omega, by omega, HB.out⟩
end Go.Proofs.Ytakhgppjgeeihaa
