/-
  A step of Newton for the period 1 leads to 0; the draw of CentreSteps. Conditions: none.
-/
import Derived.Test.YtakhgppjgeeihaaCent
import Derived.Test.YtakhgppjgeeihaaDrawi
namespace Go.Proofs.Ytakhgppjgeeihaa
open Go.RowKit Go.Shelf Fl
theorem q1_one (x y : Nat) : quo1 x y 4607182418800017408 0 = (divT D (addT D x (mulT D y 0)) 4607182418800017408, divT D (subT D y (mulT D x 0)) 4607182418800017408) := by
  have h1 : absGe 4607182418800017408 0 = true := by decide +kernel
  have h2 : divT D 0 4607182418800017408 = 0 := by decide +kernel
  have h3 : addT D 4607182418800017408 (mulT D 0 0) = 4607182418800017408 := by decide +kernel
  unfold quo1; rw [if_pos h1]; simp only [h2, h3]
theorem q_num (x y : Nat) (hx : rung D x < D.infRung) (hy : rung D y < D.infRung) : Like D (addT D x (mulT D y 0)) x :=
  addT_zero D gD x _ hx (mulT_zero D gD y 0 hy (by decide)).2
theorem q_num' (x y : Nat) (hx : rung D x < D.infRung) (hy : rung D y < D.infRung) : Like D (subT D y (mulT D x 0)) y := by
  have hz := (mulT_zero D gD x 0 hx (by decide)).2
  rw [subT_eq D gD _ _ (mulT_lt D gD _ _)]
  exact addT_zero D gD y _ hy (by rw [rung_negw D _ (mulT_lt D gD _ _)]; exact hz)
theorem qT_one (x y : Nat) (hx : rung D x < D.infRung) (hy : rung D y < D.infRung) : Like D (quoT x y 4607182418800017408 0).1 x ∧ Like D (quoT x y 4607182418800017408 0).2 y := by
  have l1 := q_num x y hx hy
  have l2 := q_num' x y hx hy
  have n1 : isN D x = false := fin_num hx
  have e1 := divT_one _ (addT_lt D gD x (mulT D y 0)) (like_fin l1 hx)
  have e2 := divT_one _ (subT_lt D gD y (mulT D x 0)) (like_fin l2 hy)
  have hq : quoT x y 4607182418800017408 0 = quo1 x y 4607182418800017408 0 := by
    refine if_pos ?_
    rw [q1_one, e1, l1.isN, n1]; rfl
  rw [hq, q1_one, e1, e2]
  exact ⟨l1, l2⟩
theorem quoT_lt (a b c d : Nat) : (quoT a b c d).1 < 2 ^ D.width ∧ (quoT a b c d).2 < 2 ^ D.width := by
  unfold quoT
  simp only []
  have h1 : (quo1 a b c d).1 < 2 ^ D.width ∧ (quo1 a b c d).2 < 2 ^ D.width := by
    unfold quo1
    split
    · exact ⟨divT_lt D gD _ _, divT_lt D gD _ _⟩
    · exact ⟨divT_lt D gD _ _, divT_lt D gD _ _⟩
  repeat' split
  · exact h1
  · exact ⟨mulT_lt D gD _ _, mulT_lt D gD _ _⟩
  · exact ⟨mulT_lt D gD _ _, mulT_lt D gD _ _⟩
  · exact ⟨mulT_lt D gD _ _, mulT_lt D gD _ _⟩
  · exact h1
theorem sub_like_self {x q : Nat} (hx : x < 2 ^ D.width) (hq : q < 2 ^ D.width) (h : Like D q x) (hf : rung D x < D.infRung) : Like D (subT D x q) 0 := by
  refine (subT_like D gD hq hx (Like.refl D x) h).trans ?_
  rw [subT_self_fin x hx hf]
  exact .inr ⟨by decide, by decide, by decide⟩
theorem cen_one {cx cy a b : Nat} (hx : cx < 2 ^ D.width) (hy : cy < 2 ^ D.width) (fx : rung D cx < D.infRung) (fy : rung D cy < D.infRung) (h : CD cx cy 1 1 a b) : eqC .f64 a b 0 0 = true := by
  obtain ⟨h1, h2, _, _⟩ := h
  have lx : Like D (orbD cx cy 1).1 cx := (st_zero cx cy).1
  have ly : Like D (orbD cx cy 1).2 cy := (st_zero cx cy).2
  have hq := qT_one (orbD cx cy 1).1 (orbD cx cy 1).2 (like_fin lx fx) (like_fin ly fy)
  have e : nextD cx cy 1 = (subT D cx (quoT (orbD cx cy 1).1 (orbD cx cy 1).2 4607182418800017408 0).1, subT D cy (quoT (orbD cx cy 1).1 (orbD cx cy 1).2 4607182418800017408 0).2) := by
    unfold nextD; rw [der_one]; rfl
  have g1 : Sim D a (nextD cx cy 1).1 := h1
  have g2 : Sim D b (nextD cx cy 1).2 := h2
  rw [e] at g1 g2
  have k1 := sub_like_self hx (quoT_lt _ _ _ _).1 (hq.1.trans lx) fx
  have k2 := sub_like_self hy (quoT_lt _ _ _ _).2 (hq.2.trans ly) fy
  exact eqC_like a b 0 0 (g1.like.trans k1) (g2.like.trans k2) (by decide) (by decide)
/-- a wide number and two whole numbers have come -/
def GotK (w : World) (e : Ending) (w' : World) : Prop := ∃ (x y : Nat) (p n : Int), e = .returned (.tuple #[.complex .f64 x y, .int .i64 p, .int .i64 n]) ∧ x < 2 ^ Ieee.Format.width FloatKind.f64.format ∧ y < 2 ^ Ieee.Format.width FloatKind.f64.format ∧ p ≤ 4 ∧ n ≤ 20 ∧ -20 ≤ p ∧ -20 ≤ n ∧ Below w.heap.size w w'
theorem DrawCentreSteps_any (w : World) (a : Option Addr) (len cap : Nat) (h : Code8 w a len cap) : Calls Try.prog 16 #[.slice a len cap] w (GotK w) := by
  go_enter Try.func16, Try.ntmps16
  go_wp2_with fail
  refine (open_any _ _ _ _ h).mono ?_
  rintro e w1 ⟨g, rfl, hr, hg, hb⟩
  go_wp2_with fail
  refine (l91C_any _ _ _ hr (by omega)).mono ?_
  rintro e w2 ⟨⟨x, y, rfl, hx, hy⟩, hr2, hb2⟩
  have HX := Lib.hid hx
  have HY := Lib.hid hy
  clear hx hy
  go_wp2_with fail
  refine (pick_call _ _ _ _ hr2 (by omega) (by omega) (by omega)).mono ?_
  rintro e w3 ⟨k1, rfl, h1, h2, hr3, hb3⟩
  go_wp2_with fail
  refine (pick_call _ _ _ _ hr3 (by omega) (by omega) (by omega)).mono ?_
  rintro e w4 ⟨k2, rfl, h3, h4, hr4, hb4⟩
  obtain ⟨q2, hq2, a2, b2⟩ : ∃ q : Int, k2.tdiv 19 = q ∧ 0 ≤ q ∧ q ≤ 1 := ⟨_, rfl, by rw [Int.tdiv_eq_ediv_of_nonneg h3]; omega, by rw [Int.tdiv_eq_ediv_of_nonneg h3]; omega⟩
  go_wp2_with fail
  refine (pick_call _ _ _ _ hr4 (by omega) (by omega) (by omega)).mono ?_
  rintro e w5 ⟨k3, rfl, h5, h6, hr5, hb5⟩
  go_wp2_with fail
  refine (pick_call _ _ _ _ hr5 (by omega) (by omega) (by omega)).mono ?_
  rintro e w6 ⟨k4, rfl, h7, h8, hr6, hb6⟩
  have HB := Lib.hid (hb.trans (((((hb2.trans hb3).trans hb4).trans hb5).trans hb6).mono hg))
  clear hr hr2 hr3 hr4 hr5 hr6 hb hb2 hb3 hb4 hb5 hb6 hg h
  obtain ⟨q4, hq4, a4, b4⟩ : ∃ q : Int, k4.tdiv 19 = q ∧ 0 ≤ q ∧ q ≤ 1 := ⟨_, rfl, by rw [Int.tdiv_eq_ediv_of_nonneg h7]; omega, by rw [Int.tdiv_eq_ediv_of_nonneg h7]; omega⟩
  go_wp2
  go_ret3
  clear hq2 hq4
  exact ⟨x, y, _, _, rfl, HX.out, HY.out, by omega, by omega, by omega, by omega, HB.out⟩
end Go.Proofs.Ytakhgppjgeeihaa
