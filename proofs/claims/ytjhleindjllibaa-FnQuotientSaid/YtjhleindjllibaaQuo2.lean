/-
  The quotients of a finite number by 1 and by 2. Conditions: the number is finite.
-/
import Derived.Test.YtjhleindjllibaaQuo
namespace Go.Proofs.Ytjhleindjllibaa
open Fl

theorem quo1_one (x y : Nat) : quo1 x y 4607182418800017408 0 = (divT D (addT D x (mulT D y 0)) 4607182418800017408, divT D (subT D y (mulT D x 0)) 4607182418800017408) := by
  have h1 : absGe 4607182418800017408 0 = true := by decide +kernel
  have h2 : divT D 0 4607182418800017408 = 0 := by decide +kernel
  have h3 : addT D 4607182418800017408 (mulT D 0 0) = 4607182418800017408 := by decide +kernel
  unfold quo1; rw [if_pos h1]; simp only [h2, h3]
theorem quo1_two (x y : Nat) : quo1 x y 4611686018427387904 0 = (divT D (addT D x (mulT D y 0)) 4611686018427387904, divT D (subT D y (mulT D x 0)) 4611686018427387904) := by
  have h1 : absGe 4611686018427387904 0 = true := by decide +kernel
  have h2 : divT D 0 4611686018427387904 = 0 := by decide +kernel
  have h3 : addT D 4611686018427387904 (mulT D 0 0) = 4611686018427387904 := by decide +kernel
  unfold quo1; rw [if_pos h1]; simp only [h2, h3]
/-- the two dividends -/
theorem num_like (x y : Nat) (hx : rung D x < D.infRung) (hy : rung D y < D.infRung) : Like D (addT D x (mulT D y 0)) x :=
  addT_zero D gD x _ hx (mulT_zero D gD y 0 hy (by decide)).2
theorem num_like' (x y : Nat) (hx : rung D x < D.infRung) (hy : rung D y < D.infRung) : Like D (subT D y (mulT D x 0)) y := by
  have hz := (mulT_zero D gD x 0 hx (by decide)).2
  rw [subT_eq D gD _ _ (mulT_lt D gD _ _)]
  exact addT_zero D gD y _ hy (by rw [rung_negw D _ (mulT_lt D gD _ _)]; exact hz)
theorem like_fin {a b : Nat} (h : Like D a b) (hb : rung D b < D.infRung) : rung D a < D.infRung := by
  have hn : isN D b = false := by simp [isN]; omega
  rw [(key_cases D (h.key_of hn)).1]; exact hb
theorem quoT_one (x y : Nat) (hx : rung D x < D.infRung) (hy : rung D y < D.infRung) : Like D (quoT x y 4607182418800017408 0).1 x ∧ Like D (quoT x y 4607182418800017408 0).2 y := by
  have l1 := num_like x y hx hy
  have l2 := num_like' x y hx hy
  have n1 : isN D x = false := by simp [isN]; omega
  have e1 := divT_one _ (addT_lt D gD x (mulT D y 0)) (like_fin l1 hx)
  have e2 := divT_one _ (subT_lt D gD y (mulT D x 0)) (like_fin l2 hy)
  have hq : quoT x y 4607182418800017408 0 = quo1 x y 4607182418800017408 0 := by
    refine if_pos ?_
    rw [quo1_one, e1, l1.isN, n1]; rfl
  rw [hq, quo1_one, e1, e2]
  exact ⟨l1, l2⟩
theorem quoT_two (x y : Nat) (hx : rung D x < D.infRung) (hy : rung D y < D.infRung) (lx : x < 2 ^ D.width) (ly : y < 2 ^ D.width) :
    Like D (quoT x y 4611686018427387904 0).1 (divT D x 4611686018427387904) ∧ Like D (quoT x y 4611686018427387904 0).2 (divT D y 4611686018427387904) := by
  have l1 := num_like x y hx hy
  have l2 := num_like' x y hx hy
  have e1 := divT_two_like _ x (addT_lt D gD x (mulT D y 0)) lx l1 hx
  have e2 := divT_two_like _ y (subT_lt D gD y (mulT D x 0)) ly l2 hy
  have n1 : isN D (divT D x 4611686018427387904) = false := isN_half x hx
  have hq : quoT x y 4611686018427387904 0 = quo1 x y 4611686018427387904 0 := by
    refine if_pos ?_
    rw [quo1_two, e1.isN, n1]; rfl
  rw [hq, quo1_two]
  exact ⟨e1, e2⟩
theorem eqC_like (a b c d : Nat) (h1 : Like D a c) (h2 : Like D b d) (n1 : isN D c = false) (n2 : isN D d = false) : eqC .f64 a b c d = true := by
  rw [eqC_iff]
  exact ⟨⟨by rw [h1.isN]; exact n1, n1, h1.key_of n1⟩, by rw [h2.isN]; exact n2, n2, h2.key_of n2⟩
end Go.Proofs.Ytjhleindjllibaa
