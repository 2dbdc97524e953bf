/-
  What Turn, StepWide, Unlike and the like return; like numbers. Conditions: none.
-/
import Derived.Test.YtakhgppjgeeihaaWid
import Derived.Test.YtakhgppjgeeihaaFlt4
namespace Go.Proofs.Ytakhgppjgeeihaa
open Fl

theorem prR_comm (x y u v : Nat) : prR u v x y = prR x y u v := by unfold prR; rw [mulT_comm D gD u x, mulT_comm D gD v y]
theorem prI_comm (x y u v : Nat) : prI u v x y = prI x y u v := by unfold prI; rw [mulT_comm D gD u y, mulT_comm D gD v x, addT_comm D gD]
theorem prI_self (x y : Nat) : Sim D (prI x y x y) (sqI x y) := by unfold prI sqI; rw [mulT_comm D gD y x]; exact add_self _

section
variable {P : Program} (w : World)
theorem mul_ex (t : TypeId) (a b c d : Nat) : ∃ e f n, (binOp .mul t (.complex .f64 a b) (.complex .f64 c d)).run P w = .ok (.complex .f64 e f) (w.drewN n) ∧ Sim D e (prR a b c d) ∧ Sim D f (prI a b c d) ∧ e < 2 ^ D.width ∧ f < 2 ^ D.width := by
  have h : ∃ e f n, (Op.Complex.product a b c d).run P w = .ok (e, f) (w.drewN n) ∧ Sim D e (prR a b c d) ∧ Sim D f (prI a b c d) ∧ e < 2 ^ D.width ∧ f < 2 ^ D.width := by
    unfold Op.Complex.product
    have rm := fun (w : World) x y => run_ar (P := P) w .mul (by simp) .f64 x y
    have ra := fun (w : World) x y => run_ar (P := P) w .add (by simp) .f64 x y
    have rs := fun (w : World) x y => run_ar (P := P) w .sub (by simp) .f64 x y
    simp only [Sem.run_bind, Op.Complex.mul, Op.Complex.sub, Op.Complex.add, rm, ra, rs, Result.andThen_ok, Sem.run_pure, World.drewN_drewN]
    exact ⟨_, _, _, rfl, faV_sub _ _ _ _ _ (faV_mul _ _ _ _ _ (Sim.refl _ _) (Sim.refl _ _)) (faV_mul _ _ _ _ _ (Sim.refl _ _) (Sim.refl _ _)), faV_add _ _ _ _ _ (faV_mul _ _ _ _ _ (Sim.refl _ _) (Sim.refl _ _)) (faV_mul _ _ _ _ _ (Sim.refl _ _) (Sim.refl _ _)), faV_lt _ _ _ _ _, faV_lt _ _ _ _ _⟩
  obtain ⟨e, f, n, h, h1, h2, h3, h4⟩ := h
  exact ⟨e, f, n, by simp [binOp, Op.complexOp, Op.Complex.conv, h], h1, h2, h3, h4⟩
end

/-! ### Turn -/
theorem turn_like (x y : Nat) (hx : x < 2 ^ D.width) (hy : y < 2 ^ D.width) (fx : rung D x < D.infRung) (fy : rung D y < D.infRung) :
    Like D (prR x y 0 4607182418800017408) (negw D y) ∧ Like D (prI x y 0 4607182418800017408) x := by
  have hz1 := (mulT_zero D gD x 0 fx (by decide)).2
  have hz2 := (mulT_zero D gD y 0 fy (by decide)).2
  have o1 := mulT_one x hx
  have o2 := mulT_one y hy
  constructor
  · unfold prR
    rw [subT_eq D gD _ _ (mulT_lt D gD _ _), addT_comm D gD]
    refine (addT_zero_any _ _ hz1).trans ?_
    exact (negw_sim D (mulT_lt D gD _ _) hy o2).like
  · unfold prI
    exact (addT_zero_any _ _ hz2).trans o1.like
theorem like_fin {a b : Nat} (h : Like D a b) (hb : rung D b < D.infRung) : rung D a < D.infRung := by
  have hn : isN D b = false := by simp [isN]; omega
  rw [(key_cases D (h.key_of hn)).1]; exact hb
theorem nrm_comm (x y : Nat) : nrm x y = nrm y x := by unfold nrm; rw [addT_comm D gD]
theorem nrm_like {a b c d : Nat} (h1 : Like D a c) (h2 : Like D b d) (n1 : isN D c = false) (n2 : isN D d = false) : nrm a b = nrm c d := by
  have l : Like D (nrm a b) (nrm c d) := addT_like D gD (mulT_like D gD h1 h1) (mulT_like D gD h2 h2)
  obtain ⟨p, hp, ep⟩ := nrm_word a b (by rw [h1.isN]; exact n1) (by rw [h2.isN]; exact n2)
  obtain ⟨q, hq, eq⟩ := nrm_word c d n1 n2
  have hi := inf_lt D
  rw [ep, eq] at l ⊢
  have hk := l.key_of (isN_word D _ _ hq)
  rw [key_word D _ _ (by omega), key_word D _ _ (by omega)] at hk
  simp at hk
  rw [show p = q by omega]
theorem eqC_like (a b c d : Nat) (h1 : Like D a c) (h2 : Like D b d) (n1 : isN D c = false) (n2 : isN D d = false) : eqC .f64 a b c d = true := by
  rw [eqC_iff]
  exact ⟨⟨by rw [h1.isN]; exact n1, n1, h1.key_of n1⟩, by rw [h2.isN]; exact n2, n2, h2.key_of n2⟩
end Go.Proofs.Ytakhgppjgeeihaa
