/-
  The quotient of complex numbers does not tell one NaN from another, where a divisor with an infinite part has no NaN. Conditions: none.
-/
import Derived.Test.YtakhgppjgeeihaaQuo
import Derived.Test.YtakhgppjgeeihaaFin
namespace Go.Proofs.Ytakhgppjgeeihaa
open Fl
theorem cinf (x : Nat) : Op.Complex.isInf x = decide (rung D x = D.infRung) := isInf_iff D gD x
theorem cfin (x : Nat) : Op.Complex.isFinite x = decide (rung D x < D.infRung) := by
  unfold Op.Complex.isFinite
  rw [cnan, cinf, Bool.eq_iff_iff]
  unfold isN
  simp
  omega
theorem sim_rung {x y : Nat} (h : Sim D x y) (hy : rung D y ≤ D.infRung) : x = y := h.eq_of (by simp [isN]; omega)
theorem cinf_sim {x y : Nat} (h : Sim D x y) : Op.Complex.isInf x = Op.Complex.isInf y := by
  rcases h with rfl | ⟨h1, h2⟩
  · rfl
  · unfold isN at h1 h2
    simp at h1 h2
    rw [cinf, cinf, Bool.eq_iff_iff]
    simp; omega
theorem cfin_sim {x y : Nat} (h : Sim D x y) : Op.Complex.isFinite x = Op.Complex.isFinite y := by
  rcases h with rfl | ⟨h1, h2⟩
  · rfl
  · unfold isN at h1 h2
    simp at h1 h2
    rw [cfin, cfin, Bool.eq_iff_iff]
    simp; omega
theorem absGe_sim {c d c' d' : Nat} (h : Sim D c c') (k : Sim D d d') : absGe c d = absGe c' d' := by
  have ha : ∀ {x y : Nat}, Sim D x y → Sim D (Op.Complex.abs x) (Op.Complex.abs y) := by
    rintro x y (rfl | ⟨h1, h2⟩)
    · exact .inl rfl
    · have e : ∀ x, rung D (Op.Complex.abs x) = rung D x := fun x => Nat.mod_mod _ _
      exact .inr ⟨by unfold isN at h1 ⊢; rw [e]; exact h1, by unfold isN at h2 ⊢; rw [e]; exact h2⟩
  have e : D.order (Op.Complex.abs c) (Op.Complex.abs d) = D.order (Op.Complex.abs c') (Op.Complex.abs d') := order_sim D gD (ha h) (ha k)
  unfold absGe
  have e' : FloatKind.f64.format.order (Op.Complex.abs c) (Op.Complex.abs d) = FloatKind.f64.format.order (Op.Complex.abs c') (Op.Complex.abs d') := e
  rw [e']
theorem quo1_sim {a b c d a' b' c' d' : Nat} (ha : Sim D a a') (hb : Sim D b b') (hc : Sim D c c') (hd : Sim D d d') : quo1 a b c d = quo1 a' b' c' d' := by
  unfold quo1
  rw [absGe_sim hc hd, divT_sim D gD hd hc, divT_sim D gD hc hd]
  have R := Sim.refl D
  split
  · simp only []
    rw [mulT_sim D gD (R (divT D d' c')) hd, addT_sim D gD hc (R _), mulT_sim D gD hb (R _), mulT_sim D gD ha (R _), addT_sim D gD ha (R _), subT_sim D gD hb (R _)]
  · simp only []
    rw [mulT_sim D gD (R (divT D c' d')) hc, addT_sim D gD hd (R _), mulT_sim D gD hb (R _), mulT_sim D gD ha (R _), addT_sim D gD (R (mulT D a' _)) hb, subT_sim D gD (R (mulT D b' _)) ha]
/-- an infinity times like numbers -/
theorem inf_like {x y : Nat} (h : Like D x y) (hx : x < 2 ^ D.width) (hy : y < 2 ^ D.width) : mulT D Op.Complex.inf x = mulT D Op.Complex.inf y := by
  have hi : rung D Op.Complex.inf = D.infRung := by decide
  have hin : isN D Op.Complex.inf = false := by decide
  cases hn : isN D y with
  | true => rw [mulT_nan D gD (.inr hn), mulT_nan D gD (.inr (by rw [h.isN]; exact hn))]
  | false =>
    have hnx : isN D x = false := by rw [h.isN]; exact hn
    rcases like_cases D hx hy h hn with rfl | ⟨h1, h2⟩
    · rfl
    · rw [mulT_eq D gD _ _ hin hnx, mulT_eq D gD _ _ hin hn, if_pos (.inl ⟨hi, h1⟩), if_pos (.inl ⟨hi, h2⟩)]
theorem one_like {x y : Nat} (h : Sim D x y) (hx : x < 2 ^ D.width) (hy : y < 2 ^ D.width) : Like D (Op.Complex.inf2one x) (Op.Complex.inf2one y) := by
  rcases h with rfl | ⟨h1, h2⟩
  · exact Like.refl D _
  · have e : ∀ z, isN D z = true → z < 2 ^ D.width → Op.Complex.inf2one z = 0 ∨ Op.Complex.inf2one z = 9223372036854775808 := fun z hz hl => by
      unfold Op.Complex.inf2one
      have : Op.Complex.isInf z = false := by rw [cinf]; unfold isN at hz; simp at hz; simp; omega
      rw [this]
      have hl' : z < 18446744073709551616 := hl
      show (0 % 2 ^ 63 + z / 2 ^ 63 * 2 ^ 63 = 0) ∨ (0 % 2 ^ 63 + z / 2 ^ 63 * 2 ^ 63 = 9223372036854775808)
      omega
    have z0 : Like D 0 9223372036854775808 := .inr ⟨by decide, by decide, by decide⟩
    rcases e x h1 hx with a | a <;> rcases e y h2 hy with b | b <;> rw [a, b]
    · exact Like.refl D _
    · exact z0
    · exact z0.symm
    · exact Like.refl D _
theorem quoT_sim {a b c d a' b' c' d' : Nat} (ha : Sim D a a') (hb : Sim D b b') (hc : Sim D c c') (hd : Sim D d d')
    (la : a < 2 ^ D.width) (la' : a' < 2 ^ D.width) (lb : b < 2 ^ D.width) (lb' : b' < 2 ^ D.width)
    (hG : rung D a' < D.infRung → rung D b' < D.infRung → rung D c' < D.infRung ∧ rung D d' < D.infRung) : quoT a b c d = quoT a' b' c' d' := by
  unfold quoT
  have R := Sim.refl D
  have o1 : D.order c 0 = D.order c' 0 := order_sim D gD hc (R 0)
  have o2 : D.order d 0 = D.order d' 0 := order_sim D gD hd (R 0)
  rw [quo1_sim ha hb hc hd, o1, o2, ha.isN, hb.isN, cinf_sim ha, cinf_sim hb, cinf_sim hc, cinf_sim hd, cfin_sim ha, cfin_sim hb, cfin_sim hc, cfin_sim hd]
  simp only []
  by_cases c1 : (!(isN D (quo1 a' b' c' d').1 && isN D (quo1 a' b' c' d').2)) = true
  · rw [if_pos c1, if_pos c1]
  · rw [if_neg c1, if_neg c1]
    by_cases c2 : (D.order c' 0 == some .eq && D.order d' 0 == some .eq && (!isN D a' || !isN D b')) = true
    · rw [if_pos c2, if_pos c2]
      have hcn : isN D c' = false := by
        simp only [Bool.and_eq_true] at c2
        exact ((eq_iff D gD c' 0).1 c2.1.1).1
      rw [hc.eq_of hcn, mulT_sim D gD (R _) ha, mulT_sim D gD (R _) hb]
    · rw [if_neg c2, if_neg c2]
      by_cases c3 : ((Op.Complex.isInf a' || Op.Complex.isInf b') && Op.Complex.isFinite c' && Op.Complex.isFinite d') = true
      · rw [if_pos c3, if_pos c3]
        simp only [Bool.and_eq_true] at c3
        obtain ⟨⟨_, f1⟩, f2⟩ := c3
        rw [cfin] at f1 f2
        simp at f1 f2
        have e1 := sim_rung hc (by omega)
        have e2 := sim_rung hd (by omega)
        subst e1 e2
        have l1 := one_like ha la la'
        have l2 := one_like hb lb lb'
        have k1 := addT_like D gD (mulT_like D gD l1 (Like.refl D c)) (mulT_like D gD l2 (Like.refl D d))
        have k2 := subT_like D gD (mulT_lt D gD _ _) (mulT_lt D gD _ _) (mulT_like D gD l2 (Like.refl D c)) (mulT_like D gD l1 (Like.refl D d))
        rw [inf_like k1 (addT_lt D gD _ _) (addT_lt D gD _ _), inf_like k2 (subT_lt D gD _ _) (subT_lt D gD _ _)]
      · rw [if_neg c3, if_neg c3]
        by_cases c4 : ((Op.Complex.isInf c' || Op.Complex.isInf d') && Op.Complex.isFinite a' && Op.Complex.isFinite b') = true
        · exfalso
          simp only [Bool.and_eq_true, Bool.or_eq_true] at c4
          obtain ⟨⟨g, f1⟩, f2⟩ := c4
          rw [cfin] at f1 f2
          rw [cinf, cinf] at g
          simp at f1 f2 g
          obtain ⟨h1, h2⟩ := hG f1 f2
          omega
        · rw [if_neg c4, if_neg c4]
end Go.Proofs.Ytakhgppjgeeihaa
