/-
  What Go's quotient of two complex128 gives in a run, whatever the operands, by a plain function on words. Conditions: none.
-/
import Derived.Test.YtakhgppjgeeihaaFn
import Derived.Test.YtakhgppjgeeihaaFlt4
namespace Go.Proofs.Ytakhgppjgeeihaa
open Fl

def infW : Nat := Op.Complex.inf
/-- the first part of the quotient -/
def quo1 (a b c d : Nat) : Nat × Nat :=
  if absGe c d then
    let ratio := divT D d c
    let denom := addT D c (mulT D ratio d)
    (divT D (addT D a (mulT D b ratio)) denom, divT D (subT D b (mulT D a ratio)) denom)
  else
    let ratio := divT D c d
    let denom := addT D d (mulT D ratio c)
    (divT D (addT D (mulT D a ratio) b) denom, divT D (subT D (mulT D b ratio) a) denom)
/-- the quotient, its corrections among them -/
def quoT (a b c d : Nat) : Nat × Nat :=
  let ef := quo1 a b c d
  if !(isN D ef.1 && isN D ef.2) then ef
  else if ((D.order c 0 == some .eq) && (D.order d 0 == some .eq)) && (!isN D a || !isN D b) then
    (mulT D (Op.Complex.copysign Op.Complex.inf c) a, mulT D (Op.Complex.copysign Op.Complex.inf c) b)
  else if (Op.Complex.isInf a || Op.Complex.isInf b) && Op.Complex.isFinite c && Op.Complex.isFinite d then
    (mulT D Op.Complex.inf (addT D (mulT D (Op.Complex.inf2one a) c) (mulT D (Op.Complex.inf2one b) d)), mulT D Op.Complex.inf (subT D (mulT D (Op.Complex.inf2one b) c) (mulT D (Op.Complex.inf2one a) d)))
  else if (Op.Complex.isInf c || Op.Complex.isInf d) && Op.Complex.isFinite a && Op.Complex.isFinite b then
    (mulT D 0 (addT D (mulT D a (Op.Complex.inf2one c)) (mulT D b (Op.Complex.inf2one d))), mulT D 0 (subT D (mulT D b (Op.Complex.inf2one c)) (mulT D a (Op.Complex.inf2one d))))
  else ef

/-- two words have come -/
def TwoV (r : Nat × Nat) (w : World) (x : Result (Nat × Nat)) : Prop := ∃ e f n, x = .ok (e, f) (w.drewN n) ∧ Sim D e r.1 ∧ Sim D f r.2 ∧ e < 2 ^ D.width ∧ f < 2 ^ D.width

section
variable {P : Program} (w : World)
theorem rmul (x y : Nat) : (Op.Complex.mul x y).run P w = .ok (faV .mul .f64 x y w) (w.drewN (faN .mul .f64 x y)) := run_ar w .mul (by simp) .f64 x y
theorem radd (x y : Nat) : (Op.Complex.add x y).run P w = .ok (faV .add .f64 x y w) (w.drewN (faN .add .f64 x y)) := run_ar w .add (by simp) .f64 x y
theorem rsub (x y : Nat) : (Op.Complex.sub x y).run P w = .ok (faV .sub .f64 x y w) (w.drewN (faN .sub .f64 x y)) := run_ar w .sub (by simp) .f64 x y
theorem rquo (x y : Nat) : (Op.Complex.quo x y).run P w = .ok (faV .quo .f64 x y w) (w.drewN (faN .quo .f64 x y)) := run_ar w .quo (by simp) .f64 x y
theorem reql (x y : Nat) : (Op.Complex.cmp .eql .f64 x y).run P w = .ok (D.order x y == some .eq) w := by
  simp [Op.Complex.cmp, Op.floatCmp, asBool]
theorem cnan (x : Nat) : Op.Complex.isNaN x = isN D x := isN_iff D gD x

theorem sM {x y x' y' : Nat} {w : World} (hx : Sim D x x') (hy : Sim D y y') : Sim D (faV .mul .f64 x y w) (mulT D x' y') := faV_mul _ _ _ _ _ hx hy
theorem sA {x y x' y' : Nat} {w : World} (hx : Sim D x x') (hy : Sim D y y') : Sim D (faV .add .f64 x y w) (addT D x' y') := faV_add _ _ _ _ _ hx hy
theorem sS {x y x' y' : Nat} {w : World} (hx : Sim D x x') (hy : Sim D y y') : Sim D (faV .sub .f64 x y w) (subT D x' y') := faV_sub _ _ _ _ _ hx hy
theorem sQ {x y x' y' : Nat} {w : World} (hx : Sim D x x') (hy : Sim D y y') : Sim D (faV .quo .f64 x y w) (divT D x' y') := faV_quo _ _ _ _ _ hx hy
theorem sR (x : Nat) : Sim D x x := Sim.refl D x
theorem run_corr (s a b c d n : Nat) : TwoV (mulT D s (addT D (mulT D a c) (mulT D b d)), mulT D s (subT D (mulT D b c) (mulT D a d))) w ((Op.Complex.corrected s a b c d).run P (w.drewN n)) := by
  unfold Op.Complex.corrected
  simp only [Sem.run_bind, Result.andThen_ok, rmul, radd, rsub, Sem.run_pure, World.drewN_drewN]
  exact ⟨_, _, _, rfl, sM (sR _) (sA (sM (sR _) (sR _)) (sM (sR _) (sR _))), sM (sR _) (sS (sM (sR _) (sR _)) (sM (sR _) (sR _))), faV_lt _ _ _ _ _, faV_lt _ _ _ _ _⟩
theorem quo_second (a b c d E G n : Nat) (hE : Sim D E (quo1 a b c d).1) (hG : Sim D G (quo1 a b c d).2) (lE : E < 2 ^ D.width) (lG : G < 2 ^ D.width) :
    TwoV (quoT a b c d) w (Sem.run P (if (!(isN D E && isN D G)) = true then pure (E, G)
      else if (D.order c 0 == some .eq && D.order d 0 == some .eq && (!isN D a || !isN D b)) = true then do
        let x ← Op.Complex.mul (Op.Complex.copysign Op.Complex.inf c) a
        let y ← Op.Complex.mul (Op.Complex.copysign Op.Complex.inf c) b
        pure (x, y)
      else if ((Op.Complex.isInf a || Op.Complex.isInf b) && Op.Complex.isFinite c && Op.Complex.isFinite d) = true then
        Op.Complex.corrected Op.Complex.inf (Op.Complex.inf2one a) (Op.Complex.inf2one b) c d
      else if ((Op.Complex.isInf c || Op.Complex.isInf d) && Op.Complex.isFinite a && Op.Complex.isFinite b) = true then
        Op.Complex.corrected 0 a b (Op.Complex.inf2one c) (Op.Complex.inf2one d)
      else pure (E, G)) (w.drewN n)) := by
  have hb : (!(isN D E && isN D G)) = (!(isN D (quo1 a b c d).1 && isN D (quo1 a b c d).2)) := by rw [hE.isN, hG.isN]
  rw [hb]
  by_cases c1 : (!(isN D (quo1 a b c d).1 && isN D (quo1 a b c d).2)) = true
  · have hq : quoT a b c d = quo1 a b c d := if_pos c1
    rw [if_pos c1, hq]
    exact ⟨E, G, n, by rw [Sem.run_pure], hE, hG, lE, lG⟩
  · rw [if_neg c1]
    by_cases c2 : (D.order c 0 == some .eq && D.order d 0 == some .eq && (!isN D a || !isN D b)) = true
    · have hq : quoT a b c d = (mulT D (Op.Complex.copysign Op.Complex.inf c) a, mulT D (Op.Complex.copysign Op.Complex.inf c) b) := by
        unfold quoT; simp only; rw [if_neg c1, if_pos c2]
      rw [if_pos c2, hq]
      rw [Sem.run_bind, rmul, Result.andThen_ok, Sem.run_bind, rmul, Result.andThen_ok, Sem.run_pure, World.drewN_drewN, World.drewN_drewN]
      exact ⟨_, _, _, rfl, sM (sR _) (sR _), sM (sR _) (sR _), faV_lt _ _ _ _ _, faV_lt _ _ _ _ _⟩
    · rw [if_neg c2]
      by_cases c3 : ((Op.Complex.isInf a || Op.Complex.isInf b) && Op.Complex.isFinite c && Op.Complex.isFinite d) = true
      · have hq : quoT a b c d = (mulT D Op.Complex.inf (addT D (mulT D (Op.Complex.inf2one a) c) (mulT D (Op.Complex.inf2one b) d)), mulT D Op.Complex.inf (subT D (mulT D (Op.Complex.inf2one b) c) (mulT D (Op.Complex.inf2one a) d))) := by
          unfold quoT; simp only; rw [if_neg c1, if_neg c2, if_pos c3]
        rw [if_pos c3, hq]; exact run_corr w _ _ _ _ _ _
      · rw [if_neg c3]
        by_cases c4 : ((Op.Complex.isInf c || Op.Complex.isInf d) && Op.Complex.isFinite a && Op.Complex.isFinite b) = true
        · have hq : quoT a b c d = (mulT D 0 (addT D (mulT D a (Op.Complex.inf2one c)) (mulT D b (Op.Complex.inf2one d))), mulT D 0 (subT D (mulT D b (Op.Complex.inf2one c)) (mulT D a (Op.Complex.inf2one d)))) := by
            unfold quoT; simp only; rw [if_neg c1, if_neg c2, if_neg c3, if_pos c4]
          rw [if_pos c4, hq]; exact run_corr w _ _ _ _ _ _
        · have hq : quoT a b c d = quo1 a b c d := by
            unfold quoT; simp only; rw [if_neg c1, if_neg c2, if_neg c3, if_neg c4]
          rw [if_neg c4, hq]
          exact ⟨E, G, n, by rw [Sem.run_pure], hE, hG, lE, lG⟩
theorem run_quo (a b c d : Nat) : TwoV (quoT a b c d) w ((Op.Complex.quotient a b c d).run P w) := by
  unfold Op.Complex.quotient
  by_cases hge : absGe c d = true
  · simp only [Sem.run_bind, run_ccmp_geq, hge, Result.andThen_ok, if_true, rmul, radd, rsub, rquo, Sem.run_pure, reql, World.drewN_drewN, cnan]
    refine quo_second w a b c d _ _ _ ?_ ?_ (faV_lt _ _ _ _ _) (faV_lt _ _ _ _ _)
    · unfold quo1; rw [if_pos hge]
      exact sQ (sA (sR _) (sM (sR _) (sQ (sR _) (sR _)))) (sA (sR _) (sM (sQ (sR _) (sR _)) (sR _)))
    · unfold quo1; rw [if_pos hge]
      exact sQ (sS (sR _) (sM (sR _) (sQ (sR _) (sR _)))) (sA (sR _) (sM (sQ (sR _) (sR _)) (sR _)))
  · have hge' : absGe c d = false := by simpa using hge
    simp only [Sem.run_bind, run_ccmp_geq, hge', Result.andThen_ok, Bool.false_eq_true, if_false, rmul, radd, rsub, rquo, Sem.run_pure, reql, World.drewN_drewN, cnan]
    refine quo_second w a b c d _ _ _ ?_ ?_ (faV_lt _ _ _ _ _) (faV_lt _ _ _ _ _)
    · unfold quo1; rw [if_neg hge]
      exact sQ (sA (sM (sR _) (sQ (sR _) (sR _))) (sR _)) (sA (sR _) (sM (sQ (sR _) (sR _)) (sR _)))
    · unfold quo1; rw [if_neg hge]
      exact sQ (sS (sM (sR _) (sQ (sR _) (sR _))) (sR _)) (sA (sR _) (sM (sQ (sR _) (sR _)) (sR _)))
/-- the quotient in a walk: its words and its draws are some -/
theorem quo_ex (t : TypeId) (a b c d : Nat) : ∃ e f n, (binOp .quo t (.complex .f64 a b) (.complex .f64 c d)).run P w = .ok (.complex .f64 e f) (w.drewN n) ∧ Sim D e (quoT a b c d).1 ∧ Sim D f (quoT a b c d).2 ∧ e < 2 ^ D.width ∧ f < 2 ^ D.width := by
  obtain ⟨e, f, n, h, h1, h2, h3, h4⟩ := run_quo (P := P) w a b c d
  exact ⟨e, f, n, by simp [binOp, Op.complexOp, Op.Complex.conv, h], h1, h2, h3, h4⟩
end
theorem quo_impl (a b c d : Nat) (w : World) : Calls Try.prog 74 #[.complex .f64 a b, .complex .f64 c d] w (CV .f64 (quoT a b c d).1 (quoT a b c d).2 w) := by
  obtain ⟨e, f, n, h, h1, h2, h3, h4⟩ := quo_ex (P := Try.prog) w 31 a b c d
  go_enter Try.func74, Try.ntmps74
  go_wp2
  go_ret
  exact ⟨e, f, n, rfl, h1, h2, h3, h4, rfl⟩
theorem quo_spec (a b c d : Nat) (w : World) : Calls Try.prog 60 #[.complex .f64 a b, .complex .f64 c d] w (CV .f64 (quoT a b c d).1 (quoT a b c d).2 w) := by
  obtain ⟨e, f, n, h, h1, h2, h3, h4⟩ := quo_ex (P := Try.prog) w 31 a b c d
  go_enter Try.func60, Try.ntmps60
  go_wp2
  go_ret
  exact ⟨e, f, n, rfl, h1, h2, h3, h4, rfl⟩
end Go.Proofs.Ytakhgppjgeeihaa
