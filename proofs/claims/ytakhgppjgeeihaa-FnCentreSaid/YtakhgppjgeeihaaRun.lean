/-
  What the model's floating-point and complex operations, conversions and comparisons give in a walk, whatever the operands: a value that is the exact result rounded, or some NaN where there is none, and a world that has at most drawn. Conditions: none (of a conversion that overflows nothing is said but that its word fits).
-/
import Derived.Test.YtakhgppjgeeihaaFlt
import Derived.WalkKit
import Derived.WalkLawsBesides
import Derived.Deep.Draws
namespace Go.Proofs.Ytakhgppjgeeihaa
open Fl

theorem good (k : FloatKind) : Fl.Good k.format := by cases k; exact good_single; exact good_double

/-- the operation on words, one NaN for all -/
def opT (op : BinOp) (k : FloatKind) (x y : Nat) : Nat :=
  match op with
  | .add => addT k.format x y
  | .sub => subT k.format x y
  | .mul => mulT k.format x y
  | .quo => divT k.format x y
  | _ => 0
/-- the value that a run gives -/
def faV (op : BinOp) (k : FloatKind) (x y : Nat) (w : World) : Nat := (floatBits op k x y).getD ((Question.nanBits k x y).cut (w.tape w.drawn (.nanBits k x y)))
/-- how often it draws -/
def faN (op : BinOp) (k : FloatKind) (x y : Nat) : Nat := if (floatBits op k x y).isNone then 1 else 0

theorem nan_cut (k : FloatKind) (x y t : Nat) : isN k.format ((Question.nanBits k x y).cut t) = true ∧ (Question.nanBits k x y).cut t < 2 ^ k.format.width := by
  cases k
  · have e1 : Ieee.Format.infRung Ieee.single = 0x7f800000 := by decide
    have e2 : Ieee.Format.signWeight Ieee.single = 2 ^ 31 := by decide
    have e3 : 2 ^ Ieee.Format.width Ieee.single = 2 ^ 32 := by decide
    simp only [Question.cut, FloatKind.format, isN, rung, e1, e2, e3, decide_eq_true_eq]
    obtain ⟨u, hu⟩ : ∃ u, t / 2 % (2 ^ 23 - 1) = u := ⟨_, rfl⟩
    have hu' : u < 2 ^ 23 - 1 := by rw [← hu]; exact Nat.mod_lt _ (by decide)
    rw [hu]
    have : t % 2 = 0 ∨ t % 2 = 1 := by omega
    rcases this with h | h <;> rw [h] <;> omega
  · have e1 : Ieee.Format.infRung Ieee.double = 0x7ff0000000000000 := by decide
    have e2 : Ieee.Format.signWeight Ieee.double = 2 ^ 63 := by decide
    have e3 : 2 ^ Ieee.Format.width Ieee.double = 2 ^ 64 := by decide
    simp only [Question.cut, FloatKind.format, isN, rung, e1, e2, e3, decide_eq_true_eq]
    obtain ⟨u, hu⟩ : ∃ u, t / 2 % (2 ^ 52 - 1) = u := ⟨_, rfl⟩
    have hu' : u < 2 ^ 52 - 1 := by rw [← hu]; exact Nat.mod_lt _ (by decide)
    rw [hu]
    have : t % 2 = 0 ∨ t % 2 = 1 := by omega
    rcases this with h | h <;> rw [h] <;> omega
theorem nan_conv (k : FloatKind) (x t : Nat) : isN k.format ((Question.nanConv k x).cut t) = true ∧ (Question.nanConv k x).cut t < 2 ^ k.format.width := by
  have h := nan_cut k 0 0 t
  cases k <;> exact h

section
variable {P : Program} (w : World)
theorem run_far (op : BinOp) (hop : op = .add ∨ op = .sub ∨ op = .mul ∨ op = .quo) (k : FloatKind) (x y : Nat) :
    (Op.floatArith op k x y).run P w = .ok (.float k (faV op k x y w)) (w.drewN (faN op k x y)) := by
  cases h : floatBits op k x y with
  | some r =>
    rw [run_floatArith w h]
    simp [faV, faN, h, World.drewN_zero]
  | none =>
    unfold floatBits at h
    rcases hop with rfl | rfl | rfl | rfl <;> simp only at h <;> simp [Op.floatArith, h, faV, faN, floatBits, show (Question.nanBits k x y).forced = false from rfl, World.drew_is_drewN]

/-- a sum, difference, product or quotient of two floats -/
@[go_sem] theorem run_fadd (t : TypeId) (k : FloatKind) (x y : Nat) : (binOp .add t (.float k x) (.float k y)).run P w = .ok (.float k (faV .add k x y w)) (w.drewN (faN .add k x y)) := by
  have := run_far (P := P) w .add (by simp) k x y; simpa [binOp] using this
@[go_sem] theorem run_fsub (t : TypeId) (k : FloatKind) (x y : Nat) : (binOp .sub t (.float k x) (.float k y)).run P w = .ok (.float k (faV .sub k x y w)) (w.drewN (faN .sub k x y)) := by
  have := run_far (P := P) w .sub (by simp) k x y; simpa [binOp] using this
@[go_sem] theorem run_fmul (t : TypeId) (k : FloatKind) (x y : Nat) : (binOp .mul t (.float k x) (.float k y)).run P w = .ok (.float k (faV .mul k x y w)) (w.drewN (faN .mul k x y)) := by
  have := run_far (P := P) w .mul (by simp) k x y; simpa [binOp] using this
@[go_sem] theorem run_fquo (t : TypeId) (k : FloatKind) (x y : Nat) : (binOp .quo t (.float k x) (.float k y)).run P w = .ok (.float k (faV .quo k x y w)) (w.drewN (faN .quo k x y)) := by
  have := run_far (P := P) w .quo (by simp) k x y; simpa [binOp] using this

theorem faV_sim (op : BinOp) (hop : op = .add ∨ op = .sub ∨ op = .mul ∨ op = .quo) (k : FloatKind) (x y : Nat) : Sim k.format (faV op k x y w) (opT op k x y) := by
  unfold faV
  have hn := nan_cut k x y (w.tape w.drawn (.nanBits k x y))
  rcases hop with rfl | rfl | rfl | rfl
  · show Sim _ ((k.format.add x y).getD _) ((k.format.add x y).getD _)
    cases k.format.add x y with
    | none => exact .inr ⟨hn.1, isN_qn _ (good k)⟩
    | some r => exact .inl rfl
  · show Sim _ ((k.format.sub x y).getD _) ((k.format.sub x y).getD _)
    cases k.format.sub x y with
    | none => exact .inr ⟨hn.1, isN_qn _ (good k)⟩
    | some r => exact .inl rfl
  · show Sim _ ((k.format.mul x y).getD _) ((k.format.mul x y).getD _)
    cases k.format.mul x y with
    | none => exact .inr ⟨hn.1, isN_qn _ (good k)⟩
    | some r => exact .inl rfl
  · show Sim _ ((k.format.div x y).getD _) ((k.format.div x y).getD _)
    cases k.format.div x y with
    | none => exact .inr ⟨hn.1, isN_qn _ (good k)⟩
    | some r => exact .inl rfl
theorem faV_lt (op : BinOp) (k : FloatKind) (x y : Nat) : faV op k x y w < 2 ^ k.format.width := by
  unfold faV
  cases h : floatBits op k x y with
  | none => exact (nan_cut k x y _).2
  | some r =>
    have h1 := floatBits_wf h
    show r < 2 ^ k.format.width
    cases k
    · have e : 2 ^ FloatKind.f32.format.width = 2 ^ 32 := by decide
      rw [e]; simp [Lit.wf] at h1; omega
    · have e : 2 ^ FloatKind.f64.format.width = 2 ^ 64 := by decide
      rw [e]; simp [Lit.wf] at h1; omega

@[go_sem] theorem run_fneg (k : FloatKind) (x : Nat) : (Op.unary .neg (.float k x)).run P w = .ok (.float k (negw k.format x)) w := rfl

/-! ### conversions between the two widths -/
/-- 'float64(x)' of a float32 and the other way round, and how often it draws; of a finite number that the narrower width cannot hold the model lets the tape say which word comes -/
def ffV (s k : FloatKind) (b : Nat) (w : World) : Nat :=
  if s = k then b else
  match s.decode b with
  | .nan _ _ => (Question.nanConv k b).cut (w.tape w.drawn (.nanConv k b))
  | .infinity g => k.encode (.infinity g)
  | .number g m e => if (k.decode (k.encode (.number g m e))).isInfinity then (Question.floatToFloat b).cut (w.tape w.drawn (.floatToFloat b)) else k.encode (.number g m e)
def ffN (s k : FloatKind) (b : Nat) : Nat :=
  if s = k then 0 else
  match s.decode b with
  | .nan _ _ => 1
  | .infinity _ => 0
  | .number g m e => if (k.decode (k.encode (.number g m e))).isInfinity then 1 else 0
theorem run_ff (s k : FloatKind) (b : Nat) : (Conv.floatToFloat s b k).run P w = .ok (.float k (ffV s k b w)) (w.drewN (ffN s k b)) := by
  by_cases hsk : s = k
  · simp [Conv.floatToFloat, ffV, ffN, hsk, World.drewN_zero]
  · cases hd : s.decode b with
    | nan g t => simp [Conv.floatToFloat, ffV, ffN, hsk, hd, show (Question.nanConv k b).forced = false from rfl, World.drew_is_drewN]
    | infinity g => simp [Conv.floatToFloat, ffV, ffN, hsk, hd, World.drewN_zero]
    | number g m e =>
      by_cases hi : (k.decode (k.encode (.number g m e))).isInfinity = true
      · simp [Conv.floatToFloat, ffV, ffN, hsk, hd, hi, show (Question.floatToFloat b).forced = false from rfl, World.drew_is_drewN]
      · simp [Conv.floatToFloat, ffV, ffN, hsk, hd, hi, World.drewN_zero]
@[go_sem] theorem run_conv_ff (src dst : TypeId) (s k : FloatKind) (b : Nat) (hs : (P.underlying src).isSome = true) (hd : P.underlying dst = some (.float k)) :
    (convert src dst (.float s b)).run P w = .ok (.float k (ffV s k b w)) (w.drewN (ffN s k b)) := by
  obtain ⟨u, hs'⟩ := Option.isSome_iff_exists.1 hs
  cases u <;> simp [convert, run_underlying hs', run_underlying hd, run_ff]
@[go_sem] theorem run_conv_cc (src dst : TypeId) (s k : FloatKind) (a b : Nat) (hs : (P.underlying src).isSome = true) (hd : P.underlying dst = some (.complex k)) :
    (convert src dst (.complex s a b)).run P w = .ok (.complex k (ffV s k a w) (ffV s k b (w.drewN (ffN s k a)))) (w.drewN (ffN s k a + ffN s k b)) := by
  obtain ⟨u, hs'⟩ := Option.isSome_iff_exists.1 hs
  cases u <;> simp [convert, run_underlying hs', run_underlying hd, Conv.complexToComplex, run_ff]

/-! ### complex sums, products and quotients -/
theorem run_ar (op : BinOp) (hop : op = .add ∨ op = .sub ∨ op = .mul ∨ op = .quo) (k : FloatKind) (x y : Nat) :
    (Op.Complex.arith op k x y).run P w = .ok (faV op k x y w) (w.drewN (faN op k x y)) := by
  simp [Op.Complex.arith, run_far w op hop]
@[go_sem] theorem run_cadd (t : TypeId) (k : FloatKind) (a b c d : Nat) :
    (binOp .add t (.complex k a b) (.complex k c d)).run P w = .ok (.complex k (faV .add k a c w) (faV .add k b d (w.drewN (faN .add k a c)))) (w.drewN (faN .add k a c + faN .add k b d)) := by
  simp [binOp, Op.complexOp, run_ar]
@[go_sem] theorem run_csub (t : TypeId) (k : FloatKind) (a b c d : Nat) :
    (binOp .sub t (.complex k a b) (.complex k c d)).run P w = .ok (.complex k (faV .sub k a c w) (faV .sub k b d (w.drewN (faN .sub k a c)))) (w.drewN (faN .sub k a c + faN .sub k b d)) := by
  simp [binOp, Op.complexOp, run_ar]
end
end Go.Proofs.Ytakhgppjgeeihaa
