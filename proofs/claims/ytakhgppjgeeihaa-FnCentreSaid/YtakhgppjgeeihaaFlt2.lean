/-
  More plain laws of IEEE 754's operations over the model's words: one as a factor and a divisor, doubling, zeros, squares, the two widths. Conditions: formats with at least two bits in each field.
-/
import Derived.Test.YtakhgppjgeeihaaFlt
namespace Go.Proofs.Ytakhgppjgeeihaa.Fl
open Ieee Go
/-- the two formats -/
abbrev D : Format := FloatKind.f64.format
abbrev F : Format := FloatKind.f32.format
variable (f : Format)

theorem isN_nearest (s : Bool) (m : Nat) (e : Int) : isN f (f.nearest s m e) = false := by
  unfold Format.nearest
  split
  · exact isN_word f s 0 (Nat.zero_le _)
  · exact isN_word f s _ (Nat.min_le_right _ _)
theorem isN_write (d : Datum) (h : d.isNaN = false) : isN f (f.write d) = false := by
  cases d with
  | number s m e => exact isN_nearest f s m e
  | infinity s => exact isN_word f s _ (Nat.le_refl _)
  | nan s t => simp [Datum.isNaN] at h

/-- a quotient whose dividend is a number that is not zero -/
theorem div_num (hG : Good f) (x y : Nat) (hx : rung f x < f.infRung) (hx0 : rung f x ≠ 0) (hy : isN f y = false) : ∃ r, f.div x y = some r ∧ isN f r = false := by
  obtain ⟨m, i, e, hv⟩ := read_fin f x hx
  have hm : m ≠ 0 := fun h => hx0 ((fin_zero_iff f hv).1 h)
  simp only [isN, decide_eq_false_iff_not, Nat.not_lt] at hy
  unfold Format.div
  rw [e]
  rcases Nat.lt_or_eq_of_le hy with h | h
  · obtain ⟨n, j, e', hv'⟩ := read_fin f y h
    rw [e']
    simp only [Datum.quotient]
    split
    · exact ⟨_, rfl, isN_write f _ rfl⟩
    · exact ⟨_, rfl, isN_write f _ rfl⟩
  · rw [read_inf f hG y h]
    exact ⟨_, rfl, isN_write f _ rfl⟩

/-! ### the word 1 -/
/-- the rung of 1 -/
def one : Nat := (2 ^ (f.exponentBits - 1) - 1) * f.binade

/-! ### equality -/
theorem eq_iff (hG : Good f) (x y : Nat) : (f.order x y == some .eq) = true ↔ isN f x = false ∧ isN f y = false ∧ key f x = key f y := by
  cases hx : isN f x with
  | true => rw [order_nan f hG x y (.inl hx)]; simp
  | false =>
    cases hy : isN f y with
    | true => rw [order_nan f hG x y (.inr hy)]; simp
    | false =>
      rw [order_key f hG x y hx hy]
      simp [compare, compareOfLessAndEq]
      constructor
      · intro h
        split at h
        · simp at h
        · split at h
          · assumption
          · simp at h
      · intro h; rw [h]; simp
theorem eq_of_like (hG : Good f) {x y : Nat} (h : Like f x y) (hn : isN f y = false) : (f.order x y == some .eq) = true := by
  rw [eq_iff f hG]; exact ⟨by rw [h.isN]; exact hn, hn, h.key_of hn⟩
end Go.Proofs.Ytakhgppjgeeihaa.Fl
