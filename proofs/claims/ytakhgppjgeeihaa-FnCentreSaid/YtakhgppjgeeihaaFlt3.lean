/-
  Plain laws of the two widths: what widening gives is exact, narrowing undoes it, nothing that equals a single number overflows. Conditions: none.
-/
import Derived.Test.YtakhgppjgeeihaaFlt2
namespace Go.Proofs.Ytakhgppjgeeihaa.Fl
open Ieee Go
variable (f : Format)

/-- a magnitude of few digits is one of the format's -/
theorem val_surj (m k : Nat) (hm : m < 2 ^ (f.fractionBits + 1)) : ∃ r, val f r = m * 2 ^ k := by
  by_cases h0 : m * 2 ^ k < f.binade
  · exact ⟨m * 2 ^ k, by unfold val; rw [if_pos h0]⟩
  · have hb := bin_pos f
    have hm0 : m ≠ 0 := by intro h; subst h; simp at h0; omega
    have hl1 : m.log2 ≤ f.fractionBits := by
      have h1 := Nat.log2_self_le hm0
      rcases Nat.lt_or_ge f.fractionBits m.log2 with h2 | h2
      · have : 2 ^ (f.fractionBits + 1) ≤ 2 ^ m.log2 := Nat.pow_le_pow_right (by omega) (by omega)
        omega
      · exact h2
    have hl2 : f.fractionBits ≤ m.log2 + k := by
      rcases Nat.lt_or_ge (m.log2 + k) f.fractionBits with h2 | h2
      · exfalso
        have h3 := @Nat.lt_log2_self m
        have h4 : m * 2 ^ k < 2 ^ (m.log2 + 1) * 2 ^ k := Nat.mul_lt_mul_of_pos_right h3 (Nat.two_pow_pos k)
        rw [← Nat.pow_add] at h4
        have h5 : 2 ^ (m.log2 + 1 + k) ≤ 2 ^ f.fractionBits := Nat.pow_le_pow_right (by omega) (by omega)
        unfold Format.binade at h0; omega
      · exact h2
    obtain ⟨j, hj⟩ : ∃ j, m.log2 + k - f.fractionBits = j := ⟨_, rfl⟩
    obtain ⟨c, hc⟩ : ∃ c, m * 2 ^ (k - j) = c := ⟨_, rfl⟩
    have hk : k = (k - j) + j := by omega
    have e : m * 2 ^ k = c * 2 ^ j := by rw [← hc, Nat.mul_assoc, ← Nat.pow_add, ← hk]
    have hcl : f.binade ≤ c := by
      have h1 := Nat.log2_self_le hm0
      have h2 : 2 ^ m.log2 * 2 ^ (k - j) ≤ c := by rw [← hc]; exact Nat.mul_le_mul_right _ h1
      rw [← Nat.pow_add] at h2
      have h3 : m.log2 + (k - j) = f.fractionBits := by omega
      rw [h3] at h2; exact h2
    have hcu : c < 2 * f.binade := by
      have h1 := @Nat.lt_log2_self m
      have h2 : c < 2 ^ (m.log2 + 1) * 2 ^ (k - j) := by rw [← hc]; exact Nat.mul_lt_mul_of_pos_right h1 (Nat.two_pow_pos _)
      rw [← Nat.pow_add] at h2
      have h3 : m.log2 + 1 + (k - j) = f.fractionBits + 1 := by omega
      rw [h3, Nat.pow_succ] at h2
      unfold Format.binade; omega
    refine ⟨(j + 1) * f.binade + (c - f.binade), ?_⟩
    have q1 : ((j + 1) * f.binade + (c - f.binade)) / f.binade = j + 1 := by
      rw [Nat.mul_comm, Nat.mul_add_div hb, Nat.div_eq_of_lt (by omega)]
    have q2 : ((j + 1) * f.binade + (c - f.binade)) % f.binade = c - f.binade := by
      rw [Nat.mul_comm, Nat.mul_add_mod, Nat.mod_eq_of_lt (by omega)]
    unfold val
    rw [if_neg (by have := Nat.mul_le_mul_right f.binade (show 1 ≤ j + 1 by omega); omega), q1, q2, e]
    congr 1; omega

theorem val_rungOf (m k : Nat) (hm : m < 2 ^ (f.fractionBits + 1)) : val f (rungOf f 0 (m * 2 ^ k)) = m * 2 ^ k := by
  obtain ⟨r, hr⟩ := val_surj f m k hm
  rw [← hr, rungOf_val]

/-- every magnitude has few digits -/
theorem val_few (r : Nat) : ∃ m k, m < 2 ^ (f.fractionBits + 1) ∧ val f r = m * 2 ^ k := by
  have hb := bin_pos f
  unfold val
  by_cases h0 : r < f.binade
  · rw [if_pos h0]; exact ⟨r, 0, by unfold Format.binade at h0; rw [Nat.pow_succ]; omega, by simp⟩
  · rw [if_neg h0]
    have := Nat.mod_lt r hb
    exact ⟨f.binade + r % f.binade, _, by unfold Format.binade at *; rw [Nat.pow_succ]; omega, rfl⟩

/-! ### single and double -/
theorem lpD : D.leastPlace = -1074 := by decide
theorem lpF : F.leastPlace = -149 := by decide
/-- how many places the least single digit lies above the least double one -/
@[irreducible] def gap : Nat := 925
theorem gap_eq : gap = 925 := by unfold gap; rfl
/-- a single magnitude's rung among the doubles -/
def widR (q : Nat) : Nat := if q = F.infRung then D.infRung else rungOf D 0 (val F q * 2 ^ gap)
/-- a double magnitude's rung among the singles -/
def narR (p : Nat) : Nat := if p = D.infRung then F.infRung else min (rungOf F gap (val D p)) F.infRung

theorem val_wid (q : Nat) : val D (rungOf D 0 (val F q * 2 ^ gap)) = val F q * 2 ^ gap := by
  obtain ⟨m, k, hm, e⟩ := val_few F q
  rw [e, Nat.mul_assoc, ← Nat.pow_add]
  exact val_rungOf D m _ (Nat.lt_of_lt_of_le hm (by decide))
theorem wid_lt (q : Nat) (h : q < F.infRung) : rungOf D 0 (val F q * 2 ^ gap) < D.infRung := by
  have h1 := rungOf_mono D 0 _ _ (Nat.mul_le_mul_right (2 ^ gap) (val_le F (Nat.le_of_lt h)))
  have h2 : rungOf D 0 (val F F.infRung * 2 ^ gap) < D.infRung := by decide +kernel
  omega
theorem widR_le (q : Nat) (h : q ≤ F.infRung) : widR q ≤ D.infRung := by
  unfold widR; split
  · exact Nat.le_refl _
  · exact Nat.le_of_lt (wid_lt q (by omega))
theorem narR_le (p : Nat) : narR p ≤ F.infRung := by
  unfold narR; split
  · exact Nat.le_refl _
  · exact Nat.min_le_right _ _
theorem nar_wid (q : Nat) : rungOf F gap (val D (rungOf D 0 (val F q * 2 ^ gap))) = q := by
  rw [val_wid]
  have := rungOf_scale F 0 (val F q) gap
  rw [Nat.zero_add] at this
  rw [this, rungOf_val]
theorem narR_widR (q : Nat) (h : q ≤ F.infRung) : narR (widR q) = q := by
  unfold widR
  by_cases hq : q = F.infRung
  · rw [if_pos hq]; unfold narR; rw [if_pos rfl, hq]
  · rw [if_neg hq]; unfold narR
    have := wid_lt q (by omega)
    rw [if_neg (by omega), nar_wid, Nat.min_eq_left (by omega)]
theorem widR_lt_iff {q r : Nat} (hq : q ≤ F.infRung) (hr : r ≤ F.infRung) : widR q < widR r ↔ q < r := by
  have mono : ∀ {q r : Nat}, q ≤ F.infRung → r ≤ F.infRung → q < r → widR q < widR r := by
    intro q r hq hr h
    have hq' : q ≠ F.infRung := by omega
    unfold widR
    rw [if_neg hq']
    by_cases hr' : r = F.infRung
    · rw [if_pos hr']; exact wid_lt q (by omega)
    · rw [if_neg hr']
      have h1 : val F q * 2 ^ gap < val F r * 2 ^ gap := Nat.mul_lt_mul_of_pos_right (val_lt F h) (Nat.two_pow_pos _)
      rw [← val_wid q, ← val_wid r] at h1
      exact (val_lt_iff D).1 h1
  constructor
  · intro h
    rcases Nat.lt_trichotomy q r with h1 | h1 | h1
    · exact h1
    · subst h1; omega
    · have := mono hr hq h1; omega
  · exact mono hq hr
end Go.Proofs.Ytakhgppjgeeihaa.Fl
