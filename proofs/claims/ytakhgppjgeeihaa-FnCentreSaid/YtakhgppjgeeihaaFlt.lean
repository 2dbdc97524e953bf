/-
  Plain laws of IEEE 754's operations over the model's words (no program in sight): rounding is monotone and undoes reading; order goes by a key; sums and products by rungs; which of them a sign, an exchange or a zero's sign leaves alone. Conditions: formats with at least two bits in each field.
-/
import GoSem.Core.Float
import Derived.Laws.FloatBits
namespace Go.Proofs.Ytakhgppjgeeihaa.Fl
open Ieee Go

/-! ### rounding to a whole number -/
def rne (n g : Nat) : Nat := n / g + (decide (g < 2 * (n % g)) || (g == 2 * (n % g) && n / g % 2 == 1)).toNat

theorem rne_zero (g : Nat) : rne 0 g = 0 := by
  unfold rne
  have : (decide (g < 2 * (0 % g)) || (g == 2 * (0 % g) && 0 / g % 2 == 1)) = false := by
    simp
  rw [this]; simp

theorem rne_one (n : Nat) : rne n 1 = n := by
  unfold rne; simp [Nat.mod_one]

theorem rne_small (n g : Nat) (h : 2 * n < g) : rne n g = 0 := by
  unfold rne
  rw [Nat.div_eq_of_lt (by omega), Nat.mod_eq_of_lt (by omega)]
  have : (decide (g < 2 * n) || (g == 2 * n && 0 % 2 == 1)) = false := by
    simp; omega
  rw [this]; rfl

theorem rne_scale (n g c : Nat) (hc : 0 < c) : rne (n * c) (g * c) = rne n g := by
  unfold rne
  rw [Nat.mul_div_mul_right _ _ hc, Nat.mul_mod_mul_right]
  have e1 : (decide (g * c < 2 * (n % g * c))) = decide (g < 2 * (n % g)) := by
    rw [← Nat.mul_assoc]
    simp [Nat.mul_lt_mul_right hc]
  have e2 : (g * c == 2 * (n % g * c)) = (g == 2 * (n % g)) := by
    rw [← Nat.mul_assoc, Bool.eq_iff_iff]
    simp [Nat.mul_right_cancel_iff hc]
  rw [e1, e2]

theorem rne_mono (n m g : Nat) (h : n ≤ m) : rne n g ≤ rne m g := by
  by_cases hg : g = 0
  · subst hg; unfold rne; simp
    cases n <;> cases m <;> simp
    omega
  · have hq : n / g ≤ m / g := Nat.div_le_div_right h
    unfold rne
    have t1 : ∀ b : Bool, b.toNat ≤ 1 := by intro b; cases b <;> simp
    rcases Nat.lt_or_eq_of_le hq with hq | hq
    · have := t1 (decide (g < 2 * (n % g)) || (g == 2 * (n % g) && n / g % 2 == 1)); omega
    · have hr : n % g ≤ m % g := by
        have a := Nat.div_add_mod n g; have b := Nat.div_add_mod m g
        rw [hq] at a; omega
      rw [hq]
      apply Nat.add_le_add_left
      by_cases c : (decide (g < 2 * (n % g)) || (g == 2 * (n % g) && m / g % 2 == 1)) = true
      · rw [c]
        have : (decide (g < 2 * (m % g)) || (g == 2 * (m % g) && m / g % 2 == 1)) = true := by
          simp at c ⊢; omega
        rw [this]; exact Nat.le_refl _
      · simp at c
        have : (decide (g < 2 * (n % g)) || (g == 2 * (n % g) && m / g % 2 == 1)) = false := by
          simp; omega
        rw [this]; simp

theorem rne_le (n g k : Nat) (hg : 0 < g) (h : n ≤ k * g) : rne n g ≤ k := by
  have := rne_mono n (k * g) g h
  have e : rne (k * g) g = k := by
    have := rne_scale k 1 g hg
    rw [Nat.one_mul, rne_one] at this; exact this
  omega

theorem le_rne (n g k : Nat) (hg : 0 < g) (h : k * g ≤ n) : k ≤ rne n g := by
  have := rne_mono (k * g) n g h
  have e : rne (k * g) g = k := by
    have := rne_scale k 1 g hg
    rw [Nat.one_mul, rne_one] at this; exact this
  omega

theorem cut_even (neg : Bool) (n drop : Nat) : Toward.even.cut neg n drop = rne n (2 ^ drop) := by
  by_cases h : drop ≤ n.log2 + 2
  · unfold Toward.cut rne
    rw [Nat.min_eq_left h]
    simp only [Nat.shiftLeft_eq, Nat.one_mul]
  · have hl : n < 2 ^ (n.log2 + 1) := Nat.lt_log2_self
    have h2 : 2 ^ (n.log2 + 2) = 2 * 2 ^ (n.log2 + 1) := by rw [Nat.pow_succ]; omega
    have e : Toward.even.cut neg n drop = rne n (2 ^ (n.log2 + 2)) := by
      unfold Toward.cut rne
      rw [Nat.min_eq_right (by omega)]
      simp only [Nat.shiftLeft_eq, Nat.one_mul]
    rw [e, rne_small _ _ (by omega), rne_small]
    have : 2 ^ (n.log2 + 2) ≤ 2 ^ drop := Nat.pow_le_pow_right (by omega) (by omega)
    omega

/-! ### the rung of a magnitude, in units of 2 ^ (leastPlace - P) -/
variable (f : Format)

def rungOf (P m : Nat) : Nat :=
  (max (m.log2 - f.fractionBits) P - P) * f.binade + rne m (2 ^ max (m.log2 - f.fractionBits) P)

theorem log2_mul_pow (m k : Nat) (h : m ≠ 0) : (m * 2 ^ k).log2 = m.log2 + k := by
  have h0 : m * 2 ^ k ≠ 0 := Nat.mul_ne_zero h (by exact Nat.pos_iff_ne_zero.1 (Nat.two_pow_pos k))
  rw [Nat.log2_eq_iff h0]
  have a := Nat.log2_self_le h
  have b := @Nat.lt_log2_self m
  rw [Nat.pow_add, show m.log2 + k + 1 = (m.log2 + 1) + k by omega, Nat.pow_add 2 (m.log2 + 1)]
  exact ⟨Nat.mul_le_mul_right _ a, Nat.mul_lt_mul_of_pos_right b (Nat.two_pow_pos k)⟩

theorem nearest_eq (neg : Bool) (m : Nat) (e : Int) (P k : Nat) (h : e = f.leastPlace - P + k) :
    f.nearest neg m e = f.word neg (min (rungOf f P (m * 2 ^ k)) f.infRung) := by
  unfold Format.nearest
  by_cases hm : m = 0
  · subst hm
    simp [rungOf, rne_zero]
  · rw [if_neg hm]
    dsimp only
    congr 2
    unfold rungOf
    rw [log2_mul_pow m k hm, cut_even]
    obtain ⟨D, hD⟩ : ∃ D, D = max (m.log2 + k - f.fractionBits) P := ⟨_, rfl⟩
    have hlast : max (e + ↑m.log2 - ↑f.fractionBits) f.leastPlace = f.leastPlace - P + D := by
      rw [hD, h]; omega
    rw [hlast, ← hD]
    have e1 : (f.leastPlace - ↑P + ↑D - f.leastPlace).toNat = D - P := by omega
    have e2 : (e - (f.leastPlace - ↑P + ↑D)).toNat = k - D := by omega
    have e3 : (f.leastPlace - ↑P + ↑D - e).toNat = D - k := by omega
    rw [e1, e2, e3, Nat.shiftLeft_eq]
    congr 1
    by_cases hk : k ≤ D
    · rw [show k - D = 0 by omega, Nat.pow_zero, Nat.mul_one]
      have : 2 ^ D = 2 ^ (D - k) * 2 ^ k := by rw [← Nat.pow_add]; congr 1; omega
      rw [this, rne_scale _ _ _ (Nat.two_pow_pos k)]
    · rw [show D - k = 0 by omega, Nat.pow_zero, rne_one]
      have : 2 ^ k = 2 ^ (k - D) * 2 ^ D := by rw [← Nat.pow_add]; congr 1; omega
      rw [this, ← Nat.mul_assoc]
      have := rne_scale (m * 2 ^ (k - D)) 1 (2 ^ D) (Nat.two_pow_pos D)
      rw [Nat.one_mul, rne_one] at this
      exact this.symm

theorem rungOf_scale (P m k : Nat) : rungOf f (P + k) (m * 2 ^ k) = rungOf f P m := by
  unfold rungOf
  by_cases hm : m = 0
  · subst hm; simp [rne_zero, Nat.log2_zero]
  · rw [log2_mul_pow m k hm]
    have e : max (m.log2 + k - f.fractionBits) (P + k) = max (m.log2 - f.fractionBits) P + k := by omega
    rw [e, Nat.pow_add, rne_scale _ _ _ (Nat.two_pow_pos k)]
    congr 2
    omega

theorem rungOf_mono (P m n : Nat) (h : m ≤ n) : rungOf f P m ≤ rungOf f P n := by
  by_cases hm : m = 0
  · subst hm; simp [rungOf, rne_zero, Nat.log2_zero]
  have hn : n ≠ 0 := by omega
  have hl : m.log2 ≤ n.log2 := by
    rcases Nat.lt_or_ge n.log2 m.log2 with h1 | h1
    · have a := Nat.log2_self_le hm
      have b := @Nat.lt_log2_self n
      have c : 2 ^ (n.log2 + 1) ≤ 2 ^ m.log2 := Nat.pow_le_pow_right (by omega) (by omega)
      omega
    · exact h1
  unfold rungOf
  obtain ⟨D, hD⟩ : ∃ D, D = max (m.log2 - f.fractionBits) P := ⟨_, rfl⟩
  obtain ⟨E, hE⟩ : ∃ E, E = max (n.log2 - f.fractionBits) P := ⟨_, rfl⟩
  rw [← hD, ← hE]
  have hDE : D ≤ E := by omega
  rcases Nat.lt_or_eq_of_le hDE with h1 | h1
  · have k1 : rne m (2 ^ D) ≤ 2 * f.binade := by
      apply rne_le _ _ _ (Nat.two_pow_pos D)
      have b := @Nat.lt_log2_self m
      have c : 2 ^ (m.log2 + 1) ≤ 2 ^ (f.fractionBits + 1 + D) := Nat.pow_le_pow_right (by omega) (by omega)
      have d : 2 ^ (f.fractionBits + 1 + D) = 2 * f.binade * 2 ^ D := by
        unfold Format.binade; rw [Nat.pow_add, Nat.pow_succ, Nat.mul_comm 2]
      omega
    have k2 : f.binade ≤ rne n (2 ^ E) := by
      apply le_rne _ _ _ (Nat.two_pow_pos E)
      have a := Nat.log2_self_le hn
      have c : f.binade * 2 ^ E = 2 ^ (f.fractionBits + E) := by unfold Format.binade; rw [Nat.pow_add]
      rw [c]
      have : 2 ^ (f.fractionBits + E) ≤ 2 ^ n.log2 := Nat.pow_le_pow_right (by omega) (by omega)
      omega
    have k3 : (D - P) * f.binade + f.binade ≤ (E - P) * f.binade := by
      have : (D - P) + 1 ≤ E - P := by omega
      have := Nat.mul_le_mul_right f.binade this
      rw [Nat.add_mul, Nat.one_mul] at this
      exact this
    omega
  · rw [h1]
    exact Nat.add_le_add_left (rne_mono _ _ _ h) _

/-! ### words: sign, rung, key -/
structure Good (f : Format) : Prop where
  eb : 2 ≤ f.exponentBits
  fb : 2 ≤ f.fractionBits

theorem good_single : Good single := ⟨by decide, by decide⟩
theorem good_double : Good double := ⟨by decide, by decide⟩

def sgn (x : Nat) : Bool := x / f.signWeight % 2 == 1
def rung (x : Nat) : Nat := x % f.signWeight
def isN (x : Nat) : Bool := decide (f.infRung < rung f x)
def key (x : Nat) : Int := if sgn f x then -(rung f x : Int) else rung f x
/-- a rung's magnitude, in units of 2 ^ leastPlace -/
def val (r : Nat) : Nat := if r < f.binade then r else (f.binade + r % f.binade) * 2 ^ (r / f.binade - 1)

theorem sw_pos : 0 < f.signWeight := Nat.two_pow_pos _
theorem bin_pos : 0 < f.binade := Nat.two_pow_pos _
theorem rung_lt (x : Nat) : rung f x < f.signWeight := Nat.mod_lt _ (sw_pos f)

theorem bin_le (hG : Good f) : f.binade ≤ f.infRung := by
  unfold Format.infRung
  have : 2 ^ 2 ≤ 2 ^ f.exponentBits := Nat.pow_le_pow_right (by omega) hG.eb
  have := Nat.mul_le_mul_right f.binade (show 1 ≤ 2 ^ f.exponentBits - 1 by omega)
  omega

theorem word_split (x : Nat) (h : x < 2 ^ f.width) : f.word (sgn f x) (rung f x) = x := by
  have two : 2 ^ f.width = 2 * f.signWeight := by
    unfold Format.width Format.signWeight
    rw [Nat.add_assoc, Nat.add_comm 1, Nat.pow_succ, Nat.mul_comm]
  rw [two] at h
  unfold Format.word sgn rung
  have hd := Nat.div_add_mod x f.signWeight
  have hq : x / f.signWeight < 2 := Nat.div_lt_of_lt_mul (by omega)
  obtain ⟨q, hq0⟩ : ∃ q, x / f.signWeight = q := ⟨_, rfl⟩
  rw [hq0] at hd hq ⊢
  have : q = 0 ∨ q = 1 := by omega
  rcases this with rfl | rfl
  · simp at hd ⊢; exact hd
  · simp at hd ⊢; exact hd

theorem sgn_word (s : Bool) (r : Nat) (h : r < f.signWeight) : sgn f (f.word s r) = s := by
  unfold sgn Format.word
  cases s
  · simp [Nat.div_eq_of_lt h]
  · simp [Nat.add_div_left _ (sw_pos f), Nat.div_eq_of_lt h]

theorem rung_word (s : Bool) (r : Nat) (h : r < f.signWeight) : rung f (f.word s r) = r := by
  unfold rung Format.word
  cases s
  · simp [Nat.mod_eq_of_lt h]
  · simp [Nat.mod_eq_of_lt h]

theorem inf_lt : f.infRung < f.signWeight := f.infRung_lt

/-! ### reading -/
theorem read_nan (hG : Good f) (x : Nat) (h : f.infRung < rung f x) : ∃ t, f.read x = .nan (sgn f x) t := by
  have hb := bin_le f hG
  have h' : f.infRung < x % f.signWeight := h
  unfold Format.read
  simp only
  rw [if_neg (by omega), if_neg (by omega), if_neg (by omega)]
  exact ⟨_, rfl⟩

theorem read_inf (hG : Good f) (x : Nat) (h : rung f x = f.infRung) : f.read x = .infinity (sgn f x) := by
  have hb := bin_le f hG
  have h' : x % f.signWeight = f.infRung := h
  unfold Format.read
  simp only
  rw [if_neg (by omega), if_neg (by omega), if_pos h']
  rfl

/-- a finite word: its magnitude is a whole number of units -/
theorem read_fin (x : Nat) (h : rung f x < f.infRung) :
    ∃ m k : Nat, f.read x = .number (sgn f x) m (f.leastPlace + k) ∧ m * 2 ^ k = val f (rung f x) := by
  have h' : x % f.signWeight < f.infRung := h
  unfold Format.read val rung
  simp only
  by_cases h0 : x % f.signWeight < f.binade
  · rw [if_pos h0, if_pos h0]
    exact ⟨x % f.signWeight, 0, by simp [sgn], by simp⟩
  · rw [if_neg h0, if_pos h', if_neg h0]
    exact ⟨_, _, rfl, rfl⟩

theorem isN_iff (hG : Good f) (x : Nat) : (f.read x).isNaN = isN f x := by
  unfold isN
  rcases Nat.lt_trichotomy (rung f x) f.infRung with h | h | h
  · obtain ⟨m, k, e, _⟩ := read_fin f x h
    rw [e]; simp [Datum.isNaN]; omega
  · rw [read_inf f hG x h]; simp [Datum.isNaN, h]
  · obtain ⟨t, e⟩ := read_nan f hG x h
    rw [e]; simp [Datum.isNaN, h]

theorem isInf_iff (hG : Good f) (x : Nat) : (f.read x).isInfinity = decide (rung f x = f.infRung) := by
  rcases Nat.lt_trichotomy (rung f x) f.infRung with h | h | h
  · obtain ⟨m, k, e, _⟩ := read_fin f x h
    rw [e]; simp [Datum.isInfinity]; omega
  · rw [read_inf f hG x h]; simp [Datum.isInfinity, h]
  · obtain ⟨t, e⟩ := read_nan f hG x h
    rw [e]; simp [Datum.isInfinity]; omega

/-! ### the magnitudes rise with the rungs -/
theorem val_lt_step (r : Nat) : val f r < val f (r + 1) := by
  have hb := bin_pos f
  unfold val
  by_cases h0 : r < f.binade
  · rw [if_pos h0]
    by_cases h1 : r + 1 < f.binade
    · rw [if_pos h1]; omega
    · rw [if_neg h1]
      have e : r + 1 = f.binade := by omega
      rw [e, Nat.mod_self, Nat.div_self hb]; simp; omega
  · rw [if_neg h0, if_neg (by omega)]
    have hd := Nat.div_add_mod r f.binade
    have hm := Nat.mod_lt r hb
    have hq : 1 ≤ r / f.binade := (Nat.le_div_iff_mul_le hb).2 (by omega)
    by_cases h1 : r % f.binade + 1 < f.binade
    · have e1 : (r + 1) / f.binade = r / f.binade := by
        rw [← hd, Nat.add_assoc, Nat.mul_add_div hb, Nat.mul_add_div hb, Nat.div_eq_of_lt h1, Nat.div_eq_of_lt hm]
      have e2 : (r + 1) % f.binade = r % f.binade + 1 := by
        rw [← hd, Nat.add_assoc, Nat.mul_add_mod, Nat.mul_add_mod, Nat.mod_eq_of_lt h1, Nat.mod_eq_of_lt hm]
      rw [e1, e2]
      exact Nat.mul_lt_mul_of_pos_right (by omega) (Nat.two_pow_pos _)
    · have e0 : r % f.binade + 1 = f.binade := by omega
      have e1 : (r + 1) / f.binade = r / f.binade + 1 := by
        rw [← hd, Nat.add_assoc, e0, Nat.mul_add_div hb, Nat.mul_add_div hb, Nat.div_self hb, Nat.div_eq_of_lt hm, Nat.add_zero]
      have e2 : (r + 1) % f.binade = 0 := by
        rw [← hd, Nat.add_assoc, e0, Nat.mul_add_mod, Nat.mod_self]
      rw [e1, e2, Nat.add_zero, show r / f.binade + 1 - 1 = (r / f.binade - 1) + 1 by omega, Nat.pow_succ, ← Nat.mul_assoc, Nat.mul_right_comm]
      exact Nat.mul_lt_mul_of_pos_right (by omega) (Nat.two_pow_pos _)

theorem val_lt {r q : Nat} (h : r < q) : val f r < val f q := by
  induction q with
  | zero => omega
  | succ q ih =>
    rcases Nat.lt_or_eq_of_le (Nat.le_of_lt_succ h) with h1 | h1
    · exact Nat.lt_trans (ih h1) (val_lt_step f q)
    · rw [h1]; exact val_lt_step f q

theorem val_le {r q : Nat} (h : r ≤ q) : val f r ≤ val f q := by
  rcases Nat.lt_or_eq_of_le h with h | h
  · exact Nat.le_of_lt (val_lt f h)
  · rw [h]; exact Nat.le_refl _

theorem val_zero : val f 0 = 0 := by unfold val; simp [bin_pos f]

theorem val_lt_iff {r q : Nat} : val f r < val f q ↔ r < q := by
  constructor
  · intro h
    rcases Nat.lt_or_ge r q with h1 | h1
    · exact h1
    · have := val_le f h1; omega
  · exact val_lt f

theorem val_eq_iff {r q : Nat} : val f r = val f q ↔ r = q := by
  constructor
  · intro h
    rcases Nat.lt_trichotomy r q with h1 | h1 | h1
    · have := val_lt f h1; omega
    · exact h1
    · have := val_lt f h1; omega
  · intro h; rw [h]

theorem val_pos {r : Nat} (h : 0 < r) : 0 < val f r := by
  have := val_lt f h; rw [val_zero] at this; exact this

/-- rounding a magnitude of the format gives its own rung -/
theorem rungOf_val (r : Nat) : rungOf f 0 (val f r) = r := by
  have hb := bin_pos f
  unfold val rungOf
  by_cases h0 : r < f.binade
  · rw [if_pos h0]
    have hl : r.log2 - f.fractionBits = 0 := by
      by_cases hr : r = 0
      · subst hr; simp [Nat.log2_zero]
      · have := Nat.log2_self_le hr
        rcases Nat.lt_or_ge r.log2 f.fractionBits with h1 | h1
        · omega
        · have : 2 ^ f.fractionBits ≤ 2 ^ r.log2 := Nat.pow_le_pow_right (by omega) h1
          unfold Format.binade at h0; omega
    rw [hl]; simp [rne_one]
  · rw [if_neg h0]
    have hd := Nat.div_add_mod r f.binade
    have hm := Nat.mod_lt r hb
    have hq : 1 ≤ r / f.binade := (Nat.le_div_iff_mul_le hb).2 (by omega)
    have h1 : f.binade + r % f.binade ≠ 0 := by omega
    have hl : (f.binade + r % f.binade).log2 = f.fractionBits := by
      rw [Nat.log2_eq_iff h1]
      unfold Format.binade at hm ⊢
      rw [Nat.pow_succ]; omega
    rw [log2_mul_pow _ _ h1, hl]
    have e : max (f.fractionBits + (r / f.binade - 1) - f.fractionBits) 0 = r / f.binade - 1 := by omega
    rw [e]
    have := rne_scale (f.binade + r % f.binade) 1 (2 ^ (r / f.binade - 1)) (Nat.two_pow_pos _)
    rw [Nat.one_mul, rne_one] at this
    rw [this, Nat.sub_zero, Nat.sub_mul, Nat.one_mul]
    have : 1 * f.binade ≤ r / f.binade * f.binade := Nat.mul_le_mul_right _ hq
    rw [Nat.mul_comm] at hd
    omega

theorem rungOf_zero (P : Nat) : rungOf f P 0 = 0 := by simp [rungOf, rne_zero, Nat.log2_zero]

theorem lp_neg (hG : Good f) : f.leastPlace ≤ 0 := by
  unfold Format.leastPlace
  have h := hG.fb
  have : (0 : Int) ≤ 2 ^ (f.exponentBits - 1) := Int.le_of_lt (Int.pow_pos (by decide))
  omega

/-- reading and writing again -/
theorem write_read (hG : Good f) (x : Nat) (hx : x < 2 ^ f.width) (hn : isN f x = false) : f.write (f.read x) = x := by
  simp only [isN, decide_eq_false_iff_not, Nat.not_lt] at hn
  rcases Nat.lt_or_eq_of_le hn with h | h
  · obtain ⟨m, k, e, hv⟩ := read_fin f x h
    rw [e]
    show f.nearest _ _ _ = x
    rw [nearest_eq f (sgn f x) m (f.leastPlace + k) 0 k (by omega), hv, rungOf_val, Nat.min_eq_left hn, word_split f x hx]
  · rw [read_inf f hG x h]
    show f.word _ _ = x
    rw [← h, word_split f x hx]

theorem rung_min (P m : Nat) : min (rungOf f P m) f.infRung < f.signWeight := Nat.lt_of_le_of_lt (Nat.min_le_right _ _) (inf_lt f)

theorem cmp_congr {a b c d : Int} (h1 : a < b ↔ c < d) (h2 : a = b ↔ c = d) : compare a b = compare c d := by
  simp only [compare, compareOfLessAndEq, h1, h2]

/-- the signed magnitude, in units of 2 ^ leastPlace -/
def sval (x : Nat) : Int := if sgn f x then -(val f (rung f x) : Int) else val f (rung f x)

theorem sval_natAbs (x : Nat) : (sval f x).natAbs = val f (rung f x) := by unfold sval; split <;> omega

theorem sval_lt_iff (x y : Nat) : sval f x < sval f y ↔ key f x < key f y := by
  have h1 := @val_lt_iff f (rung f x) (rung f y)
  have h2 := @val_lt_iff f (rung f y) (rung f x)
  have p1 := @val_lt_iff f 0 (rung f x)
  have p2 := @val_lt_iff f 0 (rung f y)
  rw [val_zero] at p1 p2
  unfold sval key
  split <;> split <;> omega

theorem sval_eq_iff (x y : Nat) : sval f x = sval f y ↔ key f x = key f y := by
  have a := sval_lt_iff f x y
  have b := sval_lt_iff f y x
  omega

theorem signed_eq (s : Bool) (m up : Nat) : signed s m up = if s then -((m * 2 ^ up : Nat) : Int) else ((m * 2 ^ up : Nat) : Int) := by
  unfold signed; rw [Nat.shiftLeft_eq]

/-- the number that a finite word stands for, brought to a lower place -/
theorem signed_sval (x m k b : Nat) (hv : m * 2 ^ k = val f (rung f x)) (hb : b ≤ k) :
    signed (sgn f x) m (k - b) * (2 ^ b : Nat) = sval f x := by
  rw [signed_eq]
  unfold sval
  have e : m * 2 ^ (k - b) * 2 ^ b = val f (rung f x) := by
    rw [← hv, Nat.mul_assoc, ← Nat.pow_add]; congr 2; omega
  split
  · rw [← e]; simp [Int.neg_mul]
  · rw [← e]; simp

theorem order_nan (hG : Good f) (x y : Nat) (h : isN f x = true ∨ isN f y = true) : f.order x y = none := by
  unfold Format.order
  simp only [isN, decide_eq_true_eq] at h
  rcases h with h | h
  · obtain ⟨t, e⟩ := read_nan f hG x h
    rw [e]; rfl
  · obtain ⟨t, e⟩ := read_nan f hG y h
    rw [e]; unfold Datum.order; split <;> simp_all

theorem order_key (hG : Good f) (x y : Nat) (hx : isN f x = false) (hy : isN f y = false) : f.order x y = some (compare (key f x) (key f y)) := by
  simp only [isN, decide_eq_false_iff_not, Nat.not_lt] at hx hy
  have hi : 0 < f.infRung := Nat.lt_of_lt_of_le (bin_pos f) (bin_le f hG)
  unfold Format.order
  rcases Nat.lt_or_eq_of_le hx with h | h <;> rcases Nat.lt_or_eq_of_le hy with g | g
  · obtain ⟨m, i, e, hv⟩ := read_fin f x h
    obtain ⟨n, j, e', hv'⟩ := read_fin f y g
    rw [e, e']
    show some (compare _ _) = _
    congr 1
    have hb : min (f.leastPlace + (i : Int)) (f.leastPlace + j) = f.leastPlace + (min i j : Nat) := by omega
    rw [hb]
    have e1 : (f.leastPlace + (i : Int) - (f.leastPlace + (min i j : Nat))).toNat = i - min i j := by omega
    have e2 : (f.leastPlace + (j : Int) - (f.leastPlace + (min i j : Nat))).toNat = j - min i j := by omega
    rw [e1, e2]
    have a1 := signed_sval f x m i (min i j) hv (Nat.min_le_left _ _)
    have a2 := signed_sval f y n j (min i j) hv' (Nat.min_le_right _ _)
    have hp : (0 : Int) < (2 ^ min i j : Nat) := by exact_mod_cast Nat.two_pow_pos _
    apply cmp_congr
    · rw [← sval_lt_iff, ← a1, ← a2]
      exact (Int.mul_lt_mul_right hp).symm
    · rw [← sval_eq_iff, ← a1, ← a2]
      constructor
      · intro h; rw [h]
      · intro h; exact Int.eq_of_mul_eq_mul_right (by omega) h
  · obtain ⟨m, i, e, hv⟩ := read_fin f x h
    rw [e, read_inf f hG y g]
    show some _ = some _
    congr 1
    unfold key
    rw [g]
    split <;> split <;> simp only [compare, compareOfLessAndEq] <;> simp_all <;> (repeat' split) <;> first | omega | rfl | simp_all
    all_goals omega
  · obtain ⟨m, i, e, hv⟩ := read_fin f y g
    rw [e, read_inf f hG x h]
    show some _ = some _
    congr 1
    unfold key
    rw [h]
    split <;> split <;> simp only [compare, compareOfLessAndEq] <;> simp_all <;> (repeat' split) <;> first | omega | rfl | simp_all
    all_goals omega
  · rw [read_inf f hG x h, read_inf f hG y g]
    show some _ = some _
    congr 1
    unfold key
    rw [h, g]
    cases sgn f x <;> cases sgn f y <;> simp only [compare, compareOfLessAndEq] <;> simp_all <;> (repeat' split) <;> first | omega | rfl | simp_all

/-- the opposite word -/
def negw (x : Nat) : Nat := x ^^^ f.signWeight

theorem negw_word (s : Bool) (r : Nat) (h : r < f.signWeight) : negw f (f.word s r) = f.word (!s) r := by
  have hx : r ^^^ f.signWeight = f.signWeight + r := by
    unfold Format.signWeight at h ⊢
    apply Nat.eq_of_testBit_eq
    intro i
    rw [Nat.testBit_xor, Nat.testBit_two_pow]
    by_cases hi : f.exponentBits + f.fractionBits = i
    · subst hi
      rw [Nat.testBit_two_pow_add_eq, Nat.testBit_lt_two_pow h]; simp
    · rcases Nat.lt_or_ge i (f.exponentBits + f.fractionBits) with h1 | h1
      · rw [Nat.testBit_two_pow_add_gt h1]; simp [hi]
      · have h2 : r < 2 ^ i := Nat.lt_of_lt_of_le h (Nat.pow_le_pow_right (by omega) h1)
        have h3 : 2 ^ (f.exponentBits + f.fractionBits) + r < 2 ^ i := by
          have : 2 ^ (f.exponentBits + f.fractionBits + 1) ≤ 2 ^ i := Nat.pow_le_pow_right (by omega) (by omega)
          rw [Nat.pow_succ] at this; omega
        rw [Nat.testBit_lt_two_pow h2, Nat.testBit_lt_two_pow h3]; simp [hi]
  unfold negw Format.word
  cases s
  · simpa using hx
  · simp only [Bool.not_true, if_true, Bool.false_eq_true, if_false]
    rw [← hx, Nat.xor_assoc, Nat.xor_self, Nat.xor_zero]

theorem negw_negw (x : Nat) : negw f (negw f x) = x := by unfold negw; rw [Nat.xor_assoc, Nat.xor_self, Nat.xor_zero]

theorem negw_eq (x : Nat) (h : x < 2 ^ f.width) : negw f x = f.word (!sgn f x) (rung f x) := by
  rw [← negw_word f _ _ (rung_lt f x), word_split f x h]
theorem rung_negw (x : Nat) (h : x < 2 ^ f.width) : rung f (negw f x) = rung f x := by
  rw [negw_eq f x h, rung_word f _ _ (rung_lt f x)]
theorem sgn_negw (x : Nat) (h : x < 2 ^ f.width) : sgn f (negw f x) = !sgn f x := by
  rw [negw_eq f x h, sgn_word f _ _ (rung_lt f x)]
theorem negw_lt (x : Nat) (h : x < 2 ^ f.width) : negw f x < 2 ^ f.width := by
  rw [negw_eq f x h]; exact f.word_lt _ (rung_lt f x)
theorem isN_negw (x : Nat) (h : x < 2 ^ f.width) : isN f (negw f x) = isN f x := by unfold isN; rw [rung_negw f x h]
theorem key_negw (x : Nat) (h : x < 2 ^ f.width) : key f (negw f x) = - key f x := by
  unfold key; rw [rung_negw f x h, sgn_negw f x h]; cases sgn f x <;> simp
theorem sval_negw (x : Nat) (h : x < 2 ^ f.width) : sval f (negw f x) = - sval f x := by
  unfold sval; rw [rung_negw f x h, sgn_negw f x h]; cases sgn f x <;> simp

/-! ### the product -/
/-- the product's rung, of two finite rungs -/
def mulR (r q : Nat) : Nat := min (rungOf f (-f.leastPlace).toNat (val f r * val f q)) f.infRung
def mulRI (r q : Nat) : Nat := if r = f.infRung ∨ q = f.infRung then f.infRung else mulR f r q
/-- infinity times zero -/
def mulBad (r q : Nat) : Prop := r = f.infRung ∧ q = 0 ∨ r = 0 ∧ q = f.infRung
instance (r q : Nat) : Decidable (mulBad f r q) := by unfold mulBad; infer_instance

theorem inf_pos (hG : Good f) : 0 < f.infRung := Nat.lt_of_lt_of_le (bin_pos f) (bin_le f hG)

theorem mul_nan (hG : Good f) (x y : Nat) (h : isN f x = true ∨ isN f y = true) : f.mul x y = none := by
  unfold Format.mul
  simp only [isN, decide_eq_true_eq] at h
  rcases h with h | h
  · obtain ⟨t, e⟩ := read_nan f hG x h
    rw [e]; rfl
  · obtain ⟨t, e⟩ := read_nan f hG y h
    rw [e]; unfold Datum.product; split <;> simp_all

theorem fin_zero_iff {m k r : Nat} (hv : m * 2 ^ k = val f r) : m = 0 ↔ r = 0 := by
  have p := Nat.two_pow_pos k
  constructor
  · intro h; subst h
    rw [Nat.zero_mul] at hv
    rcases Nat.eq_zero_or_pos r with h | h
    · exact h
    · have := val_pos f h; omega
  · intro h; subst h
    rw [val_zero] at hv
    rcases Nat.mul_eq_zero.1 hv with h | h
    · exact h
    · omega

theorem mul_eq (hG : Good f) (x y : Nat) (hx : isN f x = false) (hy : isN f y = false) :
    f.mul x y = if mulBad f (rung f x) (rung f y) then none else some (f.word (sgn f x ^^ sgn f y) (mulRI f (rung f x) (rung f y))) := by
  simp only [isN, decide_eq_false_iff_not, Nat.not_lt] at hx hy
  have hi := inf_pos f hG
  unfold Format.mul
  rcases Nat.lt_or_eq_of_le hx with h | h <;> rcases Nat.lt_or_eq_of_le hy with g | g
  · obtain ⟨m, i, e, hv⟩ := read_fin f x h
    obtain ⟨n, j, e', hv'⟩ := read_fin f y g
    rw [if_neg (by unfold mulBad; omega)]
    unfold mulRI
    rw [e, e', if_neg (by omega)]
    show some (f.nearest _ _ _) = _
    congr 1
    have hl := lp_neg f hG
    rw [nearest_eq f (sgn f x ^^ sgn f y) (m * n) _ (-f.leastPlace).toNat (i + j) (by omega)]
    unfold mulR
    congr 3
    rw [← hv, ← hv', Nat.pow_add]
    rw [Nat.mul_assoc, Nat.mul_left_comm n, ← Nat.mul_assoc, Nat.mul_assoc m]
  · obtain ⟨m, i, e, hv⟩ := read_fin f x h
    have hz := fin_zero_iff f hv
    rw [e, read_inf f hG y g]
    by_cases h0 : rung f x = 0
    · rw [if_pos (by unfold mulBad; omega)]
      simp [Datum.product, hz.2 h0]
    · rw [if_neg (by unfold mulBad; omega)]
      unfold mulRI
      rw [if_pos (.inr g)]
      have : ¬ m = 0 := fun a => h0 (hz.1 a)
      simp [Datum.product, this, Format.write, Bool.xor_comm]
  · obtain ⟨m, i, e, hv⟩ := read_fin f y g
    have hz := fin_zero_iff f hv
    rw [e, read_inf f hG x h]
    by_cases h0 : rung f y = 0
    · rw [if_pos (by unfold mulBad; omega)]
      simp [Datum.product, hz.2 h0]
    · rw [if_neg (by unfold mulBad; omega)]
      unfold mulRI
      rw [if_pos (.inl h)]
      have : ¬ m = 0 := fun a => h0 (hz.1 a)
      simp [Datum.product, this, Format.write]
  · rw [read_inf f hG x h, read_inf f hG y g, if_neg (by unfold mulBad; omega)]
    unfold mulRI
    rw [if_pos (.inl h)]
    rfl

theorem mulR_le (r q : Nat) : mulR f r q ≤ f.infRung := Nat.min_le_right _ _
theorem mulRI_le (r q : Nat) : mulRI f r q ≤ f.infRung := by unfold mulRI; split; exact Nat.le_refl _; exact mulR_le f r q
theorem mulRI_comm (r q : Nat) : mulRI f r q = mulRI f q r := by unfold mulRI mulR; simp only [Nat.mul_comm (val f r), or_comm (a := r = f.infRung)]
theorem mulBad_comm (r q : Nat) : mulBad f r q ↔ mulBad f q r := by unfold mulBad; omega

/-! ### the sum -/
def addR (s : Int) : Nat := min (rungOf f 0 s.natAbs) f.infRung
/-- the sum of two words that are no NaN -/
def addW (x y : Nat) : Option Nat :=
  if rung f x = f.infRung then
    if rung f y = f.infRung then (if sgn f x = sgn f y then some (f.word (sgn f x) f.infRung) else none)
    else some (f.word (sgn f x) f.infRung)
  else if rung f y = f.infRung then some (f.word (sgn f y) f.infRung)
  else some (f.word (if sval f x + sval f y = 0 then sgn f x && sgn f y else decide (sval f x + sval f y < 0)) (addR f (sval f x + sval f y)))

theorem add_nan (hG : Good f) (x y : Nat) (h : isN f x = true ∨ isN f y = true) : f.add x y = none := by
  unfold Format.add
  simp only [isN, decide_eq_true_eq] at h
  rcases h with h | h
  · obtain ⟨t, e⟩ := read_nan f hG x h
    rw [e]; rfl
  · obtain ⟨t, e⟩ := read_nan f hG y h
    rw [e]; unfold Datum.sum; split <;> simp_all

theorem add_eq (hG : Good f) (x y : Nat) (hx : isN f x = false) (hy : isN f y = false) : f.add x y = addW f x y := by
  simp only [isN, decide_eq_false_iff_not, Nat.not_lt] at hx hy
  have hi := inf_pos f hG
  unfold Format.add addW
  rcases Nat.lt_or_eq_of_le hx with h | h <;> rcases Nat.lt_or_eq_of_le hy with g | g
  · obtain ⟨m, i, e, hv⟩ := read_fin f x h
    obtain ⟨n, j, e', hv'⟩ := read_fin f y g
    rw [e, e', if_neg (by omega), if_neg (by omega)]
    have hb : min (f.leastPlace + (i : Int)) (f.leastPlace + j) = f.leastPlace + (min i j : Nat) := by omega
    have a1 := signed_sval f x m i (min i j) hv (Nat.min_le_left _ _)
    have a2 := signed_sval f y n j (min i j) hv' (Nat.min_le_right _ _)
    have hp : (0 : Int) < (2 ^ min i j : Nat) := by exact_mod_cast Nat.two_pow_pos _
    simp only [Datum.sum, Option.map_some, Format.write]
    rw [hb]
    have e1 : (f.leastPlace + (i : Int) - (f.leastPlace + (min i j : Nat))).toNat = i - min i j := by omega
    have e2 : (f.leastPlace + (j : Int) - (f.leastPlace + (min i j : Nat))).toNat = j - min i j := by omega
    rw [e1, e2]
    obtain ⟨t, ht⟩ : ∃ t, signed (sgn f x) m (i - min i j) + signed (sgn f y) n (j - min i j) = t := ⟨_, rfl⟩
    have hs : t * (2 ^ min i j : Nat) = sval f x + sval f y := by rw [← ht, Int.add_mul, a1, a2]
    rw [ht, ← hs]
    congr 1
    rw [nearest_eq f _ _ _ 0 (min i j) (by omega)]
    have c1 : (t * (2 ^ min i j : Nat) = 0) ↔ t = 0 := by
      constructor
      · intro h; rcases Int.mul_eq_zero.1 h with h | h
        · exact h
        · omega
      · intro h; rw [h, Int.zero_mul]
    have c2 : (t * (2 ^ min i j : Nat) < 0) ↔ t < 0 := by
      have := Int.mul_lt_mul_right (a := (2 ^ min i j : Nat)) (b := t) (c := 0) hp
      rw [Int.zero_mul] at this; exact this
    have c3 : (t * (2 ^ min i j : Nat)).natAbs = t.natAbs * 2 ^ min i j := by rw [Int.natAbs_mul, Int.natAbs_natCast]
    unfold addR
    rw [c3]
    simp only [c1, c2]
  · obtain ⟨m, i, e, hv⟩ := read_fin f x h
    rw [e, read_inf f hG y g, if_neg (by omega), if_pos g]
    rfl
  · obtain ⟨m, i, e, hv⟩ := read_fin f y g
    rw [e, read_inf f hG x h, if_pos h, if_neg (by omega)]
    rfl
  · rw [read_inf f hG x h, read_inf f hG y g, if_pos h, if_pos g]
    simp only [Datum.sum]
    split <;> rfl

theorem opposite_read (y : Nat) (hy : y < 2 ^ f.width) (hn : isN f y = false) : (f.read y).opposite = f.read (negw f y) := by
  have hn' := hn
  simp only [isN, decide_eq_false_iff_not, Nat.not_lt] at hn
  have hr := rung_negw f y hy
  have hs := sgn_negw f y hy
  unfold Format.read
  have e1 : negw f y % f.signWeight = y % f.signWeight := hr
  have e2 : (negw f y / f.signWeight % 2 == 1) = !(y / f.signWeight % 2 == 1) := hs
  simp only [e1, e2]
  have hn2 : y % f.signWeight ≤ f.infRung := hn
  by_cases h0 : y % f.signWeight < f.binade
  · rw [if_pos h0, if_pos h0]; rfl
  · by_cases h1 : y % f.signWeight < f.infRung
    · rw [if_neg h0, if_neg h0, if_pos h1, if_pos h1]; rfl
    · rw [if_neg h0, if_neg h0, if_neg h1, if_neg h1, if_pos (by omega), if_pos (by omega)]; rfl

theorem sub_eq_add (hG : Good f) (x y : Nat) (hy : y < 2 ^ f.width) : f.sub x y = f.add x (negw f y) := by
  cases hn : isN f y with
  | true =>
    rw [add_nan f hG x _ (.inr (by rw [isN_negw f y hy]; exact hn))]
    unfold Format.sub
    simp only [isN, decide_eq_true_eq] at hn
    obtain ⟨t, e⟩ := read_nan f hG y hn
    rw [e]; unfold Datum.opposite Datum.sum; split <;> simp_all
  | false =>
    unfold Format.sub Format.add
    rw [opposite_read f y hy hn]

/-- one NaN that stands for all -/
def qn : Nat := f.infRung + 1
def addT (x y : Nat) : Nat := (f.add x y).getD (qn f)
def subT (x y : Nat) : Nat := (f.sub x y).getD (qn f)
def mulT (x y : Nat) : Nat := (f.mul x y).getD (qn f)
def divT (x y : Nat) : Nat := (f.div x y).getD (qn f)

/-- the same word, or both a NaN -/
def Sim (x y : Nat) : Prop := x = y ∨ (isN f x = true ∧ isN f y = true)
/-- equal as numbers, or both a NaN -/
def Like (x y : Nat) : Prop := (isN f x = true ∧ isN f y = true) ∨ (isN f x = false ∧ isN f y = false ∧ key f x = key f y)

theorem Sim.refl (x : Nat) : Sim f x x := .inl rfl
theorem Like.refl (x : Nat) : Like f x x := by unfold Like; cases isN f x <;> simp
variable {f}
theorem Sim.symm {x y : Nat} (h : Sim f x y) : Sim f y x := by
  rcases h with h | h
  · exact .inl h.symm
  · exact .inr ⟨h.2, h.1⟩
theorem Sim.trans {x y z : Nat} (h : Sim f x y) (k : Sim f y z) : Sim f x z := by
  rcases h with rfl | h
  · exact k
  · rcases k with rfl | k
    · exact .inr h
    · exact .inr ⟨h.1, k.2⟩
theorem Like.symm {x y : Nat} (h : Like f x y) : Like f y x := by
  rcases h with h | h
  · exact .inl ⟨h.2, h.1⟩
  · exact .inr ⟨h.2.1, h.1, h.2.2.symm⟩
theorem Like.trans {x y z : Nat} (h : Like f x y) (k : Like f y z) : Like f x z := by
  unfold Like at *; rcases h with h | h <;> rcases k with k | k
  · exact .inl ⟨h.1, k.2⟩
  · rw [k.1] at h; simp at h
  · rw [h.2.1] at k; simp at k
  · exact .inr ⟨h.1, k.2.1, h.2.2.trans k.2.2⟩
theorem Sim.like {x y : Nat} (h : Sim f x y) : Like f x y := by
  rcases h with rfl | h
  · exact Like.refl f x
  · exact .inl h
theorem Sim.isN {x y : Nat} (h : Sim f x y) : isN f x = isN f y := by
  rcases h with rfl | h
  · rfl
  · rw [h.1, h.2]
theorem Like.isN {x y : Nat} (h : Like f x y) : Fl.isN f x = Fl.isN f y := by
  rcases h with h | h
  · rw [h.1, h.2]
  · rw [h.1, h.2.1]
theorem Sim.eq_of {x y : Nat} (h : Sim f x y) (hn : Fl.isN f y = false) : x = y := by
  rcases h with rfl | h
  · rfl
  · rw [hn] at h; simp at h
theorem Like.key_of {x y : Nat} (h : Like f x y) (hn : Fl.isN f y = false) : key f x = key f y := by
  rcases h with h | h
  · rw [hn] at h; simp at h
  · exact h.2.2
variable (f)

theorem infRung_succ (hG : Good f) : f.infRung + 1 < f.signWeight := by
  have := f.infRung_add_binade
  have h : 2 ^ 1 ≤ f.binade := Nat.pow_le_pow_right (by omega) (by have := hG.fb; omega)
  omega
theorem isN_qn (hG : Good f) : isN f (qn f) = true := by
  have := infRung_succ f hG
  unfold isN qn rung; rw [Nat.mod_eq_of_lt this]; simp
theorem isN_word (s : Bool) (r : Nat) (h : r ≤ f.infRung) : isN f (f.word s r) = false := by
  unfold isN; rw [rung_word f s r (Nat.lt_of_le_of_lt h (inf_lt f))]; simp; omega
theorem two_sw : 2 ^ f.width = 2 * f.signWeight := by
  unfold Format.width Format.signWeight
  rw [Nat.add_assoc, Nat.add_comm 1, Nat.pow_succ, Nat.mul_comm]
theorem qn_lt (hG : Good f) : qn f < 2 ^ f.width := by
  have := infRung_succ f hG
  rw [two_sw]; unfold qn; omega

theorem getD_lt (hG : Good f) {o : Option Nat} (h : ∀ r, o = some r → r < 2 ^ f.width) : o.getD (qn f) < 2 ^ f.width := by
  cases o with
  | none => exact qn_lt f hG
  | some r => exact h r rfl
theorem addT_lt (hG : Good f) (x y : Nat) : addT f x y < 2 ^ f.width := getD_lt f hG fun _ h => f.add_lt h
theorem subT_lt (hG : Good f) (x y : Nat) : subT f x y < 2 ^ f.width := getD_lt f hG fun _ h => f.sub_lt h
theorem mulT_lt (hG : Good f) (x y : Nat) : mulT f x y < 2 ^ f.width := getD_lt f hG fun _ h => f.mul_lt h
theorem divT_lt (hG : Good f) (x y : Nat) : divT f x y < 2 ^ f.width := getD_lt f hG fun _ h => f.div_lt h

theorem sub_nan (hG : Good f) (x y : Nat) (h : isN f x = true ∨ isN f y = true) : f.sub x y = none := by
  unfold Format.sub
  simp only [isN, decide_eq_true_eq] at h
  rcases h with h | h
  · obtain ⟨t, e⟩ := read_nan f hG x h
    rw [e]; rfl
  · obtain ⟨t, e⟩ := read_nan f hG y h
    rw [e]; unfold Datum.opposite Datum.sum; split <;> simp_all
theorem div_nan (hG : Good f) (x y : Nat) (h : isN f x = true ∨ isN f y = true) : f.div x y = none := by
  unfold Format.div
  simp only [isN, decide_eq_true_eq] at h
  rcases h with h | h
  · obtain ⟨t, e⟩ := read_nan f hG x h
    rw [e]; rfl
  · obtain ⟨t, e⟩ := read_nan f hG y h
    rw [e]; unfold Datum.quotient; split <;> simp_all

theorem bin_sim (op : Nat → Nat → Option Nat) (hop : ∀ x y, isN f x = true ∨ isN f y = true → op x y = none) {x x' y y' : Nat} (hx : Sim f x x') (hy : Sim f y y') : op x y = op x' y' := by
  rcases hx with rfl | hx
  · rcases hy with rfl | hy
    · rfl
    · rw [hop _ _ (.inr hy.1), hop _ _ (.inr hy.2)]
  · rw [hop _ _ (.inl hx.1), hop _ _ (.inl hx.2)]
theorem add_sim (hG : Good f) {x x' y y' : Nat} (hx : Sim f x x') (hy : Sim f y y') : f.add x y = f.add x' y' := bin_sim f _ (add_nan f hG) hx hy
theorem sub_sim (hG : Good f) {x x' y y' : Nat} (hx : Sim f x x') (hy : Sim f y y') : f.sub x y = f.sub x' y' := bin_sim f _ (sub_nan f hG) hx hy
theorem mul_sim (hG : Good f) {x x' y y' : Nat} (hx : Sim f x x') (hy : Sim f y y') : f.mul x y = f.mul x' y' := bin_sim f _ (mul_nan f hG) hx hy
theorem div_sim (hG : Good f) {x x' y y' : Nat} (hx : Sim f x x') (hy : Sim f y y') : f.div x y = f.div x' y' := bin_sim f _ (div_nan f hG) hx hy
theorem order_sim (hG : Good f) {x x' y y' : Nat} (hx : Sim f x x') (hy : Sim f y y') : f.order x y = f.order x' y' := by
  rcases hx with rfl | hx
  · rcases hy with rfl | hy
    · rfl
    · rw [order_nan f hG _ _ (.inr hy.1), order_nan f hG _ _ (.inr hy.2)]
  · rw [order_nan f hG _ _ (.inl hx.1), order_nan f hG _ _ (.inl hx.2)]
theorem addT_sim (hG : Good f) {x x' y y' : Nat} (hx : Sim f x x') (hy : Sim f y y') : addT f x y = addT f x' y' := by unfold addT; rw [add_sim f hG hx hy]
theorem subT_sim (hG : Good f) {x x' y y' : Nat} (hx : Sim f x x') (hy : Sim f y y') : subT f x y = subT f x' y' := by unfold subT; rw [sub_sim f hG hx hy]
theorem mulT_sim (hG : Good f) {x x' y y' : Nat} (hx : Sim f x x') (hy : Sim f y y') : mulT f x y = mulT f x' y' := by unfold mulT; rw [mul_sim f hG hx hy]
theorem divT_sim (hG : Good f) {x x' y y' : Nat} (hx : Sim f x x') (hy : Sim f y y') : divT f x y = divT f x' y' := by unfold divT; rw [div_sim f hG hx hy]
theorem negw_sim {x x' : Nat} (hx : x < 2 ^ f.width) (hx' : x' < 2 ^ f.width) (h : Sim f x x') : Sim f (negw f x) (negw f x') := by
  rcases h with rfl | h
  · exact .inl rfl
  · exact .inr ⟨by rw [isN_negw f x hx]; exact h.1, by rw [isN_negw f x' hx']; exact h.2⟩

/-! ### equal keys -/
theorem key_cases {x y : Nat} (h : key f x = key f y) : rung f x = rung f y ∧ (sgn f x = sgn f y ∨ rung f x = 0) := by
  unfold key at h
  cases hx : sgn f x <;> cases hy : sgn f y <;> rw [hx, hy] at h <;> simp only [if_true, if_false, Bool.false_eq_true] at h <;> refine ⟨by omega, ?_⟩ <;> first | (left; rfl) | (right; omega)
theorem sval_of_key {x y : Nat} (h : key f x = key f y) : sval f x = sval f y := (sval_eq_iff f x y).2 h
theorem key_word (s : Bool) (r : Nat) (h : r < f.signWeight) : key f (f.word s r) = if s then -(r : Int) else r := by
  unfold key; rw [sgn_word f s r h, rung_word f s r h]

theorem mulT_nan (hG : Good f) {x y : Nat} (h : isN f x = true ∨ isN f y = true) : mulT f x y = qn f := by unfold mulT; rw [mul_nan f hG x y h]; rfl
theorem addT_nan (hG : Good f) {x y : Nat} (h : isN f x = true ∨ isN f y = true) : addT f x y = qn f := by unfold addT; rw [add_nan f hG x y h]; rfl

theorem mulT_eq (hG : Good f) (x y : Nat) (hx : isN f x = false) (hy : isN f y = false) :
    mulT f x y = if mulBad f (rung f x) (rung f y) then qn f else f.word (sgn f x ^^ sgn f y) (mulRI f (rung f x) (rung f y)) := by
  unfold mulT; rw [mul_eq f hG x y hx hy]; split <;> rfl

theorem mulR_zero (r : Nat) : mulR f 0 r = 0 := by unfold mulR; rw [val_zero, Nat.zero_mul, rungOf_zero, Nat.zero_min]

theorem mulT_like_l (hG : Good f) {x x' y : Nat} (h : Like f x x') : Like f (mulT f x y) (mulT f x' y) := by
  rcases h with h | ⟨h1, h2, h3⟩
  · rw [mulT_nan f hG (.inl h.1), mulT_nan f hG (.inl h.2)]; exact Like.refl f _
  · cases hy : isN f y with
    | true => rw [mulT_nan f hG (.inr hy), mulT_nan f hG (.inr hy)]; exact Like.refl f _
    | false =>
      obtain ⟨hr, hs⟩ := key_cases f h3
      rw [mulT_eq f hG _ _ h1 hy, mulT_eq f hG _ _ h2 hy, ← hr]
      by_cases hb : mulBad f (rung f x) (rung f y)
      · rw [if_pos hb, if_pos hb]; exact Like.refl f _
      · rw [if_neg hb, if_neg hb]
        have hl := mulRI_le f (rung f x) (rung f y)
        refine .inr ⟨isN_word f _ _ hl, isN_word f _ _ hl, ?_⟩
        have hl' := Nat.lt_of_le_of_lt hl (inf_lt f)
        rw [key_word f _ _ hl', key_word f _ _ hl']
        rcases hs with hs | hs
        · rw [hs]
        · have : mulRI f (rung f x) (rung f y) = 0 := by
            unfold mulRI
            have := inf_pos f hG
            unfold mulBad at hb
            rw [if_neg (by omega), hs, mulR_zero]
          rw [this]; simp
theorem mul_comm' (hG : Good f) (x y : Nat) : f.mul x y = f.mul y x := by
  cases hx : isN f x with
  | true => rw [mul_nan f hG _ _ (.inl hx), mul_nan f hG _ _ (.inr hx)]
  | false =>
    cases hy : isN f y with
    | true => rw [mul_nan f hG _ _ (.inr hy), mul_nan f hG _ _ (.inl hy)]
    | false =>
      rw [mul_eq f hG x y hx hy, mul_eq f hG y x hy hx, mulRI_comm, Bool.xor_comm]
      have := mulBad_comm f (rung f x) (rung f y)
      simp only [this]
theorem mulT_comm (hG : Good f) (x y : Nat) : mulT f x y = mulT f y x := by unfold mulT; rw [mul_comm' f hG]
theorem mulT_like (hG : Good f) {x x' y y' : Nat} (h : Like f x x') (k : Like f y y') : Like f (mulT f x y) (mulT f x' y') := by
  refine (mulT_like_l f hG h).trans ?_
  rw [mulT_comm f hG x', mulT_comm f hG x']
  exact mulT_like_l f hG k

/-- a product with an opposite -/
theorem mulT_neg (hG : Good f) (x y : Nat) (hx : x < 2 ^ f.width) : Sim f (mulT f (negw f x) y) (negw f (mulT f x y)) := by
  have hN : isN f (negw f (qn f)) = true := by rw [isN_negw f _ (qn_lt f hG)]; exact isN_qn f hG
  cases hn : isN f x with
  | true =>
    rw [mulT_nan f hG (.inl (by rw [isN_negw f x hx]; exact hn)), mulT_nan f hG (.inl hn)]
    exact .inr ⟨isN_qn f hG, hN⟩
  | false =>
    cases hy : isN f y with
    | true =>
      rw [mulT_nan f hG (.inr hy), mulT_nan f hG (.inr hy)]
      exact .inr ⟨isN_qn f hG, hN⟩
    | false =>
      rw [mulT_eq f hG _ _ (by rw [isN_negw f x hx]; exact hn) hy, mulT_eq f hG _ _ hn hy, rung_negw f x hx, sgn_negw f x hx]
      by_cases hb : mulBad f (rung f x) (rung f y)
      · rw [if_pos hb, if_pos hb]; exact .inr ⟨isN_qn f hG, hN⟩
      · rw [if_neg hb, if_neg hb, negw_word f _ _ (Nat.lt_of_le_of_lt (mulRI_le f _ _) (inf_lt f))]
        left; congr 1; cases sgn f x <;> cases sgn f y <;> rfl

/-! ### sums -/
theorem addT_eq (hG : Good f) (x y : Nat) (hx : isN f x = false) (hy : isN f y = false) : addT f x y = (addW f x y).getD (qn f) := by
  unfold addT; rw [add_eq f hG x y hx hy]
theorem addW_comm (x y : Nat) : addW f x y = addW f y x := by
  unfold addW
  rw [Int.add_comm (sval f y), Bool.and_comm (sgn f y)]
  by_cases h1 : rung f x = f.infRung <;> by_cases h2 : rung f y = f.infRung <;> simp [h1, h2]
  by_cases h3 : sgn f x = sgn f y
  · rw [if_pos h3, if_pos h3.symm, h3]
  · rw [if_neg h3, if_neg (fun h => h3 h.symm)]
theorem add_comm' (hG : Good f) (x y : Nat) : f.add x y = f.add y x := by
  cases hx : isN f x with
  | true => rw [add_nan f hG _ _ (.inl hx), add_nan f hG _ _ (.inr hx)]
  | false =>
    cases hy : isN f y with
    | true => rw [add_nan f hG _ _ (.inr hy), add_nan f hG _ _ (.inl hy)]
    | false => rw [add_eq f hG x y hx hy, add_eq f hG y x hy hx, addW_comm]
theorem addT_comm (hG : Good f) (x y : Nat) : addT f x y = addT f y x := by unfold addT; rw [add_comm' f hG]
theorem addR_le (s : Int) : addR f s ≤ f.infRung := Nat.min_le_right _ _
theorem addR_zero : addR f 0 = 0 := by unfold addR; simp [rungOf_zero]

theorem addT_like_l (hG : Good f) {x x' y : Nat} (h : Like f x x') : Like f (addT f x y) (addT f x' y) := by
  rcases h with h | ⟨h1, h2, h3⟩
  · rw [addT_nan f hG (.inl h.1), addT_nan f hG (.inl h.2)]; exact Like.refl f _
  · cases hy : isN f y with
    | true => rw [addT_nan f hG (.inr hy), addT_nan f hG (.inr hy)]; exact Like.refl f _
    | false =>
      obtain ⟨hr, hs⟩ := key_cases f h3
      rw [addT_eq f hG _ _ h1 hy, addT_eq f hG _ _ h2 hy]
      unfold addW
      rw [← hr, ← sval_of_key f h3]
      have hi := inf_pos f hG
      by_cases c1 : rung f x = f.infRung
      · have hs' : sgn f x = sgn f x' := by
          rcases hs with h | h
          · exact h
          · omega
        rw [← hs']; exact Like.refl f _
      · rw [if_neg c1, if_neg c1]
        by_cases c2 : rung f y = f.infRung
        · rw [if_pos c2, if_pos c2]; exact Like.refl f _
        · rw [if_neg c2, if_neg c2]
          simp only [Option.getD_some]
          by_cases c3 : sval f x + sval f y = 0
          · rw [if_pos c3, if_pos c3, c3, addR_zero]
            have hw := inf_lt f
            refine .inr ⟨isN_word f _ _ (by omega), isN_word f _ _ (by omega), ?_⟩
            rw [key_word f _ _ (by omega), key_word f _ _ (by omega)]; simp
          · rw [if_neg c3, if_neg c3]; exact Like.refl f _
theorem addT_like (hG : Good f) {x x' y y' : Nat} (h : Like f x x') (k : Like f y y') : Like f (addT f x y) (addT f x' y') := by
  refine (addT_like_l f hG h).trans ?_
  rw [addT_comm f hG x', addT_comm f hG x']
  exact addT_like_l f hG k
theorem negw_like {x x' : Nat} (hx : x < 2 ^ f.width) (hx' : x' < 2 ^ f.width) (h : Like f x x') : Like f (negw f x) (negw f x') := by
  rcases h with h | ⟨h1, h2, h3⟩
  · exact .inl ⟨by rw [isN_negw f x hx]; exact h.1, by rw [isN_negw f x' hx']; exact h.2⟩
  · exact .inr ⟨by rw [isN_negw f x hx]; exact h1, by rw [isN_negw f x' hx']; exact h2, by rw [key_negw f x hx, key_negw f x' hx', h3]⟩
theorem subT_eq (hG : Good f) (x y : Nat) (hy : y < 2 ^ f.width) : subT f x y = addT f x (negw f y) := by
  unfold subT addT; rw [sub_eq_add f hG x y hy]
theorem subT_like (hG : Good f) {x x' y y' : Nat} (hy : y < 2 ^ f.width) (hy' : y' < 2 ^ f.width) (h : Like f x x') (k : Like f y y') : Like f (subT f x y) (subT f x' y') := by
  rw [subT_eq f hG x y hy, subT_eq f hG x' y' hy']
  exact addT_like f hG h (negw_like f hy hy' k)

/-- a sum of two opposites -/
theorem addT_neg_like (hG : Good f) (x y : Nat) (hx : x < 2 ^ f.width) (hy : y < 2 ^ f.width) : Like f (addT f (negw f x) (negw f y)) (negw f (addT f x y)) := by
  have hN : isN f (negw f (qn f)) = true := by rw [isN_negw f _ (qn_lt f hG)]; exact isN_qn f hG
  cases hn : isN f x with
  | true =>
    rw [addT_nan f hG (.inl (by rw [isN_negw f x hx]; exact hn)), addT_nan f hG (.inl hn)]
    exact .inl ⟨isN_qn f hG, hN⟩
  | false =>
    cases hy' : isN f y with
    | true =>
      rw [addT_nan f hG (.inr (by rw [isN_negw f y hy]; exact hy')), addT_nan f hG (.inr hy')]
      exact .inl ⟨isN_qn f hG, hN⟩
    | false =>
      have hw := inf_lt f
      rw [addT_eq f hG _ _ (by rw [isN_negw f x hx]; exact hn) (by rw [isN_negw f y hy]; exact hy'), addT_eq f hG _ _ hn hy']
      unfold addW
      rw [rung_negw f x hx, rung_negw f y hy, sgn_negw f x hx, sgn_negw f y hy, sval_negw f x hx, sval_negw f y hy]
      by_cases c1 : rung f x = f.infRung
      · rw [if_pos c1, if_pos c1]
        by_cases c2 : rung f y = f.infRung
        · rw [if_pos c2, if_pos c2]
          by_cases c3 : sgn f x = sgn f y
          · rw [if_pos (by rw [c3]), if_pos c3]; simp only [Option.getD_some]; rw [negw_word f _ _ hw]; exact Like.refl f _
          · rw [if_neg (by intro h; apply c3; simpa using h), if_neg c3]; exact .inl ⟨isN_qn f hG, hN⟩
        · rw [if_neg c2, if_neg c2]; simp only [Option.getD_some]; rw [negw_word f _ _ hw]; exact Like.refl f _
      · rw [if_neg c1, if_neg c1]
        by_cases c2 : rung f y = f.infRung
        · rw [if_pos c2, if_pos c2]; simp only [Option.getD_some]; rw [negw_word f _ _ hw]; exact Like.refl f _
        · rw [if_neg c2, if_neg c2]
          simp only [Option.getD_some]
          have e : -sval f x + -sval f y = -(sval f x + sval f y) := by omega
          rw [e]
          obtain ⟨t, ht⟩ : ∃ t, sval f x + sval f y = t := ⟨_, rfl⟩
          rw [ht]
          have hR : addR f (-t) = addR f t := by unfold addR; rw [Int.natAbs_neg]
          have hl := addR_le f t
          rw [hR, negw_word f _ _ (by omega)]
          refine .inr ⟨isN_word f _ _ hl, isN_word f _ _ hl, ?_⟩
          rw [key_word f _ _ (by omega), key_word f _ _ (by omega)]
          by_cases c3 : t = 0
          · subst c3; rw [addR_zero]; simp
          · have e1 : (if -t = 0 then (!sgn f x && !sgn f y) else decide (-t < 0)) = !decide (t < 0) := by
              rw [if_neg (by omega), Bool.eq_iff_iff]; simp; omega
            rw [e1, if_neg c3]
end Go.Proofs.Ytakhgppjgeeihaa.Fl
