/-
  Plain laws of zeros and ones among the doubles: a product with zero, a sum with zero, a quotient by 1, a product with 1. Conditions: as each says.
-/
import Derived.Test.YtakhgppjgeeihaaFlt3
namespace Go.Proofs.Ytakhgppjgeeihaa.Fl
open Ieee Go
variable (f : Format)

theorem nearest_scale (s : Bool) (m k : Nat) (e : Int) : f.nearest s (m * 2 ^ k) e = f.nearest s m (e + k) := by
  obtain ⟨P, hP⟩ : ∃ P : Nat, P = (f.leastPlace - e).toNat := ⟨_, rfl⟩
  obtain ⟨j, hj⟩ : ∃ j : Nat, j = (e - f.leastPlace + P).toNat := ⟨_, rfl⟩
  rw [nearest_eq f s (m * 2 ^ k) e P j (by omega), nearest_eq f s m (e + k) P (k + j) (by omega), Nat.mul_assoc, ← Nat.pow_add]

/-- a finite word is its number's nearest word -/
theorem nearest_read (hG : Good f) (x : Nat) (hx : x < 2 ^ f.width) (hf : rung f x < f.infRung) :
    ∃ m k : Nat, f.read x = .number (sgn f x) m (f.leastPlace + k) ∧ m * 2 ^ k = val f (rung f x) ∧ f.nearest (sgn f x) m (f.leastPlace + k) = x := by
  obtain ⟨m, k, e, hv⟩ := read_fin f x hf
  refine ⟨m, k, e, hv, ?_⟩
  have h := write_read f hG x hx (by simp [isN]; omega)
  rw [e] at h; exact h

theorem mulT_zero (hG : Good f) (x z : Nat) (hx : rung f x < f.infRung) (hz : rung f z = 0) : isN f (mulT f x z) = false ∧ rung f (mulT f x z) = 0 := by
  have hi := inf_pos f hG
  have hw := inf_lt f
  have h1 : isN f x = false := by simp [isN]; omega
  have h2 : isN f z = false := by simp [isN]; omega
  rw [mulT_eq f hG x z h1 h2, hz, if_neg (by unfold mulBad; omega)]
  have : mulRI f (rung f x) 0 = 0 := by unfold mulRI mulR; rw [if_neg (by omega), val_zero, Nat.mul_zero, rungOf_zero, Nat.zero_min]
  rw [this]
  exact ⟨isN_word f _ _ (by omega), rung_word f _ _ (by omega)⟩
theorem addT_zero (hG : Good f) (x z : Nat) (hx : rung f x < f.infRung) (hz : rung f z = 0) : Like f (addT f x z) x := by
  have hi := inf_pos f hG
  have hw := inf_lt f
  have h1 : isN f x = false := by simp [isN]; omega
  have h2 : isN f z = false := by simp [isN]; omega
  rw [addT_eq f hG x z h1 h2]
  unfold addW
  rw [if_neg (by omega), if_neg (by omega)]
  have sz : sval f z = 0 := by unfold sval; rw [hz, val_zero]; split <;> rfl
  rw [sz, Int.add_zero]
  have hr : addR f (sval f x) = rung f x := by
    unfold addR; rw [sval_natAbs, rungOf_val]; exact Nat.min_eq_left (by omega)
  rw [hr]
  show Like f (f.word _ _) x
  refine .inr ⟨isN_word f _ _ (by omega), h1, ?_⟩
  rw [key_word f _ _ (by omega)]
  unfold key
  have hp := @val_pos f (rung f x)
  by_cases h0 : rung f x = 0
  · rw [h0]; simp
  · have hv := hp (by omega)
    have hs : sval f x = if sgn f x then -(val f (rung f x) : Int) else val f (rung f x) := rfl
    have hsgn : (if sval f x = 0 then (sgn f x && sgn f z) else decide (sval f x < 0)) = sgn f x := by
      rw [hs]
      cases hsg : sgn f x
      · rw [if_neg Bool.false_ne_true, if_neg (by omega)]; first | (simp; done) | (simp; omega)
      · rw [if_pos rfl, if_neg (by omega)]; first | (simp; done) | (simp; omega)
    rw [hsgn]
theorem addT_zero_eq (hG : Good f) (x z : Nat) (hxl : x < 2 ^ f.width) (hx : rung f x < f.infRung) (hx0 : rung f x ≠ 0) (hz : rung f z = 0) : addT f x z = x := by
  have h := addT_zero f hG x z hx hz
  have h1 : isN f x = false := by simp [isN]; omega
  obtain ⟨h2, h3⟩ := key_cases f (h.key_of h1)
  have hl := addT_lt f hG x z
  have e1 := word_split f _ hl
  rcases h3 with h3 | h3
  · rw [h2, h3, word_split f x hxl] at e1; exact e1.symm
  · omega

/-- like words are the same word, or zeros -/
theorem like_cases {x y : Nat} (hx : x < 2 ^ f.width) (hy : y < 2 ^ f.width) (h : Like f x y) (hn : isN f y = false) : x = y ∨ (rung f x = 0 ∧ rung f y = 0) := by
  obtain ⟨h2, h3⟩ := key_cases f (h.key_of hn)
  rcases h3 with h3 | h3
  · left
    have e1 := word_split f x hx
    rw [h2, h3, word_split f y hy] at e1; exact e1.symm
  · right; omega

/-! ### quotients by a power of two -/
theorem div_pow (x y : Nat) (hx : rung f x < f.infRung) (s : Bool) (j : Nat) (i : Int)
    (hy : f.read y = .number s (2 ^ j) i) : ∃ m k : Nat, f.read x = .number (sgn f x) m (f.leastPlace + k) ∧ m * 2 ^ k = val f (rung f x) ∧ f.div x y = some (f.nearest (sgn f x ^^ s) m (f.leastPlace + k - i - j)) := by
  obtain ⟨m, k, e, hv⟩ := read_fin f x hx
  refine ⟨m, k, e, hv, ?_⟩
  unfold Format.div
  rw [e, hy]
  have hp : (2 ^ j : Nat) ≠ 0 := by have := Nat.two_pow_pos j; omega
  simp only [Datum.quotient, if_neg hp, Option.map_some, Format.write]
  congr 1
  have hl : (2 ^ j : Nat).log2 = j := Nat.log2_two_pow
  rw [hl]
  have hm : m.log2 ≤ f.fractionBits := by
    by_cases hm0 : m = 0
    · subst hm0; simp [Nat.log2_zero]
    · have h1 := Nat.log2_self_le hm0
      have h2 : m < 2 ^ (f.fractionBits + 1) := by
        have hb := bin_pos f
        have hq := hv
        unfold Format.read at e
        simp only at e
        have hm' := Nat.mod_lt (x % f.signWeight) hb
        have p2 : 2 ^ (f.fractionBits + 1) = 2 * f.binade := by unfold Format.binade; rw [Nat.pow_succ]; omega
        rw [p2]
        split at e
        · injection e with _ e2 _; omega
        · split at e
          · injection e with _ e2 _; omega
          · split at e <;> cases e
      rcases Nat.lt_or_ge f.fractionBits m.log2 with h3 | h3
      · have : 2 ^ (f.fractionBits + 1) ≤ 2 ^ m.log2 := Nat.pow_le_pow_right (by omega) (by omega)
        omega
      · exact h3
  obtain ⟨more, hmore⟩ : ∃ more, f.fractionBits + 2 + j - m.log2 = more := ⟨_, rfl⟩
  rw [hmore]
  have hd : m <<< more = m * 2 ^ (more - j) * 2 ^ j := by
    rw [Nat.shiftLeft_eq, Nat.mul_assoc, ← Nat.pow_add]; congr 2; omega
  rw [hd, Nat.mul_div_cancel _ (Nat.two_pow_pos j), Nat.mul_mod_left]
  have e2 : 2 * (m * 2 ^ (more - j)) + ((0 : Nat) != 0).toNat = m * 2 ^ (more - j + 1) := by
    rw [Nat.pow_succ]; simp; rw [Nat.mul_comm, Nat.mul_assoc]
  rw [e2, nearest_scale]
  congr 1
  omega

theorem read_one : D.read 4607182418800017408 = .number false (2 ^ 52) (-52) := by decide
theorem read_two : D.read 4611686018427387904 = .number false (2 ^ 52) (-51) := by decide
theorem divT_one (x : Nat) (hx : x < 2 ^ D.width) (hf : rung D x < D.infRung) : divT D x 4607182418800017408 = x := by
  obtain ⟨m, k, e, hv, h⟩ := div_pow D x _ hf false 52 (-52) read_one
  obtain ⟨m', k', e', hv', h'⟩ := nearest_read D good_double x hx hf
  rw [e'] at e
  injection e with _ e1 e2
  unfold divT
  rw [h]
  show D.nearest _ _ _ = x
  rw [Bool.xor_false, ← e1, show D.leastPlace + (k : Int) - -52 - ((52 : Nat) : Int) = D.leastPlace + k' by omega]
  exact h'
theorem divT_two_zero (x : Nat) (hf : rung D x = 0) : Like D (divT D x 4611686018427387904) 0 := by
  have hi : 0 < D.infRung := inf_pos D good_double
  obtain ⟨m, k, e, hv, h⟩ := div_pow D x _ (by omega) false 52 (-51) read_two
  have hm : m = 0 := (fin_zero_iff D hv).2 hf
  subst hm
  unfold divT
  rw [h]
  have : D.nearest (sgn D x ^^ false) 0 (D.leastPlace + k - -51 - ((52 : Nat) : Int)) = D.word (sgn D x ^^ false) 0 := by unfold Format.nearest; exact if_pos rfl
  show Like D (D.nearest _ _ _) 0
  rw [this]
  refine .inr ⟨isN_word D _ _ (by omega), by decide, ?_⟩
  rw [key_word D _ _ (sw_pos D), show key D 0 = 0 by decide]; simp
theorem divT_two_like (x y : Nat) (hx : x < 2 ^ D.width) (hy : y < 2 ^ D.width) (h : Like D x y) (hf : rung D y < D.infRung) : Like D (divT D x 4611686018427387904) (divT D y 4611686018427387904) := by
  have hn : isN D y = false := by simp [isN]; omega
  rcases like_cases D hx hy h hn with rfl | ⟨h1, h2⟩
  · exact Like.refl D _
  · exact (divT_two_zero x h1).trans (divT_two_zero y h2).symm
theorem isN_half (x : Nat) (hf : rung D x < D.infRung) : isN D (divT D x 4611686018427387904) = false := by
  obtain ⟨m, k, e, hv, h⟩ := div_pow D x _ hf false 52 (-51) read_two
  unfold divT
  rw [h]; exact isN_nearest D _ _ _

/-! ### products with a power of two -/
theorem val_bin (j : Nat) : val f ((j + 1) * f.binade) = f.binade * 2 ^ j := by
  have hb := bin_pos f
  unfold val
  rw [if_neg (by have := Nat.mul_le_mul_right f.binade (show 1 ≤ j + 1 by omega); omega), Nat.mul_mod_left, Nat.mul_div_cancel _ hb]; simp
/-- the exponents of 1 and 2 -/
@[irreducible] def xOne : Nat := 1022
@[irreducible] def xTwo : Nat := 1023
theorem xTwo_eq : xTwo = xOne + 1 := by unfold xTwo xOne; rfl
theorem rung_one : rung D 4607182418800017408 = (xOne + 1) * D.binade := by decide +kernel
theorem rung_two : rung D 4611686018427387904 = (xTwo + 1) * D.binade := by decide +kernel
theorem lpD' : (-D.leastPlace).toNat = 52 + xOne := by decide +kernel
theorem mulR_one (r : Nat) (hr : r ≤ D.infRung) : mulR D r ((xOne + 1) * D.binade) = r := by
  unfold mulR
  rw [val_bin, lpD', show D.binade = 2 ^ 52 from rfl, ← Nat.pow_add]
  have := rungOf_scale D 0 (val D r) (52 + xOne)
  rw [Nat.zero_add] at this
  rw [this, rungOf_val, Nat.min_eq_left hr]
theorem mulR_two (r : Nat) : mulR D ((xTwo + 1) * D.binade) r = min (rungOf D 0 (2 * val D r)) D.infRung := by
  unfold mulR
  rw [val_bin, lpD', show D.binade = 2 ^ 52 from rfl, ← Nat.pow_add]
  have := rungOf_scale D 0 (2 * val D r) (52 + xOne)
  rw [Nat.zero_add] at this
  rw [← this]
  congr 2
  rw [show 52 + xTwo = (52 + xOne) + 1 by rw [xTwo_eq]; rfl, Nat.pow_succ, Nat.mul_assoc, Nat.mul_comm]
theorem inf_bin : D.infRung ≠ (xOne + 1) * D.binade ∧ D.infRung ≠ (xTwo + 1) * D.binade ∧ (xOne + 1) * D.binade ≠ 0 ∧ (xTwo + 1) * D.binade ≠ 0 := by decide +kernel
theorem isN_one : isN D 4607182418800017408 = false := by decide
theorem isN_two : isN D 4611686018427387904 = false := by decide
theorem sgn_one : sgn D 4607182418800017408 = false := by decide
theorem sgn_two : sgn D 4611686018427387904 = false := by decide
theorem mulT_one (x : Nat) (hx : x < 2 ^ D.width) : Sim D (mulT D x 4607182418800017408) x := by
  cases hn : isN D x with
  | true => rw [mulT_nan D good_double (.inl hn)]; exact .inr ⟨isN_qn D good_double, hn⟩
  | false =>
    left
    have hr : rung D x ≤ D.infRung := by simpa [isN] using hn
    obtain ⟨b1, b2, b3, b4⟩ := inf_bin
    rw [mulT_eq D good_double x _ hn isN_one, rung_one, sgn_one, Bool.xor_false, if_neg (by unfold mulBad; omega)]
    have : mulRI D (rung D x) ((xOne + 1) * D.binade) = rung D x := by
      unfold mulRI
      by_cases h : rung D x = D.infRung
      · rw [if_pos (.inl h), h]
      · rw [if_neg (by omega)]; exact mulR_one _ hr
    rw [this, word_split D x hx]
/-- doubling by a sum and by a product -/
theorem add_self (p : Nat) : Sim D (addT D p p) (mulT D 4611686018427387904 p) := by
  cases hn : isN D p with
  | true => rw [mulT_nan D good_double (.inr hn), addT_nan D good_double (.inl hn)]; exact Sim.refl D _
  | false =>
    have hr : rung D p ≤ D.infRung := by simpa [isN] using hn
    obtain ⟨b1, b2, b3, b4⟩ := inf_bin
    left
    rw [mulT_eq D good_double _ p isN_two hn, rung_two, sgn_two, Bool.false_xor, if_neg (by unfold mulBad; omega), addT_eq D good_double p p hn hn]
    unfold addW mulRI
    by_cases h : rung D p = D.infRung
    · rw [if_pos h, if_pos h, if_pos rfl, if_pos (.inr h)]; rfl
    · rw [if_neg h, if_neg h]
      have hs : (if sval D p + sval D p = 0 then (sgn D p && sgn D p) else decide (sval D p + sval D p < 0)) = sgn D p := by
        have h1 : sval D p = if sgn D p then -(val D (rung D p) : Int) else val D (rung D p) := rfl
        by_cases h0 : sval D p + sval D p = 0
        · rw [if_pos h0, Bool.and_self]
        · rw [if_neg h0]
          cases hsg : sgn D p
          · rw [hsg] at h1; simp at h1; simp; omega
          · rw [hsg] at h1; simp at h1; simp; omega
      rw [hs, if_neg (by omega), mulR_two]
      show D.word _ _ = _
      unfold addR
      have : (sval D p + sval D p).natAbs = 2 * val D (rung D p) := by rw [← sval_natAbs]; omega
      rw [this]
/-- zero added to whatever word -/
theorem addT_zero_any (x z : Nat) (hz : rung D z = 0) : Like D (addT D x z) x := by
  have hi := inf_pos D good_double
  cases hn : isN D x with
  | true => rw [addT_nan D good_double (.inl hn)]; exact .inl ⟨isN_qn D good_double, hn⟩
  | false =>
    have hr : rung D x ≤ D.infRung := by simpa [isN] using hn
    rcases Nat.lt_or_eq_of_le hr with h | h
    · exact addT_zero D good_double x z h hz
    · have hz' : isN D z = false := by simp [isN]; omega
      rw [addT_eq D good_double x z hn hz']
      unfold addW
      rw [if_pos h, if_neg (by omega)]
      refine .inr ⟨isN_word D _ _ (Nat.le_refl _), hn, ?_⟩
      show key D (D.word _ _) = _
      rw [key_word D _ _ (inf_lt D)]; unfold key; rw [h]
end Go.Proofs.Ytakhgppjgeeihaa.Fl
