/-
  Bounds on the magnitudes of sums and products of floats, by powers of two. Conditions: none.
-/
import Derived.Test.YtakhgppjgeeihaaCfn2
namespace Go.Proofs.Ytakhgppjgeeihaa
open Fl
/-- the rung of a power of two -/
def pw (j : Nat) : Nat := (j + 1) * D.binade
theorem val_pw (j : Nat) : val D (pw j) = 2 ^ (52 + j) := by
  unfold pw
  rw [val_bin, show D.binade = 2 ^ 52 from rfl, ← Nat.pow_add]
theorem pw_pos (j : Nat) : 0 < pw j := Nat.mul_pos (Nat.succ_pos _) (bin_pos D)
theorem pw_le {i j : Nat} (h : i ≤ j) : pw i ≤ pw j := Nat.mul_le_mul_right _ (by omega)
theorem pw_lt {i j : Nat} (h : i < j) : pw i < pw j := Nat.mul_lt_mul_of_pos_right (by omega) (bin_pos D)
theorem pw_inf : pw 2046 = D.infRung := by decide +kernel
/-- at most, at least a power of two; a NaN and an infinity are at least every one -/
def UB (x j : Nat) : Prop := rung D x ≤ pw j
def LB (x j : Nat) : Prop := pw j ≤ rung D x
theorem rungOf_pw {m j : Nat} (h : m ≤ 2 ^ (52 + j)) : rungOf D 0 m ≤ pw j := by
  have := rungOf_mono D 0 _ _ h
  rw [← val_pw, rungOf_val] at this
  exact this
theorem pw_rungOf {m j : Nat} (h : 2 ^ (52 + j) ≤ m) : pw j ≤ rungOf D 0 m := by
  have := rungOf_mono D 0 _ _ h
  rw [← val_pw, rungOf_val] at this
  exact this
theorem UB.mono {x i j : Nat} (h : UB x i) (hij : i ≤ j) : UB x j := Nat.le_trans h (pw_le hij)
theorem LB.mono {x i j : Nat} (h : LB x i) (hij : j ≤ i) : LB x j := Nat.le_trans (pw_le hij) h
theorem UB.or_LB (x j : Nat) : UB x j ∨ LB x j := Nat.le_total _ _
theorem UB.fin {x j : Nat} (h : UB x j) (hj : j < 2046) : rung D x < D.infRung := Nat.lt_of_le_of_lt h (by rw [← pw_inf]; exact pw_lt hj)
theorem fin_num {x : Nat} (h : rung D x < D.infRung) : isN D x = false := by simp [isN]; omega
theorem UB.val {x j : Nat} (h : UB x j) : val D (rung D x) ≤ 2 ^ (52 + j) := by rw [← val_pw]; exact val_le D h
theorem LB.val {x j : Nat} (h : LB x j) : 2 ^ (52 + j) ≤ val D (rung D x) := by rw [← val_pw]; exact val_le D h
theorem LB.nf {x j : Nat} (h : D.infRung ≤ rung D x) (hj : j ≤ 2046) : LB x j := Nat.le_trans (by rw [← pw_inf]; exact pw_le hj) h
theorem LB.qn {j : Nat} (hj : j ≤ 2046) : LB (qn D) j := LB.nf (by have := isN_qn D gD; simp [isN] at this; omega) hj
theorem UB.neg {x j : Nat} (h : UB x j) (hx : x < 2 ^ D.width) : UB (negw D x) j := by unfold UB; rw [rung_negw D x hx]; exact h
theorem LB.neg {x j : Nat} (h : LB x j) (hx : x < 2 ^ D.width) : LB (negw D x) j := by unfold LB; rw [rung_negw D x hx]; exact h
theorem prod_pow (i j k : Nat) (h : i + j = xOne + k) : 2 ^ (52 + i) * 2 ^ (52 + j) = 2 ^ (52 + k) * 2 ^ (52 + xOne) := by
  rw [← Nat.pow_add, ← Nat.pow_add]; congr 1; omega
theorem rungOf_prod (k : Nat) : rungOf D (-D.leastPlace).toNat (2 ^ (52 + k) * 2 ^ (52 + xOne)) = pw k := by
  have := rungOf_scale D 0 (2 ^ (52 + k)) (52 + xOne)
  rw [Nat.zero_add] at this
  rw [lpD', this, ← val_pw, rungOf_val]
theorem mul_UB {x y i j k : Nat} (hx : UB x i) (hy : UB y j) (h : i + j = xOne + k) (hi : i < 2046) (hj : j < 2046) : UB (mulT D x y) k := by
  have fx := hx.fin hi
  have fy := hy.fin hj
  have hI := inf_lt D
  rw [mulT_eq D gD x y (fin_num fx) (fin_num fy), if_neg (by unfold mulBad; omega)]
  unfold UB
  rw [rung_word D _ _ (Nat.lt_of_le_of_lt (mulRI_le D _ _) hI)]
  unfold mulRI
  rw [if_neg (by omega)]
  unfold mulR
  refine Nat.le_trans (Nat.min_le_left _ _) ?_
  rw [← rungOf_prod k, ← prod_pow i j k h]
  exact rungOf_mono D _ _ _ (Nat.mul_le_mul hx.val hy.val)
theorem mul_LB {x y i j k : Nat} (hx : LB x i) (hy : LB y j) (h : i + j = xOne + k) (hk : k ≤ 2046) : LB (mulT D x y) k := by
  have hI := inf_lt D
  have hki : pw k ≤ D.infRung := by rw [← pw_inf]; exact pw_le hk
  cases hnx : isN D x with
  | true => rw [mulT_nan D gD (.inl hnx)]; exact LB.qn hk
  | false =>
    cases hny : isN D y with
    | true => rw [mulT_nan D gD (.inr hny)]; exact LB.qn hk
    | false =>
      have p1 := pw_pos i
      have p2 := pw_pos j
      have hx' : pw i ≤ rung D x := hx
      have hy' : pw j ≤ rung D y := hy
      rw [mulT_eq D gD x y hnx hny, if_neg (by unfold mulBad; omega)]
      unfold LB
      rw [rung_word D _ _ (Nat.lt_of_le_of_lt (mulRI_le D _ _) hI)]
      unfold mulRI
      split
      · exact hki
      · unfold mulR
        refine Nat.le_min.2 ⟨?_, hki⟩
        rw [← rungOf_prod k, ← prod_pow i j k h]
        exact rungOf_mono D _ _ _ (Nat.mul_le_mul hx.val hy.val)
theorem add_UB {x y i : Nat} (hx : UB x i) (hy : UB y i) (hi : i < 2046) : UB (addT D x y) (i + 1) := by
  have fx := hx.fin hi
  have fy := hy.fin hi
  have hI := inf_lt D
  rw [addT_eq D gD x y (fin_num fx) (fin_num fy)]
  unfold addW
  rw [if_neg (by omega), if_neg (by omega)]
  show rung D (D.word _ _) ≤ _
  rw [rung_word D _ _ (Nat.lt_of_le_of_lt (addR_le D _) hI)]
  unfold addR
  refine Nat.le_trans (Nat.min_le_left _ _) (rungOf_pw ?_)
  have a := sval_natAbs D x
  have b := sval_natAbs D y
  have c := hx.val
  have d := hy.val
  have e : 2 ^ (52 + (i + 1)) = 2 ^ (52 + i) + 2 ^ (52 + i) := by rw [← Nat.add_assoc, Nat.pow_succ]; omega
  omega
theorem add_NF {x y : Nat} (h : D.infRung ≤ rung D x) : D.infRung ≤ rung D (addT D x y) := by
  have hq : D.infRung ≤ rung D (qn D) := by have := isN_qn D gD; simp [isN] at this; omega
  have hI := inf_lt D
  cases hnx : isN D x with
  | true => rw [addT_nan D gD (.inl hnx)]; exact hq
  | false =>
    cases hny : isN D y with
    | true => rw [addT_nan D gD (.inr hny)]; exact hq
    | false =>
      have hx' : rung D x = D.infRung := by have := nN hnx; omega
      rw [addT_eq D gD x y hnx hny]
      unfold addW
      rw [if_pos hx']
      split
      · split
        · show _ ≤ rung D (D.word _ _)
          rw [rung_word D _ _ hI]; exact Nat.le_refl _
        · exact hq
      · show _ ≤ rung D (D.word _ _)
        rw [rung_word D _ _ hI]; exact Nat.le_refl _
theorem add_NF' {x y : Nat} (h : D.infRung ≤ rung D y) : D.infRung ≤ rung D (addT D x y) := by rw [addT_comm D gD]; exact add_NF h
theorem sub_NF {x y : Nat} (hy : y < 2 ^ D.width) (h : D.infRung ≤ rung D x) : D.infRung ≤ rung D (subT D x y) := by rw [subT_eq D gD x y hy]; exact add_NF h
theorem sub_NF' {x y : Nat} (hy : y < 2 ^ D.width) (h : D.infRung ≤ rung D y) : D.infRung ≤ rung D (subT D x y) := by rw [subT_eq D gD x y hy]; exact add_NF' (by rw [rung_negw D y hy]; exact h)
theorem add_LB {x y i : Nat} (hx : LB x (i + 1)) (hy : UB y i) (hi : i < 2046) : LB (addT D x y) i := by
  have fy := hy.fin hi
  have hI := inf_lt D
  have hki : pw i ≤ D.infRung := by rw [← pw_inf]; exact pw_le (by omega)
  rcases Nat.lt_or_ge (rung D x) D.infRung with fx | fx
  · rw [addT_eq D gD x y (fin_num fx) (fin_num fy)]
    unfold addW
    rw [if_neg (by omega), if_neg (by omega)]
    show _ ≤ rung D (D.word _ _)
    rw [rung_word D _ _ (Nat.lt_of_le_of_lt (addR_le D _) hI)]
    unfold addR
    refine Nat.le_min.2 ⟨pw_rungOf ?_, hki⟩
    have a := sval_natAbs D x
    have b := sval_natAbs D y
    have c := hx.val
    have d := hy.val
    have e : 2 ^ (52 + (i + 1)) = 2 ^ (52 + i) + 2 ^ (52 + i) := by rw [← Nat.add_assoc, Nat.pow_succ]; omega
    omega
  · exact LB.nf (add_NF fx) (by omega)
theorem sub_UB {x y i : Nat} (hx : UB x i) (hy : UB y i) (hyl : y < 2 ^ D.width) (hi : i < 2046) : UB (subT D x y) (i + 1) := by
  rw [subT_eq D gD x y hyl]; exact add_UB hx (hy.neg hyl) hi
theorem sub_LB {x y i : Nat} (hx : LB x (i + 1)) (hy : UB y i) (hyl : y < 2 ^ D.width) (hi : i < 2046) : LB (subT D x y) i := by
  rw [subT_eq D gD x y hyl]; exact add_LB hx (hy.neg hyl) hi
theorem sub_LB' {x y i : Nat} (hx : UB x i) (hy : LB y (i + 1)) (hyl : y < 2 ^ D.width) (hi : i < 2046) : LB (subT D x y) i := by
  rw [subT_eq D gD x y hyl, addT_comm D gD]; exact add_LB (hy.neg hyl) hx hi
theorem add_pos_LB {r s k : Nat} (hr : pw k ≤ r) (hri : r ≤ D.infRung) (hsi : s ≤ D.infRung) (hk : k ≤ 2046) : LB (addT D (D.word false r) (D.word false s)) k := by
  have hI := inf_lt D
  have hki : pw k ≤ D.infRung := by rw [← pw_inf]; exact pw_le hk
  have er := rung_word D false r (by omega)
  have es := rung_word D false s (by omega)
  rcases Nat.lt_or_eq_of_le hri with h1 | h1
  · rcases Nat.lt_or_eq_of_le hsi with h2 | h2
    · rw [addT_eq D gD _ _ (isN_word D _ _ hri) (isN_word D _ _ hsi)]
      unfold addW
      rw [er, es, if_neg (by omega), if_neg (by omega)]
      show _ ≤ rung D (D.word _ _)
      rw [rung_word D _ _ (Nat.lt_of_le_of_lt (addR_le D _) hI)]
      unfold addR
      refine Nat.le_min.2 ⟨pw_rungOf ?_, hki⟩
      have a : sval D (D.word false r) = val D r := by unfold sval; rw [sgn_word D _ _ (by omega), er]; rfl
      have b : sval D (D.word false s) = val D s := by unfold sval; rw [sgn_word D _ _ (by omega), es]; rfl
      rw [a, b]
      have := val_le D hr
      rw [val_pw] at this
      omega
    · exact LB.nf (add_NF' (by rw [es]; omega)) hk
  · exact LB.nf (add_NF (by rw [er]; omega)) hk
theorem xOne_eq : xOne = 1022 := by unfold xOne; rfl
end Go.Proofs.Ytakhgppjgeeihaa
