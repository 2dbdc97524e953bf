/-
  Where the p-th number of an orbit is finite, so is the slope there, p from 1 to 4. Conditions: none.
-/
import Derived.Test.YtakhgppjgeeihaaEsc5
import Derived.Test.YtakhgppjgeeihaaMag
namespace Go.Proofs.Ytakhgppjgeeihaa
open Fl
def oneW : Nat := 4607182418800017408
def twoW : Nat := 4611686018427387904
/-- a part is not finite -/
def NF (x : Nat) : Prop := D.infRung ≤ rung D x
theorem NF_of {x : Nat} (h : LB x 2046) : NF x := by unfold NF; rw [← pw_inf]; exact h
theorem NF.lb {x j : Nat} (h : NF x) (hj : j ≤ 2046) : LB x j := LB.nf h hj
theorem stR_NF_l {x y u : Nat} (h : LB x 1534) : NF (stR x y u) := by
  have hp : NF (mulT D x x) := NF_of (mul_LB h h (by rw [xOne_eq]) (by omega))
  exact add_NF (sub_NF (mulT_lt D gD _ _) hp)
theorem stR_NF_r {x y u : Nat} (h : LB y 1534) : NF (stR x y u) := by
  have hp : NF (mulT D y y) := NF_of (mul_LB h h (by rw [xOne_eq]) (by omega))
  exact add_NF (sub_NF' (mulT_lt D gD _ _) hp)
theorem stR_NF {x y u : Nat} (h : LB x 1534 ∨ LB y 1534) : NF (stR x y u) := h.elim stR_NF_l stR_NF_r
theorem stR_NF_c {x y u : Nat} (h : NF u) : NF (stR x y u) := add_NF' h
theorem stI_NF_c {x y u : Nat} (h : NF u) : NF (stI x y u) := add_NF' h
theorem UB_two : UB twoW 1023 := by unfold UB twoW; rw [rung_two, xTwo_eq, xOne_eq]; exact Nat.le_refl _
theorem LB_two : LB twoW 1023 := by unfold LB twoW; rw [rung_two, xTwo_eq, xOne_eq]; exact Nat.le_refl _
theorem UB_one : UB oneW 1022 := by unfold UB oneW; rw [rung_one, xOne_eq]; exact Nat.le_refl _
theorem UB_zero (j : Nat) : UB 0 j := by unfold UB; exact Nat.zero_le _
theorem binade_of (M : Nat) (h : pw 0 ≤ M) : ∃ a, pw a ≤ M ∧ M < pw (a + 1) := by
  have hb := bin_pos D
  have h1 : 1 ≤ M / D.binade := (Nat.le_div_iff_mul_le hb).2 (by unfold pw at h; omega)
  refine ⟨M / D.binade - 1, ?_, ?_⟩
  · unfold pw
    rw [Nat.sub_add_cancel h1]
    exact Nat.div_mul_le_self _ _
  · unfold pw
    rw [show M / D.binade - 1 + 1 = M / D.binade by omega, Nat.add_mul, Nat.one_mul]
    have h2 := Nat.div_add_mod M D.binade
    have h3 := Nat.mod_lt M hb
    rw [Nat.mul_comm] at h2
    omega
/-- growth -/
theorem grow {x y u v k : Nat} (hk : 1100 ≤ k) (h : LB x k ∨ LB y k) (hu : UB u (2 * k - 1026)) (hv : UB v (2 * k - 1026)) (hk2 : k ≤ 1534) :
    LB (stR x y u) (2 * k - 1024) ∨ LB (stI x y v) (2 * k - 1024) := by
  by_cases hbig : LB x 1534 ∨ LB y 1534
  · exact .inl ((stR_NF hbig).lb (by omega))
  · have bx : rung D x < pw 1534 := by
      rcases Nat.lt_or_ge (rung D x) (pw 1534) with h | h
      · exact h
      · exact absurd (.inl h) hbig
    have by' : rung D y < pw 1534 := by
      rcases Nat.lt_or_ge (rung D y) (pw 1534) with h | h
      · exact h
      · exact absurd (.inr h) hbig
    have hM : pw k ≤ max (rung D x) (rung D y) := by
      unfold LB at h; omega
    obtain ⟨a, ha1, ha2⟩ := binade_of (max (rung D x) (rung D y)) (Nat.le_trans (pw_le (Nat.zero_le _)) hM)
    have hka : k ≤ a := by
      rcases Nat.lt_or_ge a k with h | h
      · have := pw_le (show a + 1 ≤ k by omega); omega
      · exact h
    have haB : a < 1534 := by
      rcases Nat.lt_or_ge a 1534 with h | h
      · exact h
      · have := pw_le h; omega
    have hxo := xOne_eq
    have two : ∀ p, LB p (2 * a - 1023) → LB (mulT D twoW p) (2 * a - 1022) := fun p hp => mul_LB LB_two hp (by omega) (by omega)
    have fin2 : ∀ p, LB p (2 * a - 1022) → LB (addT D p v) (2 * k - 1024) := fun p hp => (add_LB (i := 2 * a - 1023) (hp.mono (by omega)) (hv.mono (by omega)) (by omega)).mono (by omega)
    have fin1 : ∀ p, LB p (2 * a - 1023) → LB (addT D p u) (2 * k - 1024) := fun p hp => (add_LB (i := 2 * a - 1024) (hp.mono (by omega)) (hu.mono (by omega)) (by omega)).mono (by omega)
    rcases Nat.le_total (rung D x) (rung D y) with hxy | hxy
    · have ly : LB y a := by unfold LB; omega
      rcases UB.or_LB x (a - 1) with hx | hx
      · have p1 : UB (mulT D x x) (2 * a - 1024) := mul_UB hx hx (by omega) (by omega) (by omega)
        have p2 : LB (mulT D y y) (2 * a - 1022) := mul_LB ly ly (by omega) (by omega)
        exact .inl (fin1 _ (sub_LB' (i := 2 * a - 1023) (p1.mono (by omega)) (p2.mono (by omega)) (mulT_lt D gD _ _) (by omega)))
      · have p1 : LB (mulT D x y) (2 * a - 1023) := mul_LB hx ly (by omega) (by omega)
        exact .inr (fin2 _ (two _ p1))
    · have lx : LB x a := by unfold LB; omega
      rcases UB.or_LB y (a - 1) with hy | hy
      · have p1 : UB (mulT D y y) (2 * a - 1024) := mul_UB hy hy (by omega) (by omega) (by omega)
        have p2 : LB (mulT D x x) (2 * a - 1022) := mul_LB lx lx (by omega) (by omega)
        exact .inl (fin1 _ (sub_LB (i := 2 * a - 1023) (p2.mono (by omega)) (p1.mono (by omega)) (mulT_lt D gD _ _) (by omega)))
      · have p1 : LB (mulT D x y) (2 * a - 1023) := mul_LB lx hy (by omega) (by omega)
        exact .inr (fin2 _ (two _ p1))
/-- bounds from above through a step -/
theorem st_UB {x y u v i q : Nat} (hx : UB x i) (hy : UB y i) (hu : UB u (q + 1)) (hv : UB v (q + 1)) (h : i + i = xOne + q) (hi : i < 2046) (hq : q < 2040) : UB (stR x y u) (q + 2) ∧ UB (stI x y v) (q + 2) := by
  have p1 : UB (mulT D x x) q := mul_UB hx hx h hi hi
  have p2 : UB (mulT D y y) q := mul_UB hy hy h hi hi
  have p3 : UB (mulT D x y) q := mul_UB hx hy h hi hi
  have p4 : UB (mulT D twoW (mulT D x y)) (q + 1) := mul_UB UB_two p3 (by rw [xOne_eq]; omega) (by omega) (by omega)
  exact ⟨add_UB (sub_UB p1 p2 (mulT_lt D gD _ _) (by omega)) hu (by omega), add_UB p4 hv (by omega)⟩
/-- the slope of an orbit -/
def derD (cx cy : Nat) : Nat → Nat × Nat
  | 0 => (0, 0)
  | k + 1 => (addT D (mulT D twoW (prR (orbD cx cy k).1 (orbD cx cy k).2 (derD cx cy k).1 (derD cx cy k).2)) oneW, addT D (mulT D twoW (prI (orbD cx cy k).1 (orbD cx cy k).2 (derD cx cy k).1 (derD cx cy k).2)) 0)
theorem der_UB {x y e f i j q : Nat} (hx : UB x i) (hy : UB y i) (he : UB e j) (hf : UB f j) (h : i + j = xOne + q) (hi : i < 2046) (hj : j < 2046) (hq : q < 2040) (hq1 : 1022 ≤ q) :
    UB (addT D (mulT D twoW (prR x y e f)) oneW) (q + 3) ∧ UB (addT D (mulT D twoW (prI x y e f)) 0) (q + 3) := by
  have a1 : UB (mulT D x e) q := mul_UB hx he h hi hj
  have a2 : UB (mulT D y f) q := mul_UB hy hf h hi hj
  have a3 : UB (mulT D x f) q := mul_UB hx hf h hi hj
  have a4 : UB (mulT D y e) q := mul_UB hy he h hi hj
  have b1 : UB (prR x y e f) (q + 1) := sub_UB a1 a2 (mulT_lt D gD _ _) (by omega)
  have b2 : UB (prI x y e f) (q + 1) := add_UB a3 a4 (by omega)
  have c1 : UB (mulT D twoW (prR x y e f)) (q + 2) := mul_UB UB_two b1 (by rw [xOne_eq]; omega) (by omega) (by omega)
  have c2 : UB (mulT D twoW (prI x y e f)) (q + 2) := mul_UB UB_two b2 (by rw [xOne_eq]; omega) (by omega) (by omega)
  exact ⟨add_UB c1 (UB_one.mono (by omega)) (by omega), add_UB c2 (UB_zero _) (by omega)⟩
theorem derS_UB (cx cy k : Nat) {i j q : Nat} (hx : UB (orbD cx cy k).1 i) (hy : UB (orbD cx cy k).2 i) (he : UB (derD cx cy k).1 j) (hf : UB (derD cx cy k).2 j) (h : i + j = xOne + q) (hi : i < 2046) (hj : j < 2046) (hq : q < 2040) (hq1 : 1022 ≤ q) :
    UB (derD cx cy (k + 1)).1 (q + 3) ∧ UB (derD cx cy (k + 1)).2 (q + 3) := der_UB hx hy he hf h hi hj hq hq1
theorem der_one (cx cy : Nat) : derD cx cy 1 = (oneW, 0) := by
  have h1 : addT D (mulT D twoW (prR 0 0 0 0)) oneW = oneW := by decide +kernel
  have h2 : addT D (mulT D twoW (prI 0 0 0 0)) 0 = 0 := by decide +kernel
  show (addT D (mulT D twoW (prR 0 0 0 0)) oneW, addT D (mulT D twoW (prI 0 0 0 0)) 0) = _
  rw [h1, h2]
theorem like_UB {x y j : Nat} (h : Like D x y) (hy : UB y j) (hj : j < 2046) : UB x j := by
  have hn := fin_num (hy.fin hj)
  unfold UB; rw [(key_cases D (h.key_of hn)).1]; exact hy
theorem like_LB {x y j : Nat} (h : Like D x y) (hy : LB y j) (hj : j ≤ 2046) : LB x j := by
  cases hn : isN D y with
  | true => exact LB.nf (by have h1 : isN D x = true := by rw [h.isN]; exact hn
                            unfold isN at h1; simp at h1; omega) hj
  | false => unfold LB; rw [(key_cases D (h.key_of hn)).1]; exact hy
section
variable (cx cy : Nat)
theorem orb1_UB {j : Nat} (hx : UB cx j) (hy : UB cy j) (hj : j < 2046) : UB (orbD cx cy 1).1 j ∧ UB (orbD cx cy 1).2 j :=
  ⟨like_UB (st_zero cx cy).1 hx hj, like_UB (st_zero cx cy).2 hy hj⟩
theorem orb1_LB {j : Nat} (h : LB cx j ∨ LB cy j) (hj : j ≤ 2046) : LB (orbD cx cy 1).1 j ∨ LB (orbD cx cy 1).2 j :=
  h.elim (fun h => .inl (like_LB (st_zero cx cy).1 h hj)) (fun h => .inr (like_LB (st_zero cx cy).2 h hj))
theorem orb2_UB {j q : Nat} (hx : UB cx j) (hy : UB cy j) (h : j + j = xOne + q) (hjq : j ≤ q + 1) (hj : j < 2046) (hq : q < 2040) : UB (orbD cx cy 2).1 (q + 2) ∧ UB (orbD cx cy 2).2 (q + 2) := by
  obtain ⟨a, b⟩ := orb1_UB cx cy hx hy hj
  exact st_UB a b (hx.mono hjq) (hy.mono hjq) h hj hq
theorem orb3_UB {j q r : Nat} (hx : UB cx j) (hy : UB cy j) (h : j + j = xOne + q) (hjq : j ≤ q + 1) (hj : j < 2046) (hq : q < 2040) (h2 : q + 2 + (q + 2) = xOne + r) (hjr : j ≤ r + 1) (hr : r < 2040) : UB (orbD cx cy 3).1 (r + 2) ∧ UB (orbD cx cy 3).2 (r + 2) := by
  obtain ⟨a, b⟩ := orb2_UB cx cy hx hy h hjq hj hq
  exact st_UB a b (hx.mono hjr) (hy.mono hjr) h2 (by omega) hr
/-- the slope's bounds -/
theorem der2_UB {j : Nat} (hx : UB cx j) (hy : UB cy j) (hj : j < 2040) (h1 : 1022 ≤ j) : UB (derD cx cy 2).1 (j + 3) ∧ UB (derD cx cy 2).2 (j + 3) := by
  obtain ⟨a, b⟩ := orb1_UB cx cy hx hy (by omega)
  have e := der_one cx cy
  have h1' : UB (derD cx cy 1).1 1022 := by rw [e]; exact UB_one
  have h2' : UB (derD cx cy 1).2 1022 := by rw [e]; exact UB_zero _
  exact derS_UB cx cy 1 a b h1' h2' (by rw [xOne_eq]; omega) (by omega) (by omega) hj h1
theorem UB.finite {x j : Nat} (h : UB x j) (hj : j < 2046) : rung D x < D.infRung := h.fin hj
/-- a number c that is great leaves at once -/
theorem NF_next {k : Nat} (h : LB (orbD cx cy k).1 1534 ∨ LB (orbD cx cy k).2 1534) : NF (orbD cx cy (k + 1)).1 := stR_NF h
theorem NF_c {k : Nat} (h : NF cx ∨ NF cy) : NF (orbD cx cy (k + 1)).1 ∨ NF (orbD cx cy (k + 1)).2 := h.elim (fun h => .inl (stR_NF_c h)) (fun h => .inr (stI_NF_c h))
theorem orb2_LB {k : Nat} (h : LB cx k ∨ LB cy k) (hu : UB cx (k + 1)) (hv : UB cy (k + 1)) (h1 : 1100 ≤ k) (h2 : k ≤ 1534) : LB (orbD cx cy 2).1 (2 * k - 1024) ∨ LB (orbD cx cy 2).2 (2 * k - 1024) :=
  grow h1 (orb1_LB cx cy h (by omega)) (hu.mono (by omega)) (hv.mono (by omega)) h2
/-- the binade of c -/
theorem c_binade {j : Nat} (h : LB cx j ∨ LB cy j) (hx : ¬ NF cx) (hy : ¬ NF cy) : ∃ k, j ≤ k ∧ k < 2046 ∧ (LB cx k ∨ LB cy k) ∧ UB cx (k + 1) ∧ UB cy (k + 1) := by
  unfold NF at hx hy
  have hM : pw j ≤ max (rung D cx) (rung D cy) := by unfold LB at h; omega
  obtain ⟨k, h1, h2⟩ := binade_of (max (rung D cx) (rung D cy)) (Nat.le_trans (pw_le (Nat.zero_le _)) hM)
  refine ⟨k, ?_, ?_, ?_, ?_, ?_⟩
  · rcases Nat.lt_or_ge k j with h | h
    · have := pw_le (show k + 1 ≤ j by omega); omega
    · exact h
  · rcases Nat.lt_or_ge k 2046 with h | h
    · exact h
    · have := pw_le h; rw [pw_inf] at this; omega
  · unfold LB; omega
  · unfold UB; omega
  · unfold UB; omega
theorem der_fin (p : Nat) (hp : 1 ≤ p) (hp4 : p ≤ 4) (hz1 : rung D (orbD cx cy p).1 < D.infRung) (hz2 : rung D (orbD cx cy p).2 < D.infRung) : rung D (derD cx cy p).1 < D.infRung ∧ rung D (derD cx cy p).2 < D.infRung := by
  have hxo := xOne_eq
  obtain ⟨k, rfl⟩ : ∃ k, p = k + 1 := ⟨p - 1, by omega⟩
  have no1 : ¬ NF (orbD cx cy (k + 1)).1 := by unfold NF; omega
  have no2 : ¬ NF (orbD cx cy (k + 1)).2 := by unfold NF; omega
  have nc : ¬ NF cx ∧ ¬ NF cy := ⟨fun h => (NF_c cx cy (k := k) (.inl h)).elim no1 no2, fun h => (NF_c cx cy (k := k) (.inr h)).elim no1 no2⟩
  have split : ∀ j, (UB cx j ∧ UB cy j) ∨ ∃ k, j ≤ k ∧ k < 2046 ∧ (LB cx k ∨ LB cy k) ∧ UB cx (k + 1) ∧ UB cy (k + 1) := fun j => by
    rcases UB.or_LB cx j with h1 | h1
    · rcases UB.or_LB cy j with h2 | h2
      · exact .inl ⟨h1, h2⟩
      · exact .inr (c_binade cx cy (.inr h2) nc.1 nc.2)
    · exact .inr (c_binade cx cy (.inl h1) nc.1 nc.2)
  rcases Nat.lt_or_ge k 1 with h | h
  · obtain rfl : k = 0 := by omega
    rw [show (0 : Nat) + 1 = 1 from rfl, der_one]
    exact ⟨UB_one.fin (by omega), (UB_zero 0).fin (by omega)⟩
  · rcases Nat.lt_or_ge k 2 with h2 | h2
    · obtain rfl : k = 1 := by omega
      rcases split 1534 with ⟨a, b⟩ | ⟨m, hm, hm2, hl, _, _⟩
      · have := der2_UB cx cy a b (by omega) (by omega)
        exact ⟨this.1.fin (by omega), this.2.fin (by omega)⟩
      · exact absurd (NF_next cx cy (k := 1) (orb1_LB cx cy (hl.imp (fun h => h.mono hm) (fun h => h.mono hm)) (by omega))) no1
    · rcases Nat.lt_or_ge k 3 with h3 | h3
      · obtain rfl : k = 2 := by omega
        rcases split 1300 with ⟨a, b⟩ | ⟨m, hm, hm2, hl, hu, hv⟩
        · obtain ⟨d1, d2⟩ := der2_UB cx cy a b (by omega) (by omega)
          obtain ⟨z1, z2⟩ := orb2_UB cx cy (q := 1578) a b (by omega) (by omega) (by omega) (by omega)
          have := derS_UB cx cy 2 (q := 1861) z1 z2 d1 d2 (by omega) (by omega) (by omega) (by omega) (by omega)
          exact ⟨this.1.fin (by omega), this.2.fin (by omega)⟩
        · rcases Nat.lt_or_ge 1534 m with hb | hb
          · have n1 := NF_next cx cy (k := 1) (orb1_LB cx cy (hl.imp (fun h => h.mono (by omega)) (fun h => h.mono (by omega))) (by omega))
            exact absurd (NF_next cx cy (k := 2) (.inl (n1.lb (by omega)))) no1
          · have g := orb2_LB cx cy hl hu hv (by omega) hb
            exact absurd (NF_next cx cy (k := 2) (g.imp (fun h => h.mono (by omega)) (fun h => h.mono (by omega)))) no1
      · obtain rfl : k = 3 := by omega
        rcases split 1162 with ⟨a, b⟩ | ⟨m, hm, hm2, hl, hu, hv⟩
        · obtain ⟨d1, d2⟩ := der2_UB cx cy a b (by omega) (by omega)
          obtain ⟨z1, z2⟩ := orb2_UB cx cy (q := 1302) a b (by omega) (by omega) (by omega) (by omega)
          obtain ⟨y1, y2⟩ := orb3_UB cx cy (q := 1302) (r := 1586) a b (by omega) (by omega) (by omega) (by omega) (by omega) (by omega) (by omega)
          obtain ⟨e1, e2⟩ := derS_UB cx cy 2 (q := 1447) z1 z2 d1 d2 (by omega) (by omega) (by omega) (by omega) (by omega)
          have := derS_UB cx cy 3 (q := 2016) y1 y2 e1 e2 (by omega) (by omega) (by omega) (by omega) (by omega)
          exact ⟨this.1.fin (by omega), this.2.fin (by omega)⟩
        · rcases Nat.lt_or_ge 1534 m with hb | hb
          · have n1 := NF_next cx cy (k := 1) (orb1_LB cx cy (hl.imp (fun h => h.mono (by omega)) (fun h => h.mono (by omega))) (by omega))
            have n2 := NF_next cx cy (k := 2) (.inl (n1.lb (by omega)))
            exact absurd (NF_next cx cy (k := 3) (.inl (n2.lb (by omega)))) no1
          · have g := orb2_LB cx cy hl hu hv (by omega) hb
            rcases Nat.lt_or_ge (2 * m - 1024) 1534 with hs | hs
            · have g3 := grow (u := cx) (v := cy) (k := 2 * m - 1024) (by omega) g (hu.mono (by omega)) (hv.mono (by omega)) (by omega)
              have g3' : LB (orbD cx cy 3).1 1534 ∨ LB (orbD cx cy 3).2 1534 := g3.imp (fun h => h.mono (by omega)) (fun h => h.mono (by omega))
              exact absurd (NF_next cx cy (k := 3) g3') no1
            · have n2 := NF_next cx cy (k := 2) (g.imp (fun h => h.mono hs) (fun h => h.mono hs))
              exact absurd (NF_next cx cy (k := 3) (.inl (n2.lb (by omega)))) no1
end
end Go.Proofs.Ytakhgppjgeeihaa
