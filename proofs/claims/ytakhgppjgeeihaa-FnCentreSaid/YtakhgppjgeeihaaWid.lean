/-
  What the conversions between the two widths give in a run, by plain functions; a double that equals some single number is narrowed to just that one. Conditions: none.
-/
import Derived.Test.YtakhgppjgeeihaaFn
import Derived.Test.YtakhgppjgeeihaaFlt3
namespace Go.Proofs.Ytakhgppjgeeihaa
open Fl

/-- the double that a single word is -/
def widW (b : Nat) : Nat := D.word (sgn F b) (widR (rung F b))
/-- the single word nearest to a double, where there is one -/
def narW (a : Nat) : Nat := F.word (sgn D a) (narR (rung D a))
/-- narrowing does not leave the finite numbers -/
def noOv (a : Nat) : Prop := rung D a = D.infRung ∨ rungOf F gap (val D (rung D a)) < F.infRung

theorem nN {f : Ieee.Format} {x : Nat} (h : isN f x = false) : rung f x ≤ f.infRung := by
  simpa [isN] using h
theorem widW_lt (b : Nat) (h : isN F b = false) : widW b < 2 ^ D.width := D.word_lt _ (Nat.lt_of_le_of_lt (widR_le _ (nN h)) (inf_lt D))
theorem isN_widW (b : Nat) (h : isN F b = false) : isN D (widW b) = false := isN_word D _ _ (widR_le _ (nN h))
theorem narW_lt (a : Nat) : narW a < 2 ^ F.width := F.word_lt _ (Nat.lt_of_le_of_lt (narR_le _) (inf_lt F))
theorem isN_narW (a : Nat) : isN F (narW a) = false := isN_word F _ _ (narR_le _)
theorem sgn_widW (b : Nat) (h : isN F b = false) : sgn D (widW b) = sgn F b := sgn_word D _ _ (Nat.lt_of_le_of_lt (widR_le _ (nN h)) (inf_lt D))
theorem rung_widW (b : Nat) (h : isN F b = false) : rung D (widW b) = widR (rung F b) := rung_word D _ _ (Nat.lt_of_le_of_lt (widR_le _ (nN h)) (inf_lt D))

theorem gap_places (k : Nat) : F.leastPlace + (k : Int) = D.leastPlace - (0 : Nat) + ((k + gap : Nat) : Int) := by
  have h1 : F.leastPlace = -149 := lpF
  have h2 : D.leastPlace = -1074 := lpD
  have h3 : ((gap : Nat) : Int) = 925 := by rw [gap_eq]; rfl
  omega
theorem gap_places' (k : Nat) : D.leastPlace + (k : Int) = F.leastPlace - (gap : Nat) + (k : Nat) := by
  have h1 : F.leastPlace = -149 := lpF
  have h2 : D.leastPlace = -1074 := lpD
  have h3 : ((gap : Nat) : Int) = 925 := by rw [gap_eq]; rfl
  omega

theorem enc_wid (s : Bool) (m k q : Nat) (hq : q < F.infRung) (hv : m * 2 ^ k = val F q) : FloatKind.f64.encode (.number s m (F.leastPlace + k)) = D.word s (widR q) := by
  have hw := wid_lt q hq
  have h0 : widR q = rungOf D 0 (val F q * 2 ^ gap) := by unfold widR; exact if_neg (by omega)
  have h1 : m * 2 ^ (k + gap) = val F q * 2 ^ gap := by rw [Nat.pow_add, ← Nat.mul_assoc, hv]
  have h2 : FloatKind.f64.encode (.number s m (F.leastPlace + k)) = D.nearest s m (F.leastPlace + k) := rfl
  rw [h2, nearest_eq D s m _ 0 (k + gap) (gap_places k), h1, h0, Nat.min_eq_left (Nat.le_of_lt hw)]
theorem not_inf (f : Ieee.Format) (hG : Fl.Good f) (s : Bool) (r : Nat) (h : r < f.infRung) : (f.read (f.word s r)).isInfinity = false := by
  rw [isInf_iff f hG, rung_word f _ _ (Nat.lt_trans h (inf_lt f))]
  simp; omega
theorem widR_lt (q : Nat) (h : q < F.infRung) : widR q < D.infRung := by
  unfold widR; rw [if_neg (by omega)]; exact wid_lt q h
theorem wid_run (b : Nat) (w : World) (h : isN F b = false) : ffV .f32 .f64 b w = widW b := by
  have hr := nN h
  have hne : ¬ FloatKind.f32 = FloatKind.f64 := by decide
  rcases Nat.lt_or_eq_of_le hr with h1 | h1
  · obtain ⟨m, k, e, hv⟩ := read_fin F b h1
    have e' : FloatKind.f32.decode b = .number (sgn F b) m (F.leastPlace + k) := e
    have hn := enc_wid (sgn F b) m k _ h1 hv
    have hi : (FloatKind.f64.decode (D.word (sgn F b) (widR (rung F b)))).isInfinity = false := not_inf D gD _ _ (widR_lt _ h1)
    simp only [ffV, if_neg hne, e', hn, hi, Bool.false_eq_true, if_false, widW]
  · have e' : FloatKind.f32.decode b = .infinity (sgn F b) := read_inf F gF b h1
    have h2 : widR F.infRung = D.infRung := by unfold widR; exact if_pos rfl
    have h3 : FloatKind.f64.encode (.infinity (sgn F b)) = D.word (sgn F b) D.infRung := rfl
    simp only [ffV, if_neg hne, e', h3, widW, h1, h2]
theorem wid_nan (b : Nat) (w : World) (h : isN F b = true) : isN D (ffV .f32 .f64 b w) = true := by
  unfold ffV
  rw [if_neg (by decide)]
  simp only [isN, decide_eq_true_eq] at h
  obtain ⟨t, e⟩ := read_nan F gF b h
  have e' : FloatKind.f32.decode b = .nan (sgn F b) t := e
  rw [e']
  exact (nan_conv .f64 b _).1
theorem narR_fin (p : Nat) (hp : p < D.infRung) (ho : rungOf F gap (val D p) < F.infRung) : narR p = rungOf F gap (val D p) := by
  unfold narR; rw [if_neg (by omega)]; exact Nat.min_eq_left (Nat.le_of_lt ho)
theorem enc_nar (s : Bool) (m k p : Nat) (hp : p < D.infRung) (ho : rungOf F gap (val D p) < F.infRung) (hv : m * 2 ^ k = val D p) : FloatKind.f32.encode (.number s m (D.leastPlace + k)) = F.word s (narR p) := by
  have h2 : FloatKind.f32.encode (.number s m (D.leastPlace + k)) = F.nearest s m (D.leastPlace + k) := rfl
  rw [h2, nearest_eq F s m _ gap k (gap_places' k), hv, narR_fin p hp ho, Nat.min_eq_left (Nat.le_of_lt ho)]
theorem nar_run (a : Nat) (w : World) (h : isN D a = false) (ho : noOv a) : ffV .f64 .f32 a w = narW a := by
  have hr := nN h
  have hne : ¬ FloatKind.f64 = FloatKind.f32 := by decide
  rcases Nat.lt_or_eq_of_le hr with h1 | h1
  · have ho' : rungOf F gap (val D (rung D a)) < F.infRung := by
      rcases ho with ho | ho
      · omega
      · exact ho
    obtain ⟨m, k, e, hv⟩ := read_fin D a h1
    have e' : FloatKind.f64.decode a = .number (sgn D a) m (D.leastPlace + k) := e
    have hn := enc_nar (sgn D a) m k _ h1 ho' hv
    have hi : (FloatKind.f32.decode (F.word (sgn D a) (narR (rung D a)))).isInfinity = false := not_inf F gF _ _ (by rw [narR_fin _ h1 ho']; exact ho')
    simp only [ffV, if_neg hne, e', hn, hi, Bool.false_eq_true, if_false, narW]
  · have e' : FloatKind.f64.decode a = .infinity (sgn D a) := read_inf D gD a h1
    have h2 : narR D.infRung = F.infRung := by unfold narR; exact if_pos rfl
    have h3 : FloatKind.f32.encode (.infinity (sgn D a)) = F.word (sgn D a) F.infRung := rfl
    simp only [ffV, if_neg hne, e', h3, narW, h1, h2]
theorem nar_nan (a : Nat) (w : World) (h : isN D a = true) : isN F (ffV .f64 .f32 a w) = true := by
  unfold ffV
  rw [if_neg (by decide)]
  simp only [isN, decide_eq_true_eq] at h
  obtain ⟨t, e⟩ := read_nan D gD a h
  have e' : FloatKind.f64.decode a = .nan (sgn D a) t := e
  rw [e']
  exact (nan_conv .f32 a _).1
/-- a double that equals a single number -/
theorem nar_of_wid {a r : Nat} (hr : isN F r = false) (hk : key D (widW r) = key D a) :
    noOv a ∧ rung F (narW a) = rung F r ∧ key D (widW (narW a)) = key D a := by
  obtain ⟨h1, h2⟩ := key_cases D hk
  rw [rung_widW r hr] at h1 h2
  rw [sgn_widW r hr] at h2
  have hq := nN hr
  have hn : narR (rung D a) = rung F r := by rw [← h1, narR_widR _ hq]
  have hrg : rung F (narW a) = rung F r := by
    unfold narW; rw [rung_word F _ _ (Nat.lt_of_le_of_lt (narR_le _) (inf_lt F)), hn]
  refine ⟨?_, hrg, ?_⟩
  · by_cases hi : rung F r = F.infRung
    · left; rw [← h1]; unfold widR; rw [if_pos hi]
    · right
      rw [← h1]; unfold widR; rw [if_neg hi]
      have := nar_wid (rung F r)
      rw [this]; omega
  · have hs : sgn F (narW a) = sgn D a := by unfold narW; exact sgn_word F _ _ (Nat.lt_of_le_of_lt (narR_le _) (inf_lt F))
    unfold key
    rw [rung_widW _ (isN_narW a), sgn_widW _ (isN_narW a), hrg, hs, h1]
/-- narrowing undoes widening -/
theorem narW_widW (r : Nat) (hr : isN F r = false) (hl : r < 2 ^ F.width) : narW (widW r) = r ∧ noOv (widW r) := by
  have h := nar_of_wid hr rfl
  refine ⟨?_, h.1⟩
  have hs : sgn F (narW (widW r)) = sgn F r := by
    unfold narW; rw [sgn_word F _ _ (Nat.lt_of_le_of_lt (narR_le _) (inf_lt F)), sgn_widW r hr]
  have h1 := word_split F (narW (widW r)) (narW_lt _)
  rw [h.2.1, hs, word_split F r hl] at h1
  exact h1.symm
/-- order is kept by widening -/
theorem key_widW (a b : Nat) (ha : isN F a = false) (hb : isN F b = false) : key D (widW a) = key D (widW b) ↔ key F a = key F b := by
  have h1 := nN ha
  have h2 := nN hb
  have l1 := @widR_lt_iff (rung F a) (rung F b) h1 h2
  have l2 := @widR_lt_iff (rung F b) (rung F a) h2 h1
  have z0 : widR 0 = 0 := by unfold widR; rw [if_neg (by decide), val_zero, Nat.zero_mul, rungOf_zero]
  have p1 := @widR_lt_iff 0 (rung F a) (Nat.zero_le _) h1
  have p2 := @widR_lt_iff 0 (rung F b) (Nat.zero_le _) h2
  rw [z0] at p1 p2
  unfold key
  rw [rung_widW a ha, rung_widW b hb, sgn_widW a ha, sgn_widW b hb]
  split <;> split <;> omega

theorem inWidth_nar (x y : Nat) (w : World) : Calls Try.prog 83 #[.complex .f64 x y] w fun e w' => e = .returned (.complex .f32 (ffV .f64 .f32 x w) (ffV .f64 .f32 y (w.drewN (ffN .f64 .f32 x)))) ∧ w.drewN (ffN .f64 .f32 x + ffN .f64 .f32 y) = w' := by
  go_enter Try.func83, Try.ntmps83
  go_wp2
  go_ret
  exact ⟨rfl, rfl⟩
theorem narrow_impl (x y : Nat) (w : World) : Calls Try.prog 81 #[.complex .f64 x y] w fun e w' => e = .returned (.complex .f32 (ffV .f64 .f32 x w) (ffV .f64 .f32 y (w.drewN (ffN .f64 .f32 x)))) ∧ w.drewN (ffN .f64 .f32 x + ffN .f64 .f32 y) = w' := by
  go_enter Try.func81, Try.ntmps81
  go_wp2_with fail
  refine (inWidth_nar _ _ _).mono ?_; rintro e w' ⟨rfl, rfl⟩
  go_wp2
  go_ret
  exact ⟨rfl, rfl⟩
theorem inWidth_wid (x y : Nat) (w : World) : Calls Try.prog 63 #[.complex .f32 x y] w fun e w' => e = .returned (.complex .f64 (ffV .f32 .f64 x w) (ffV .f32 .f64 y (w.drewN (ffN .f32 .f64 x)))) ∧ w.drewN (ffN .f32 .f64 x + ffN .f32 .f64 y) = w' := by
  go_enter Try.func63, Try.ntmps63
  go_wp2
  go_ret
  exact ⟨rfl, rfl⟩
theorem widen_impl (x y : Nat) (w : World) : Calls Try.prog 27 #[.complex .f32 x y] w fun e w' => e = .returned (.complex .f64 (ffV .f32 .f64 x w) (ffV .f32 .f64 y (w.drewN (ffN .f32 .f64 x)))) ∧ w.drewN (ffN .f32 .f64 x + ffN .f32 .f64 y) = w' := by
  go_enter Try.func27, Try.ntmps27
  go_wp2_with fail
  refine (inWidth_wid _ _ _).mono ?_; rintro e w' ⟨rfl, rfl⟩
  go_wp2
  go_ret
  exact ⟨rfl, rfl⟩

/-! ### Fits -/
/-- a double equals the single number nearest to it -/
def fitB (x : Nat) : Bool := !isN D x && decide (key D (widW (narW x)) = key D x)
theorem order_comm (k : FloatKind) (a b : Nat) : (k.format.order a b == some .eq) = (k.format.order b a == some .eq) := by
  rw [Bool.eq_iff_iff, eq_iff _ (good k), eq_iff _ (good k)]
  constructor
  · rintro ⟨h1, h2, h3⟩; exact ⟨h2, h1, h3.symm⟩
  · rintro ⟨h1, h2, h3⟩; exact ⟨h2, h1, h3.symm⟩
theorem fit_run (x : Nat) (w1 w2 : World) : (D.order x (ffV .f32 .f64 (ffV .f64 .f32 x w1) w2) == some .eq) = fitB x := by
  rw [Bool.eq_iff_iff, eq_iff D gD]
  unfold fitB
  simp only [Bool.and_eq_true, Bool.not_eq_true', decide_eq_true_eq]
  constructor
  · rintro ⟨h1, h2, h3⟩
    refine ⟨h1, ?_⟩
    cases hn : isN F (ffV .f64 .f32 x w1) with
    | true => rw [wid_nan _ w2 hn] at h2; simp at h2
    | false =>
      rw [wid_run _ w2 hn] at h3
      exact (nar_of_wid hn h3.symm).2.2
  · rintro ⟨h1, h2⟩
    have h := nar_of_wid (isN_narW x) h2
    rw [nar_run x w1 h1 h.1, wid_run _ w2 (isN_narW x)]
    exact ⟨h1, isN_widW _ (isN_narW x), h2.symm⟩
theorem fit_run' (x : Nat) (w1 w2 : World) : (D.order (ffV .f32 .f64 (ffV .f64 .f32 x w1) w2) x == some .eq) = fitB x := by
  rw [order_comm .f64]; exact fit_run x w1 w2
end Go.Proofs.Ytakhgppjgeeihaa
