/-
  What the small functions on floats and complex numbers return, in the program, in the reference and in the laws' package: words that are those of plain functions, or a NaN where these have one. Conditions: none.
-/
import Derived.Test.YtakhgppjgeeihaaDraw2
import Derived.Test.YtakhgppjgeeihaaFlt2
namespace Go.Proofs.Ytakhgppjgeeihaa
open Go.ChangeShapes Go.WideShapes Go.ChangeAt Go.RowKit
open Fl

theorem gD : Fl.Good D := good .f64
theorem gF : Fl.Good F := good .f32

/-- a bool has come, the world has at most drawn -/
def BV (b : Bool) (w : World) (e : Ending) (w' : World) : Prop := e = .returned (.bool b) ∧ ∃ n, w' = w.drewN n
/-- a float has come that is the word x, or a NaN if x is one -/
def FV (k : FloatKind) (x : Nat) (w : World) (e : Ending) (w' : World) : Prop := ∃ a n, e = .returned (.float k a) ∧ Sim k.format a x ∧ a < 2 ^ k.format.width ∧ w' = w.drewN n
/-- the like of a complex number -/
def CV (k : FloatKind) (x y : Nat) (w : World) (e : Ending) (w' : World) : Prop := ∃ a b n, e = .returned (.complex k a b) ∧ Sim k.format a x ∧ Sim k.format b y ∧ a < 2 ^ k.format.width ∧ b < 2 ^ k.format.width ∧ w' = w.drewN n

theorem order_self {k : FloatKind} {x : Nat} (h : isN k.format x = false) : k.format.order x x = some .eq := by
  rw [order_key _ (good k) x x h h]; simp [compare, compareOfLessAndEq]
theorem order_self_nan {k : FloatKind} {x : Nat} (h : isN k.format x = true) : k.format.order x x = none := order_nan _ (good k) x x (.inl h)

theorem alike_nan (a b : Nat) (ha : isN D a = true) (hb : isN D b = true) (w : World) : Calls Try.prog 52 #[.float .f64 a, .float .f64 b] w (BV true w) := by
  have h1 := order_self_nan ha
  have h2 := order_self_nan hb
  go_enter Try.func52, Try.ntmps52
  go_wp2
  go_ret
  exact ⟨rfl, 0, rfl⟩
theorem one_div (a : Nat) (ha : isN D a = false) : ∃ r, (∀ w, faV .quo .f64 4607182418800017408 a w = r) ∧ isN D r = false := by
  obtain ⟨r, hr, hn⟩ := div_num D gD 4607182418800017408 a (by decide) (by decide) ha
  exact ⟨r, fun w => by unfold faV; rw [show floatBits .quo .f64 4607182418800017408 a = some r from hr]; rfl, hn⟩
theorem alike_num (a : Nat) (ha : isN D a = false) (w : World) : Calls Try.prog 52 #[.float .f64 a, .float .f64 a] w (BV true w) := by
  have h1 := order_self ha
  obtain ⟨r, hr, hn⟩ := one_div a ha
  have h2 := order_self hn
  go_enter Try.func52, Try.ntmps52
  go_wp2
  go_ret
  exact ⟨rfl, _, rfl⟩
theorem alike_any (a b : Nat) (h : Sim D a b) (w : World) : Calls Try.prog 52 #[.float .f64 a, .float .f64 b] w (BV true w) := by
  rcases h with rfl | ⟨ha, hb⟩
  · cases hn : isN D a with
    | true => exact alike_nan a a hn hn w
    | false => exact alike_num a hn w
  · exact alike_nan a b ha hb w
theorem sameWide_any (a b c d : Nat) (h : Sim D a c) (k : Sim D b d) (w : World) : Calls Try.prog 20 #[.complex .f64 a b, .complex .f64 c d] w (BV true w) := by
  go_enter Try.func20, Try.ntmps20
  go_wp2_with fail
  refine (alike_any _ _ h _).mono ?_
  rintro e w1 ⟨rfl, n1, rfl⟩
  go_wp2_with fail
  refine (alike_any _ _ k _).mono ?_
  rintro e w2 ⟨rfl, n2, rfl⟩
  go_wp2
  go_ret
  exact ⟨rfl, n1 + n2, by simp⟩

/-! ### mirrors -/
theorem mirror_impl (x y : Nat) (w : World) : Calls Try.prog 39 #[.complex .f64 x y] w fun e w' => e = .returned (.complex .f64 x (negw D y)) ∧ w = w' := by
  go_enter Try.func39, Try.ntmps39
  go_wp2
  go_ret
  exact ⟨rfl, rfl⟩

/-! ### equality -/
/-- two complex numbers are equal -/
def eqC (k : FloatKind) (a b c d : Nat) : Bool := (k.format.order a c == some .eq) && (k.format.order b d == some .eq)
theorem eqC_iff (k : FloatKind) (a b c d : Nat) : eqC k a b c d = true ↔ (isN k.format a = false ∧ isN k.format c = false ∧ key k.format a = key k.format c) ∧ (isN k.format b = false ∧ isN k.format d = false ∧ key k.format b = key k.format d) := by
  unfold eqC; rw [Bool.and_eq_true, eq_iff _ (good k), eq_iff _ (good k)]
theorem alike_impl (a b c d : Nat) (w : World) : Calls Try.prog 22 #[.complex .f64 a b, .complex .f64 c d] w fun e w' => e = .returned (.bool (eqC .f64 a b c d)) ∧ w = w' := by
  go_enter Try.func22, Try.ntmps22
  go_wp2
  go_ret
  exact ⟨rfl, rfl⟩

/-! ### squares, products, norms -/
/-- the parts of a square -/
def sqR (x y : Nat) : Nat := subT D (mulT D x x) (mulT D y y)
def sqI (x y : Nat) : Nat := mulT D 4611686018427387904 (mulT D x y)
/-- the parts of a product -/
def prR (x y v u : Nat) : Nat := subT D (mulT D x v) (mulT D y u)
def prI (x y v u : Nat) : Nat := addT D (mulT D x u) (mulT D y v)
/-- a norm -/
def nrm (x y : Nat) : Nat := addT D (mulT D x x) (mulT D y y)
theorem faV_add (x y x' y' : Nat) (w : World) (hx : Sim D x x') (hy : Sim D y y') : Sim D (faV .add .f64 x y w) (addT D x' y') := by
  have h := faV_sim w .add (by simp) .f64 x y
  rw [← addT_sim D gD hx hy]; exact h
theorem faV_sub (x y x' y' : Nat) (w : World) (hx : Sim D x x') (hy : Sim D y y') : Sim D (faV .sub .f64 x y w) (subT D x' y') := by
  have h := faV_sim w .sub (by simp) .f64 x y
  rw [← subT_sim D gD hx hy]; exact h
theorem faV_mul (x y x' y' : Nat) (w : World) (hx : Sim D x x') (hy : Sim D y y') : Sim D (faV .mul .f64 x y w) (mulT D x' y') := by
  have h := faV_sim w .mul (by simp) .f64 x y
  rw [← mulT_sim D gD hx hy]; exact h
theorem faV_quo (x y x' y' : Nat) (w : World) (hx : Sim D x x') (hy : Sim D y y') : Sim D (faV .quo .f64 x y w) (divT D x' y') := by
  have h := faV_sim w .quo (by simp) .f64 x y
  rw [← divT_sim D gD hx hy]; exact h
theorem mulT_negs (x y : Nat) (hx : x < 2 ^ D.width) (hy : y < 2 ^ D.width) : Sim D (mulT D (negw D x) (negw D y)) (mulT D x y) := by
  refine (mulT_neg D gD x (negw D y) hx).trans ?_
  rw [mulT_comm D gD x]
  have h := negw_sim D (mulT_lt D gD _ _) (negw_lt D _ (mulT_lt D gD _ _)) (mulT_neg D gD y x hy)
  rw [negw_negw] at h
  rw [mulT_comm D gD x y]
  exact h
theorem sqR_neg2 (x y : Nat) (hx : x < 2 ^ D.width) (hy : y < 2 ^ D.width) : Sim D (sqR (negw D x) (negw D y)) (sqR x y) := by
  unfold sqR; rw [subT_sim D gD (mulT_negs x x hx hx) (mulT_negs y y hy hy)]; exact Sim.refl _ _
theorem sqI_neg2 (x y : Nat) (hx : x < 2 ^ D.width) (hy : y < 2 ^ D.width) : Sim D (sqI (negw D x) (negw D y)) (sqI x y) := by
  unfold sqI; rw [mulT_sim D gD (Sim.refl D _) (mulT_negs x y hx hy)]; exact Sim.refl _ _
theorem sqR_neg (x y : Nat) (hy : y < 2 ^ D.width) : Sim D (sqR x (negw D y)) (sqR x y) := by
  unfold sqR; rw [subT_sim D gD (Sim.refl D _) (mulT_negs y y hy hy)]; exact Sim.refl _ _
theorem sqI_neg (x y : Nat) (hy : y < 2 ^ D.width) : Sim D (sqI x (negw D y)) (negw D (sqI x y)) := by
  unfold sqI
  have h : Sim D (mulT D x (negw D y)) (negw D (mulT D x y)) := by rw [mulT_comm D gD x, mulT_comm D gD x]; exact mulT_neg D gD y x hy
  rw [mulT_sim D gD (Sim.refl D _) h, mulT_comm D gD 4611686018427387904, mulT_comm D gD 4611686018427387904]
  exact mulT_neg D gD _ _ (mulT_lt D gD _ _)
theorem nrm_neg (x y : Nat) (hy : y < 2 ^ D.width) : Sim D (nrm x (negw D y)) (nrm x y) := by
  unfold nrm; rw [addT_sim D gD (Sim.refl D _) (mulT_negs y y hy hy)]; exact Sim.refl _ _
theorem prR_mirror (x y : Nat) (hy : y < 2 ^ D.width) : Sim D (prR x y x (negw D y)) (nrm x y) := by
  have h : Sim D (mulT D y (negw D y)) (negw D (mulT D y y)) := by rw [mulT_comm D gD y (negw D y)]; exact mulT_neg D gD y y hy
  unfold prR nrm
  rw [subT_sim D gD (Sim.refl D _) h, subT_eq D gD _ _ (negw_lt D _ (mulT_lt D gD _ _)), negw_negw]
  exact Sim.refl _ _
/-- a square of a number is no NaN and has no sign -/
theorem mul_self (x : Nat) (hx : isN D x = false) : ∃ r, r ≤ D.infRung ∧ mulT D x x = D.word false r := by
  refine ⟨mulRI D (rung D x) (rung D x), mulRI_le D _ _, ?_⟩
  rw [mulT_eq D gD x x hx hx, if_neg]
  · congr 1; cases sgn D x <;> rfl
  · have := inf_pos D gD; unfold mulBad; omega
theorem nrm_word (x y : Nat) (hx : isN D x = false) (hy : isN D y = false) : ∃ r, r ≤ D.infRung ∧ nrm x y = D.word false r := by
  obtain ⟨p, hp, ep⟩ := mul_self x hx
  obtain ⟨q, hq, eq⟩ := mul_self y hy
  unfold nrm
  have hi := inf_lt D
  rw [ep, eq, addT_eq D gD _ _ (isN_word D _ _ hp) (isN_word D _ _ hq)]
  unfold addW
  rw [rung_word D _ _ (by omega), rung_word D _ _ (by omega), sgn_word D _ _ (by omega), sgn_word D _ _ (by omega)]
  by_cases c1 : p = D.infRung
  · rw [if_pos c1]
    by_cases c2 : q = D.infRung
    · rw [if_pos c2]; exact ⟨D.infRung, Nat.le_refl _, rfl⟩
    · rw [if_neg c2]; exact ⟨D.infRung, Nat.le_refl _, rfl⟩
  · rw [if_neg c1]
    by_cases c2 : q = D.infRung
    · rw [if_pos c2]; exact ⟨D.infRung, Nat.le_refl _, rfl⟩
    · rw [if_neg c2]
      refine ⟨_, addR_le D (sval D (D.word false p) + sval D (D.word false q)), ?_⟩
      have s1 : 0 ≤ sval D (D.word false p) := by unfold sval; rw [sgn_word D _ _ (by omega)]; simp
      have s2 : 0 ≤ sval D (D.word false q) := by unfold sval; rw [sgn_word D _ _ (by omega)]; simp
      show D.word (if _ then _ else _) _ = D.word false _
      congr 1
      split
      · rfl
      · simp; omega
theorem nrm_ge (x y : Nat) (hx : isN D x = false) (hy : isN D y = false) {a : Nat} (ha : Sim D a (nrm x y)) : D.order a 0 = some .gt ∨ D.order a 0 = some .eq := by
  obtain ⟨r, hr, e⟩ := nrm_word x y hx hy
  have hi := inf_lt D
  have hn : isN D (nrm x y) = false := by rw [e]; exact isN_word D _ _ hr
  rw [ha.eq_of hn, e, order_key D gD _ _ (isN_word D _ _ hr) (by decide), key_word D _ _ (by omega)]
  have k0 : key D 0 = 0 := by decide
  rw [k0]
  simp only [compare, compareOfLessAndEq]
  by_cases h0 : r = 0
  · right; subst h0; rfl
  · left; rw [if_neg (by simp), if_neg (by simp; omega)]
theorem square_impl (x y x' y' : Nat) (hx : Sim D x x') (hy : Sim D y y') (w : World) : Calls Try.prog 67 #[.complex .f64 x y] w (CV .f64 (sqR x' y') (sqI x' y') w) := by
  go_enter Try.func67, Try.ntmps67
  go_wp2
  go_ret
  exact ⟨_, _, _, rfl, faV_sub _ _ _ _ _ (faV_mul _ _ _ _ _ hx hx) (faV_mul _ _ _ _ _ hy hy), faV_mul _ _ _ _ _ (Sim.refl _ _) (faV_mul _ _ _ _ _ hx hy), faV_lt _ _ _ _ _, faV_lt _ _ _ _ _, rfl⟩
theorem square_spec (x y x' y' : Nat) (hx : Sim D x x') (hy : Sim D y y') (w : World) : Calls Try.prog 76 #[.complex .f64 x y] w (CV .f64 (sqR x' y') (sqI x' y') w) := by
  go_enter Try.func76, Try.ntmps76
  go_wp2
  go_ret
  exact ⟨_, _, _, rfl, faV_sub _ _ _ _ _ (faV_mul _ _ _ _ _ hx hx) (faV_mul _ _ _ _ _ hy hy), faV_mul _ _ _ _ _ (Sim.refl _ _) (faV_mul _ _ _ _ _ hx hy), faV_lt _ _ _ _ _, faV_lt _ _ _ _ _, rfl⟩
theorem product_impl (x y v u x' y' v' u' : Nat) (hx : Sim D x x') (hy : Sim D y y') (hv : Sim D v v') (hu : Sim D u u') (w : World) : Calls Try.prog 75 #[.complex .f64 x y, .complex .f64 v u] w (CV .f64 (prR x' y' v' u') (prI x' y' v' u') w) := by
  go_enter Try.func75, Try.ntmps75
  go_wp2
  go_ret
  exact ⟨_, _, _, rfl, faV_sub _ _ _ _ _ (faV_mul _ _ _ _ _ hx hv) (faV_mul _ _ _ _ _ hy hu), faV_add _ _ _ _ _ (faV_mul _ _ _ _ _ hx hu) (faV_mul _ _ _ _ _ hy hv), faV_lt _ _ _ _ _, faV_lt _ _ _ _ _, rfl⟩
theorem product_spec (x y v u x' y' v' u' : Nat) (hx : Sim D x x') (hy : Sim D y y') (hv : Sim D v v') (hu : Sim D u u') (w : World) : Calls Try.prog 58 #[.complex .f64 x y, .complex .f64 v u] w (CV .f64 (prR x' y' v' u') (prI x' y' v' u') w) := by
  go_enter Try.func58, Try.ntmps58
  go_wp2
  go_ret
  exact ⟨_, _, _, rfl, faV_sub _ _ _ _ _ (faV_mul _ _ _ _ _ hx hv) (faV_mul _ _ _ _ _ hy hu), faV_add _ _ _ _ _ (faV_mul _ _ _ _ _ hx hu) (faV_mul _ _ _ _ _ hy hv), faV_lt _ _ _ _ _, faV_lt _ _ _ _ _, rfl⟩
theorem norm_impl (x y x' y' : Nat) (hx : Sim D x x') (hy : Sim D y y') (w : World) : Calls Try.prog 38 #[.complex .f64 x y] w (FV .f64 (nrm x' y') w) := by
  go_enter Try.func38, Try.ntmps38
  go_wp2
  go_ret
  exact ⟨_, _, rfl, faV_add _ _ _ _ _ (faV_mul _ _ _ _ _ hx hx) (faV_mul _ _ _ _ _ hy hy), faV_lt _ _ _ _ _, rfl⟩
theorem norm_spec (x y x' y' : Nat) (hx : Sim D x x') (hy : Sim D y y') (w : World) : Calls Try.prog 51 #[.complex .f64 x y] w (FV .f64 (nrm x' y') w) := by
  go_enter Try.func51, Try.ntmps51
  go_wp2
  go_ret
  exact ⟨_, _, rfl, faV_add _ _ _ _ _ (faV_mul _ _ _ _ _ hx hx) (faV_mul _ _ _ _ _ hy hy), faV_lt _ _ _ _ _, rfl⟩

/-! ### finite numbers -/
def finB (x : Nat) : Bool := decide (rung D x < D.infRung)
theorem subT_self_fin (x : Nat) (hx : x < 2 ^ D.width) (h : rung D x < D.infRung) : subT D x x = D.word false 0 := by
  have hn : isN D x = false := by simp [isN]; omega
  have hn' : isN D (negw D x) = false := by rw [isN_negw D x hx]; exact hn
  rw [subT_eq D gD x x hx, addT_eq D gD x _ hn hn']
  unfold addW
  rw [rung_negw D x hx, if_neg (by omega), if_neg (by omega), sval_negw D x hx, sgn_negw D x hx]
  have e : sval D x + -sval D x = 0 := by omega
  rw [e, if_pos rfl, addR_zero]
  cases sgn D x <;> rfl
theorem subT_self_inf (x : Nat) (hx : x < 2 ^ D.width) (h : ¬ rung D x < D.infRung) : isN D (subT D x x) = true := by
  cases hn : isN D x with
  | true =>
    rw [subT_eq D gD x x hx, addT_nan D gD (.inl hn)]; exact isN_qn D gD
  | false =>
    have hr : rung D x = D.infRung := by simp [isN] at hn; omega
    have hn' : isN D (negw D x) = false := by rw [isN_negw D x hx]; exact hn
    rw [subT_eq D gD x x hx, addT_eq D gD x _ hn hn']
    unfold addW
    rw [rung_negw D x hx, if_pos hr, if_pos hr, sgn_negw D x hx, if_neg (by cases sgn D x <;> simp)]
    exact isN_qn D gD
theorem fin_run (x : Nat) (hx : x < 2 ^ D.width) (w : World) : (D.order (faV .sub .f64 x x w) 0 == some .eq) = finB x := by
  have h := faV_sub x x x x w (Sim.refl _ _) (Sim.refl _ _)
  unfold finB
  by_cases hf : rung D x < D.infRung
  · rw [subT_self_fin x hx hf] at h
    rw [h.eq_of (isN_word D _ _ (Nat.zero_le _))]
    rw [show decide (rung D x < D.infRung) = true by simpa using hf]
    decide
  · have h2 : isN D (faV .sub .f64 x x w) = true := by rw [h.isN]; exact subT_self_inf x hx hf
    rw [order_nan D gD _ _ (.inl h2), show decide (rung D x < D.infRung) = false by simpa using hf]
    rfl
theorem finite_any (x y : Nat) (hx : x < 2 ^ D.width) (hy : y < 2 ^ D.width) (w : World) : Calls Try.prog 21 #[.complex .f64 x y] w (BV (finB x && finB y) w) := by
  have h1 : ∀ w, (FloatKind.f64.format.order (faV .sub .f64 x x w) 0 == some Ordering.eq) = finB x := fin_run x hx
  have h2 : ∀ w, (FloatKind.f64.format.order (faV .sub .f64 y y w) 0 == some Ordering.eq) = finB y := fin_run y hy
  obtain ⟨p, hp⟩ : ∃ p, finB x = p := ⟨_, rfl⟩
  obtain ⟨q, hq⟩ : ∃ q, finB y = q := ⟨_, rfl⟩
  cases p
  · rw [hp, Bool.false_and]
    clear h2 hq
    go_enter Try.func21, Try.ntmps21
    go_wp2
    go_ret
    exact ⟨rfl, _, rfl⟩
  · rw [hp, hq, Bool.true_and]
    go_enter Try.func21, Try.ntmps21
    go_wp2
    go_ret
    exact ⟨rfl, _, rfl⟩
end Go.Proofs.Ytakhgppjgeeihaa
