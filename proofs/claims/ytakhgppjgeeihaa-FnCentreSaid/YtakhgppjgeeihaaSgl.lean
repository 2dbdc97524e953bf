/-
  The orbit of a single number in plain words, and its steps in the program and in the reference. Conditions: none.
-/
import Derived.Test.YtakhgppjgeeihaaOrbx
import Derived.Test.YtakhgppjgeeihaaMag
namespace Go.Proofs.Ytakhgppjgeeihaa
open Go.RowKit Go.Shelf Fl
theorem key_four : key D 4616189618054758400 = 4616189618054758400 := by decide
theorem pw_four : pw 1024 = 4616189618054758400 := by decide +kernel
theorem le4_word {t : Nat} (h : pw 1026 ≤ t) (ht : t ≤ D.infRung) : le4 (D.word false t) = false := by
  have hI := inf_lt D
  have h1 := pw_lt (show 1024 < 1026 by decide)
  unfold le4
  rw [order_key D gD _ _ (isN_word D _ _ ht) (by decide), key_word D _ _ (by omega), key_four]
  rw [pw_four] at h1
  simp only [compare, compareOfLessAndEq]
  rw [if_neg (by simp; omega), if_neg (by simp; omega)]
  rfl
theorem le4_nan {t : Nat} (h : isN D t = true) : le4 t = false := by
  unfold le4; rw [order_nan D gD _ _ (.inl h)]; rfl
theorem nrm_big {x y : Nat} (h : LB x 1024) : le4 (nrm x y) = false := by
  have hI := inf_lt D
  cases hx : isN D x with
  | true => exact le4_nan (by unfold nrm; rw [mulT_nan D gD (.inl hx), addT_nan D gD (.inl (isN_qn D gD))]; exact isN_qn D gD)
  | false =>
    cases hy : isN D y with
    | true => exact le4_nan (by unfold nrm; rw [mulT_nan D gD (x := y) (.inl hy), addT_nan D gD (.inr (isN_qn D gD))]; exact isN_qn D gD)
    | false =>
      have hp : LB (mulT D x x) 1026 := mul_LB h h (by rw [xOne_eq]) (by omega)
      obtain ⟨r, hr, er⟩ := mul_self x hx
      obtain ⟨s, hs, es⟩ := mul_self y hy
      obtain ⟨t, ht, et⟩ := nrm_word x y hx hy
      rw [er] at hp
      unfold LB at hp
      rw [rung_word D _ _ (by omega)] at hp
      have hn : LB (nrm x y) 1026 := by unfold nrm; rw [er, es]; exact add_pos_LB hp hr hs (by omega)
      rw [et] at hn ⊢
      unfold LB at hn
      rw [rung_word D _ _ (by omega)] at hn
      exact le4_word hn ht
theorem le4_UB {x y : Nat} (h : le4 (nrm x y) = true) : UB x 1024 ∧ UB y 1024 := by
  constructor
  · rcases UB.or_LB x 1024 with k | k
    · exact k
    · rw [nrm_big k] at h; cases h
  · rcases UB.or_LB y 1024 with k | k
    · exact k
    · rw [nrm_comm, nrm_big k] at h; cases h
theorem small_F : rungOf F 0 (2 ^ 154) < F.infRung := by decide +kernel
theorem noOv_UB {a j : Nat} (hj : 52 + j = 154 + gap) (h : UB a j) : noOv a := by
  right
  refine Nat.lt_of_le_of_lt (rungOf_mono F gap _ _ h.val) ?_
  have e := rungOf_scale F 0 (2 ^ 154) gap
  rw [Nat.zero_add] at e
  rw [hj, Nat.pow_add, e]
  exact small_F
theorem sq_noOv {x y : Nat} (h : le4 (nrm x y) = true) : noOv (sqR x y) ∧ noOv (sqI x y) := by
  obtain ⟨hx, hy⟩ := le4_UB h
  have a : UB (mulT D x x) 1026 := mul_UB hx hx (by rw [xOne_eq]) (by omega) (by omega)
  have b : UB (mulT D y y) 1026 := mul_UB hy hy (by rw [xOne_eq]) (by omega) (by omega)
  have c : UB (mulT D x y) 1026 := mul_UB hx hy (by rw [xOne_eq]) (by omega) (by omega)
  have hj : 52 + 1027 = 154 + gap := by rw [gap_eq]
  constructor
  · exact noOv_UB hj (sub_UB a b (mulT_lt D gD _ _) (by omega))
  · have t : UB 4611686018427387904 1023 := by unfold UB; rw [rung_two, xTwo_eq, xOne_eq]; exact Nat.le_refl _
    exact noOv_UB hj (mul_UB t c (by rw [xOne_eq]) (by omega) (by omega))
/-- widened, narrowed: total -/
@[irreducible] def widT (b : Nat) : Nat := if isN F b = true then qn D else widW b
@[irreducible] def narT (a : Nat) : Nat := if isN D a = true then qn F else narW a
theorem widT_nan {b : Nat} (h : isN F b = true) : widT b = qn D := by unfold widT; exact if_pos h
theorem widT_num {b : Nat} (h : ¬ isN F b = true) : widT b = widW b := by unfold widT; exact if_neg h
theorem narT_nan {b : Nat} (h : isN D b = true) : narT b = qn F := by unfold narT; exact if_pos h
theorem narT_num {b : Nat} (h : ¬ isN D b = true) : narT b = narW b := by unfold narT; exact if_neg h
theorem wid_T (b : Nat) (w : World) : Sim D (ffV .f32 .f64 b w) (widT b) := by
  by_cases h : isN F b = true
  · rw [widT_nan h]; exact .inr ⟨wid_nan b w h, isN_qn D gD⟩
  · rw [widT_num h, wid_run b w (Bool.eq_false_iff.2 h)]; exact Sim.refl _ _
theorem widT_sim {a b : Nat} (h : Sim F a b) : widT a = widT b := by
  rcases h with rfl | ⟨h1, h2⟩
  · rfl
  · rw [widT_nan h1, widT_nan h2]
theorem nar_T (a b : Nat) (w : World) (hs : Sim D a b) (h : noOv b) : Sim F (ffV .f64 .f32 a w) (narT b) := by
  by_cases hn : isN D b = true
  · rw [narT_nan hn]; exact .inr ⟨nar_nan a w (by rw [hs.isN]; exact hn), isN_qn F gF⟩
  · rw [narT_num hn]
    have hn' := Bool.eq_false_iff.2 hn
    obtain rfl := hs.eq_of hn'
    rw [nar_run a w hn' h]; exact Sim.refl _ _
/-- the orbit of a single number, in plain words -/
def orbF (cx cy : Nat) : Nat → Nat × Nat
  | 0 => (0, 0)
  | k + 1 => (addT F (narT (sqR (widT (orbF cx cy k).1) (widT (orbF cx cy k).2))) cx, addT F (narT (sqI (widT (orbF cx cy k).1) (widT (orbF cx cy k).2))) cy)
def BdF (cx cy k : Nat) : Bool := le4 (nrm (widT (orbF cx cy k).1) (widT (orbF cx cy k).2))
/-- words that stand for the k-th number of the orbit, as long as none has left -/
def VF (cx cy k x y : Nat) : Prop := x < 2 ^ F.width ∧ y < 2 ^ F.width ∧ ((∀ j, j < k → BdF cx cy j = true) → Sim F x (orbF cx cy k).1 ∧ Sim F y (orbF cx cy k).2)
theorem VF_zero (cx cy : Nat) : VF cx cy 0 0 0 := ⟨by decide, by decide, fun _ => ⟨Sim.refl _ _, Sim.refl _ _⟩⟩
theorem faV_addF (x y x' y' : Nat) (w : World) (hx : Sim F x x') (hy : Sim F y y') : Sim F (faV .add .f32 x y w) (addT F x' y') := by
  have h := faV_sim w .add (by simp) .f32 x y
  rw [← addT_sim F gF hx hy]; exact h
/-- the square of a single number: the words that a run may give -/
def SqP (x y a b : Nat) : Prop := a < 2 ^ F.width ∧ b < 2 ^ F.width ∧ (le4 (nrm (widT x) (widT y)) = true → Sim F a (narT (sqR (widT x) (widT y))) ∧ Sim F b (narT (sqI (widT x) (widT y))))
theorem SqP_mk {x y a b : Nat} {w w' : World} (hx : Sim D a (sqR (widT x) (widT y))) (hy : Sim D b (sqI (widT x) (widT y))) (ha : a < 2 ^ D.width) (hb : b < 2 ^ D.width) : SqP x y (ffV .f64 .f32 a w) (ffV .f64 .f32 b w') :=
  ⟨ffV_lt .f64 .f32 _ _ ha, ffV_lt .f64 .f32 _ _ hb, fun h => ⟨nar_T a _ w hx (sq_noOv h).1, nar_T b _ w' hy (sq_noOv h).2⟩⟩
theorem sqs_impl (x y : Nat) (w : World) : Calls Try.prog 72 #[.complex .f32 x y] w fun e w' => ∃ a b n, e = .returned (.complex .f32 a b) ∧ w' = w.drewN n ∧ SqP x y a b := by
  go_enter Try.func72, Try.ntmps72
  go_wp2_with fail
  refine (widen_impl _ _ _).mono ?_; rintro e w' ⟨rfl, rfl⟩
  go_wp2_with fail
  refine (square_impl _ _ (widT x) (widT y) (wid_T _ _) (wid_T _ _) _).mono ?_; rintro e w' ⟨a, b, n, rfl, ha, hb, la, lb, rfl⟩
  go_wp2_with fail
  refine (narrow_impl _ _ _).mono ?_; rintro e w' ⟨rfl, rfl⟩
  go_wp2
  go_ret
  exact ⟨_, _, _, rfl, rfl, SqP_mk ha hb la lb⟩
theorem sqs_spec (x y : Nat) (w : World) : Calls Try.prog 80 #[.complex .f32 x y] w fun e w' => ∃ a b n, e = .returned (.complex .f32 a b) ∧ w' = w.drewN n ∧ SqP x y a b := by
  go_enter Try.func80, Try.ntmps80
  go_wp2_with fail
  refine (square_spec _ _ (widT x) (widT y) (wid_T _ _) (wid_T _ _) _).mono ?_; rintro e w' ⟨a, b, n, rfl, ha, hb, la, lb, rfl⟩
  go_wp2
  go_ret
  exact ⟨_, _, _, rfl, rfl, SqP_mk ha hb la lb⟩
theorem VF_next {cx cy k x y a b : Nat} {w w' : World} (h : VF cx cy k x y) (hs : SqP x y a b) : VF cx cy (k + 1) (faV .add .f32 a cx w) (faV .add .f32 b cy w') := by
  refine ⟨faV_lt _ _ _ _ _, faV_lt _ _ _ _ _, fun hj => ?_⟩
  obtain ⟨s1, s2⟩ := h.2.2 (fun j hk => hj j (by omega))
  have e1 := widT_sim s1
  have e2 := widT_sim s2
  have hb : BdF cx cy k = true := hj k (by omega)
  unfold BdF at hb
  rw [← e1, ← e2] at hb
  obtain ⟨q1, q2⟩ := hs.2.2 hb
  rw [e1, e2] at q1 q2
  exact ⟨faV_addF _ _ _ _ _ q1 (Sim.refl _ _), faV_addF _ _ _ _ _ q2 (Sim.refl _ _)⟩
theorem VF_step (cx cy k x y : Nat) (W : World) (h : VF cx cy k x y) : Calls Try.prog 45 #[.complex .f32 x y, .complex .f32 cx cy] W fun e W' => ∃ x' y' m, e = .returned (.complex .f32 x' y') ∧ W' = W.drewN m ∧ VF cx cy (k + 1) x' y' := by
  go_enter Try.func45, Try.ntmps45
  go_wp2_with fail
  refine (sqs_impl _ _ _).mono ?_; rintro e w' ⟨a, b, n, rfl, rfl, hs⟩
  go_wp2
  go_ret
  exact ⟨_, _, _, rfl, rfl, VF_next h hs⟩
theorem VF_spec (cx cy k x y : Nat) (W : World) (h : VF cx cy k x y) : Calls Try.prog 71 #[.complex .f32 x y, .complex .f32 cx cy] W fun e W' => ∃ x' y' m, e = .returned (.complex .f32 x' y') ∧ W' = W.drewN m ∧ VF cx cy (k + 1) x' y' := by
  go_enter Try.func71, Try.ntmps71
  go_wp2_with fail
  refine (sqs_spec _ _ _).mono ?_; rintro e w' ⟨a, b, n, rfl, rfl, hs⟩
  go_wp2
  go_ret
  exact ⟨_, _, _, rfl, rfl, VF_next h hs⟩
theorem VF_wid {cx cy k x y : Nat} (h : VF cx cy k x y) (hj : ∀ j, j < k → BdF cx cy j = true) (w1 w2 : World) : Sim D (ffV .f32 .f64 x w1) (widT (orbF cx cy k).1) ∧ Sim D (ffV .f32 .f64 y w2) (widT (orbF cx cy k).2) := by
  obtain ⟨s1, s2⟩ := h.2.2 hj
  rw [← widT_sim s1, ← widT_sim s2]
  exact ⟨wid_T _ _, wid_T _ _⟩
theorem VF_norm (cx cy k x y : Nat) (h : VF cx cy k x y) (hj : ∀ j, j < k → BdF cx cy j = true) (w1 w2 W : World) : Calls Try.prog 38 #[.complex .f64 (ffV .f32 .f64 x w1) (ffV .f32 .f64 y w2)] W fun e W' => ∃ v m, e = .returned (.float .f64 v) ∧ W' = W.drewN m ∧ le4 v = BdF cx cy k := by
  obtain ⟨s1, s2⟩ := VF_wid h hj w1 w2
  refine (norm_impl _ _ _ _ s1 s2 W).mono ?_
  rintro e w' ⟨a, n, rfl, ha, la, rfl⟩
  exact ⟨a, n, rfl, rfl, le4_sim ha⟩
theorem VF_norms (cx cy k x y : Nat) (h : VF cx cy k x y) (hj : ∀ j, j < k → BdF cx cy j = true) (w1 w2 W : World) : Calls Try.prog 51 #[.complex .f64 (ffV .f32 .f64 x w1) (ffV .f32 .f64 y w2)] W fun e W' => ∃ v m, e = .returned (.float .f64 v) ∧ W' = W.drewN m ∧ le4 v = BdF cx cy k := by
  obtain ⟨s1, s2⟩ := VF_wid h hj w1 w2
  refine (norm_spec _ _ _ _ s1 s2 W).mono ?_
  rintro e w' ⟨a, n, rfl, ha, la, rfl⟩
  exact ⟨a, n, rfl, rfl, le4_sim ha⟩
end Go.Proofs.Ytakhgppjgeeihaa
