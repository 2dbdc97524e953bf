/-
  The walk of FnExactBoxWithin: it returns true. Conditions: none.
-/
import Derived.Test.YtjhleindjllibaaExact
import Derived.Deep.RegionHeld3
import Derived.Deep.QuietTactic
import Derived.BigQuiet
namespace Go.Proofs.Ytjhleindjllibaa
open Go.ChangeShapes Go.WideShapes Go.ChangeAt Go.RowKit
/-- what a call of two boxes holds of the world between its own calls: its two boxes, and that nothing that was there has changed -/
theorem keep8 {w W w1 : World} {a b c d a' b' c' d' : Int} (hb : Below W.heap.size W w1) (h : W.cell? ⟨w.heap.size, 0, none⟩ = some (.int .i64 a) ∧ W.cell? ⟨w.heap.size, 1, none⟩ = some (.int .i64 b) ∧ W.cell? ⟨w.heap.size, 2, none⟩ = some (.int .i64 c) ∧ W.cell? ⟨w.heap.size, 3, none⟩ = some (.int .i64 d) ∧ W.cell? ⟨w.heap.size + 1, 0, none⟩ = some (.int .i64 a') ∧ W.cell? ⟨w.heap.size + 1, 1, none⟩ = some (.int .i64 b') ∧ W.cell? ⟨w.heap.size + 1, 2, none⟩ = some (.int .i64 c') ∧ W.cell? ⟨w.heap.size + 1, 3, none⟩ = some (.int .i64 d') ∧ Below w.heap.size w W) : w1.cell? ⟨w.heap.size, 0, none⟩ = some (.int .i64 a) ∧ w1.cell? ⟨w.heap.size, 1, none⟩ = some (.int .i64 b) ∧ w1.cell? ⟨w.heap.size, 2, none⟩ = some (.int .i64 c) ∧ w1.cell? ⟨w.heap.size, 3, none⟩ = some (.int .i64 d) ∧ w1.cell? ⟨w.heap.size + 1, 0, none⟩ = some (.int .i64 a') ∧ w1.cell? ⟨w.heap.size + 1, 1, none⟩ = some (.int .i64 b') ∧ w1.cell? ⟨w.heap.size + 1, 2, none⟩ = some (.int .i64 c') ∧ w1.cell? ⟨w.heap.size + 1, 3, none⟩ = some (.int .i64 d') ∧ Below w.heap.size w w1 := by
  obtain ⟨h0, h1, h2, h3, k0, k1, k2, k3, hB⟩ := h
  obtain ⟨hc, _⟩ := bcell hb
  have l0 := World.block_lt_of_cell? W _ h0
  have l1 := World.block_lt_of_cell? W _ k0
  exact ⟨by rw [hc _ _ l0]; exact h0, by rw [hc _ _ l0]; exact h1, by rw [hc _ _ l0]; exact h2, by rw [hc _ _ l0]; exact h3,
    by rw [hc _ _ l1]; exact k0, by rw [hc _ _ l1]; exact k1, by rw [hc _ _ l1]; exact k2, by rw [hc _ _ l1]; exact k3, below_step hB hb⟩
theorem last8 {w W : World} {a b c d a' b' c' d' : Int} (h : W.cell? ⟨w.heap.size, 0, none⟩ = some (.int .i64 a) ∧ W.cell? ⟨w.heap.size, 1, none⟩ = some (.int .i64 b) ∧ W.cell? ⟨w.heap.size, 2, none⟩ = some (.int .i64 c) ∧ W.cell? ⟨w.heap.size, 3, none⟩ = some (.int .i64 d) ∧ W.cell? ⟨w.heap.size + 1, 0, none⟩ = some (.int .i64 a') ∧ W.cell? ⟨w.heap.size + 1, 1, none⟩ = some (.int .i64 b') ∧ W.cell? ⟨w.heap.size + 1, 2, none⟩ = some (.int .i64 c') ∧ W.cell? ⟨w.heap.size + 1, 3, none⟩ = some (.int .i64 d') ∧ Below w.heap.size w W) : Below w.heap.size w W := h.2.2.2.2.2.2.2.2
set_option maxHeartbeats 2000000 in
theorem walkBoxWithin (a b c d a' b' c' d' : Int) (w : World) : Calls Try.prog 6 #[bx a b c d, bx a' b' c' d'] w fun e w' => e = .returned (.bool true) ∧ Below w.heap.size w w' := by
  have h1 := fun w => spec_within a b c d a' b' c' d' w
  have h2 := fun w => impl_within a b c d a' b' c' d' w
  obtain ⟨r, hr⟩ : ∃ r, (boxB a b c d && boxB a' b' c' d' && inB a b c d a' b' c' d') = r := ⟨_, rfl⟩
  rw [hr] at h1 h2
  have H1 := Lib.hid h1
  have H2 := Lib.hid h2
  clear h1 h2 hr
  cases r
  all_goals
    go_enter Try.func6, Try.ntmps6
    go_wp2_with fail
    go_region_held3 (fun w' => w'.cell? ⟨w.heap.size, 0, none⟩ = some (.int .i64 a) ∧ w'.cell? ⟨w.heap.size, 1, none⟩ = some (.int .i64 b) ∧ w'.cell? ⟨w.heap.size, 2, none⟩ = some (.int .i64 c) ∧ w'.cell? ⟨w.heap.size, 3, none⟩ = some (.int .i64 d) ∧ w'.cell? ⟨w.heap.size + 1, 0, none⟩ = some (.int .i64 a') ∧ w'.cell? ⟨w.heap.size + 1, 1, none⟩ = some (.int .i64 b') ∧ w'.cell? ⟨w.heap.size + 1, 2, none⟩ = some (.int .i64 c') ∧ w'.cell? ⟨w.heap.size + 1, 3, none⟩ = some (.int .i64 d') ∧ Below w.heap.size w w')
      (first | (with_reducible assumption) | (exact keep8 (by assumption) (by assumption)) | (exact keep8 (Below.drew (Below.refl _ _)) (by assumption)) | ((refine ⟨?_, ?_, ?_, ?_, ?_, ?_, ?_, ?_, (by go_grown)⟩) <;> (simp; done)))
      (first | (go_at_call 19; refine (toBox_any _ _ _ _ _).mono ?_; rintro e w1 ⟨rfl, hb1⟩) | (go_at_call 21; refine (H1.out _).mono ?_; rintro e w1 ⟨rfl, hb1⟩))
    go_wp2_with fail
    go_region_held3 (fun w' => w'.cell? ⟨w.heap.size, 0, none⟩ = some (.int .i64 a) ∧ w'.cell? ⟨w.heap.size, 1, none⟩ = some (.int .i64 b) ∧ w'.cell? ⟨w.heap.size, 2, none⟩ = some (.int .i64 c) ∧ w'.cell? ⟨w.heap.size, 3, none⟩ = some (.int .i64 d) ∧ w'.cell? ⟨w.heap.size + 1, 0, none⟩ = some (.int .i64 a') ∧ w'.cell? ⟨w.heap.size + 1, 1, none⟩ = some (.int .i64 b') ∧ w'.cell? ⟨w.heap.size + 1, 2, none⟩ = some (.int .i64 c') ∧ w'.cell? ⟨w.heap.size + 1, 3, none⟩ = some (.int .i64 d') ∧ Below w.heap.size w w')
      (first | (with_reducible assumption) | (exact keep8 (by assumption) (by assumption)) | (exact keep8 (Below.drew (Below.refl _ _)) (by assumption)) | ((refine ⟨?_, ?_, ?_, ?_, ?_, ?_, ?_, ?_, (by go_grown)⟩) <;> (simp; done)))
      (first | (go_at_call 19; refine (toBox_any _ _ _ _ _).mono ?_; rintro e w1 ⟨rfl, hb1⟩) | (go_at_call 22; refine (H2.out _).mono ?_; rintro e w1 ⟨rfl, hb1⟩))
    go_wp2
    go_ret
    refine ⟨rfl, ?_⟩
    exact last8 (by assumption)

/-! ### BoxNorm -/
def sqL (x y : Int) : Int := if x ≤ 0 ∧ 0 ≤ y then 0 else min (x * x) (y * y)
def sqH (x y : Int) : Int := max (x * x) (y * y)
theorem sq_bd (x : Int) (h : -134217728 ≤ x) (k : x ≤ 134217728) : 0 ≤ x * x ∧ x * x ≤ 18014398509481984 := by
  constructor
  · rcases Int.le_total 0 x with h0 | h0
    · exact Int.mul_nonneg h0 h0
    · exact Int.mul_nonneg_of_nonpos_of_nonpos h0 h0
  · have h1 : x * x ≤ 134217728 * 134217728 := by
      rcases Int.le_total 0 x with h0 | h0
      · exact Int.mul_le_mul k k h0 (by omega)
      · have := Int.mul_le_mul (show -x ≤ 134217728 by omega) (show -x ≤ 134217728 by omega) (by omega) (by omega)
        rwa [Int.neg_mul_neg] at this
    exact h1
theorem sqL_bd {x y : Int} (h : -134217728 ≤ x) (hxy : x ≤ y) (k : y ≤ 134217728) : 0 ≤ sqL x y ∧ sqL x y ≤ 18014398509481984 := by
  have hx := sq_bd x h (by omega)
  have hy := sq_bd y (by omega) k
  unfold sqL; split <;> omega
theorem sqH_bd {x y : Int} (h : -134217728 ≤ x) (hxy : x ≤ y) (k : y ≤ 134217728) : 0 ≤ sqH x y ∧ sqH x y ≤ 18014398509481984 := by
  have hx := sq_bd x h (by omega)
  have hy := sq_bd y (by omega) k
  unfold sqH; omega
theorem l4Square_any (x y : Int) (h : -134217728 ≤ x) (hxy : x ≤ y) (k : y ≤ 134217728) (w : World) : Calls Try.prog 62 #[.int .i64 x, .int .i64 y] w fun e w' => e = .returned (.tuple #[.int .i64 (sqL x y), .int .i64 (sqH x y)]) ∧ w = w' := by
  have hx := sq_bd x h (by omega)
  have hy := sq_bd y (by omega) k
  go_enter Try.func62, Try.ntmps62
  go_wp2
  all_goals
    go_ret2
    simp [sqL, sqH]
    try omega
theorem square_any (x y : Int) (h : -134217728 ≤ x) (hxy : x ≤ y) (k : y ≤ 134217728) (w : World) : Calls Try.prog 70 #[.agg #[.int .i64 x, .int .i64 y]] w fun e w' => e = .returned (.agg #[.int .i64 (sqL x y), .int .i64 (sqH x y)]) ∧ Below w.heap.size w w' := by
  have hx := sq_bd x h (by omega)
  have hy := sq_bd y (by omega) k
  go_enter Try.func70, Try.ntmps70
  go_wp2_with fail
  go_quiet (fail)
  go_wp2
  all_goals
    go_returns
    refine ⟨?_, by repeat' (first | assumption | (refine below_drewN ?_ _) | (refine below_step ?_ (by assumption)) | go_grown)⟩
    simp [sqL, sqH]
    try omega
theorem plus_any (a b c d : Int) (h1 : 0 ≤ a ∧ a ≤ 18014398509481984) (h2 : 0 ≤ b ∧ b ≤ 18014398509481984) (h3 : 0 ≤ c ∧ c ≤ 18014398509481984) (h4 : 0 ≤ d ∧ d ≤ 18014398509481984) (w : World) : Calls Try.prog 61 #[.agg #[.int .i64 a, .int .i64 b], .agg #[.int .i64 c, .int .i64 d]] w fun e w' => e = .returned (.agg #[.int .i64 (a + c), .int .i64 (b + d)]) ∧ Below w.heap.size w w' := by
  go_enter Try.func61, Try.ntmps61
  go_wp2
  go_returns
  exact ⟨rfl, by go_grown⟩
set_option maxHeartbeats 2000000 in
theorem norm_any (a b c d : Int) (h : boxB a b c d = true) (w : World) : Calls Try.prog 63 #[bx a b c d] w fun e w' => e = .returned (.agg #[.int .i64 (sqL a b + sqL c d), .int .i64 (sqH a b + sqH c d)]) ∧ Below w.heap.size w w' := by
  obtain ⟨l1, l2, l3, l4, l5, l6⟩ := boxB_bd h
  have n1 := sqL_bd l1 l2 l3
  have n2 := sqL_bd l4 l5 l6
  have n3 := sqH_bd l1 l2 l3
  have n4 := sqH_bd l4 l5 l6
  go_enter Try.func63, Try.ntmps63
  go_wp2_with fail
  go_region_with (first | (go_at_call 70; refine (square_any _ _ (by assumption) (by assumption) (by assumption) _).mono ?_; rintro e w1 ⟨rfl, hb1⟩; obtain ⟨hc1, hf1⟩ := bcell hb1; have hz3 : w.heap.size + 1 < w1.heap.size := (by have hz1 := hb1.size; (try simp at hz1); omega); have hz2 : w.heap.size < w1.heap.size := (by omega)) | (go_at_call 61; refine (plus_any _ _ _ _ (by assumption) (by assumption) (by assumption) (by assumption) _).mono ?_; rintro e w1 ⟨rfl, hb1⟩; obtain ⟨hc1, hf1⟩ := bcell hb1; have hz3 : w.heap.size + 1 < w1.heap.size := (by have hz1 := hb1.size; (try simp at hz1); omega); have hz2 : w.heap.size < w1.heap.size := (by omega)))
  all_goals
    go_wp2
    refine bodyPost_ret (v := .agg #[.int .i64 (sqL a b + sqL c d), .int .i64 (sqH a b + sqH c d)]) (by simp [results, Try.results63, go_sem, *]) rfl ⟨rfl, ?_⟩
    repeat' (first | assumption | (refine below_drewN ?_ _) | (refine below_step ?_ (by assumption)) | go_grown)
theorem spec_norm_no (a b c d : Int) (h : boxB a b c d = false) (w : World) : Calls Try.prog 33 #[bx a b c d] w fun e w' => e = .returned (.tuple #[.int .i64 0, .int .i64 0, .bool false]) ∧ Below w.heap.size w w' := by
  go_enter Try.func33, Try.ntmps33
  go_wp2_with (go_at_call 18; refine (spec_boxValid _ _ _ _ _).mono ?_; rintro e w1 ⟨rfl, hb1⟩; obtain ⟨hc1, hf1⟩ := bcell hb1; have hz2 : w.heap.size < w1.heap.size := (by have hz1 := hb1.size; (try simp at hz1); omega))
  go_returns
  refine ⟨rfl, ?_⟩
  repeat' (first | assumption | (refine below_drewN ?_ _) | (refine below_step ?_ (by assumption)) | go_grown)
theorem spec_norm_yes (a b c d : Int) (h : boxB a b c d = true) (w : World) : Calls Try.prog 33 #[bx a b c d] w fun e w' => e = .returned (.tuple #[.int .i64 (sqL a b + sqL c d), .int .i64 (sqH a b + sqH c d), .bool true]) ∧ Below w.heap.size w w' := by
  obtain ⟨l1, l2, l3, l4, l5, l6⟩ := boxB_bd h
  have n1 := sqL_bd l1 l2 l3
  have n2 := sqL_bd l4 l5 l6
  have n3 := sqH_bd l1 l2 l3
  have n4 := sqH_bd l4 l5 l6
  go_enter Try.func33, Try.ntmps33
  go_wp2_with (first | (go_at_call 18; refine (spec_boxValid _ _ _ _ _).mono ?_; rintro e w1 ⟨rfl, hb1⟩; obtain ⟨hc1, hf1⟩ := bcell hb1; have hz2 : w.heap.size < w1.heap.size := (by have hz1 := hb1.size; (try simp at hz1); omega)) | (go_at_call 62; refine (l4Square_any _ _ (by assumption) (by assumption) (by assumption) _).mono ?_; rintro e w' ⟨rfl, rfl⟩))
  go_returns
  refine ⟨rfl, ?_⟩
  repeat' (first | assumption | (refine below_drewN ?_ _) | (refine below_step ?_ (by assumption)) | go_grown)
theorem impl_norm_no (a b c d : Int) (h : boxB a b c d = false) (w : World) : Calls Try.prog 34 #[bx a b c d] w fun e w' => e = .returned (.tuple #[.int .i64 0, .int .i64 0, .bool false]) ∧ Below w.heap.size w w' := by
  go_enter Try.func34, Try.ntmps34
  go_wp2_with (go_at_call 20; refine (impl_boxValid _ _ _ _ _).mono ?_; rintro e w1 ⟨rfl, hb1⟩; obtain ⟨hc1, hf1⟩ := bcell hb1; have hz2 : w.heap.size < w1.heap.size := (by have hz1 := hb1.size; (try simp at hz1); omega))
  go_returns
  refine ⟨rfl, ?_⟩
  repeat' (first | assumption | (refine below_drewN ?_ _) | (refine below_step ?_ (by assumption)) | go_grown)
theorem impl_norm_yes (a b c d : Int) (h : boxB a b c d = true) (w : World) : Calls Try.prog 34 #[bx a b c d] w fun e w' => e = .returned (.tuple #[.int .i64 (sqL a b + sqL c d), .int .i64 (sqH a b + sqH c d), .bool true]) ∧ Below w.heap.size w w' := by
  go_enter Try.func34, Try.ntmps34
  go_wp2_with (first | (go_at_call 20; refine (impl_boxValid _ _ _ _ _).mono ?_; rintro e w1 ⟨rfl, hb1⟩; obtain ⟨hc1, hf1⟩ := bcell hb1; have hz2 : w.heap.size < w1.heap.size := (by have hz1 := hb1.size; (try simp at hz1); omega)) | (go_at_call 54; refine (spans_any _ _ _ _ _).mono ?_; rintro e w1 ⟨rfl, hb1⟩; obtain ⟨hc1, hf1⟩ := bcell hb1; have hz2 : w.heap.size < w1.heap.size := (by have hz1 := hb1.size; (try simp at hz1); omega)) | (go_at_call 63; refine (norm_any _ _ _ _ h _).mono ?_; rintro e w1 ⟨rfl, hb1⟩; obtain ⟨hc1, hf1⟩ := bcell hb1; have hz2 : w.heap.size < w1.heap.size := (by have hz1 := hb1.size; (try simp at hz1); omega)))
  go_quiet (fail)
  go_wp2
  go_returns
  refine ⟨rfl, ?_⟩
  repeat' (first | assumption | (refine below_drewN ?_ _) | (refine below_step ?_ (by assumption)) | go_grown)
theorem walkBoxNorm (a b c d : Int) (w : World) : Calls Try.prog 10 #[bx a b c d] w fun e w' => e = .returned (.bool true) ∧ Below w.heap.size w w' := by
  obtain ⟨p, hp⟩ : ∃ p, boxB a b c d = p := ⟨_, rfl⟩
  cases p
  · go_enter Try.func10, Try.ntmps10
    go_wp2_with (first | (go_at_call 19; refine (toBox_any _ _ _ _ _).mono ?_; rintro e w1 ⟨rfl, hb1⟩; obtain ⟨hc1, hf1⟩ := bcell hb1; have hz2 : w.heap.size < w1.heap.size := (by have hz1 := hb1.size; (try simp at hz1); omega)) | (go_at_call 33; refine (spec_norm_no _ _ _ _ hp _).mono ?_; rintro e w1 ⟨rfl, hb1⟩; obtain ⟨hc1, hf1⟩ := bcell hb1; have hz2 : w.heap.size < w1.heap.size := (by have hz1 := hb1.size; (try simp at hz1); omega)) | (go_at_call 34; refine (impl_norm_no _ _ _ _ hp _).mono ?_; rintro e w1 ⟨rfl, hb1⟩; obtain ⟨hc1, hf1⟩ := bcell hb1; have hz2 : w.heap.size < w1.heap.size := (by have hz1 := hb1.size; (try simp at hz1); omega)))
    go_ret
    refine ⟨rfl, ?_⟩
    repeat' (first | assumption | (refine below_drewN ?_ _) | (refine below_step ?_ (by assumption)) | go_grown)
  · go_enter Try.func10, Try.ntmps10
    go_wp2_with (first | (go_at_call 19; refine (toBox_any _ _ _ _ _).mono ?_; rintro e w1 ⟨rfl, hb1⟩; obtain ⟨hc1, hf1⟩ := bcell hb1; have hz2 : w.heap.size < w1.heap.size := (by have hz1 := hb1.size; (try simp at hz1); omega)) | (go_at_call 33; refine (spec_norm_yes _ _ _ _ hp _).mono ?_; rintro e w1 ⟨rfl, hb1⟩; obtain ⟨hc1, hf1⟩ := bcell hb1; have hz2 : w.heap.size < w1.heap.size := (by have hz1 := hb1.size; (try simp at hz1); omega)) | (go_at_call 34; refine (impl_norm_yes _ _ _ _ hp _).mono ?_; rintro e w1 ⟨rfl, hb1⟩; obtain ⟨hc1, hf1⟩ := bcell hb1; have hz2 : w.heap.size < w1.heap.size := (by have hz1 := hb1.size; (try simp at hz1); omega)))
    go_ret
    refine ⟨rfl, ?_⟩
    repeat' (first | assumption | (refine below_drewN ?_ _) | (refine below_step ?_ (by assumption)) | go_grown)
end Go.Proofs.Ytjhleindjllibaa
