/-
  What DyadValid, BoxValid, BoxWithin, BoxAdd and BoxNorm return, in the program and in the reference, over this seat's translation; the walks of the five laws that compare both. Conditions: none.
-/
import Derived.Test.YtjhleindjllibaaRows
import Derived.WalkKit
import Derived.WalkLawsBesides
import Derived.WalkSpells
import Derived.ProofKit
import Derived.Handy
import Derived.Lib.Hide
import Derived.Deep.RegionWith
namespace Go.Proofs.Ytjhleindjllibaa
open Go.ChangeShapes Go.WideShapes Go.ChangeAt Go.RowKit

theorem bcell {W w1 : World} (hb : Below W.heap.size W w1) : (∀ b o, b < W.heap.size → w1.cell? ⟨b, o, none⟩ = W.cell? ⟨b, o, none⟩) ∧ (∀ b o, b < W.heap.size → w1.frozen? ⟨b, o, none⟩ = W.frozen? ⟨b, o, none⟩) :=
  ⟨fun b o h => hb.cell (p := ⟨b, o, none⟩) h, fun b o h => hb.frozen (p := ⟨b, o, none⟩) h⟩
theorem below_step {w wb w' : World} (h : Below w.heap.size w wb) (h2 : Below wb.heap.size wb w') : Below w.heap.size w w' := h.trans (h2.mono h.size)

/-! ### exact numbers -/
theorem tmod2 (a : Int) : a.tmod 2 = 0 ↔ a % 2 = 0 := by
  constructor
  · intro h; have := Int.dvd_of_tmod_eq_zero h; omega
  · intro h; exact Int.tmod_eq_zero_of_dvd (Int.dvd_of_emod_eq_zero h)
theorem and_one_i64 (a : Int) : bits BinOp.and IntKind.i64 a 1 = a % 2 := by
  have e : (BitVec.ofInt 64 a &&& BitVec.ofInt 64 1).toNat = (a % 2).toNat := by
    rw [BitVec.toNat_and, BitVec.toNat_ofInt, BitVec.toNat_ofInt]
    rw [show ((1 : Int) % ((2 ^ 64 : Nat) : Int)).toNat = 1 from rfl, Nat.and_one_is_mod]
    omega
  show IntKind.i64.wrap ((BitVec.ofInt 64 a &&& BitVec.ofInt 64 1).toNat : Int) = _
  rw [e]
  have : a % 2 = 0 ∨ a % 2 = 1 := by omega
  rcases this with h | h <;> rw [h] <;> rfl
/-- an exact number is valid -/
def dyadB (a b c : Int) : Bool := decide (-1073741824 ≤ a) && decide (a ≤ 1073741824) && decide (-1073741824 ≤ b) && decide (b ≤ 1073741824) && decide (0 ≤ c) && decide (c ≤ 60) && (c == 0 || a % 2 != 0 || b % 2 != 0)
abbrev dy (a b c : Int) : Value := .agg #[.int .i64 a, .int .i64 b, .int .i64 c]

set_option maxHeartbeats 400000 in
theorem spec_dyadValid (a b c : Int) (w : World) : Calls Try.prog 15 #[dy a b c] w fun e w' => e = .returned (.bool (dyadB a b c)) ∧ Below w.heap.size w w' := by
  have Ta := Lib.hid (tmod2 a)
  have Tb := Lib.hid (tmod2 b)
  go_enter Try.func15, Try.ntmps15
  go_wp2
  all_goals
    go_ret
    refine ⟨congrArg (fun x => Ending.returned (Value.bool x)) ?_, by go_grown⟩
    have ta := Ta.out
    have tb := Tb.out
    rw [Bool.eq_iff_iff]
    simp_all [dyadB]
    try omega
theorem toDyad_any (a b c : Int) (w : World) : Calls Try.prog 16 #[dy a b c] w fun e w' => e = .returned (dy a b c) ∧ Below w.heap.size w w' := by
  go_enter Try.func16, Try.ntmps16
  go_wp2
  go_returns
  exact ⟨rfl, by go_grown⟩
theorem even_any (a b c : Int) (w : World) : Calls Try.prog 66 #[dy a b c] w fun e w' => e = .returned (.bool (a % 2 == 0 && b % 2 == 0)) ∧ Below w.heap.size w w' := by
  have Ta := Lib.hid (and_one_i64 a)
  have Tb := Lib.hid (and_one_i64 b)
  go_enter Try.func66, Try.ntmps66
  go_wp2
  all_goals
    go_ret
    refine ⟨congrArg (fun x => Ending.returned (Value.bool x)) ?_, by go_grown⟩
    have ta := Ta.out
    have tb := Tb.out
    rw [Bool.eq_iff_iff]
    simp_all
theorem valid_any (a b c : Int) (w : World) : Calls Try.prog 53 #[dy a b c] w fun e w' => e = .returned (.bool (dyadB a b c)) ∧ Below w.heap.size w w' := by
  go_enter Try.func53, Try.ntmps53
  go_wp2_with (go_at_call 66; refine (even_any _ _ _ _).mono ?_; rintro e w' ⟨rfl, hg⟩)
  all_goals
    go_ret
    refine ⟨congrArg (fun x => Ending.returned (Value.bool x)) ?_, by first | exact below_step (by go_grown) hg | go_grown⟩
    rw [Bool.eq_iff_iff]
    simp_all [dyadB]
    try omega
theorem impl_dyadValid (a b c : Int) (w : World) : Calls Try.prog 17 #[dy a b c] w fun e w' => e = .returned (.bool (dyadB a b c)) ∧ Below w.heap.size w w' := by
  go_enter Try.func17, Try.ntmps17
  go_wp2_with (go_at_call 53; refine (valid_any _ _ _ _).mono ?_; rintro e w' ⟨rfl, hg⟩)
  go_ret
  exact ⟨rfl, below_step (by go_grown) hg⟩
theorem walkDyadValid (a b c : Int) (w : World) : Calls Try.prog 4 #[dy a b c] w fun e w' => e = .returned (.bool true) ∧ Below w.heap.size w w' := by
  obtain ⟨r, hr⟩ : ∃ r, dyadB a b c = r := ⟨_, rfl⟩
  cases r
  all_goals
    go_enter Try.func4, Try.ntmps4
    go_wp2_with (first | (go_at_call 16; refine (toDyad_any _ _ _ _).mono ?_; rintro e w1 ⟨rfl, hb1⟩; obtain ⟨hc1, hf1⟩ := bcell hb1; have hz2 : w.heap.size < w1.heap.size := (by have hz1 := hb1.size; (try simp at hz1); omega)) | (go_at_call 15; refine (spec_dyadValid _ _ _ _).mono ?_; rintro e w1 ⟨rfl, hb1⟩; obtain ⟨hc1, hf1⟩ := bcell hb1; have hz2 : w.heap.size < w1.heap.size := (by have hz1 := hb1.size; (try simp at hz1); omega)) | (go_at_call 17; refine (impl_dyadValid _ _ _ _).mono ?_; rintro e w1 ⟨rfl, hb1⟩; obtain ⟨hc1, hf1⟩ := bcell hb1; have hz2 : w.heap.size < w1.heap.size := (by have hz1 := hb1.size; (try simp at hz1); omega)))
    go_ret
    refine ⟨rfl, ?_⟩
    repeat' (first | assumption | (refine below_drewN ?_ _) | (refine below_step ?_ (by assumption)) | go_grown)

/-! ### boxes -/
abbrev bx (a b c d : Int) : Value := .agg #[.int .i64 a, .int .i64 b, .int .i64 c, .int .i64 d]
/-- a box is valid -/
def boxB (a b c d : Int) : Bool := decide (-134217728 ≤ a) && decide (a ≤ b) && decide (b ≤ 134217728) && decide (-134217728 ≤ c) && decide (c ≤ d) && decide (d ≤ 134217728)
/-- one box is within another one -/
def inB (a b c d a' b' c' d' : Int) : Bool := decide (a' ≤ a) && decide (b ≤ b') && decide (c' ≤ c) && decide (d ≤ d')
theorem boxB_bd {a b c d : Int} (h : boxB a b c d = true) : -134217728 ≤ a ∧ a ≤ b ∧ b ≤ 134217728 ∧ -134217728 ≤ c ∧ c ≤ d ∧ d ≤ 134217728 := by
  simp [boxB] at h; omega

set_option maxHeartbeats 400000 in
theorem spec_boxValid (a b c d : Int) (w : World) : Calls Try.prog 18 #[bx a b c d] w fun e w' => e = .returned (.bool (boxB a b c d)) ∧ Below w.heap.size w w' := by
  go_enter Try.func18, Try.ntmps18
  go_wp2
  all_goals
    go_ret
    refine ⟨congrArg (fun x => Ending.returned (Value.bool x)) ?_, by go_grown⟩
    rw [Bool.eq_iff_iff]
    simp_all [boxB]
    try omega
theorem toBox_any (a b c d : Int) (w : World) : Calls Try.prog 19 #[bx a b c d] w fun e w' => e = .returned (bx a b c d) ∧ Below w.heap.size w w' := by
  go_enter Try.func19, Try.ntmps19
  go_wp2
  go_returns
  exact ⟨rfl, by go_grown⟩
set_option maxHeartbeats 400000 in
theorem impl_boxValid (a b c d : Int) (w : World) : Calls Try.prog 20 #[bx a b c d] w fun e w' => e = .returned (.bool (boxB a b c d)) ∧ Below w.heap.size w w' := by
  go_enter Try.func20, Try.ntmps20
  go_wp2
  all_goals
    go_ret
    refine ⟨congrArg (fun x => Ending.returned (Value.bool x)) ?_, by go_grown⟩
    rw [Bool.eq_iff_iff]
    simp_all [boxB]
    try omega
theorem walkBoxValid (a b c d : Int) (w : World) : Calls Try.prog 5 #[bx a b c d] w fun e w' => e = .returned (.bool true) ∧ Below w.heap.size w w' := by
  obtain ⟨r, hr⟩ : ∃ r, boxB a b c d = r := ⟨_, rfl⟩
  cases r
  all_goals
    go_enter Try.func5, Try.ntmps5
    go_wp2_with (first | (go_at_call 19; refine (toBox_any _ _ _ _ _).mono ?_; rintro e w1 ⟨rfl, hb1⟩; obtain ⟨hc1, hf1⟩ := bcell hb1; have hz2 : w.heap.size < w1.heap.size := (by have hz1 := hb1.size; (try simp at hz1); omega)) | (go_at_call 18; refine (spec_boxValid _ _ _ _ _).mono ?_; rintro e w1 ⟨rfl, hb1⟩; obtain ⟨hc1, hf1⟩ := bcell hb1; have hz2 : w.heap.size < w1.heap.size := (by have hz1 := hb1.size; (try simp at hz1); omega)) | (go_at_call 20; refine (impl_boxValid _ _ _ _ _).mono ?_; rintro e w1 ⟨rfl, hb1⟩; obtain ⟨hc1, hf1⟩ := bcell hb1; have hz2 : w.heap.size < w1.heap.size := (by have hz1 := hb1.size; (try simp at hz1); omega)))
    go_ret
    refine ⟨rfl, ?_⟩
    repeat' (first | assumption | (refine below_drewN ?_ _) | (refine below_step ?_ (by assumption)) | go_grown)
theorem spans_any (a b c d : Int) (w : World) : Calls Try.prog 54 #[bx a b c d] w fun e w' => e = .returned (bx a b c d) ∧ Below w.heap.size w w' := by
  go_enter Try.func54, Try.ntmps54
  go_wp2
  go_returns
  exact ⟨rfl, by go_grown⟩

/-! ### BoxWithin -/
theorem within_any (a b c d a' b' c' d' : Int) (w : World) : Calls Try.prog 56 #[bx a b c d, bx a' b' c' d'] w fun e w' => e = .returned (.bool (inB a b c d a' b' c' d')) ∧ Below w.heap.size w w' := by
  go_enter Try.func56, Try.ntmps56
  go_wp2
  all_goals
    go_ret
    refine ⟨congrArg (fun x => Ending.returned (Value.bool x)) ?_, by go_grown⟩
    rw [Bool.eq_iff_iff]
    simp_all [inB]
    try omega
set_option maxHeartbeats 1000000 in
theorem spec_within (a b c d a' b' c' d' : Int) (w : World) : Calls Try.prog 21 #[bx a b c d, bx a' b' c' d'] w fun e w' => e = .returned (.bool (boxB a b c d && boxB a' b' c' d' && inB a b c d a' b' c' d')) ∧ Below w.heap.size w w' := by
  obtain ⟨p, hp⟩ : ∃ p, boxB a b c d = p := ⟨_, rfl⟩
  obtain ⟨q, hq⟩ : ∃ q, boxB a' b' c' d' = q := ⟨_, rfl⟩
  cases p
  · go_enter Try.func21, Try.ntmps21
    go_wp2_with (go_at_call 18; refine (spec_boxValid _ _ _ _ _).mono ?_; rintro e w1 ⟨rfl, hb1⟩; obtain ⟨hc1, hf1⟩ := bcell hb1; have hz3 : w.heap.size + 1 < w1.heap.size := (by have hz1 := hb1.size; (try simp at hz1); omega); have hz2 : w.heap.size < w1.heap.size := (by omega))
    go_ret
    refine ⟨by simp [hp], ?_⟩
    repeat' (first | assumption | (refine below_drewN ?_ _) | (refine below_step ?_ (by assumption)) | go_grown)
  · cases q
    · go_enter Try.func21, Try.ntmps21
      go_wp2_with (go_at_call 18; refine (spec_boxValid _ _ _ _ _).mono ?_; rintro e w1 ⟨rfl, hb1⟩; obtain ⟨hc1, hf1⟩ := bcell hb1; have hz3 : w.heap.size + 1 < w1.heap.size := (by have hz1 := hb1.size; (try simp at hz1); omega); have hz2 : w.heap.size < w1.heap.size := (by omega))
      go_ret
      refine ⟨by simp [hp, hq], ?_⟩
      repeat' (first | assumption | (refine below_drewN ?_ _) | (refine below_step ?_ (by assumption)) | go_grown)
    · go_enter Try.func21, Try.ntmps21
      go_wp2_with (go_at_call 18; refine (spec_boxValid _ _ _ _ _).mono ?_; rintro e w1 ⟨rfl, hb1⟩; obtain ⟨hc1, hf1⟩ := bcell hb1; have hz3 : w.heap.size + 1 < w1.heap.size := (by have hz1 := hb1.size; (try simp at hz1); omega); have hz2 : w.heap.size < w1.heap.size := (by omega))
      all_goals
        go_ret
        refine ⟨congrArg (fun x => Ending.returned (Value.bool x)) ?_, ?_⟩
        · rw [Bool.eq_iff_iff]
          simp_all [inB]
          try omega
        · repeat' (first | assumption | (refine below_drewN ?_ _) | (refine below_step ?_ (by assumption)) | go_grown)
set_option maxHeartbeats 2000000 in
theorem impl_within (a b c d a' b' c' d' : Int) (w : World) : Calls Try.prog 22 #[bx a b c d, bx a' b' c' d'] w fun e w' => e = .returned (.bool (boxB a b c d && boxB a' b' c' d' && inB a b c d a' b' c' d')) ∧ Below w.heap.size w w' := by
  obtain ⟨p, hp⟩ : ∃ p, boxB a b c d = p := ⟨_, rfl⟩
  obtain ⟨q, hq⟩ : ∃ q, boxB a' b' c' d' = q := ⟨_, rfl⟩
  cases p
  · rw [show (boxB a b c d && boxB a' b' c' d' && inB a b c d a' b' c' d') = false from by simp [hp]]
    go_enter Try.func22, Try.ntmps22
    go_wp2_with fail
    go_region_with (first | (go_at_call 20; refine (impl_boxValid _ _ _ _ _).mono ?_; rintro e w1 ⟨rfl, hb1⟩; obtain ⟨hc1, hf1⟩ := bcell hb1; have hz3 : w.heap.size + 1 < w1.heap.size := (by have hz1 := hb1.size; (try simp at hz1); omega); have hz2 : w.heap.size < w1.heap.size := (by omega)))
    all_goals
      go_wp2
      go_ret
      refine ⟨rfl, ?_⟩
      repeat' (first | assumption | (refine below_drewN ?_ _) | (refine below_step ?_ (by assumption)) | go_grown)
  · cases q
    · rw [show (boxB a b c d && boxB a' b' c' d' && inB a b c d a' b' c' d') = false from by simp [hq]]
      go_enter Try.func22, Try.ntmps22
      go_wp2_with fail
      go_region_with (first | (go_at_call 20; refine (impl_boxValid _ _ _ _ _).mono ?_; rintro e w1 ⟨rfl, hb1⟩; obtain ⟨hc1, hf1⟩ := bcell hb1; have hz3 : w.heap.size + 1 < w1.heap.size := (by have hz1 := hb1.size; (try simp at hz1); omega); have hz2 : w.heap.size < w1.heap.size := (by omega)))
      all_goals
        go_wp2
        go_ret
        refine ⟨rfl, ?_⟩
        repeat' (first | assumption | (refine below_drewN ?_ _) | (refine below_step ?_ (by assumption)) | go_grown)
    · rw [show (boxB a b c d && boxB a' b' c' d' && inB a b c d a' b' c' d') = inB a b c d a' b' c' d' from by simp [hp, hq]]
      go_enter Try.func22, Try.ntmps22
      go_wp2_with fail
      go_region_with (first | (go_at_call 20; refine (impl_boxValid _ _ _ _ _).mono ?_; rintro e w1 ⟨rfl, hb1⟩; obtain ⟨hc1, hf1⟩ := bcell hb1; have hz3 : w.heap.size + 1 < w1.heap.size := (by have hz1 := hb1.size; (try simp at hz1); omega); have hz2 : w.heap.size < w1.heap.size := (by omega)) | (go_at_call 54; refine (spans_any _ _ _ _ _).mono ?_; rintro e w1 ⟨rfl, hb1⟩; obtain ⟨hc1, hf1⟩ := bcell hb1; have hz3 : w.heap.size + 1 < w1.heap.size := (by have hz1 := hb1.size; (try simp at hz1); omega); have hz2 : w.heap.size < w1.heap.size := (by omega)) | (go_at_call 56; refine (within_any _ _ _ _ _ _ _ _ _).mono ?_; rintro e w1 ⟨rfl, hb1⟩; obtain ⟨hc1, hf1⟩ := bcell hb1; have hz3 : w.heap.size + 1 < w1.heap.size := (by have hz1 := hb1.size; (try simp at hz1); omega); have hz2 : w.heap.size < w1.heap.size := (by omega)))
      all_goals
        go_wp2
        go_ret
        refine ⟨rfl, ?_⟩
        repeat' (first | assumption | (refine below_drewN ?_ _) | (refine below_step ?_ (by assumption)) | go_grown)
end Go.Proofs.Ytjhleindjllibaa
