/-
  Where the two widths' orbits part. Conditions: none.
-/
import Derived.Test.YtakhgppjgeeihaaAgr
namespace Go.Proofs.Ytakhgppjgeeihaa
open Go.RowKit Go.Shelf Fl
/-- the first index at which one of two orbits has left and the other has not -/
theorem first_facts {Bf Bw : Nat → Bool} {L : Nat} {i j : Int} (h : EscAt Bf L i) (k : EscAt Bw L j) (hne : i ≠ j) :
    ∃ K : Nat, K ≤ L ∧ (∀ t, t < K → Bf t = true) ∧ Bf K ≠ Bw K ∧ ((0 ≤ i ∧ 0 ≤ j ∧ (if j < i then j else i) = (K : Int)) ∨ (0 ≤ i ∧ j < 0 ∧ (if i < j then j else i) = (K : Int)) ∨ (i < 0 ∧ 0 ≤ j ∧ (if i < j then j else i) = (K : Int))) := by
  rcases h with ⟨rfl, h1⟩ | ⟨a, h1, rfl, h2, h3⟩ <;> rcases k with ⟨rfl, k1⟩ | ⟨b, k1, rfl, k2, k3⟩
  · exact absurd rfl hne
  · exact ⟨b, k1, fun t ht => h1 t (by omega), by rw [h1 b k1, k2]; decide, .inr (.inr ⟨by omega, by omega, by rw [if_pos (by omega)]⟩)⟩
  · exact ⟨a, h1, h3, by rw [h2, k1 a h1]; decide, .inr (.inl ⟨by omega, by omega, by rw [if_neg (by omega)]⟩)⟩
  · rcases Nat.lt_trichotomy a b with hab | hab | hab
    · exact ⟨a, h1, h3, by rw [h2, k3 a hab]; decide, .inl ⟨by omega, by omega, by rw [if_neg (by omega)]⟩⟩
    · exact absurd (by rw [hab]) hne
    · exact ⟨b, k1, fun t ht => h3 t (by omega), by rw [h3 b hab, k2]; decide, .inl ⟨by omega, by omega, by rw [if_pos (by omega)]⟩⟩
theorem agr_first (cx cy K : Nat) (hK : K < 400) (hB : ∀ t, t < K → BdF cx cy t = true) (hne : BdF cx cy K ≠ BdW cx cy K) (w : World) :
    Calls Try.prog 28 #[.complex .f32 cx cy, .int .i64 ((K : Int) + 1)] w fun e w' => ∃ n : Nat, e = .returned (.int .i64 n) ∧ n ≤ K ∧ Below w.heap.size w w' :=
  agrW cx cy ((K : Int) + 1) K (by omega) hB hne w
end Go.Proofs.Ytakhgppjgeeihaa
