/-
  OrbitWide in and out of its range; what two orbits have in common. Conditions: none.
-/
import Derived.Test.YtakhgppjgeeihaaEscx
namespace Go.Proofs.Ytakhgppjgeeihaa
open Go.RowKit Go.Shelf Fl
theorem orbWide_sin (cx cy N : Nat) (hN : N ≤ 400) (w : World) : Calls Try.prog 31 #[.complex .f64 cx cy, .int .i64 N] w fun e w' =>
    ∃ b cap ws, e = .returned (.tuple #[.slice b N cap, .bool true]) ∧ ws.length = N ∧ OL cx cy ws ∧ Lies w' (.slice b N cap) ws ∧ Below w.heap.size w w' := by
  refine (orbWide_spec cx cy N w).mono ?_
  rintro e w' (⟨h, _⟩ | ⟨_, _, v, ws, rfl, hl, hol, hrow, hb⟩)
  · omega
  · have hL := Lies.of hrow
    have hl' : ws.length = N := by omega
    obtain ⟨b, cap, rfl, hc⟩ := hL
    rw [hl']
    exact ⟨b, cap, ws, rfl, hl', hol, ⟨b, cap, by rw [hl'], hc⟩, hb⟩
theorem orbWide_out (cx cy : Nat) (n : Int) (hn : ¬ (0 ≤ n ∧ n ≤ 400)) (w : World) : Calls Try.prog 30 #[.complex .f64 cx cy, .int .i64 n] w fun e w' =>
    ∃ b, e = .returned (.tuple #[.slice b 0 0, .bool false]) ∧ Below w.heap.size w w' := by
  refine (orbWide_impl cx cy n w).mono ?_
  rintro e w' (⟨_, ⟨b, rfl⟩, hb⟩ | ⟨h1, h2, _⟩)
  · exact ⟨b, rfl, hb⟩
  · exact absurd ⟨h1, h2⟩ hn
theorem orbWide_sout (cx cy : Nat) (n : Int) (hn : ¬ (0 ≤ n ∧ n ≤ 400)) (w : World) : Calls Try.prog 31 #[.complex .f64 cx cy, .int .i64 n] w fun e w' =>
    ∃ b, e = .returned (.tuple #[.slice b 0 0, .bool false]) ∧ Below w.heap.size w w' := by
  refine (orbWide_spec cx cy n w).mono ?_
  rintro e w' (⟨_, ⟨b, rfl⟩, hb⟩ | ⟨h1, h2, _⟩)
  · exact ⟨b, rfl, hb⟩
  · exact absurd ⟨h1, h2⟩ hn
theorem Lies.none (w : World) (b : Option Addr) : Lies w (.slice b 0 0) [] := ⟨b, 0, rfl, fun j h => by simp at h⟩
theorem OL.same {cx cy : Nat} {ws ws' : List (Nat × Nat)} (h : OL cx cy ws) (k : OL cx cy ws') (j : Nat) (hj : j < ws.length) (hj' : j < ws'.length) : Sim D ws[j].1 ws'[j].1 ∧ Sim D ws[j].2 ws'[j].2 := by
  obtain ⟨a1, a2, _, _⟩ := h j hj
  obtain ⟨b1, b2, _, _⟩ := k j hj'
  exact ⟨a1.trans b1.symm, a2.trans b2.symm⟩
/-- a step from a number of the orbit leads to the next one -/
theorem OL.step {cx cy : Nat} {ws : List (Nat × Nat)} (h : OL cx cy ws) (j : Nat) (hj : j < ws.length) (hj' : j + 1 < ws.length) (W : World) : Calls Try.prog 32 #[.complex .f64 ws[j].1 ws[j].2, .complex .f64 cx cy] W fun e W' =>
    ∃ p q n, e = .returned (.complex .f64 p q) ∧ W' = W.drewN n ∧ Sim D ws[j + 1].1 p ∧ Sim D ws[j + 1].2 q := by
  refine (VD_step cx cy j _ _ W (h j hj)).mono ?_
  rintro e W' ⟨p, q, n, rfl, rfl, c1, c2, _, _⟩
  obtain ⟨b1, b2, _, _⟩ := h (j + 1) hj'
  exact ⟨p, q, n, rfl, rfl, b1.trans c1.symm, b2.trans c2.symm⟩
end Go.Proofs.Ytakhgppjgeeihaa
