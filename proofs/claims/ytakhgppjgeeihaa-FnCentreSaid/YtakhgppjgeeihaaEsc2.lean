/-
  The orbit of a wide number and where it escapes, in the program and in the reference. Conditions: none.
-/
import Derived.Test.YtakhgppjgeeihaaEsc
namespace Go.Proofs.Ytakhgppjgeeihaa
open Go.RowKit Go.Shelf Fl
/-- the orbit of a wide number, in plain words -/
def orbD (cx cy : Nat) : Nat → Nat × Nat
  | 0 => (0, 0)
  | k + 1 => (stR (orbD cx cy k).1 (orbD cx cy k).2 cx, stI (orbD cx cy k).1 (orbD cx cy k).2 cy)
/-- words that stand for the k-th number of the orbit -/
def VD (cx cy k x y : Nat) : Prop := Sim D x (orbD cx cy k).1 ∧ Sim D y (orbD cx cy k).2 ∧ x < 2 ^ D.width ∧ y < 2 ^ D.width
def BdD (cx cy k : Nat) : Bool := le4 (nrm (orbD cx cy k).1 (orbD cx cy k).2)
theorem VD_zero (cx cy : Nat) : VD cx cy 0 0 0 := ⟨Sim.refl _ _, Sim.refl _ _, by decide, by decide⟩
theorem le4_sim {a b : Nat} (h : Sim D a b) : le4 a = le4 b := by unfold le4; rw [order_sim D gD h (Sim.refl D 4616189618054758400)]
theorem VD_step (cx cy k x y : Nat) (W : World) (h : VD cx cy k x y) : Calls Try.prog 32 #[.complex .f64 x y, .complex .f64 cx cy] W fun e W' => ∃ x' y' m, e = .returned (.complex .f64 x' y') ∧ W' = W.drewN m ∧ VD cx cy (k + 1) x' y' := by
  obtain ⟨h1, h2, h3, h4⟩ := h
  refine (step_impl x y cx cy _ _ cx cy h1 h2 (Sim.refl _ _) (Sim.refl _ _) W).mono ?_
  rintro e w' ⟨a, b, n, rfl, ha, hb, la, lb, rfl⟩
  exact ⟨a, b, n, rfl, rfl, ha, hb, la, lb⟩
theorem VD_spec (cx cy k x y : Nat) (W : World) (h : VD cx cy k x y) : Calls Try.prog 59 #[.complex .f64 x y, .complex .f64 cx cy] W fun e W' => ∃ x' y' m, e = .returned (.complex .f64 x' y') ∧ W' = W.drewN m ∧ VD cx cy (k + 1) x' y' := by
  obtain ⟨h1, h2, h3, h4⟩ := h
  refine (step_spec x y cx cy _ _ cx cy h1 h2 (Sim.refl _ _) (Sim.refl _ _) W).mono ?_
  rintro e w' ⟨a, b, n, rfl, ha, hb, la, lb, rfl⟩
  exact ⟨a, b, n, rfl, rfl, ha, hb, la, lb⟩
theorem VD_norm (cx cy k x y : Nat) (W : World) (h : VD cx cy k x y) : Calls Try.prog 38 #[.complex .f64 x y] W fun e W' => ∃ v m, e = .returned (.float .f64 v) ∧ W' = W.drewN m ∧ le4 v = BdD cx cy k := by
  obtain ⟨h1, h2, h3, h4⟩ := h
  refine (norm_impl x y _ _ h1 h2 W).mono ?_
  rintro e w' ⟨a, n, rfl, ha, la, rfl⟩
  exact ⟨a, n, rfl, rfl, le4_sim ha⟩
theorem VD_norms (cx cy k x y : Nat) (W : World) (h : VD cx cy k x y) : Calls Try.prog 51 #[.complex .f64 x y] W fun e W' => ∃ v m, e = .returned (.float .f64 v) ∧ W' = W.drewN m ∧ le4 v = BdD cx cy k := by
  obtain ⟨h1, h2, h3, h4⟩ := h
  refine (norm_spec x y _ _ h1 h2 W).mono ?_
  rintro e w' ⟨a, n, rfl, ha, la, rfl⟩
  exact ⟨a, n, rfl, rfl, le4_sim ha⟩
theorem EscAt.unique {Bd : Nat → Bool} {L : Nat} {i j : Int} (h : EscAt Bd L i) (k : EscAt Bd L j) : i = j := by
  rcases h with ⟨rfl, h1⟩ | ⟨a, h1, rfl, h2, h3⟩ <;> rcases k with ⟨rfl, k1⟩ | ⟨b, k1, rfl, k2, k3⟩
  · rfl
  · rw [h1 b k1] at k2; cases k2
  · rw [k1 a h1] at h2; cases h2
  · rcases Nat.lt_trichotomy a b with h | h | h
    · rw [k3 a h] at h2; cases h2
    · rw [h]
    · rw [h3 b h] at k2; cases k2
theorem escWide_impl (cx cy : Nat) (m : Int) (w : World) : Calls Try.prog 26 #[.complex .f64 cx cy, .int .i64 m] w fun e w' =>
    ∃ (L : Nat) (i : Int), (L : Int) = min (max m 0) 400 ∧ e = .returned (.int .i64 i) ∧ EscAt (BdD cx cy) L i ∧ Below w.heap.size w w' := by
  go_enter Try.func26, Try.ntmps26
  go_wp2_with (go_at_call 62; refine (escW cx cy m (VD cx cy) (BdD cx cy) (VD_zero cx cy) (VD_step cx cy) (VD_norm cx cy) w).mono ?_; rintro e w' ⟨L, i, v, hL, rfl, he, hb⟩; replace hL := Lib.hid hL)
  go_ret
  exact ⟨L, i, hL.out, rfl, he, hb⟩
theorem most_spec (m : Int) (w : World) : Calls Try.prog 69 #[.int .i64 m] w fun e w' => (∃ L : Nat, L ≤ 400 ∧ (L : Int) = min (max m 0) 400 ∧ e = .returned (.int .i64 L)) ∧ w = w' := by
  have go : ∀ v : Int, 0 ≤ v → v ≤ 400 → v = min (max m 0) 400 → ∀ e : Ending, e = .returned (.int .i64 v) → ∃ L : Nat, L ≤ 400 ∧ (L : Int) = min (max m 0) 400 ∧ e = .returned (.int .i64 L) := fun v h0 h1 h2 e he =>
    ⟨v.toNat, by omega, by omega, by rw [he, Int.toNat_of_nonneg h0]⟩
  have HG := Lib.hid go
  clear go
  by_cases h1 : m < 0
  · have h1' : ¬ 0 ≤ m := by omega
    have h2 : ¬ 0 < m := by omega
    have h3 : m ≤ 400 := by omega
    have h4 : ¬ 400 < m := by omega
    go_enter Try.func69, Try.ntmps69
    go_wp2
    go_ret
    exact ⟨HG.out 0 (by omega) (by omega) (by omega) _ rfl, rfl⟩
  · have h1' : 0 ≤ m := by omega
    by_cases h2 : 400 < m
    · have h3 : ¬ m ≤ 400 := by omega
      have h4 : ¬ m < 400 := by omega
      go_enter Try.func69, Try.ntmps69
      go_wp2
      go_ret
      exact ⟨HG.out 400 (by omega) (by omega) (by omega) _ rfl, rfl⟩
    · have h3 : m ≤ 400 := by omega
      go_enter Try.func69, Try.ntmps69
      go_wp2
      all_goals go_ret
      all_goals exact ⟨HG.out m (by omega) (by omega) (by omega) _ (by first | rfl | (congr 2; omega) | (congr 2; simp; omega)), rfl⟩
theorem escWide_spec (cx cy : Nat) (m : Int) (w : World) : Calls Try.prog 37 #[.complex .f64 cx cy, .int .i64 m] w fun e w' =>
    ∃ (L : Nat) (i : Int), (L : Int) = min (max m 0) 400 ∧ e = .returned (.int .i64 i) ∧ EscAt (BdD cx cy) L i ∧ Below w.heap.size w w' := by
  obtain ⟨L, hL⟩ : ∃ L : Nat, (L : Int) = min (max m 0) 400 := ⟨(min (max m 0) 400).toNat, by omega⟩
  have HL := Lib.hid hL
  have hM : ∀ w, Calls Try.prog 69 #[.int .i64 m] w fun e w' => e = .returned (.int .i64 L) ∧ w = w' := fun w => (most_spec m w).mono (by
    rintro e w' ⟨⟨L', _, h2, rfl⟩, rfl⟩
    rw [show L' = L by omega]; exact ⟨rfl, rfl⟩)
  have hL4 : L ≤ 400 := by omega
  clear hL
  have hS := VD_spec cx cy
  have hN := VD_norms cx cy
  go_enter Try.func37, Try.ntmps37
  go_wp2
  go_loopw [5, 6] (fun z k wr => ∃ (i x y n : Nat), z = .complex .f64 x y ∧ k = .int .i64 i ∧ VD cx cy i x y ∧ i ≤ L + 1 ∧ (∀ j, j < i → BdD cx cy j = true) ∧ wr = w.drewN n) (fun z k wr => L + 2 - (intOf k).toNat)
  case atStart =>
    exact ⟨0, 0, 0, 0, rfl, rfl, VD_zero cx cy, by omega, by simp, rfl⟩
  case round =>
    obtain ⟨i, x, y, n, rfl, rfl, hv, hi, hj, rfl⟩ := hrel
    have hS1 := fun W => hS i x y W hv
    have hN1 := fun W => hN i x y W hv
    by_cases hiL : i ≤ L
    · go_wp2_with (go_at_call 69; refine (hM _).mono ?_; rintro e w' ⟨rfl, rfl⟩)
      go_wp2_with (go_at_call 51; refine (hN1 _).mono ?_; rintro e w' ⟨v, n1, rfl, rfl, hle⟩)
      · have hx : (!FloatKind.f64.format.order v 4616189618054758400 == some Ordering.lt) = true ∧ (!FloatKind.f64.format.order v 4616189618054758400 == some Ordering.eq) = true := by assumption
        have hf : BdD cx cy i = false := by rw [← hle]; unfold le4; simp at hx; simp [hx]
        go_ret
        exact ⟨L, i, HL.out, rfl, .inr ⟨i, hiL, rfl, hf, hj⟩, below_drewN (Below.refl _ _) _⟩
      · have hx : (!FloatKind.f64.format.order v 4616189618054758400 == some Ordering.lt) = false ∨ (!FloatKind.f64.format.order v 4616189618054758400 == some Ordering.eq) = false := by assumption
        have hf : BdD cx cy i = true := by rw [← hle]; unfold le4; simp at hx; rcases hx with h | h <;> simp [h]
        have hjk : ∀ j, j < i + 1 → BdD cx cy j = true := fun j h => by
          rcases Nat.lt_or_ge j i with h1 | h1
          · exact hj j h1
          · rw [show j = i by omega]; exact hf
        refine (hS1 _).mono ?_
        rintro e w' ⟨x', y', n2, rfl, rfl, hv'⟩
        go_wp2
        go_roundw
        case rel => exact ⟨i + 1, x', y', _, rfl, by simp, hv', by omega, hjk, rfl⟩
        case measure => simp [intOf]; omega
    · go_wp2_with (go_at_call 69; refine (hM _).mono ?_; rintro e w' ⟨rfl, rfl⟩)
      go_ret
      exact ⟨L, -1, HL.out, rfl, .inl ⟨rfl, fun k hk => hj k (by omega)⟩, below_drewN (Below.refl _ _) _⟩
end Go.Proofs.Ytakhgppjgeeihaa
