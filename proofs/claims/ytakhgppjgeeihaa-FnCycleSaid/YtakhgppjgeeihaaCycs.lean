/-
  CycleWide in the reference. Conditions: none.
-/
import Derived.Test.YtakhgppjgeeihaaCyc
namespace Go.Proofs.Ytakhgppjgeeihaa
open Go.RowKit Go.Shelf Fl
set_option maxHeartbeats 1000000 in
theorem cycS (cx cy : Nat) (m : Int) (w : World) : Calls Try.prog 35 #[.complex .f64 cx cy, .int .i64 m] w fun e w' =>
    ∃ (F : Nat) (p : Int), (F : Int) = min (max m 1) 200 ∧ e = .returned (.int .i64 p) ∧ CycAt cx cy F p ∧ Below w.heap.size w w' := by
  obtain ⟨F1, hmx⟩ : ∃ F1 : Int, (if m < 200 then m else 200) = F1 := ⟨_, rfl⟩
  obtain ⟨F, hmn⟩ : ∃ F : Nat, (if 1 < F1 then F1 else 1) = (F : Int) := ⟨(if 1 < F1 then F1 else 1).toNat, by split at hmx <;> split <;> omega⟩
  have hF : (F : Int) = min (max m 1) 200 := by split at hmx <;> split at hmn <;> omega
  have HF := Lib.hid hF
  have hF1 : 1 ≤ F := by omega
  have hF2 : F ≤ 200 := by omega
  clear hF
  have hS := VD_spec cx cy
  go_enter Try.func35, Try.ntmps35
  go_wp2
  clear hmx hmn
  go_loopw [5, 6] (fun z k wr => ∃ (i x y n : Nat), z = .complex .f64 x y ∧ k = .int .i64 i ∧ VD cx cy i x y ∧ i ≤ F ∧ wr = w.drewN n) (fun z k wr => F + 2 - (intOf k).toNat)
  case atStart => exact ⟨0, 0, 0, 0, rfl, rfl, VD_zero cx cy, by omega, rfl⟩
  case round =>
    obtain ⟨i, x, y, n, rfl, rfl, hv, hi, rfl⟩ := hrel
    by_cases hiF : i < F
    · go_wp2_with fail
      refine (hS i x y _ hv).mono ?_
      rintro e w' ⟨x', y', n1, rfl, rfl, hv'⟩
      go_wp2
      go_roundw
      case rel => exact ⟨i + 1, x', y', _, rfl, by simp, hv', by omega, rfl⟩
      case measure => simp [intOf]; omega
    · obtain rfl : F = i := by omega
      go_wp2
      clear hi hiF
      go_loopw [7, 8] (fun z k wr => ∃ (r a b n' : Nat), z = .complex .f64 a b ∧ k = .int .i64 ((r : Int) + 1) ∧ VD cx cy (F + r) a b ∧ r ≤ F ∧ (∀ j, 1 ≤ j → j ≤ r → eqO cx cy (F + j) F = false) ∧ wr = w.drewN n') (fun z k wr => F + 3 - (intOf k).toNat)
      case atStart => exact ⟨0, x, y, n, rfl, rfl, hv, by omega, fun j h1 h2 => by omega, rfl⟩
      case round =>
        obtain ⟨r, a, b, n', rfl, rfl, hva, hr, hj, rfl⟩ := hrel
        have HJ := Lib.hid hj
        clear hj
        by_cases hrF : r < F
        · have hrF' : (r : Int) + 1 ≤ (F : Int) := by omega
          go_wp2_with fail
          refine (hS (F + r) a b _ hva).mono ?_
          rintro e w' ⟨x', y', n1, rfl, rfl, hv'⟩
          have heq : eqO cx cy (F + (r + 1)) F = eqC .f64 x' y' x y := (eqC_orb (j := F + (r + 1)) hv' hv).symm
          obtain ⟨p, hp⟩ : ∃ p, (FloatKind.f64.format.order x' x == some Ordering.eq) = p := ⟨_, rfl⟩
          obtain ⟨q, hq⟩ : ∃ q, (FloatKind.f64.format.order y' y == some Ordering.eq) = q := ⟨_, rfl⟩
          have heq2 : eqO cx cy (F + (r + 1)) F = (p && q) := by rw [heq]; unfold eqC; rw [hp, hq]
          have HEQ := Lib.hid heq2
          clear heq heq2
          have hup : eqO cx cy (F + (r + 1)) F = false → ∀ j, 1 ≤ j → j ≤ r + 1 → eqO cx cy (F + j) F = false := fun h j h1 h2 => by
            rcases Nat.lt_or_ge r j with h3 | h3
            · rw [show j = r + 1 by omega]; exact h
            · exact HJ.out j h1 h3
          have HUP := Lib.hid hup
          clear hup
          cases p
          · go_wp2
            go_roundw
            case rel => exact ⟨r + 1, x', y', _, rfl, by simp, hv', by omega, HUP.out (by rw [HEQ.out]; rfl), rfl⟩
            case measure => simp [intOf]; omega
          · cases q
            · go_wp2
              go_roundw
              case rel => exact ⟨r + 1, x', y', _, rfl, by simp, hv', by omega, HUP.out (by rw [HEQ.out]; rfl), rfl⟩
              case measure => simp [intOf]; omega
            · go_wp2
              go_ret
              exact ⟨F, (r : Int) + 1, HF.out, rfl, .inr ⟨r + 1, by simp, by omega, by omega, by rw [HEQ.out]; rfl, fun j h1 h2 => HJ.out j h1 (by omega)⟩, below_drewN (Below.refl _ _) _⟩
        · have hrF' : (F : Int) < (r : Int) + 1 := by omega
          go_wp2_with fail
          go_ret
          exact ⟨F, 0, HF.out, rfl, .inl ⟨rfl, fun j h1 h2 => HJ.out j h1 (by omega)⟩, below_drewN (Below.refl _ _) _⟩
end Go.Proofs.Ytakhgppjgeeihaa
