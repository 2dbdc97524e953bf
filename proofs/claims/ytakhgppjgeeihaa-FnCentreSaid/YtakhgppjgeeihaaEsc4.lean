/-
  OrbitWide in the reference. Conditions: none.
-/
import Derived.Test.YtakhgppjgeeihaaEsc3
namespace Go.Proofs.Ytakhgppjgeeihaa
open Go.RowKit Go.Shelf Fl
theorem in_spec (n a b : Int) (w : World) : Calls Try.prog 57 #[.int .i64 n, .int .i64 a, .int .i64 b] w fun e w' => e = .returned (.bool (decide (a ≤ n) && decide (n ≤ b))) ∧ w = w' := by
  go_enter Try.func57, Try.ntmps57
  go_wp2
  all_goals go_ret
  all_goals (refine ⟨congrArg (fun b => Ending.returned (Value.bool b)) ?_, rfl⟩; simp [*]; try omega)
theorem orbWide_spec (cx cy : Nat) (n : Int) (w : World) : Calls Try.prog 31 #[.complex .f64 cx cy, .int .i64 n] w (OrbPost cx cy n w) := by
  by_cases hn : 0 ≤ n ∧ n ≤ 400
  · have hI : ∀ w, Calls Try.prog 57 #[.int .i64 n, .int .i64 0, .int .i64 400] w fun e w' => e = .returned (.bool true) ∧ w = w' := fun w => (in_spec n 0 400 w).mono (by rintro e w' ⟨rfl, rfl⟩; simp [hn.1, hn.2])
    have HN := Lib.hid hn
    clear hn
    go_enter Try.func31, Try.ntmps31
    go_wp2_with (go_at_call 57; refine (hI _).mono ?_; rintro e w' ⟨rfl, rfl⟩)
    obtain ⟨N, hNn⟩ : ∃ N : Nat, n = N := ⟨n.toNat, by have := HN.out; omega⟩
    subst hNn
    have hN : N ≤ 400 := by have := HN.out; omega
    obtain ⟨i0, hi, hz0, hz1, hz2⟩ := info_parts Try.info31
    have hS := VD_spec cx cy
    go_loopw [6, 7, 8] (fun o z k wr => ∃ (i x y : Nat) (ws : List (Nat × Nat)), z = .complex .f64 x y ∧ k = .int .i64 i ∧ VD cx cy i x y ∧ i ≤ N ∧ ws.length = i ∧ OL cx cy ws ∧ wr.ownsRow w.heap.size 31 1 o i (ws.map cv) ∧ Below w.heap.size w wr) (fun o z k wr => N + 1 - (intOf k).toNat)
    case atStart =>
      exact ⟨0, 0, 0, [], rfl, rfl, VD_zero cx cy, by omega, rfl, by intro j h; simp at h, ⟨rfl, .inr ⟨w.heap.size, 0, #[], rfl, Nat.le_refl _, World.alloc_heap_new w _, Nat.le_refl _, by decide, rfl, rfl⟩⟩, (Below.refl _ w).alloc (Nat.le_refl _) _⟩
    case round =>
      obtain ⟨i, x, y, ws, rfl, rfl, hv, hiN, hlen, hol, hrow, hB⟩ := hrel
      have hS1 := fun W => hS i x y W hv
      have hsz := hB.size
      by_cases hiN' : i < N
      · go_wp2_with (at_builtin; refine wpList_append_own _ rfl _ _ 34 rfl w.heap.size 31 i0 (.complex .f64 0 0) 1 16 under34 hi hz0 hz1 hz2 rfl (by decide) _ _ _ rfl (hrow.alloc _) ⟨wr.heap.size, 0, none⟩ 1 1 [.complex .f64 x y] rfl rfl (cell_one_new _ _ _) (by simp [Value.oneCell']) (by unfold maxLen; omega) (by omega) (by simp; omega) ?_; intro v' w4 hown' hgrow _; obtain ⟨g', cap', rfl⟩ := ownsRow_succ hown')
        have hB4 : Below w.heap.size w w4 := hB.trans (((Below.refl w.heap.size wr).alloc hsz _).grown hgrow (by simp; omega) (fun j ej => by
          have ej2 : u6.ownBlock = some j := ej
          clear ej hown' hgrow
          rcases hrow.2 with ⟨rfl, _⟩ | ⟨g, cap, cur, rfl, hb, _, _⟩
          · simp [Value.ownBlock] at ej2
          · obtain rfl : g = j := by simpa [Value.ownBlock] using ej2
            exact hb))
        refine (hS1 _).mono ?_
        rintro e w' ⟨x', y', m, rfl, rfl, hv'⟩
        go_wp2
        go_roundw
        case rel => exact ⟨i + 1, x', y', ws ++ [(x, y)], rfl, by simp, hv', by omega, by simp [hlen], hol.snoc (by rw [hlen]; exact hv), by rw [List.map_append]; exact hown', below_drewN hB4 _⟩
        case measure => simp [intOf]; omega
      · have hiN2 : i = N := by omega
        subst hiN2
        go_wp2
        go_ret2
        exact .inr ⟨HN.out.1, HN.out.2, _, ws, rfl, by rw [hlen], hol, by rw [hlen]; exact hrow, hB⟩
  · have hI : ∀ w, Calls Try.prog 57 #[.int .i64 n, .int .i64 0, .int .i64 400] w fun e w' => e = .returned (.bool false) ∧ w = w' := fun w => (in_spec n 0 400 w).mono (by rintro e w' ⟨rfl, rfl⟩; simp; omega)
    have HN := Lib.hid hn
    clear hn
    go_enter Try.func31, Try.ntmps31
    go_wp2_with (go_at_call 57; refine (hI _).mono ?_; rintro e w' ⟨rfl, rfl⟩)
    go_ret2
    exact .inl ⟨HN.out, ⟨_, rfl⟩, (Below.refl _ w).alloc (Nat.le_refl _) _⟩
end Go.Proofs.Ytakhgppjgeeihaa
