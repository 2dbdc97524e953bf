/-
  EscapeSingle in the program and in the reference; OrbitSingle in its range. Conditions: none.
-/
import Derived.Test.YtakhgppjgeeihaaOrbws
namespace Go.Proofs.Ytakhgppjgeeihaa
open Go.RowKit Go.Shelf Fl
theorem escSingle_impl (cx cy : Nat) (m : Int) (w : World) : Calls Try.prog 15 #[.complex .f32 cx cy, .int .i64 m] w fun e w' =>
    ∃ (L : Nat) (i : Int), (L : Int) = min (max m 0) 400 ∧ e = .returned (.int .i64 i) ∧ EscAt (BdF cx cy) L i ∧ Below w.heap.size w w' := by
  go_enter Try.func15, Try.ntmps15
  go_wp2_with (go_at_call 49; refine (escS cx cy m (VF cx cy) (BdF cx cy) (VF_zero cx cy) (VF_step cx cy) (VF_norm cx cy) w).mono ?_; rintro e w' ⟨L, i, v, hL, rfl, he, hb⟩; replace hL := Lib.hid hL)
  go_ret
  exact ⟨L, i, hL.out, rfl, he, hb⟩
set_option maxHeartbeats 1000000 in
theorem l3esc (cx cy : Nat) (m : Int) (w : World) : Calls Try.prog 50 #[.complex .f32 cx cy, .int .i64 m] w fun e w' =>
    ∃ (L : Nat) (i : Int) (u v : Nat), (L : Int) = min (max m 0) 400 ∧ e = .returned (.tuple #[.int .i64 i, .complex .f32 u v]) ∧ EscAt (BdF cx cy) L i ∧ Below w.heap.size w w' := by
  obtain ⟨L, hL⟩ : ∃ L : Nat, (L : Int) = min (max m 0) 400 := ⟨(min (max m 0) 400).toNat, by omega⟩
  have HL := Lib.hid hL
  have hM : ∀ w, Calls Try.prog 69 #[.int .i64 m] w fun e w' => e = .returned (.int .i64 L) ∧ w = w' := fun w => (most_spec m w).mono (by
    rintro e w' ⟨⟨L', _, h2, rfl⟩, rfl⟩
    rw [show L' = L by omega]; exact ⟨rfl, rfl⟩)
  have hL4 : L ≤ 400 := by omega
  clear hL
  have hS := VF_spec cx cy
  have hN := VF_norms cx cy
  go_enter Try.func50, Try.ntmps50
  go_wp2
  go_loopw [6, 7] (fun z k wr => ∃ (i x y n : Nat), z = .complex .f32 x y ∧ k = .int .i64 i ∧ VF cx cy i x y ∧ i ≤ L + 1 ∧ (∀ j, j < i → BdF cx cy j = true) ∧ wr = w.drewN n) (fun z k wr => L + 2 - (intOf k).toNat)
  case atStart =>
    exact ⟨0, 0, 0, 0, rfl, rfl, VF_zero cx cy, by omega, by simp, rfl⟩
  case round =>
    obtain ⟨i, x, y, n, rfl, rfl, hv, hi, hj, rfl⟩ := hrel
    have hS1 := fun W => hS i x y W hv
    have hN1 := fun w1 w2 W => hN i x y hv hj w1 w2 W
    have HJ := Lib.hid hj
    clear hj hN hS
    by_cases hiL : i ≤ L
    · go_wp2_with (go_at_call 69; refine (hM _).mono ?_; rintro e w' ⟨rfl, rfl⟩)
      go_wp2_with (go_at_call 51; refine (hN1 _ _ _).mono ?_; rintro e w' ⟨v, n1, rfl, rfl, hle⟩)
      · have hx : (!FloatKind.f64.format.order v 4616189618054758400 == some Ordering.lt) = true ∧ (!FloatKind.f64.format.order v 4616189618054758400 == some Ordering.eq) = true := by assumption
        have hf : BdF cx cy i = false := by rw [← hle]; unfold le4; simp at hx; simp [hx]
        go_ret2
        exact ⟨L, i, _, _, HL.out, rfl, .inr ⟨i, hiL, rfl, hf, HJ.out⟩, below_drewN (Below.refl _ _) _⟩
      · have hx : (!FloatKind.f64.format.order v 4616189618054758400 == some Ordering.lt) = false ∨ (!FloatKind.f64.format.order v 4616189618054758400 == some Ordering.eq) = false := by assumption
        have hf : BdF cx cy i = true := by rw [← hle]; unfold le4; simp at hx; rcases hx with h | h <;> simp [h]
        have hjk : ∀ j, j < i + 1 → BdF cx cy j = true := fun j h => by
          rcases Nat.lt_or_ge j i with h1 | h1
          · exact HJ.out j h1
          · rw [show j = i by omega]; exact hf
        refine (hS1 _).mono ?_
        rintro e w' ⟨x', y', n2, rfl, rfl, hv'⟩
        go_wp2
        go_roundw
        case rel => exact ⟨i + 1, x', y', _, rfl, by simp, hv', by omega, hjk, rfl⟩
        case measure => simp [intOf]; omega
    · go_wp2_with (go_at_call 69; refine (hM _).mono ?_; rintro e w' ⟨rfl, rfl⟩)
      go_ret2
      exact ⟨L, -1, _, _, HL.out, rfl, .inl ⟨rfl, fun k hk => HJ.out k (by omega)⟩, below_drewN (Below.refl _ _) _⟩
theorem escSingle_spec (cx cy : Nat) (m : Int) (w : World) : Calls Try.prog 47 #[.complex .f32 cx cy, .int .i64 m] w fun e w' =>
    ∃ (L : Nat) (i : Int), (L : Int) = min (max m 0) 400 ∧ e = .returned (.int .i64 i) ∧ EscAt (BdF cx cy) L i ∧ Below w.heap.size w w' := by
  go_enter Try.func47, Try.ntmps47
  go_wp2_with (go_at_call 50; refine (l3esc cx cy m w).mono ?_; rintro e w' ⟨L, i, u, v, hL, rfl, he, hb⟩; replace hL := Lib.hid hL)
  go_ret
  exact ⟨L, i, hL.out, rfl, he, hb⟩
/-- the cells of a slice of single numbers lie in one block -/
def LiesS (w : World) (v : Value) (ws : List (Nat × Nat)) : Prop := ∃ (b : Option Addr) (cap : Nat), v = .slice b ws.length cap ∧ ∀ j, (h : j < ws.length) → ∃ g, b = some ⟨g, 0, none⟩ ∧ g < w.heap.size ∧ w.cell? ⟨g, j, none⟩ = some (.complex .f32 ws[j].1 ws[j].2)
theorem LiesS.of {w : World} {B : Nat} {e : TypeId} {v : Value} {ws : List (Nat × Nat)} (h : w.ownsRow B e 1 v ws.length (ws.map cvs)) : LiesS w v ws := by
  rcases h.2 with ⟨rfl, h0⟩ | ⟨g, cap, cur, rfl, hb, hg, h1, h2, h3, h4⟩
  · exact ⟨none, 0, by rw [h0], fun j hj => by omega⟩
  · refine ⟨some ⟨g, 0, none⟩, cap, rfl, fun j hj => ⟨g, rfl, (Array.getElem?_eq_some_iff.1 hg).1, ?_⟩⟩
    have e1 : (ws.map cvs)[j]? = some (cvs ws[j]) := by simp [hj]
    rw [← h4] at e1
    have e2 : cur[j]? = some (cvs ws[j]) := by
      have : j < ws.length * 1 := by omega
      rw [List.getElem?_take_of_lt this] at e1
      rwa [Array.getElem?_toList] at e1
    simp [World.cell?, hg, e2, cvs]
theorem LiesS.at {w : World} {b : Option Addr} {n cap : Nat} {ws : List (Nat × Nat)} (h : LiesS w (.slice b n cap) ws) (j : Nat) (hj : j < ws.length) : ∃ g, b = some ⟨g, 0, none⟩ ∧ g < w.heap.size ∧ w.cell? ⟨g, j, none⟩ = some (.complex .f32 ws[j].1 ws[j].2) := by
  obtain ⟨b', cap', e, hc⟩ := h
  cases e
  exact hc j hj
theorem LiesS.drewN {w : World} {v : Value} {ws : List (Nat × Nat)} (h : LiesS w v ws) (n : Nat) : LiesS (w.drewN n) v ws := h
theorem orbSingle_in (cx cy N : Nat) (hN : N ≤ 400) (w : World) : Calls Try.prog 41 #[.complex .f32 cx cy, .int .i64 N] w fun e w' =>
    ∃ b cap ws, e = .returned (.tuple #[.slice b N cap, .bool true]) ∧ ws.length = N ∧ OLs cx cy ws ∧ LiesS w' (.slice b N cap) ws ∧ Below w.heap.size w w' := by
  have hF : Calls Try.prog 70 #[.complex .f32 cx cy, .int .i64 N, .func (.func 45) #[] #[]] w fun e w' => ∃ b cap ws, e = .returned (.tuple #[.slice b N cap, .bool true]) ∧ ws.length = N ∧ OLs cx cy ws ∧ LiesS w' (.slice b N cap) ws ∧ Below w.heap.size w w' := by
    refine (firstS cx cy N w).mono ?_
    rintro e w' (⟨h, _⟩ | ⟨_, _, v, ws, rfl, hl, hol, hrow, hb⟩)
    · omega
    · have hL := LiesS.of hrow
      have hl' : ws.length = N := by omega
      obtain ⟨b, cap, rfl, hc⟩ := hL
      rw [hl']
      exact ⟨b, cap, ws, rfl, hl', hol, ⟨b, cap, by rw [hl'], hc⟩, hb⟩
  have HN := Lib.hid hN
  clear hN
  go_enter Try.func41, Try.ntmps41
  go_wp2_with (go_at_call 70; refine hF.mono ?_; rintro e w' ⟨b, cap, ws, rfl, hl, hol, hlies, hb⟩; replace hl := Lib.hid hl)
  go_ret2
  exact ⟨b, cap, ws, rfl, hl.out, hol, hlies, hb⟩
end Go.Proofs.Ytakhgppjgeeihaa
