/-
  CentreSteps in the reference, and out of range. Conditions: none.
-/
import Derived.Test.YtakhgppjgeeihaaCens
namespace Go.Proofs.Ytakhgppjgeeihaa
open Go.RowKit Go.Shelf Fl
theorem centre_out (x y : Nat) (p n : Int) (h : p < 1 ∨ n < 0) (hp : p ≤ 8) (hn : n ≤ 20) (w : World) : Calls Try.prog 17 #[.complex .f64 x y, .int .i64 p, .int .i64 n] w fun e w' => ∃ b, e = .returned (.tuple #[.slice b 0 0, .bool false]) ∧ Below w.heap.size w w' := by
  by_cases h1 : p < 1
  · go_enter Try.func17, Try.ntmps17
    go_wp2
    go_ret2
    first | exact ⟨_, rfl, (Below.refl _ w).alloc (Nat.le_refl _) _⟩ | exact ⟨⟨_, rfl⟩, (Below.refl _ w).alloc (Nat.le_refl _) _⟩
  · have h2 : n < 0 := by omega
    clear h
    go_enter Try.func17, Try.ntmps17
    go_wp2
    go_ret2
    first | exact ⟨_, rfl, (Below.refl _ w).alloc (Nat.le_refl _) _⟩ | exact ⟨⟨_, rfl⟩, (Below.refl _ w).alloc (Nat.le_refl _) _⟩
theorem centre_sout (x y : Nat) (p n : Int) (h : p < 1 ∨ n < 0) (w : World) : Calls Try.prog 18 #[.complex .f64 x y, .int .i64 p, .int .i64 n] w fun e w' => ∃ b, e = .returned (.tuple #[.slice b 0 0, .bool false]) ∧ Below w.heap.size w w' := by
  by_cases h1 : decide (1 ≤ p) && decide (p ≤ 8)
  · have h2 : (decide (0 ≤ n) && decide (n ≤ 20)) = false := by simp at h1 ⊢; omega
    go_enter Try.func18, Try.ntmps18
    go_wp2_with (go_at_call 57; refine (in_spec _ _ _ _).mono ?_; rintro e w' ⟨rfl, rfl⟩)
    go_ret2
    first | exact ⟨_, rfl, (Below.refl _ w).alloc (Nat.le_refl _) _⟩ | exact ⟨⟨_, rfl⟩, (Below.refl _ w).alloc (Nat.le_refl _) _⟩
  · have h2 : (decide (1 ≤ p) && decide (p ≤ 8)) = false := by simpa using h1
    clear h
    go_enter Try.func18, Try.ntmps18
    go_wp2_with (go_at_call 57; refine (in_spec _ _ _ _).mono ?_; rintro e w' ⟨rfl, rfl⟩)
    go_ret2
    first | exact ⟨_, rfl, (Below.refl _ w).alloc (Nat.le_refl _) _⟩ | exact ⟨⟨_, rfl⟩, (Below.refl _ w).alloc (Nat.le_refl _) _⟩
set_option maxHeartbeats 2000000 in
theorem centre_spec (cx cy p N : Nat) (hcx : cx < 2 ^ D.width) (hcy : cy < 2 ^ D.width) (hp : 1 ≤ p) (hp4 : p ≤ 4) (hN : N ≤ 20) (w : World) : Calls Try.prog 18 #[.complex .f64 cx cy, .int .i64 p, .int .i64 N] w (CenPost cx cy p N w) := by
  obtain ⟨i0, hi, hz0, hz1, hz2⟩ := info_parts Try.info31
  have h1 : (decide ((1 : Int) ≤ p) && decide ((p : Int) ≤ 8)) = true := by simp; omega
  have h2 : (decide ((0 : Int) ≤ N) && decide ((N : Int) ≤ 20)) = true := by simp; omega
  have hi1 : ∀ w, Calls Try.prog 57 #[.int .i64 p, .int .i64 1, .int .i64 8] w fun e w' => e = .returned (.bool true) ∧ w = w' := fun w => (in_spec p 1 8 w).mono (by rintro e w' ⟨rfl, rfl⟩; rw [h1]; exact ⟨rfl, rfl⟩)
  have hi2 : ∀ w, Calls Try.prog 57 #[.int .i64 N, .int .i64 0, .int .i64 20] w fun e w' => e = .returned (.bool true) ∧ w = w' := fun w => (in_spec N 0 20 w).mono (by rintro e w' ⟨rfl, rfl⟩; rw [h2]; exact ⟨rfl, rfl⟩)
  have HCX := Lib.hid hcx
  have HCY := Lib.hid hcy
  clear hcx hcy h1 h2
  go_enter Try.func18, Try.ntmps18
  go_wp2_with fail
  refine (hi1 _).mono ?_
  rintro e w1 ⟨rfl, rfl⟩
  go_wp2_with fail
  refine (hi2 _).mono ?_
  rintro e w1 ⟨rfl, rfl⟩
  clear hi1 hi2
  have hown0 : (w.alloc (.cells #[] 31)).ownsRow w.heap.size 31 1 (.slice (some ⟨w.heap.size, 0, none⟩) 0 0) 0 [] := ⟨rfl, .inr ⟨w.heap.size, 0, #[], rfl, Nat.le_refl _, World.alloc_heap_new w _, Nat.le_refl _, by decide, rfl, rfl⟩⟩
  have hB0 : Below w.heap.size w (w.alloc (.cells #[] 31)) := (Below.refl _ w).alloc (Nat.le_refl _) _
  obtain ⟨W0, hW0⟩ : ∃ W0, w.alloc (Obj.cells #[] 31) = W0 := ⟨_, rfl⟩
  rw [hW0] at hown0 hB0 ⊢
  clear hW0
  have hsz0 := hB0.size
  go_wp2_with (at_builtin; refine wpList_append_own _ rfl _ _ 34 rfl w.heap.size 31 i0 (.complex .f64 0 0) 1 16 under34 hi hz0 hz1 hz2 rfl (by decide) _ _ _ rfl (hown0.alloc _) ⟨W0.heap.size, 0, none⟩ 1 1 [.complex .f64 cx cy] rfl rfl (cell_one_new _ _ _) (by simp [Value.oneCell']) (by unfold maxLen; omega) (by omega) (by simp; omega) ?_; intro v' w4 hown' hgrow _; obtain ⟨g', cap', rfl⟩ := ownsRow_succ hown')
  have hB4 : Below w.heap.size w w4 := (hB0.alloc hsz0 _).grown hgrow (by simp; omega) (fun j ej => by
    have ej2 : (Value.slice (some ⟨w.heap.size, 0, none⟩) 0 0).ownBlock = some j := ej
    simp [Value.ownBlock] at ej2; omega)
  have hown4 : w4.ownsRow w.heap.size 31 1 (.slice (some ⟨g', 0, none⟩) (0 + 1) cap') (0 + 1) ([(cx, cy)].map cv) := hown'
  clear hown' hgrow hown0
  go_loopw [0, 8, 9] (fun c o k wr => ∃ (i x y : Nat) (ws : List (Nat × Nat)), c = .complex .f64 x y ∧ k = .int .i64 i ∧ CD cx cy p i x y ∧ i ≤ N ∧ ws.length = i + 1 ∧ CL cx cy p ws ∧ wr.ownsRow w.heap.size 31 1 o (i + 1) (ws.map cv) ∧ Below w.heap.size w wr) (fun c o k wr => N + 1 - (intOf k).toNat)
  case atStart =>
    exact ⟨0, cx, cy, [(cx, cy)], rfl, rfl, ⟨Sim.refl _ _, Sim.refl _ _, HCX.out, HCY.out⟩, by omega, rfl, by
      intro j hj
      obtain rfl : j = 0 := by simp at hj; exact hj
      exact ⟨Sim.refl _ _, Sim.refl _ _, HCX.out, HCY.out⟩, hown4, hB4⟩
  case round =>
    obtain ⟨i, x, y, ws, rfl, rfl, hv, hiN, hlen, hol, hrow, hB⟩ := hrel
    have hsz := hB.size
    by_cases hin : i < N
    · go_wp2_with fail
      have HV := Lib.hid hv
      have HROW := Lib.hid hrow
      have HOL := Lib.hid hol
      have HBB := Lib.hid hB
      clear hv hrow hol hB
      go_loopw [10, 11, 12] (fun z d k wk => ∃ (r a b e f n : Nat), z = .complex .f64 a b ∧ d = .complex .f64 e f ∧ k = .int .i64 r ∧ VD x y r a b ∧ ED x y r e f ∧ r ≤ p ∧ wk = wr.drewN n) (fun z d k wk => p + 1 - (intOf k).toNat)
      case atStart => exact ⟨0, 0, 0, 0, 0, 0, rfl, rfl, rfl, VD_zero x y, ED_zero x y, by omega, rfl⟩
      case round =>
        obtain ⟨r, a, b, e, f, n, rfl, rfl, rfl, hz, hd, hrp, rfl⟩ := hrel
        by_cases hr : r < p
        · go_wp2_with fail
          refine (product_spec _ _ _ _ _ _ _ _ hz.1 hz.2.1 hd.1 hd.2.1 _).mono ?_
          rintro e w' ⟨a1, b1, n1, rfl, q1, q2, q3, q4, rfl⟩
          go_wp2_with fail
          refine (VD_spec x y r a b _ hz).mono ?_
          rintro e w' ⟨x', y', n2, rfl, rfl, hz'⟩
          go_wp2
          go_roundw
          case rel => exact ⟨r + 1, x', y', _, _, _, rfl, rfl, by simp, hz', ⟨faV_add _ _ _ _ _ (faV_mul _ _ _ _ _ (Sim.refl _ _) q1) (Sim.refl _ _), faV_add _ _ _ _ _ (faV_mul _ _ _ _ _ (Sim.refl _ _) q2) (Sim.refl _ _), faV_lt _ _ _ _ _, faV_lt _ _ _ _ _⟩, by omega, rfl⟩
          case measure => simp [intOf]; omega
        · obtain rfl : p = r := by omega
          have HQ := quo_at hp hp4 hz hd
          have hrow5 : ∀ M, (wr.drewN M).ownsRow w.heap.size 31 1 u8 (i + 1) (ws.map cv) := fun M => HROW.out
          go_wp2_with fail
          refine (quo_spec _ _ _ _ _).mono ?_
          rintro e w' ⟨a1, b1, n1, rfl, q1, q2, q3, q4, rfl⟩
          rw [HQ] at q1 q2
          go_wp2_with (at_builtin; refine wpList_append_own _ rfl _ _ 34 rfl w.heap.size 31 i0 (.complex .f64 0 0) 1 16 under34 hi hz0 hz1 hz2 rfl (by decide) _ _ _ rfl ((hrow5 _).alloc _) ⟨wr.heap.size, 0, none⟩ 1 1 [_] rfl rfl (cell_one_new _ _ _) (by simp [Value.oneCell']) (by unfold maxLen; omega) (by omega) (by simp; omega) ?_; intro v' w6 hown6 hgrow6 _; obtain ⟨g6, cap6, rfl⟩ := ownsRow_succ hown6)
          have hCD : ∀ w1 w2, CD cx cy p (i + 1) (faV .sub .f64 x a1 w1) (faV .sub .f64 y b1 w2) := fun w1 w2 => by
            have e := nextD_sim HV.out.1 HV.out.2.1 p
            refine ⟨?_, ?_, faV_lt _ _ _ _ _, faV_lt _ _ _ _ _⟩
            · show Sim D _ (nextD (cenD cx cy p i).1 (cenD cx cy p i).2 p).1
              rw [← e]; exact faV_sub _ _ _ _ _ (Sim.refl _ _) q1
            · show Sim D _ (nextD (cenD cx cy p i).1 (cenD cx cy p i).2 p).2
              rw [← e]; exact faV_sub _ _ _ _ _ (Sim.refl _ _) q2
          have hB6 : Below w.heap.size w w6 := ((below_drewN HBB.out _).alloc hsz _).grown hgrow6 (by simp; omega) (fun j ej => by
            have ej2 : u8.ownBlock = some j := ej
            clear ej hown6 hgrow6
            rcases HROW.out.2 with ⟨rfl, _⟩ | ⟨g, cap, cur, rfl, hb, _, _⟩
            · simp [Value.ownBlock] at ej2
            · obtain rfl : g = j := by simpa [Value.ownBlock] using ej2
              exact hb)
          obtain ⟨X, hX⟩ : ∃ X, faV BinOp.sub FloatKind.f64 x a1 (wr.drewN (n + n1)) = X := ⟨_, rfl⟩
          obtain ⟨Y, hY⟩ : ∃ Y, faV BinOp.sub FloatKind.f64 y b1 (wr.drewN (n + n1 + faN BinOp.sub FloatKind.f64 x a1)) = Y := ⟨_, rfl⟩
          have hv' : CD cx cy p (i + 1) X Y := by rw [← hX, ← hY]; exact hCD _ _
          rw [hX, hY] at hown6 ⊢
          exact ⟨⟨i + 1, X, Y, ws ++ [(X, Y)], rfl, by simp, hv', by omega, by simp [hlen], HOL.out.snoc (by rw [hlen]; exact hv'), by rw [List.map_append]; exact hown6, hB6⟩, by simp [intOf]; omega⟩
    · obtain rfl : N = i := by omega
      go_wp2_with fail
      go_ret2
      exact cen_post hlen hol hrow hB
end Go.Proofs.Ytakhgppjgeeihaa
