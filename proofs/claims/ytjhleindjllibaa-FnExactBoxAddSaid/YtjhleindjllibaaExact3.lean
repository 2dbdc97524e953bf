/-
  The walk of FnExactBoxAdd: it returns true. Conditions: none.
-/
import Derived.Test.YtjhleindjllibaaExact
import Derived.Deep.RegionHeld3
import Derived.Deep.DeepCutAuto
namespace Go.Proofs.Ytjhleindjllibaa
open Go.ChangeShapes Go.WideShapes Go.ChangeAt Go.RowKit
/-- what a call of two boxes holds of the world between its own calls: its two boxes, and that nothing that was there has changed -/
theorem keep8 {w W w1 : World} {a b c d a' b' c' d' : Int} (hb : Below W.heap.size W w1) (h : W.cell? ⟨w.heap.size, 0, none⟩ = some (.int .i64 a) ∧ W.cell? ⟨w.heap.size, 1, none⟩ = some (.int .i64 b) ∧ W.cell? ⟨w.heap.size, 2, none⟩ = some (.int .i64 c) ∧ W.cell? ⟨w.heap.size, 3, none⟩ = some (.int .i64 d) ∧ W.cell? ⟨w.heap.size + 1, 0, none⟩ = some (.int .i64 a') ∧ W.cell? ⟨w.heap.size + 1, 1, none⟩ = some (.int .i64 b') ∧ W.cell? ⟨w.heap.size + 1, 2, none⟩ = some (.int .i64 c') ∧ W.cell? ⟨w.heap.size + 1, 3, none⟩ = some (.int .i64 d') ∧ Below w.heap.size w W) : w1.cell? ⟨w.heap.size, 0, none⟩ = some (.int .i64 a) ∧ w1.cell? ⟨w.heap.size, 1, none⟩ = some (.int .i64 b) ∧ w1.cell? ⟨w.heap.size, 2, none⟩ = some (.int .i64 c) ∧ w1.cell? ⟨w.heap.size, 3, none⟩ = some (.int .i64 d) ∧ w1.cell? ⟨w.heap.size + 1, 0, none⟩ = some (.int .i64 a') ∧ w1.cell? ⟨w.heap.size + 1, 1, none⟩ = some (.int .i64 b') ∧ w1.cell? ⟨w.heap.size + 1, 2, none⟩ = some (.int .i64 c') ∧ w1.cell? ⟨w.heap.size + 1, 3, none⟩ = some (.int .i64 d') ∧ Below w.heap.size w w1 := by
  obtain ⟨h0, h1, h2, h3, k0, k1, k2, k3, hB⟩ := h
  obtain ⟨hc, _⟩ := bcell hb
  have l0 := World.block_lt_of_cell? W _ h0
  have l1 := World.block_lt_of_cell? W _ k0
  exact ⟨by rw [hc _ _ l0]; exact h0, by rw [hc _ _ l0]; exact h1, by rw [hc _ _ l0]; exact h2, by rw [hc _ _ l0]; exact h3,
    by rw [hc _ _ l1]; exact k0, by rw [hc _ _ l1]; exact k1, by rw [hc _ _ l1]; exact k2, by rw [hc _ _ l1]; exact k3, below_step hB hb⟩
theorem last8 {w W : World} {a b c d a' b' c' d' : Int} (h : W.cell? ⟨w.heap.size, 0, none⟩ = some (.int .i64 a) ∧ W.cell? ⟨w.heap.size, 1, none⟩ = some (.int .i64 b) ∧ W.cell? ⟨w.heap.size, 2, none⟩ = some (.int .i64 c) ∧ W.cell? ⟨w.heap.size, 3, none⟩ = some (.int .i64 d) ∧ W.cell? ⟨w.heap.size + 1, 0, none⟩ = some (.int .i64 a') ∧ W.cell? ⟨w.heap.size + 1, 1, none⟩ = some (.int .i64 b') ∧ W.cell? ⟨w.heap.size + 1, 2, none⟩ = some (.int .i64 c') ∧ W.cell? ⟨w.heap.size + 1, 3, none⟩ = some (.int .i64 d') ∧ Below w.heap.size w W) : Below w.heap.size w W := h.2.2.2.2.2.2.2.2
/-! ### BoxAdd -/
/-- a box that is a result, and whether it is valid; an invalid one is the zero value -/
def doneV (a b c d : Int) : Value := if boxB a b c d then .tuple #[bx a b c d, .bool true] else .tuple #[bx 0 0 0 0, .bool false]
theorem doneV_yes {a b c d : Int} (h : -134217728 ≤ a ∧ a ≤ b ∧ b ≤ 134217728 ∧ -134217728 ≤ c ∧ c ≤ d ∧ d ≤ 134217728) : doneV a b c d = .tuple #[bx a b c d, .bool true] := by
  unfold doneV; rw [if_pos (by simp [boxB]; omega)]
theorem doneV_no {a b c d : Int} (h : ¬ (-134217728 ≤ a ∧ a ≤ b ∧ b ≤ 134217728 ∧ -134217728 ≤ c ∧ c ≤ d ∧ d ≤ 134217728)) : doneV a b c d = .tuple #[bx 0 0 0 0, .bool false] := by
  unfold doneV; rw [if_neg (by simp [boxB]; omega)]
theorem l4Done_any (a b c d : Int) (w : World) : Calls Try.prog 60 #[bx a b c d] w fun e w' => e = .returned (doneV a b c d) ∧ Below w.heap.size w w' := by
  go_enter Try.func60, Try.ntmps60
  go_wp2
  all_goals
    go_returns
    refine ⟨congrArg Ending.returned ?_, by go_grown⟩
    (try simp_all)
    first | (rw [doneV_yes (by omega)]; done) | (rw [doneV_no (by omega)])
theorem box_any (a b c d : Int) (w : World) : Calls Try.prog 55 #[bx a b c d] w fun e w' => e = .returned (doneV a b c d) ∧ Below w.heap.size w w' := by
  go_enter Try.func55, Try.ntmps55
  go_wp2
  all_goals
    go_returns
    refine ⟨congrArg Ending.returned ?_, by go_grown⟩
    (try simp_all)
    first | (rw [doneV_yes (by omega)]; done) | (rw [doneV_no (by omega)])
theorem plus_any (a b c d : Int) (h1 : -36028797018963968 ≤ a) (k1 : a ≤ 36028797018963968) (h2 : -36028797018963968 ≤ b) (k2 : b ≤ 36028797018963968) (h3 : -36028797018963968 ≤ c) (k3 : c ≤ 36028797018963968) (h4 : -36028797018963968 ≤ d) (k4 : d ≤ 36028797018963968) (w : World) : Calls Try.prog 61 #[.agg #[.int .i64 a, .int .i64 b], .agg #[.int .i64 c, .int .i64 d]] w fun e w' => e = .returned (.agg #[.int .i64 (a + c), .int .i64 (b + d)]) ∧ Below w.heap.size w w' := by
  go_enter Try.func61, Try.ntmps61
  go_wp2
  go_returns
  exact ⟨rfl, by go_grown⟩

theorem doneV_form (a b c d : Int) : ∃ x y z u r, doneV a b c d = .tuple #[bx x y z u, .bool r] := by
  unfold doneV; split
  · exact ⟨_, _, _, _, _, rfl⟩
  · exact ⟨_, _, _, _, _, rfl⟩
/-- what BoxAdd returns -/
def addV (a b c d a' b' c' d' : Int) : Value := if boxB a b c d = true ∧ boxB a' b' c' d' = true then doneV (a + a') (b + b') (c + c') (d + d') else .tuple #[bx 0 0 0 0, .bool false]
set_option maxHeartbeats 2000000 in
theorem spec_add (a b c d a' b' c' d' : Int) (w : World) : Calls Try.prog 30 #[bx a b c d, bx a' b' c' d'] w fun e w' => e = .returned (addV a b c d a' b' c' d') ∧ Below w.heap.size w w' := by
  obtain ⟨p, hp⟩ : ∃ p, boxB a b c d = p := ⟨_, rfl⟩
  obtain ⟨q, hq⟩ : ∃ q, boxB a' b' c' d' = q := ⟨_, rfl⟩
  cases p
  · rw [show addV a b c d a' b' c' d' = .tuple #[bx 0 0 0 0, .bool false] from if_neg (by rw [hp]; simp)]
    go_enter Try.func30, Try.ntmps30
    go_wp2_with (go_at_call 18; refine (spec_boxValid _ _ _ _ _).mono ?_; rintro e w1 ⟨rfl, hb1⟩; obtain ⟨hc1, hf1⟩ := bcell hb1; have hz4 : w.heap.size + 2 < w1.heap.size := (by have hz1 := hb1.size; (try simp at hz1); omega); have hz3 : w.heap.size + 1 < w1.heap.size := (by omega); have hz2 : w.heap.size < w1.heap.size := (by omega))
    refine bodyPost_ret (v := .tuple #[bx 0 0 0 0, .bool false]) (by simp [results, Try.results30, go_sem, *]) rfl ⟨rfl, ?_⟩
    repeat' (first | assumption | (refine below_drewN ?_ _) | (refine below_step ?_ (by assumption)) | go_grown)
  · cases q
    · rw [show addV a b c d a' b' c' d' = .tuple #[bx 0 0 0 0, .bool false] from if_neg (by rw [hq]; simp)]
      go_enter Try.func30, Try.ntmps30
      go_wp2_with (go_at_call 18; refine (spec_boxValid _ _ _ _ _).mono ?_; rintro e w1 ⟨rfl, hb1⟩; obtain ⟨hc1, hf1⟩ := bcell hb1; have hz4 : w.heap.size + 2 < w1.heap.size := (by have hz1 := hb1.size; (try simp at hz1); omega); have hz3 : w.heap.size + 1 < w1.heap.size := (by omega); have hz2 : w.heap.size < w1.heap.size := (by omega))
      refine bodyPost_ret (v := .tuple #[bx 0 0 0 0, .bool false]) (by simp [results, Try.results30, go_sem, *]) rfl ⟨rfl, ?_⟩
      repeat' (first | assumption | (refine below_drewN ?_ _) | (refine below_step ?_ (by assumption)) | go_grown)
    · obtain ⟨l1, l2, l3, l4, l5, l6⟩ := boxB_bd hp
      obtain ⟨m1, m2, m3, m4, m5, m6⟩ := boxB_bd hq
      rw [show addV a b c d a' b' c' d' = doneV (a + a') (b + b') (c + c') (d + d') from if_pos ⟨hp, hq⟩]
      have hd := fun w => l4Done_any (a + a') (b + b') (c + c') (d + d') w
      obtain ⟨x, y, z, u, r, hD⟩ := doneV_form (a + a') (b + b') (c + c') (d + d')
      rw [hD] at hd
      rw [hD]
      have HD := Lib.hid hd
      clear hd hD
      go_enter Try.func30, Try.ntmps30
      go_wp2_with (first | (go_at_call 18; refine (spec_boxValid _ _ _ _ _).mono ?_; rintro e w1 ⟨rfl, hb1⟩; obtain ⟨hc1, hf1⟩ := bcell hb1; have hz4 : w.heap.size + 2 < w1.heap.size := (by have hz1 := hb1.size; (try simp at hz1); omega); have hz3 : w.heap.size + 1 < w1.heap.size := (by omega); have hz2 : w.heap.size < w1.heap.size := (by omega)) | (go_at_call 60; refine (HD.out _).mono ?_; rintro e w1 ⟨rfl, hb1⟩; obtain ⟨hc1, hf1⟩ := bcell hb1; have hz4 : w.heap.size + 2 < w1.heap.size := (by have hz1 := hb1.size; (try simp at hz1); omega); have hz3 : w.heap.size + 1 < w1.heap.size := (by omega); have hz2 : w.heap.size < w1.heap.size := (by omega)))
      refine bodyPost_ret (v := .tuple #[bx x y z u, .bool r]) (by simp [results, Try.results30, go_sem, *]) rfl ⟨rfl, ?_⟩
      repeat' (first | assumption | (refine below_drewN ?_ _) | (refine below_step ?_ (by assumption)) | go_grown)
/-- the zero value that waits for the result, and that nothing that was there has changed -/
def Rst (w W : World) : Prop := (W.cell? ⟨w.heap.size + 1 + 1, 0, none⟩ = some (.int .i64 0) ∧ W.cell? ⟨w.heap.size + 1 + 1, 1, none⟩ = some (.int .i64 0) ∧ W.cell? ⟨w.heap.size + 1 + 1, 2, none⟩ = some (.int .i64 0) ∧ W.cell? ⟨w.heap.size + 1 + 1, 3, none⟩ = some (.int .i64 0)) ∧ (∀ o, W.frozen? ⟨w.heap.size + 1 + 1, o, none⟩ = false) ∧ w.heap.size + 1 + 1 < W.heap.size ∧ Below w.heap.size w W
theorem keep3 {w W w1 : World} {a b c d a' b' c' d' : Int} (hb : Below (w.heap.size + 1 + 1 + 1) W w1) (h : W.cell? ⟨w.heap.size, 0, none⟩ = some (.int .i64 a) ∧ W.cell? ⟨w.heap.size, 1, none⟩ = some (.int .i64 b) ∧ W.cell? ⟨w.heap.size, 2, none⟩ = some (.int .i64 c) ∧ W.cell? ⟨w.heap.size, 3, none⟩ = some (.int .i64 d) ∧ W.cell? ⟨w.heap.size + 1, 0, none⟩ = some (.int .i64 a') ∧ W.cell? ⟨w.heap.size + 1, 1, none⟩ = some (.int .i64 b') ∧ W.cell? ⟨w.heap.size + 1, 2, none⟩ = some (.int .i64 c') ∧ W.cell? ⟨w.heap.size + 1, 3, none⟩ = some (.int .i64 d') ∧ Rst w W) : w1.cell? ⟨w.heap.size, 0, none⟩ = some (.int .i64 a) ∧ w1.cell? ⟨w.heap.size, 1, none⟩ = some (.int .i64 b) ∧ w1.cell? ⟨w.heap.size, 2, none⟩ = some (.int .i64 c) ∧ w1.cell? ⟨w.heap.size, 3, none⟩ = some (.int .i64 d) ∧ w1.cell? ⟨w.heap.size + 1, 0, none⟩ = some (.int .i64 a') ∧ w1.cell? ⟨w.heap.size + 1, 1, none⟩ = some (.int .i64 b') ∧ w1.cell? ⟨w.heap.size + 1, 2, none⟩ = some (.int .i64 c') ∧ w1.cell? ⟨w.heap.size + 1, 3, none⟩ = some (.int .i64 d') ∧ Rst w w1 := by
  obtain ⟨h0, h1, h2, h3, k0, k1, k2, k3, ⟨z0, z1, z2, z3⟩, hf, hz, hB⟩ := h
  have hc : ∀ b o, b < w.heap.size + 1 + 1 + 1 → w1.cell? ⟨b, o, none⟩ = W.cell? ⟨b, o, none⟩ := fun b o h => hb.cell (p := ⟨b, o, none⟩) h
  refine ⟨by rw [hc _ _ (by omega)]; exact h0, by rw [hc _ _ (by omega)]; exact h1, by rw [hc _ _ (by omega)]; exact h2, by rw [hc _ _ (by omega)]; exact h3,
    by rw [hc _ _ (by omega)]; exact k0, by rw [hc _ _ (by omega)]; exact k1, by rw [hc _ _ (by omega)]; exact k2, by rw [hc _ _ (by omega)]; exact k3,
    ⟨by rw [hc _ _ (by omega)]; exact z0, by rw [hc _ _ (by omega)]; exact z1, by rw [hc _ _ (by omega)]; exact z2, by rw [hc _ _ (by omega)]; exact z3⟩, ?_, ?_, hB.trans (hb.mono (by omega))⟩
  · intro o; rw [hb.frozen (p := ⟨w.heap.size + 1 + 1, o, none⟩) (by show w.heap.size + 1 + 1 < _; omega)]; exact hf o
  · have := hb.size; omega
theorem keep3' {w W w1 : World} {a b c d a' b' c' d' : Int} (hb : Below W.heap.size W w1) (h : W.cell? ⟨w.heap.size, 0, none⟩ = some (.int .i64 a) ∧ W.cell? ⟨w.heap.size, 1, none⟩ = some (.int .i64 b) ∧ W.cell? ⟨w.heap.size, 2, none⟩ = some (.int .i64 c) ∧ W.cell? ⟨w.heap.size, 3, none⟩ = some (.int .i64 d) ∧ W.cell? ⟨w.heap.size + 1, 0, none⟩ = some (.int .i64 a') ∧ W.cell? ⟨w.heap.size + 1, 1, none⟩ = some (.int .i64 b') ∧ W.cell? ⟨w.heap.size + 1, 2, none⟩ = some (.int .i64 c') ∧ W.cell? ⟨w.heap.size + 1, 3, none⟩ = some (.int .i64 d') ∧ Rst w W) : w1.cell? ⟨w.heap.size, 0, none⟩ = some (.int .i64 a) ∧ w1.cell? ⟨w.heap.size, 1, none⟩ = some (.int .i64 b) ∧ w1.cell? ⟨w.heap.size, 2, none⟩ = some (.int .i64 c) ∧ w1.cell? ⟨w.heap.size, 3, none⟩ = some (.int .i64 d) ∧ w1.cell? ⟨w.heap.size + 1, 0, none⟩ = some (.int .i64 a') ∧ w1.cell? ⟨w.heap.size + 1, 1, none⟩ = some (.int .i64 b') ∧ w1.cell? ⟨w.heap.size + 1, 2, none⟩ = some (.int .i64 c') ∧ w1.cell? ⟨w.heap.size + 1, 3, none⟩ = some (.int .i64 d') ∧ Rst w w1 :=
  keep3 (hb.mono h.2.2.2.2.2.2.2.2.2.2.1) h
theorem spans_ex (a b c d : Int) (w : World) : Calls Try.prog 54 #[bx a b c d] w fun e w' => e = .returned (bx a b c d) ∧ w' = (w.alloc (Obj.cells #[.int .i64 a, .int .i64 b, .int .i64 c, .int .i64 d] 32)).alloc (Obj.cells #[.int .i64 a, .int .i64 b, .int .i64 c, .int .i64 d] 61) := by
  go_enter Try.func54, Try.ntmps54
  go_wp2
  go_returns
  exact ⟨rfl, rfl⟩
theorem plus_ex (a b c d : Int) (h1 : -36028797018963968 ≤ a) (k1 : a ≤ 36028797018963968) (h2 : -36028797018963968 ≤ b) (k2 : b ≤ 36028797018963968) (h3 : -36028797018963968 ≤ c) (k3 : c ≤ 36028797018963968) (h4 : -36028797018963968 ≤ d) (k4 : d ≤ 36028797018963968) (w : World) : Calls Try.prog 61 #[.agg #[.int .i64 a, .int .i64 b], .agg #[.int .i64 c, .int .i64 d]] w fun e w' => e = .returned (.agg #[.int .i64 (a + c), .int .i64 (b + d)]) ∧ w' = ((w.alloc (Obj.cells #[.int .i64 a, .int .i64 b] 59)).alloc (Obj.cells #[.int .i64 c, .int .i64 d] 59)).alloc (Obj.cells #[.int .i64 (a + c), .int .i64 (b + d)] 59) := by
  go_enter Try.func61, Try.ntmps61
  go_wp2
  go_returns
  exact ⟨rfl, rfl⟩
/-- what the call holds of the world ahead of its two regions -/
def St (w W : World) (a b c d a' b' c' d' : Int) : Prop := W.cell? ⟨w.heap.size, 0, none⟩ = some (.int .i64 a) ∧ W.cell? ⟨w.heap.size, 1, none⟩ = some (.int .i64 b) ∧ W.cell? ⟨w.heap.size, 2, none⟩ = some (.int .i64 c) ∧ W.cell? ⟨w.heap.size, 3, none⟩ = some (.int .i64 d) ∧ W.cell? ⟨w.heap.size + 1, 0, none⟩ = some (.int .i64 a') ∧ W.cell? ⟨w.heap.size + 1, 1, none⟩ = some (.int .i64 b') ∧ W.cell? ⟨w.heap.size + 1, 2, none⟩ = some (.int .i64 c') ∧ W.cell? ⟨w.heap.size + 1, 3, none⟩ = some (.int .i64 d') ∧ Rst w W
theorem St.keep {w W W' : World} {a b c d a' b' c' d' : Int} (h : St w W a b c d a' b' c' d') (hb : Below W.heap.size W W') : St w W' a b c d a' b' c' d' := keep3' hb h
theorem cell_up {w : World} {p : Addr} {v : Value} (h : w.cell? p = some v) (o : Obj) : (w.alloc o).cell? p = some v := (World.cell?_alloc_lt w o p (World.block_lt_of_cell? w p h)).trans h
theorem cells4 (w : World) (k : Nat) (hk : w.heap.size = k) (p q r s : Value) (t : TypeId) : (w.alloc (.cells #[p, q, r, s] t)).cell? ⟨k, 0, none⟩ = some p ∧ (w.alloc (.cells #[p, q, r, s] t)).cell? ⟨k, 1, none⟩ = some q ∧ (w.alloc (.cells #[p, q, r, s] t)).cell? ⟨k, 2, none⟩ = some r ∧ (w.alloc (.cells #[p, q, r, s] t)).cell? ⟨k, 3, none⟩ = some s ∧ (∀ o, (w.alloc (.cells #[p, q, r, s] t)).frozen? ⟨k, o, none⟩ = false) := by
  subst hk
  exact ⟨by simp, by simp, by simp, by simp, fun o => by simp⟩
theorem cell_dr {w : World} {p : Addr} {v : Value} (h : w.cell? p = some v) : w.drew.cell? p = some v := h
theorem cell_drN {w : World} {p : Addr} {v : Value} (n : Nat) (h : w.cell? p = some v) : (w.drewN n).cell? p = some v := h
theorem St.start (w : World) (a b c d a' b' c' d' : Int) : St w (((w.alloc (.cells #[.int .i64 a, .int .i64 b, .int .i64 c, .int .i64 d] 32)).alloc (.cells #[.int .i64 a', .int .i64 b', .int .i64 c', .int .i64 d'] 32)).alloc (.cells #[.int .i64 0, .int .i64 0, .int .i64 0, .int .i64 0] 32)) a b c d a' b' c' d' := by
  obtain ⟨p0, p1, p2, p3, _⟩ := cells4 w _ rfl (.int .i64 a) (.int .i64 b) (.int .i64 c) (.int .i64 d) 32
  obtain ⟨W1, hW1⟩ : ∃ W1, w.alloc (.cells #[.int .i64 a, .int .i64 b, .int .i64 c, .int .i64 d] 32) = W1 := ⟨_, rfl⟩
  have s1 : W1.heap.size = w.heap.size + 1 := by rw [← hW1]; simp
  have b1 : Below w.heap.size w W1 := by rw [← hW1]; exact (Below.refl _ w).alloc (Nat.le_refl _) _
  rw [hW1] at p0 p1 p2 p3 ⊢
  obtain ⟨q0, q1, q2, q3, _⟩ := cells4 W1 _ s1 (.int .i64 a') (.int .i64 b') (.int .i64 c') (.int .i64 d') 32
  obtain ⟨W2, hW2⟩ : ∃ W2, W1.alloc (.cells #[.int .i64 a', .int .i64 b', .int .i64 c', .int .i64 d'] 32) = W2 := ⟨_, rfl⟩
  have s2 : W2.heap.size = w.heap.size + 1 + 1 := by rw [← hW2]; simp [s1]
  have b2 : Below w.heap.size w W2 := by rw [← hW2]; exact b1.alloc (by omega) _
  replace p0 := cell_up p0 (.cells #[.int .i64 a', .int .i64 b', .int .i64 c', .int .i64 d'] 32)
  replace p1 := cell_up p1 (.cells #[.int .i64 a', .int .i64 b', .int .i64 c', .int .i64 d'] 32)
  replace p2 := cell_up p2 (.cells #[.int .i64 a', .int .i64 b', .int .i64 c', .int .i64 d'] 32)
  replace p3 := cell_up p3 (.cells #[.int .i64 a', .int .i64 b', .int .i64 c', .int .i64 d'] 32)
  rw [hW2] at p0 p1 p2 p3 q0 q1 q2 q3 ⊢
  obtain ⟨r0, r1, r2, r3, rf⟩ := cells4 W2 _ s2 (.int .i64 0) (.int .i64 0) (.int .i64 0) (.int .i64 0) 32
  exact ⟨cell_up p0 _, cell_up p1 _, cell_up p2 _, cell_up p3 _, cell_up q0 _, cell_up q1 _, cell_up q2 _, cell_up q3 _, ⟨r0, r1, r2, r3⟩, rf, by simp [s2], b2.alloc (by omega) _⟩
theorem s8_up {w W : World} {a b c d a' b' c' d' : Int} (o : Obj) (h : (W.cell? ⟨w.heap.size, 0, none⟩ = some (.int .i64 a) ∧ W.cell? ⟨w.heap.size, 1, none⟩ = some (.int .i64 b) ∧ W.cell? ⟨w.heap.size, 2, none⟩ = some (.int .i64 c) ∧ W.cell? ⟨w.heap.size, 3, none⟩ = some (.int .i64 d) ∧ W.cell? ⟨w.heap.size + 1, 0, none⟩ = some (.int .i64 a') ∧ W.cell? ⟨w.heap.size + 1, 1, none⟩ = some (.int .i64 b') ∧ W.cell? ⟨w.heap.size + 1, 2, none⟩ = some (.int .i64 c') ∧ W.cell? ⟨w.heap.size + 1, 3, none⟩ = some (.int .i64 d'))) : ((W.alloc o).cell? ⟨w.heap.size, 0, none⟩ = some (.int .i64 a) ∧ (W.alloc o).cell? ⟨w.heap.size, 1, none⟩ = some (.int .i64 b) ∧ (W.alloc o).cell? ⟨w.heap.size, 2, none⟩ = some (.int .i64 c) ∧ (W.alloc o).cell? ⟨w.heap.size, 3, none⟩ = some (.int .i64 d) ∧ (W.alloc o).cell? ⟨w.heap.size + 1, 0, none⟩ = some (.int .i64 a') ∧ (W.alloc o).cell? ⟨w.heap.size + 1, 1, none⟩ = some (.int .i64 b') ∧ (W.alloc o).cell? ⟨w.heap.size + 1, 2, none⟩ = some (.int .i64 c') ∧ (W.alloc o).cell? ⟨w.heap.size + 1, 3, none⟩ = some (.int .i64 d')) := by
  obtain ⟨h0, h1, h2, h3, k0, k1, k2, k3⟩ := h
  exact ⟨cell_up h0 _, cell_up h1 _, cell_up h2 _, cell_up h3 _, cell_up k0 _, cell_up k1 _, cell_up k2 _, cell_up k3 _⟩
theorem s8_dr {w W : World} {a b c d a' b' c' d' : Int} (h : (W.cell? ⟨w.heap.size, 0, none⟩ = some (.int .i64 a) ∧ W.cell? ⟨w.heap.size, 1, none⟩ = some (.int .i64 b) ∧ W.cell? ⟨w.heap.size, 2, none⟩ = some (.int .i64 c) ∧ W.cell? ⟨w.heap.size, 3, none⟩ = some (.int .i64 d) ∧ W.cell? ⟨w.heap.size + 1, 0, none⟩ = some (.int .i64 a') ∧ W.cell? ⟨w.heap.size + 1, 1, none⟩ = some (.int .i64 b') ∧ W.cell? ⟨w.heap.size + 1, 2, none⟩ = some (.int .i64 c') ∧ W.cell? ⟨w.heap.size + 1, 3, none⟩ = some (.int .i64 d'))) : (W.drew.cell? ⟨w.heap.size, 0, none⟩ = some (.int .i64 a) ∧ W.drew.cell? ⟨w.heap.size, 1, none⟩ = some (.int .i64 b) ∧ W.drew.cell? ⟨w.heap.size, 2, none⟩ = some (.int .i64 c) ∧ W.drew.cell? ⟨w.heap.size, 3, none⟩ = some (.int .i64 d) ∧ W.drew.cell? ⟨w.heap.size + 1, 0, none⟩ = some (.int .i64 a') ∧ W.drew.cell? ⟨w.heap.size + 1, 1, none⟩ = some (.int .i64 b') ∧ W.drew.cell? ⟨w.heap.size + 1, 2, none⟩ = some (.int .i64 c') ∧ W.drew.cell? ⟨w.heap.size + 1, 3, none⟩ = some (.int .i64 d')) := h
theorem s8_drN {w W : World} {a b c d a' b' c' d' : Int} (n : Nat) (h : (W.cell? ⟨w.heap.size, 0, none⟩ = some (.int .i64 a) ∧ W.cell? ⟨w.heap.size, 1, none⟩ = some (.int .i64 b) ∧ W.cell? ⟨w.heap.size, 2, none⟩ = some (.int .i64 c) ∧ W.cell? ⟨w.heap.size, 3, none⟩ = some (.int .i64 d) ∧ W.cell? ⟨w.heap.size + 1, 0, none⟩ = some (.int .i64 a') ∧ W.cell? ⟨w.heap.size + 1, 1, none⟩ = some (.int .i64 b') ∧ W.cell? ⟨w.heap.size + 1, 2, none⟩ = some (.int .i64 c') ∧ W.cell? ⟨w.heap.size + 1, 3, none⟩ = some (.int .i64 d'))) : ((W.drewN n).cell? ⟨w.heap.size, 0, none⟩ = some (.int .i64 a) ∧ (W.drewN n).cell? ⟨w.heap.size, 1, none⟩ = some (.int .i64 b) ∧ (W.drewN n).cell? ⟨w.heap.size, 2, none⟩ = some (.int .i64 c) ∧ (W.drewN n).cell? ⟨w.heap.size, 3, none⟩ = some (.int .i64 d) ∧ (W.drewN n).cell? ⟨w.heap.size + 1, 0, none⟩ = some (.int .i64 a') ∧ (W.drewN n).cell? ⟨w.heap.size + 1, 1, none⟩ = some (.int .i64 b') ∧ (W.drewN n).cell? ⟨w.heap.size + 1, 2, none⟩ = some (.int .i64 c') ∧ (W.drewN n).cell? ⟨w.heap.size + 1, 3, none⟩ = some (.int .i64 d')) := h
theorem s8_set {w W : World} {a b c d a' b' c' d' : Int} (p o : Nat) (v : Value) (h1 : p ≠ w.heap.size) (h2 : p ≠ w.heap.size + 1) (h : (W.cell? ⟨w.heap.size, 0, none⟩ = some (.int .i64 a) ∧ W.cell? ⟨w.heap.size, 1, none⟩ = some (.int .i64 b) ∧ W.cell? ⟨w.heap.size, 2, none⟩ = some (.int .i64 c) ∧ W.cell? ⟨w.heap.size, 3, none⟩ = some (.int .i64 d) ∧ W.cell? ⟨w.heap.size + 1, 0, none⟩ = some (.int .i64 a') ∧ W.cell? ⟨w.heap.size + 1, 1, none⟩ = some (.int .i64 b') ∧ W.cell? ⟨w.heap.size + 1, 2, none⟩ = some (.int .i64 c') ∧ W.cell? ⟨w.heap.size + 1, 3, none⟩ = some (.int .i64 d'))) : ((W.setCell ⟨p, o, none⟩ v).cell? ⟨w.heap.size, 0, none⟩ = some (.int .i64 a) ∧ (W.setCell ⟨p, o, none⟩ v).cell? ⟨w.heap.size, 1, none⟩ = some (.int .i64 b) ∧ (W.setCell ⟨p, o, none⟩ v).cell? ⟨w.heap.size, 2, none⟩ = some (.int .i64 c) ∧ (W.setCell ⟨p, o, none⟩ v).cell? ⟨w.heap.size, 3, none⟩ = some (.int .i64 d) ∧ (W.setCell ⟨p, o, none⟩ v).cell? ⟨w.heap.size + 1, 0, none⟩ = some (.int .i64 a') ∧ (W.setCell ⟨p, o, none⟩ v).cell? ⟨w.heap.size + 1, 1, none⟩ = some (.int .i64 b') ∧ (W.setCell ⟨p, o, none⟩ v).cell? ⟨w.heap.size + 1, 2, none⟩ = some (.int .i64 c') ∧ (W.setCell ⟨p, o, none⟩ v).cell? ⟨w.heap.size + 1, 3, none⟩ = some (.int .i64 d')) := by
  obtain ⟨l0, l1, l2, l3, k0, k1, k2, k3⟩ := h
  have e : ∀ i : Nat, (⟨w.heap.size, i, none⟩ : Addr) ≠ ⟨p, o, none⟩ := fun i e => by injection e; omega
  have f : ∀ i : Nat, (⟨w.heap.size + 1, i, none⟩ : Addr) ≠ ⟨p, o, none⟩ := fun i e => by injection e; omega
  refine ⟨?_, ?_, ?_, ?_, ?_, ?_, ?_, ?_⟩
  all_goals (rw [World.cell?_setCell_other _ _ _ _ (Ne.symm (by first | exact e _ | exact f _))]; assumption)
theorem t4_up {W : World} {p q : Nat} {a b c d a' b' c' d' : Int} (o : Obj) (h : (W.cell? ⟨p, 0, none⟩ = some (.int .i64 a) ∧ W.cell? ⟨p, 1, none⟩ = some (.int .i64 b) ∧ W.cell? ⟨p, 2, none⟩ = some (.int .i64 c) ∧ W.cell? ⟨p, 3, none⟩ = some (.int .i64 d) ∧ W.cell? ⟨q, 0, none⟩ = some (.int .i64 a') ∧ W.cell? ⟨q, 1, none⟩ = some (.int .i64 b') ∧ W.cell? ⟨q, 2, none⟩ = some (.int .i64 c') ∧ W.cell? ⟨q, 3, none⟩ = some (.int .i64 d'))) : ((W.alloc o).cell? ⟨p, 0, none⟩ = some (.int .i64 a) ∧ (W.alloc o).cell? ⟨p, 1, none⟩ = some (.int .i64 b) ∧ (W.alloc o).cell? ⟨p, 2, none⟩ = some (.int .i64 c) ∧ (W.alloc o).cell? ⟨p, 3, none⟩ = some (.int .i64 d) ∧ (W.alloc o).cell? ⟨q, 0, none⟩ = some (.int .i64 a') ∧ (W.alloc o).cell? ⟨q, 1, none⟩ = some (.int .i64 b') ∧ (W.alloc o).cell? ⟨q, 2, none⟩ = some (.int .i64 c') ∧ (W.alloc o).cell? ⟨q, 3, none⟩ = some (.int .i64 d')) := by
  obtain ⟨h0, h1, h2, h3, k0, k1, k2, k3⟩ := h
  exact ⟨cell_up h0 _, cell_up h1 _, cell_up h2 _, cell_up h3 _, cell_up k0 _, cell_up k1 _, cell_up k2 _, cell_up k3 _⟩
theorem t4_dr {W : World} {p q : Nat} {a b c d a' b' c' d' : Int} (h : (W.cell? ⟨p, 0, none⟩ = some (.int .i64 a) ∧ W.cell? ⟨p, 1, none⟩ = some (.int .i64 b) ∧ W.cell? ⟨p, 2, none⟩ = some (.int .i64 c) ∧ W.cell? ⟨p, 3, none⟩ = some (.int .i64 d) ∧ W.cell? ⟨q, 0, none⟩ = some (.int .i64 a') ∧ W.cell? ⟨q, 1, none⟩ = some (.int .i64 b') ∧ W.cell? ⟨q, 2, none⟩ = some (.int .i64 c') ∧ W.cell? ⟨q, 3, none⟩ = some (.int .i64 d'))) : (W.drew.cell? ⟨p, 0, none⟩ = some (.int .i64 a) ∧ W.drew.cell? ⟨p, 1, none⟩ = some (.int .i64 b) ∧ W.drew.cell? ⟨p, 2, none⟩ = some (.int .i64 c) ∧ W.drew.cell? ⟨p, 3, none⟩ = some (.int .i64 d) ∧ W.drew.cell? ⟨q, 0, none⟩ = some (.int .i64 a') ∧ W.drew.cell? ⟨q, 1, none⟩ = some (.int .i64 b') ∧ W.drew.cell? ⟨q, 2, none⟩ = some (.int .i64 c') ∧ W.drew.cell? ⟨q, 3, none⟩ = some (.int .i64 d')) := h
theorem t4_drN {W : World} {p q : Nat} {a b c d a' b' c' d' : Int} (n : Nat) (h : (W.cell? ⟨p, 0, none⟩ = some (.int .i64 a) ∧ W.cell? ⟨p, 1, none⟩ = some (.int .i64 b) ∧ W.cell? ⟨p, 2, none⟩ = some (.int .i64 c) ∧ W.cell? ⟨p, 3, none⟩ = some (.int .i64 d) ∧ W.cell? ⟨q, 0, none⟩ = some (.int .i64 a') ∧ W.cell? ⟨q, 1, none⟩ = some (.int .i64 b') ∧ W.cell? ⟨q, 2, none⟩ = some (.int .i64 c') ∧ W.cell? ⟨q, 3, none⟩ = some (.int .i64 d'))) : ((W.drewN n).cell? ⟨p, 0, none⟩ = some (.int .i64 a) ∧ (W.drewN n).cell? ⟨p, 1, none⟩ = some (.int .i64 b) ∧ (W.drewN n).cell? ⟨p, 2, none⟩ = some (.int .i64 c) ∧ (W.drewN n).cell? ⟨p, 3, none⟩ = some (.int .i64 d) ∧ (W.drewN n).cell? ⟨q, 0, none⟩ = some (.int .i64 a') ∧ (W.drewN n).cell? ⟨q, 1, none⟩ = some (.int .i64 b') ∧ (W.drewN n).cell? ⟨q, 2, none⟩ = some (.int .i64 c') ∧ (W.drewN n).cell? ⟨q, 3, none⟩ = some (.int .i64 d')) := h
theorem t4_set {W : World} {p q : Nat} {a b c d a' b' c' d' : Int} (b0 o : Nat) (v : Value) (h1 : b0 < p) (h2 : b0 < q) (h : (W.cell? ⟨p, 0, none⟩ = some (.int .i64 a) ∧ W.cell? ⟨p, 1, none⟩ = some (.int .i64 b) ∧ W.cell? ⟨p, 2, none⟩ = some (.int .i64 c) ∧ W.cell? ⟨p, 3, none⟩ = some (.int .i64 d) ∧ W.cell? ⟨q, 0, none⟩ = some (.int .i64 a') ∧ W.cell? ⟨q, 1, none⟩ = some (.int .i64 b') ∧ W.cell? ⟨q, 2, none⟩ = some (.int .i64 c') ∧ W.cell? ⟨q, 3, none⟩ = some (.int .i64 d'))) : ((W.setCell ⟨b0, o, none⟩ v).cell? ⟨p, 0, none⟩ = some (.int .i64 a) ∧ (W.setCell ⟨b0, o, none⟩ v).cell? ⟨p, 1, none⟩ = some (.int .i64 b) ∧ (W.setCell ⟨b0, o, none⟩ v).cell? ⟨p, 2, none⟩ = some (.int .i64 c) ∧ (W.setCell ⟨b0, o, none⟩ v).cell? ⟨p, 3, none⟩ = some (.int .i64 d) ∧ (W.setCell ⟨b0, o, none⟩ v).cell? ⟨q, 0, none⟩ = some (.int .i64 a') ∧ (W.setCell ⟨b0, o, none⟩ v).cell? ⟨q, 1, none⟩ = some (.int .i64 b') ∧ (W.setCell ⟨b0, o, none⟩ v).cell? ⟨q, 2, none⟩ = some (.int .i64 c') ∧ (W.setCell ⟨b0, o, none⟩ v).cell? ⟨q, 3, none⟩ = some (.int .i64 d')) := by
  obtain ⟨l0, l1, l2, l3, k0, k1, k2, k3⟩ := h
  have e : ∀ i : Nat, (⟨p, i, none⟩ : Addr) ≠ ⟨b0, o, none⟩ := fun i e => by injection e; omega
  have f : ∀ i : Nat, (⟨q, i, none⟩ : Addr) ≠ ⟨b0, o, none⟩ := fun i e => by injection e; omega
  refine ⟨?_, ?_, ?_, ?_, ?_, ?_, ?_, ?_⟩
  all_goals (rw [World.cell?_setCell_other _ _ _ _ (Ne.symm (by first | exact e _ | exact f _))]; assumption)
theorem cell_below {W W' : World} {p : Addr} {v : Value} (hb : Below W.heap.size W W') (h : W.cell? p = some v) : W'.cell? p = some v := (hb.cell (World.block_lt_of_cell? W p h)).trans h
theorem g_below {w W W' : World} {p q : Nat} {a b c d a' b' c' d' : Int} (hb : Below W.heap.size W W') (h : ((W.cell? ⟨p, 0, none⟩ = some (.int .i64 a) ∧ W.cell? ⟨p, 1, none⟩ = some (.int .i64 b) ∧ W.cell? ⟨p, 2, none⟩ = some (.int .i64 c) ∧ W.cell? ⟨p, 3, none⟩ = some (.int .i64 d) ∧ W.cell? ⟨q, 0, none⟩ = some (.int .i64 a') ∧ W.cell? ⟨q, 1, none⟩ = some (.int .i64 b') ∧ W.cell? ⟨q, 2, none⟩ = some (.int .i64 c') ∧ W.cell? ⟨q, 3, none⟩ = some (.int .i64 d')) ∧ (W.cell? ⟨w.heap.size + 1 + 1, 0, none⟩ = some (.int .i64 0) ∧ W.cell? ⟨w.heap.size + 1 + 1, 1, none⟩ = some (.int .i64 0) ∧ W.cell? ⟨w.heap.size + 1 + 1, 2, none⟩ = some (.int .i64 0) ∧ W.cell? ⟨w.heap.size + 1 + 1, 3, none⟩ = some (.int .i64 0)) ∧ (∀ o, W.frozen? ⟨w.heap.size + 1 + 1, o, none⟩ = false) ∧ w.heap.size + 1 + 1 < W.heap.size ∧ Below w.heap.size w W)) : ((W'.cell? ⟨p, 0, none⟩ = some (.int .i64 a) ∧ W'.cell? ⟨p, 1, none⟩ = some (.int .i64 b) ∧ W'.cell? ⟨p, 2, none⟩ = some (.int .i64 c) ∧ W'.cell? ⟨p, 3, none⟩ = some (.int .i64 d) ∧ W'.cell? ⟨q, 0, none⟩ = some (.int .i64 a') ∧ W'.cell? ⟨q, 1, none⟩ = some (.int .i64 b') ∧ W'.cell? ⟨q, 2, none⟩ = some (.int .i64 c') ∧ W'.cell? ⟨q, 3, none⟩ = some (.int .i64 d')) ∧ (W'.cell? ⟨w.heap.size + 1 + 1, 0, none⟩ = some (.int .i64 0) ∧ W'.cell? ⟨w.heap.size + 1 + 1, 1, none⟩ = some (.int .i64 0) ∧ W'.cell? ⟨w.heap.size + 1 + 1, 2, none⟩ = some (.int .i64 0) ∧ W'.cell? ⟨w.heap.size + 1 + 1, 3, none⟩ = some (.int .i64 0)) ∧ (∀ o, W'.frozen? ⟨w.heap.size + 1 + 1, o, none⟩ = false) ∧ w.heap.size + 1 + 1 < W'.heap.size ∧ Below w.heap.size w W') := by
  obtain ⟨⟨h0, h1, h2, h3, k0, k1, k2, k3⟩, ⟨z0, z1, z2, z3⟩, hf, hs, hB⟩ := h
  refine ⟨⟨cell_below hb h0, cell_below hb h1, cell_below hb h2, cell_below hb h3, cell_below hb k0, cell_below hb k1, cell_below hb k2, cell_below hb k3⟩, ⟨cell_below hb z0, cell_below hb z1, cell_below hb z2, cell_below hb z3⟩, ?_, ?_, below_step hB hb⟩
  · intro o; rw [hb.frozen (p := ⟨w.heap.size + 1 + 1, o, none⟩) hs]; exact hf o
  · have := hb.size; omega
set_option maxHeartbeats 2000000 in
theorem impl_add (a b c d a' b' c' d' : Int) (w : World) : Calls Try.prog 31 #[bx a b c d, bx a' b' c' d'] w fun e w' => e = .returned (addV a b c d a' b' c' d') ∧ Below w.heap.size w w' := by
  obtain ⟨p, hp⟩ : ∃ p, boxB a b c d = p := ⟨_, rfl⟩
  obtain ⟨q, hq⟩ : ∃ q, boxB a' b' c' d' = q := ⟨_, rfl⟩
  cases p
  · rw [show addV a b c d a' b' c' d' = .tuple #[bx 0 0 0 0, .bool false] from if_neg (by rw [hp]; simp)]
    go_enter Try.func31, Try.ntmps31
    go_wp2_with (go_at_call 20; refine (impl_boxValid _ _ _ _ _).mono ?_; rintro e w1 ⟨rfl, hb1⟩; obtain ⟨hc1, hf1⟩ := bcell hb1; have hz4 : w.heap.size + 2 < w1.heap.size := (by have hz1 := hb1.size; (try simp at hz1); omega); have hz3 : w.heap.size + 1 < w1.heap.size := (by omega); have hz2 : w.heap.size < w1.heap.size := (by omega))
    refine bodyPost_ret (v := .tuple #[bx 0 0 0 0, .bool false]) (by simp [results, Try.results31, go_sem, *]) rfl ⟨rfl, ?_⟩
    repeat' (first | assumption | (refine below_drewN ?_ _) | (refine below_step ?_ (by assumption)) | go_grown)
  · cases q
    · rw [show addV a b c d a' b' c' d' = .tuple #[bx 0 0 0 0, .bool false] from if_neg (by rw [hq]; simp)]
      go_enter Try.func31, Try.ntmps31
      go_wp2_with (go_at_call 20; refine (impl_boxValid _ _ _ _ _).mono ?_; rintro e w1 ⟨rfl, hb1⟩; obtain ⟨hc1, hf1⟩ := bcell hb1; have hz4 : w.heap.size + 2 < w1.heap.size := (by have hz1 := hb1.size; (try simp at hz1); omega); have hz3 : w.heap.size + 1 < w1.heap.size := (by omega); have hz2 : w.heap.size < w1.heap.size := (by omega))
      refine bodyPost_ret (v := .tuple #[bx 0 0 0 0, .bool false]) (by simp [results, Try.results31, go_sem, *]) rfl ⟨rfl, ?_⟩
      repeat' (first | assumption | (refine below_drewN ?_ _) | (refine below_step ?_ (by assumption)) | go_grown)
    · obtain ⟨l1, l2, l3, l4, l5, l6⟩ := boxB_bd hp
      obtain ⟨m1, m2, m3, m4, m5, m6⟩ := boxB_bd hq
      rw [show addV a b c d a' b' c' d' = doneV (a + a') (b + b') (c + c') (d + d') from if_pos ⟨hp, hq⟩]
      have hd := fun w => box_any (a + a') (b + b') (c + c') (d + d') w
      obtain ⟨x, y, z, u, r, hD⟩ := doneV_form (a + a') (b + b') (c + c') (d + d')
      rw [hD] at hd
      rw [hD]
      have HD := Lib.hid hd
      clear hd hD
      go_enter Try.func31, Try.ntmps31
      go_wp2_with fail
      refine (impl_boxValid _ _ _ _ _).mono ?_
      rintro e u1 ⟨rfl, hu1⟩
      have h1 := (St.start w a b c d a' b' c' d').keep hu1
      have H1 := Lib.hid h1
      clear hu1
      obtain ⟨x0, x1, x2, x3, y0, y1, y2, y3, ⟨z0, z1, z2, z3⟩, zf, zl, zB⟩ := h1
      rw [hp]
      go_wp2_with fail
      refine (impl_boxValid _ _ _ _ _).mono ?_
      rintro e w1 ⟨rfl, hu2⟩
      have h2 := H1.out.keep hu2
      have H2 := Lib.hid h2
      clear hu2 H1 x0 x1 x2 x3 y0 y1 y2 y3 z0 z1 z2 z3 zf zl zB
      obtain ⟨x0, x1, x2, x3, y0, y1, y2, y3, ⟨z0, z1, z2, z3⟩, zf, zl, zB⟩ := h2
      have ZB := Lib.hid zB
      clear zB
      rw [hq]
      go_wp2_with fail
      have hl1 : w.heap.size < w1.heap.size := by omega
      have hl2 : w.heap.size + 1 < w1.heap.size := by omega
      go_cut [6, 7] (fun s6 s7 wx => ∃ p q : Nat, s6 = .pointer (some ⟨p, 0, none⟩) ∧ s7 = .pointer (some ⟨q, 0, none⟩) ∧
        (wx.cell? ⟨p, 0, none⟩ = some (.int .i64 a) ∧ wx.cell? ⟨p, 1, none⟩ = some (.int .i64 b) ∧ wx.cell? ⟨p, 2, none⟩ = some (.int .i64 c) ∧ wx.cell? ⟨p, 3, none⟩ = some (.int .i64 d) ∧
        wx.cell? ⟨q, 0, none⟩ = some (.int .i64 a') ∧ wx.cell? ⟨q, 1, none⟩ = some (.int .i64 b') ∧ wx.cell? ⟨q, 2, none⟩ = some (.int .i64 c') ∧ wx.cell? ⟨q, 3, none⟩ = some (.int .i64 d')) ∧ w.heap.size + 1 + 1 < p ∧ w.heap.size + 1 + 1 < q ∧ Below w1.heap.size w1 wx)
      case first =>
        have hS1 : (w1.cell? ⟨w.heap.size, 0, none⟩ = some (.int .i64 a) ∧ w1.cell? ⟨w.heap.size, 1, none⟩ = some (.int .i64 b) ∧ w1.cell? ⟨w.heap.size, 2, none⟩ = some (.int .i64 c) ∧ w1.cell? ⟨w.heap.size, 3, none⟩ = some (.int .i64 d) ∧ w1.cell? ⟨w.heap.size + 1, 0, none⟩ = some (.int .i64 a') ∧ w1.cell? ⟨w.heap.size + 1, 1, none⟩ = some (.int .i64 b') ∧ w1.cell? ⟨w.heap.size + 1, 2, none⟩ = some (.int .i64 c') ∧ w1.cell? ⟨w.heap.size + 1, 3, none⟩ = some (.int .i64 d')) := ⟨x0, x1, x2, x3, y0, y1, y2, y3⟩
        clear x0 x1 x2 x3 y0 y1 y2 y3
        go_region_held3 (fun w' => (w'.cell? ⟨w.heap.size, 0, none⟩ = some (.int .i64 a) ∧ w'.cell? ⟨w.heap.size, 1, none⟩ = some (.int .i64 b) ∧ w'.cell? ⟨w.heap.size, 2, none⟩ = some (.int .i64 c) ∧ w'.cell? ⟨w.heap.size, 3, none⟩ = some (.int .i64 d) ∧ w'.cell? ⟨w.heap.size + 1, 0, none⟩ = some (.int .i64 a') ∧ w'.cell? ⟨w.heap.size + 1, 1, none⟩ = some (.int .i64 b') ∧ w'.cell? ⟨w.heap.size + 1, 2, none⟩ = some (.int .i64 c') ∧ w'.cell? ⟨w.heap.size + 1, 3, none⟩ = some (.int .i64 d'))) (repeat (first | (with_reducible exact hS1) | (with_reducible refine s8_up _ ?_) | (with_reducible refine s8_dr ?_) | (with_reducible refine s8_drN _ ?_) | (with_reducible refine s8_set _ _ _ (by omega) (by omega) ?_))) (first | (go_at_call 54; refine (spans_ex _ _ _ _ _).mono ?_; rintro e w9 ⟨rfl, rfl⟩))
        all_goals
          go_wp2
          go_meet
          case rel =>
            refine ⟨_, _, rfl, rfl, ⟨?_, ?_, ?_, ?_, ?_, ?_, ?_, ?_⟩, ?_, ?_, ?_⟩
            case refine_9 => omega
            case refine_10 => omega
            case refine_11 => go_grown
            all_goals (repeat (first | (with_reducible refine cell_dr ?_) | (with_reducible refine cell_drN _ ?_) | (refine (cells4 _ _ ?_ _ _ _ _ _).1; simp; done) | (refine (cells4 _ _ ?_ _ _ _ _ _).2.1; simp; done) | (refine (cells4 _ _ ?_ _ _ _ _ _).2.2.1; simp; done) | (refine (cells4 _ _ ?_ _ _ _ _ _).2.2.2.1; simp; done) | (with_reducible refine cell_up ?_ _)))
      case rest =>
        obtain ⟨p, q, rfl, rfl, hcells, hpl, hql, hb⟩ := hcut
        have hG : ((wc.cell? ⟨p, 0, none⟩ = some (.int .i64 a) ∧ wc.cell? ⟨p, 1, none⟩ = some (.int .i64 b) ∧ wc.cell? ⟨p, 2, none⟩ = some (.int .i64 c) ∧ wc.cell? ⟨p, 3, none⟩ = some (.int .i64 d) ∧ wc.cell? ⟨q, 0, none⟩ = some (.int .i64 a') ∧ wc.cell? ⟨q, 1, none⟩ = some (.int .i64 b') ∧ wc.cell? ⟨q, 2, none⟩ = some (.int .i64 c') ∧ wc.cell? ⟨q, 3, none⟩ = some (.int .i64 d')) ∧ (wc.cell? ⟨w.heap.size + 1 + 1, 0, none⟩ = some (.int .i64 0) ∧ wc.cell? ⟨w.heap.size + 1 + 1, 1, none⟩ = some (.int .i64 0) ∧ wc.cell? ⟨w.heap.size + 1 + 1, 2, none⟩ = some (.int .i64 0) ∧ wc.cell? ⟨w.heap.size + 1 + 1, 3, none⟩ = some (.int .i64 0)) ∧ (∀ o, wc.frozen? ⟨w.heap.size + 1 + 1, o, none⟩ = false) ∧ w.heap.size + 1 + 1 < wc.heap.size ∧ Below w.heap.size w wc) := by
          refine ⟨hcells, ⟨cell_below hb z0, cell_below hb z1, cell_below hb z2, cell_below hb z3⟩, ?_, ?_, below_step ZB.out hb⟩
          · intro o; rw [hb.frozen (p := ⟨w.heap.size + 1 + 1, o, none⟩) zl]; exact zf o
          · have := hb.size; omega
        have HG := Lib.hid hG
        clear x0 x1 x2 x3 y0 y1 y2 y3 z0 z1 z2 z3 zf hb ZB H2 hG zl hl1 hl2
        go_wp2_with fail
        go_region_held3 (fun w' => (w'.cell? ⟨p, 0, none⟩ = some (.int .i64 a) ∧ w'.cell? ⟨p, 1, none⟩ = some (.int .i64 b) ∧ w'.cell? ⟨p, 2, none⟩ = some (.int .i64 c) ∧ w'.cell? ⟨p, 3, none⟩ = some (.int .i64 d) ∧ w'.cell? ⟨q, 0, none⟩ = some (.int .i64 a') ∧ w'.cell? ⟨q, 1, none⟩ = some (.int .i64 b') ∧ w'.cell? ⟨q, 2, none⟩ = some (.int .i64 c') ∧ w'.cell? ⟨q, 3, none⟩ = some (.int .i64 d'))) (repeat (first | (with_reducible assumption) | (with_reducible exact hcells) | (with_reducible refine t4_up _ ?_) | (with_reducible refine t4_dr ?_) | (with_reducible refine t4_drN _ ?_) | (with_reducible refine t4_set _ _ _ (by omega) (by omega) ?_))) (first
          | (go_at_call 61; refine (plus_ex _ _ _ _ (by omega) (by omega) (by omega) (by omega) (by omega) (by omega) (by omega) (by omega) _).mono ?_; rintro e w9 ⟨rfl, rfl⟩)
          | (go_at_call 55; refine (HD.out _).mono ?_; rintro e w9 ⟨rfl, hb9⟩; have g9 := g_below hb9 (g_below (by go_grown) HG.out); obtain ⟨s9, ⟨z0, z1, z2, z3⟩, zf, zl, zB⟩ := g9))
        go_wp2
        have HB9 := Lib.hid zB
        refine bodyPost_ret (v := .tuple #[bx x y z u, .bool r]) (by simp [results, Try.results31, go_sem, *]) rfl ⟨rfl, ?_⟩
        have zB' := HB9.out
        clear hb9 s9 z0 z1 z2 z3 zf
        repeat (first | exact zB' | (refine Below.setCell ?_ (by show w.heap.size ≤ w.heap.size + 1 + 1; omega) _) | (refine below_drewN ?_ _))
end Go.Proofs.Ytjhleindjllibaa
