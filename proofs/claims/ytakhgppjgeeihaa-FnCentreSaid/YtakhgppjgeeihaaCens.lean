/-
  CentreSteps in the program. Conditions: none.
-/
import Derived.Test.YtakhgppjgeeihaaCen
import Derived.Test.YtakhgppjgeeihaaOrbx
import Derived.OwnWalk
namespace Go.Proofs.Ytakhgppjgeeihaa
open Go.RowKit Go.Shelf Fl
/-- the numbers of the steps, in plain words -/
def cenD (cx cy p : Nat) : Nat → Nat × Nat
  | 0 => (cx, cy)
  | k + 1 => nextD (cenD cx cy p k).1 (cenD cx cy p k).2 p
/-- words that stand for the k-th number of the steps -/
def CD (cx cy p k x y : Nat) : Prop := Sim D x (cenD cx cy p k).1 ∧ Sim D y (cenD cx cy p k).2 ∧ x < 2 ^ D.width ∧ y < 2 ^ D.width
def CL (cx cy p : Nat) (ws : List (Nat × Nat)) : Prop := ∀ j, (h : j < ws.length) → CD cx cy p j ws[j].1 ws[j].2
theorem CL.snoc {cx cy p : Nat} {ws : List (Nat × Nat)} (h : CL cx cy p ws) {x y : Nat} (hv : CD cx cy p ws.length x y) : CL cx cy p (ws ++ [(x, y)]) := by
  intro j hj
  rcases Nat.lt_or_ge j ws.length with h1 | h1
  · rw [List.getElem_append_left h1]; exact h j h1
  · have e : j = ws.length := by simp at hj; omega
    subst e
    simpa using hv
theorem nextD_sim {cx cy cx' cy' : Nat} (h : Sim D cx cx') (k : Sim D cy cy') (p : Nat) : nextD cx cy p = nextD cx' cy' p := by
  unfold nextD
  rw [orbD_sim h k, derD_sim h k, subT_sim D gD h (Sim.refl D _), subT_sim D gD k (Sim.refl D _)]
theorem CD_step (cx cy p k x y : Nat) (hp : 1 ≤ p) (hp4 : p ≤ 4) (W : World) (h : CD cx cy p k x y) : Calls Try.prog 56 #[.complex .f64 x y, .int .i64 p] W fun e W' => ∃ x' y', e = .returned (.complex .f64 x' y') ∧ CD cx cy p (k + 1) x' y' ∧ Below W.heap.size W W' := by
  refine (newtW x y p hp hp4 W).mono ?_
  rintro e W' ⟨x', y', rfl, h1, h2, h3, h4, hb⟩
  rw [nextD_sim h.1 h.2.1 p] at h1 h2
  exact ⟨x', y', rfl, ⟨h1, h2, h3, h4⟩, hb⟩
/-- what CentreSteps hands back -/
def CenPost (cx cy p N : Nat) (w : World) (e : Ending) (w' : World) : Prop :=
  ∃ b cap ws, e = .returned (.tuple #[.slice b (N + 1) cap, .bool true]) ∧ ws.length = N + 1 ∧ CL cx cy p ws ∧ Lies w' (.slice b (N + 1) cap) ws ∧ Below w.heap.size w w'
theorem own_kept {w w' : World} {B : Nat} {e : TypeId} {k n : Nat} {v : Value} {xs : List Value} (h : w.ownsRow B e k v n xs) (hb : Below w.heap.size w w') : w'.ownsRow B e k v n xs := by
  refine ⟨h.1, ?_⟩
  rcases h.2 with h1 | ⟨g, cap, cur, h1, h2, h3, h4⟩
  · exact .inl h1
  · exact .inr ⟨g, cap, cur, h1, h2, (hb.block g (Array.getElem?_eq_some_iff.1 h3).1).trans h3, h4⟩
theorem cen_post {cx cy p N : Nat} {w w' : World} {v : Value} {ws : List (Nat × Nat)} (hlen : ws.length = N + 1) (hol : CL cx cy p ws) (hrow : w'.ownsRow w.heap.size 31 1 v (N + 1) (ws.map cv)) (hB : Below w.heap.size w w') : CenPost cx cy p N w (.returned (.tuple #[v, .bool true])) w' := by
  rw [← hlen] at hrow
  have hL := Lies.of hrow
  obtain ⟨b, cap, rfl, hc⟩ := hL
  exact ⟨b, cap, ws, by rw [hlen], hlen, hol, ⟨b, cap, by rw [hlen], hc⟩, hB⟩
set_option maxHeartbeats 1000000 in
theorem centre_impl (cx cy p N : Nat) (hcx : cx < 2 ^ D.width) (hcy : cy < 2 ^ D.width) (hp : 1 ≤ p) (hp4 : p ≤ 4) (hN : N ≤ 20) (w : World) : Calls Try.prog 17 #[.complex .f64 cx cy, .int .i64 p, .int .i64 N] w (CenPost cx cy p N w) := by
  obtain ⟨i0, hi, hz0, hz1, hz2⟩ := info_parts Try.info31
  have hp1 : ¬ ((p : Int) < 1) := by omega
  have hp8 : ¬ (8 < (p : Int)) := by omega
  have hn0 : ¬ ((N : Int) < 0) := by omega
  have hn20 : ¬ (20 < (N : Int)) := by omega
  have HCX := Lib.hid hcx
  have HCY := Lib.hid hcy
  clear hcx hcy
  go_enter Try.func17, Try.ntmps17
  go_wp2_with (first
    | (at_make; refine wpList_make_own _ rfl _ _ 34 rfl w.heap.size 31 i0 (.complex .f64 0 0) 1 under34 hi hz0 hz1 .i64 .i64 _ (N + 1) rfl rfl (by simp) (by rw [hz2]; omega) (by unfold maxLen; omega) (Nat.le_refl _) ?_; intro w1 hown1 hgrow1; have hsz1 : w.heap.size ≤ w1.heap.size := hgrow1.size)
    | (at_builtin; refine wpList_append_own _ rfl _ _ 34 rfl w.heap.size 31 i0 (.complex .f64 0 0) 1 16 under34 hi hz0 hz1 hz2 rfl (by decide) _ _ _ rfl (hown1.alloc _) ⟨w1.heap.size, 0, none⟩ 1 1 [.complex .f64 cx cy] rfl rfl (cell_one_new _ _ _) (by simp [Value.oneCell']) (by unfold maxLen; omega) (by omega) (by simp; omega) ?_; intro v' w4 hown' hgrow _; obtain ⟨g', cap', rfl⟩ := ownsRow_succ hown'))
  have hB4 : Below w.heap.size w w4 := ((((Below.refl _ w).grown hgrow1 (Nat.le_refl _) (by intro k e; cases e)).alloc hsz1 _).grown hgrow (by simp; omega) (fun j ej => by
    have ej2 : (Value.slice (some ⟨w.heap.size, 0, none⟩) 0 (N + 1)).ownBlock = some j := ej
    simp [Value.ownBlock] at ej2; omega))
  have hown4 : w4.ownsRow w.heap.size 31 1 (.slice (some ⟨g', 0, none⟩) (0 + 1) cap') (0 + 1) ([(cx, cy)].map cv) := hown'
  clear hown' hgrow hgrow1 hown1
  go_loopw [0, 8, 32] (fun c o k wr => ∃ (i x y : Nat) (ws : List (Nat × Nat)), c = .complex .f64 x y ∧ k = .int .i64 i ∧ CD cx cy p i x y ∧ i ≤ N ∧ ws.length = i + 1 ∧ CL cx cy p ws ∧ wr.ownsRow w.heap.size 31 1 o (i + 1) (ws.map cv) ∧ Below w.heap.size w wr) (fun c o k wr => N + 1 - (intOf k).toNat)
  case atStart =>
    exact ⟨0, cx, cy, [(cx, cy)], rfl, rfl, ⟨Sim.refl _ _, Sim.refl _ _, HCX.out, HCY.out⟩, by omega, rfl, by
      intro j hj
      obtain rfl : j = 0 := by simp at hj; exact hj
      exact ⟨Sim.refl _ _, Sim.refl _ _, HCX.out, HCY.out⟩, hown4, hB4⟩
  case round =>
    obtain ⟨i, x, y, ws, rfl, rfl, hv, hiN, hlen, hol, hrow, hB⟩ := hrel
    have hsz := hB.size
    by_cases hin : i < N
    · go_wp2_with fail
      refine (CD_step cx cy p i x y hp hp4 wr hv).mono ?_
      rintro e w5 ⟨x', y', rfl, hv', hb5⟩
      have hrow5 := own_kept hrow hb5
      have hB5 := below_step hB hb5
      have hsz5 := hB5.size
      clear hrow hB
      go_wp2_with (at_builtin; refine wpList_append_own _ rfl _ _ 34 rfl w.heap.size 31 i0 (.complex .f64 0 0) 1 16 under34 hi hz0 hz1 hz2 rfl (by decide) _ _ _ rfl (hrow5.alloc _) ⟨w5.heap.size, 0, none⟩ 1 1 [.complex .f64 x' y'] rfl rfl (cell_one_new _ _ _) (by simp [Value.oneCell']) (by unfold maxLen; omega) (by omega) (by simp; omega) ?_; intro v' w6 hown6 hgrow6 _; obtain ⟨g6, cap6, rfl⟩ := ownsRow_succ hown6)
      have hB6 : Below w.heap.size w w6 := hB5.trans (((Below.refl w.heap.size w5).alloc hsz5 _).grown hgrow6 (by simp; omega) (fun j ej => by
        have ej2 : u8.ownBlock = some j := ej
        clear ej hown6 hgrow6
        rcases hrow5.2 with ⟨rfl, _⟩ | ⟨g, cap, cur, rfl, hb, _, _⟩
        · simp [Value.ownBlock] at ej2
        · obtain rfl : g = j := by simpa [Value.ownBlock] using ej2
          exact hb))
      go_roundw
      case rel => exact ⟨i + 1, x', y', ws ++ [(x', y')], rfl, by simp, hv', by omega, by simp [hlen], hol.snoc (by rw [hlen]; exact hv'), by rw [List.map_append]; exact hown6, hB6⟩
      case measure => simp [intOf]; omega
    · obtain rfl : N = i := by omega
      go_wp2_with fail
      go_ret2
      exact cen_post hlen hol hrow hB
end Go.Proofs.Ytakhgppjgeeihaa
