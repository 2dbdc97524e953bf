/-
  Own slices of wide numbers, read; two such lists are told the same. Conditions: none.
-/
import Derived.Test.YtakhgppjgeeihaaEsc4
import Derived.Test.YtakhgppjgeeihaaEsc5
import Derived.Deep.RegionWith
namespace Go.Proofs.Ytakhgppjgeeihaa
open Go.RowKit Go.Shelf Fl
/-- the cells of a slice of wide numbers lie in one block -/
def Lies (w : World) (v : Value) (ws : List (Nat × Nat)) : Prop := ∃ (b : Option Addr) (cap : Nat), v = .slice b ws.length cap ∧ ∀ j, (h : j < ws.length) → ∃ g, b = some ⟨g, 0, none⟩ ∧ g < w.heap.size ∧ w.cell? ⟨g, j, none⟩ = some (.complex .f64 ws[j].1 ws[j].2)
theorem Lies.of {w : World} {B : Nat} {e : TypeId} {v : Value} {ws : List (Nat × Nat)} (h : w.ownsRow B e 1 v ws.length (ws.map cv)) : Lies w v ws := by
  rcases h.2 with ⟨rfl, h0⟩ | ⟨g, cap, cur, rfl, hb, hg, h1, h2, h3, h4⟩
  · exact ⟨none, 0, by rw [h0], fun j hj => by omega⟩
  · refine ⟨some ⟨g, 0, none⟩, cap, rfl, fun j hj => ⟨g, rfl, (Array.getElem?_eq_some_iff.1 hg).1, ?_⟩⟩
    have e1 : (ws.map cv)[j]? = some (cv ws[j]) := by simp [hj]
    rw [← h4] at e1
    have e2 : cur[j]? = some (cv ws[j]) := by
      have : j < ws.length * 1 := by omega
      rw [List.getElem?_take_of_lt this] at e1
      rwa [Array.getElem?_toList] at e1
    simp [World.cell?, hg, e2, cv]
theorem Lies.below {w w' : World} {v : Value} {ws : List (Nat × Nat)} (h : Lies w v ws) (hb : Below w.heap.size w w') : Lies w' v ws := by
  obtain ⟨b, cap, rfl, hc⟩ := h
  refine ⟨b, cap, rfl, fun j hj => ?_⟩
  obtain ⟨g, e1, e2, e3⟩ := hc j hj
  exact ⟨g, e1, Nat.lt_of_lt_of_le e2 hb.size, (hb.cell (p := ⟨g, j, none⟩) e2).trans e3⟩
theorem Lies.drewN {w : World} {v : Value} {ws : List (Nat × Nat)} (h : Lies w v ws) (n : Nat) : Lies (w.drewN n) v ws := h
theorem sameWides_any (w : World) (a b : Value) (xs ys : List (Nat × Nat)) (ha : Lies w a xs) (hb : Lies w b ys) (hl : xs.length = ys.length) (hl4 : xs.length ≤ 401)
    (hs : ∀ j, (h : j < xs.length) → (h' : j < ys.length) → Sim D xs[j].1 ys[j].1 ∧ Sim D xs[j].2 ys[j].2) : Calls Try.prog 19 #[a, b] w (BV true w) := by
  obtain ⟨b1, c1, rfl, h1⟩ := ha
  obtain ⟨b2, c2, rfl, h2⟩ := hb
  obtain ⟨n, hn⟩ : ∃ n, xs.length = n := ⟨_, rfl⟩
  have hn2 : ys.length = n := by omega
  rw [hn2, hn]
  have hn4 : n ≤ 401 := by omega
  have hk : ∀ k, k < n → ∃ g g' x y x' y', b1 = some ⟨g, 0, none⟩ ∧ b2 = some ⟨g', 0, none⟩ ∧ w.cell? ⟨g, k, none⟩ = some (.complex .f64 x y) ∧ w.cell? ⟨g', k, none⟩ = some (.complex .f64 x' y') ∧ Sim D x x' ∧ Sim D y y' := fun k hk => by
    obtain ⟨g, e1, _, e3⟩ := h1 k (by omega)
    obtain ⟨g', e1', _, e3'⟩ := h2 k (by omega)
    obtain ⟨s1, s2⟩ := hs k (by omega) (by omega)
    exact ⟨g, g', _, _, _, _, e1, e1', e3, e3', s1, s2⟩
  have HK := Lib.hid hk
  clear hk hs h1 h2 hl hl4 hn hn2
  go_enter Try.func19, Try.ntmps19
  go_wp2
  go_loopw [5] (fun k wr => ∃ (i m : Nat), k = .int .i64 i ∧ i ≤ n ∧ wr = w.drewN m) (fun k wr => n + 1 - (intOf k).toNat)
  case atStart => exact ⟨0, 0, rfl, by omega, rfl⟩
  case round =>
    obtain ⟨i, m, rfl, hi, rfl⟩ := hrel
    by_cases hin : i < n
    · obtain ⟨g, g', x, y, x', y', rfl, rfl, e1, e2, s1, s2⟩ := HK.out i hin
      go_wp2_with fail
      go_region_with (go_at_call 20; refine (sameWide_any _ _ _ _ s1 s2 _).mono ?_; rintro e w' ⟨rfl, n1, rfl⟩)
      all_goals
        go_wp2
        go_roundw
        case rel => exact ⟨i + 1, _, by simp, by omega, rfl⟩
        case measure => simp [intOf]; omega
    · go_wp2
      go_ret
      exact ⟨rfl, _, rfl⟩
/-- OrbitWide in its range -/
theorem orbWide_in (cx cy N : Nat) (hN : N ≤ 400) (w : World) : Calls Try.prog 30 #[.complex .f64 cx cy, .int .i64 N] w fun e w' =>
    ∃ b cap ws, e = .returned (.tuple #[.slice b N cap, .bool true]) ∧ ws.length = N ∧ OL cx cy ws ∧ Lies w' (.slice b N cap) ws ∧ Below w.heap.size w w' := by
  refine (orbWide_impl cx cy N w).mono ?_
  rintro e w' (⟨h, _⟩ | ⟨_, _, v, ws, rfl, hl, hol, hrow, hb⟩)
  · omega
  · have hL := Lies.of hrow
    have hl' : ws.length = N := by omega
    obtain ⟨b, cap, rfl, hc⟩ := hL
    rw [hl']
    exact ⟨b, cap, ws, rfl, hl', hol, ⟨b, cap, by rw [hl'], hc⟩, hb⟩
theorem Lies.at {w : World} {b : Option Addr} {n cap : Nat} {ws : List (Nat × Nat)} (h : Lies w (.slice b n cap) ws) (j : Nat) (hj : j < ws.length) : ∃ g, b = some ⟨g, 0, none⟩ ∧ g < w.heap.size ∧ w.cell? ⟨g, j, none⟩ = some (.complex .f64 ws[j].1 ws[j].2) := by
  obtain ⟨b', cap', e, hc⟩ := h
  cases e
  exact hc j hj
end Go.Proofs.Ytakhgppjgeeihaa
