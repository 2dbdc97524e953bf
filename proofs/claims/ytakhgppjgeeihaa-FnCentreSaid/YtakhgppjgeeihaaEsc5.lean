/-
  The mirrored orbit; where orbits escape, further. Conditions: none.
-/
import Derived.Test.YtakhgppjgeeihaaEsc4
namespace Go.Proofs.Ytakhgppjgeeihaa
open Fl
theorem orbD_lt (cx cy k : Nat) : (orbD cx cy k).1 < 2 ^ D.width ∧ (orbD cx cy k).2 < 2 ^ D.width := by
  cases k with
  | zero => exact ⟨show 0 < 2 ^ D.width by decide, show 0 < 2 ^ D.width by decide⟩
  | succ k => exact ⟨addT_lt D gD _ _, addT_lt D gD _ _⟩
theorem stR_like {x y x' y' : Nat} (u : Nat) (h : Like D x x') (k : Like D y y') : Like D (stR x y u) (stR x' y' u) :=
  addT_like D gD (subT_like D gD (mulT_lt D gD _ _) (mulT_lt D gD _ _) (mulT_like D gD h h) (mulT_like D gD k k)) (Like.refl D u)
theorem stI_like {x y x' y' : Nat} (v : Nat) (h : Like D x x') (k : Like D y y') : Like D (stI x y v) (stI x' y' v) :=
  addT_like D gD (mulT_like D gD (Like.refl D _) (mulT_like D gD h k)) (Like.refl D v)
theorem orbD_mirror (cx cy : Nat) (hcy : cy < 2 ^ D.width) (k : Nat) : Like D (orbD cx (negw D cy) k).1 (orbD cx cy k).1 ∧ Like D (orbD cx (negw D cy) k).2 (negw D (orbD cx cy k).2) := by
  induction k with
  | zero => exact ⟨Like.refl D _, show Like D 0 (negw D 0) from .inr ⟨by decide, by decide, by decide⟩⟩
  | succ k ih =>
    obtain ⟨h1, h2⟩ := st_mirror (orbD cx cy k).1 (orbD cx cy k).2 cx cy (orbD_lt cx cy k).2 hcy
    exact ⟨(stR_like cx ih.1 ih.2).trans h1, (stI_like (negw D cy) ih.1 ih.2).trans h2⟩
theorem le4_like {a b : Nat} (h : Like D a b) : le4 a = le4 b := by
  unfold le4
  rcases h with ⟨h1, h2⟩ | ⟨h1, h2, h3⟩
  · rw [order_nan D gD a _ (.inl h1), order_nan D gD b _ (.inl h2)]
  · rw [order_key D gD a _ h1 (by decide), order_key D gD b _ h2 (by decide), h3]
theorem BdD_mirror (cx cy : Nat) (hcy : cy < 2 ^ D.width) (k : Nat) : BdD cx (negw D cy) k = BdD cx cy k := by
  obtain ⟨h1, h2⟩ := orbD_mirror cx cy hcy k
  unfold BdD
  refine (le4_like ?_).trans (le4_sim (nrm_neg _ _ (orbD_lt cx cy k).2))
  exact addT_like D gD (mulT_like D gD h1 h1) (mulT_like D gD h2 h2)
theorem EscAt.up {Bd : Nat → Bool} {L L' : Nat} {i : Int} (h : EscAt Bd L i) (hi : 0 ≤ i) (hL : L ≤ L') : EscAt Bd L' i := by
  rcases h with ⟨rfl, _⟩ | ⟨k, h1, h2, h3, h4⟩
  · omega
  · exact .inr ⟨k, by omega, h2, h3, h4⟩
end Go.Proofs.Ytakhgppjgeeihaa
