/-
  OrbitWide in the program and in the reference. Conditions: none.
-/
import Derived.Test.YtakhgppjgeeihaaOrbw
namespace Go.Proofs.Ytakhgppjgeeihaa
open Go.RowKit Go.Shelf Fl
/-- what OrbitWide hands back: an own slice of the orbit's first n numbers, and true; where n is out of range an empty one and false -/
def OrbPost (cx cy : Nat) (n : Int) (w : World) (e : Ending) (w' : World) : Prop :=
    (¬ (0 ≤ n ∧ n ≤ 400) ∧ (∃ b, e = .returned (.tuple #[.slice b 0 0, .bool false])) ∧ Below w.heap.size w w') ∨
    (0 ≤ n ∧ n ≤ 400 ∧ ∃ v ws, e = .returned (.tuple #[v, .bool true]) ∧ (ws.length : Int) = n ∧ OL cx cy ws ∧ w'.ownsRow w.heap.size 31 1 v ws.length (ws.map cv) ∧ Below w.heap.size w w')
theorem orbWide_impl (cx cy : Nat) (n : Int) (w : World) : Calls Try.prog 30 #[.complex .f64 cx cy, .int .i64 n] w (OrbPost cx cy n w) := by
  by_cases hn : 0 ≤ n ∧ n ≤ 400
  · have hF : Calls Try.prog 66 #[.complex .f64 cx cy, .int .i64 n, .func (.func 32) #[] #[]] w fun e w' => ∃ v ws, e = .returned (.tuple #[v, .bool true]) ∧ (ws.length : Int) = n ∧ OL cx cy ws ∧ w'.ownsRow w.heap.size 31 1 v ws.length (ws.map cv) ∧ Below w.heap.size w w' :=
      (firstW cx cy n w).mono (fun e w' h => h.elim (fun k => absurd hn k.1) (fun k => k.2.2))
    have HN := Lib.hid hn
    clear hn
    go_enter Try.func30, Try.ntmps30
    go_wp2_with (go_at_call 66; refine hF.mono ?_; rintro e w' ⟨v, ws, rfl, hl, hol, hrow, hb⟩; replace hl := Lib.hid hl)
    go_ret2
    exact .inr ⟨HN.out.1, HN.out.2, v, ws, rfl, hl.out, hol, hrow, hb⟩
  · have hF : Calls Try.prog 66 #[.complex .f64 cx cy, .int .i64 n, .func (.func 32) #[] #[]] w fun e w' => (∃ b, e = .returned (.tuple #[.slice b 0 0, .bool false])) ∧ Below w.heap.size w w' :=
      (firstW cx cy n w).mono (fun e w' h => h.elim (fun k => k.2) (fun k => absurd ⟨k.1, k.2.1⟩ hn))
    have HN := Lib.hid hn
    clear hn
    go_enter Try.func30, Try.ntmps30
    go_wp2_with (go_at_call 66; refine hF.mono ?_; rintro e w' ⟨⟨b, rfl⟩, hb⟩)
    go_ret2
    exact .inl ⟨HN.out, ⟨_, rfl⟩, hb⟩
end Go.Proofs.Ytakhgppjgeeihaa
