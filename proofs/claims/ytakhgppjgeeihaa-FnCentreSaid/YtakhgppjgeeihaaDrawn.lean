/-
  What the drawing functions of the laws give: some complex numbers of their width. Conditions: the code reads as bytes.
-/
import Derived.Test.YtakhgppjgeeihaaDraw2
namespace Go.Proofs.Ytakhgppjgeeihaa
open Go.ChangeShapes Go.WideShapes Go.ChangeAt Go.RowKit

/-- one complex number has come -/
def Got1 (k : FloatKind) (w : World) (e : Ending) (w' : World) : Prop := ∃ x y : Nat, e = .returned (.complex k x y) ∧ x < 2 ^ k.format.width ∧ y < 2 ^ k.format.width ∧ Below w.heap.size w w'
/-- two complex numbers have come -/
def Got2 (k : FloatKind) (w : World) (e : Ending) (w' : World) : Prop := ∃ x y u v : Nat, e = .returned (.tuple #[.complex k x y, .complex k u v]) ∧ x < 2 ^ k.format.width ∧ y < 2 ^ k.format.width ∧ u < 2 ^ k.format.width ∧ v < 2 ^ k.format.width ∧ Below w.heap.size w w'
/-- the same, the second one the first one or another -/
theorem isrow_bytes {w : World} {a : Option Addr} {len cap : Nat} {zs : List Int}
    (h : (a = none ∧ len = 0 ∧ cap = 0 ∧ zs = []) ∨ ∃ x, a = some x ∧ len ≤ cap ∧ cap ≤ maxLen ∧ zs.length = cap ∧ (∀ i, i < zs.length → w.cell? (x.add i) = some (.int .u8 (zs.getD i 0))) ∧ ∀ n ∈ zs, (Lit.int .u8 n).wf = true) : Code8 w a len cap := by
  rcases h with ⟨rfl, rfl, rfl, rfl⟩ | ⟨x, rfl, hlc, hcap, hz, hc, hw⟩
  · exact ⟨Nat.le_refl _, Nat.zero_le _, .inl rfl⟩
  · refine ⟨hlc, hcap, ?_⟩
    by_cases h0 : len = 0
    · exact .inl h0
    · obtain ⟨b, off, rfl, hc'⟩ := ints_at hc (by omega)
      refine .inr ⟨b, off, fun i => zs.getD i 0, rfl, ?_, fun i hi => ⟨hc' i (by omega), ?_⟩⟩
      · have := World.block_lt_of_cell? w _ (hc' 0 (by omega)); exact this
      · have hm : zs.getD i 0 ∈ zs := by
          rw [List.getD_eq_getElem?_getD, List.getElem?_eq_getElem (show i < zs.length by omega)]
          exact List.getElem_mem _
        have := hw _ hm
        simp only [Lit.wf, IntKind.min, IntKind.max, IntKind.signed, IntKind.bits] at this
        simp at this
        show 0 ≤ zs.getD i 0 ∧ zs.getD i 0 ≤ 255
        simp
        exact this
end Go.Proofs.Ytakhgppjgeeihaa
