/-
  Wide products go both ways, and Product is the reference's: FnProduct returns true for every code. Conditions: none.
-/
import Derived.Test.YtjjailllocakcaaDrawc
import Derived.Test.YtjjailllocakcaaCfn
import Derived.Test.YtjjailllocakcaaRows
import Derived.WalkKit
import Derived.ProofKit
import Derived.OpenShut
import Derived.ShutString
import Derived.ChangeOld
import Derived.Below
import Derived.Handy
import Derived.Lib.Hide
namespace Go.Proofs.Ytjjailllocakcaa.fnProduct
open Go.ChangeShapes Go.WideShapes Go.ChangeAt Go.RowKit
open Go.ChangeMaps (open_string shut_string)
open Go.Proofs.Ytjjailllocakcaa Fl
set_option linter.unusedVariables false

theorem own : ownKnob Try.prog.godebug = none := by kernel_rfl
theorem laidOut : laidOutB Try.prog = true := by kernel_rfl

/-- What the walk is told of a slice of integers that came in: it is nil, or it leads to a row of 'cap' cells, the numbers 'zs'. -/
def IsRow (k : IntKind) (w : World) (a : Option Addr) (len cap : Nat) (zs : List Int) : Prop :=
  (a = none ∧ len = 0 ∧ cap = 0 ∧ zs = []) ∨
  ∃ x, a = some x ∧ len ≤ cap ∧ cap ≤ maxLen ∧ zs.length = cap ∧ (∀ i, i < zs.length → w.cell? (x.add i) = some (.int k (zs.getD i 0))) ∧ ∀ n ∈ zs, (Lit.int k n).wf = true

/-- The walk: the Go text returns true and writes nothing that was there. -/
theorem walk (a0 : Option Addr) (len0 cap0 : Nat) (z0 : List Int) (w : World) (w0 : IsRow .u8 w a0 len0 cap0 z0) :
    Calls Try.prog 6 #[.slice a0 len0 cap0] w fun e w' => e = .returned (.bool true) ∧ Below w.heap.size w w' := by
  have hC : Code8 w a0 len0 cap0 := isrow_bytes w0
  by_cases hl : 1048576 < len0
  · go_enter Try.func6, Try.ntmps6
    go_wp2
    go_ret
    exact ⟨rfl, Below.refl _ _⟩
  · go_enter Try.func6, Try.ntmps6
    go_wp2_with fail
    refine (DrawProduct_any _ _ _ _ hC).mono ?_
    rintro e w1 ⟨x, y, u, v, rfl, hx, hy, hu, hv, hb⟩
    have HB := Lib.hid hb
    clear hb
    go_wp2_with fail
    refine (product_impl _ _ _ _ x y u v (Sim.refl _ _) (Sim.refl _ _) (Sim.refl _ _) (Sim.refl _ _) _).mono ?_; rintro e w' ⟨a, b, n1, rfl, ha, hb, la, lb, rfl⟩
    go_wp2_with fail
    refine (product_spec _ _ _ _ x y u v (Sim.refl _ _) (Sim.refl _ _) (Sim.refl _ _) (Sim.refl _ _) _).mono ?_; rintro e w' ⟨a', b', n2, rfl, ha', hb', la', lb', rfl⟩
    go_wp2_with fail
    refine (sameWide_any _ _ _ _ (ha.trans ha'.symm) (hb.trans hb'.symm) _).mono ?_; rintro e w2 ⟨rfl, n3, rfl⟩
    go_wp2_with fail
    refine (product_impl _ _ _ _ u v x y (Sim.refl _ _) (Sim.refl _ _) (Sim.refl _ _) (Sim.refl _ _) _).mono ?_; rintro e w' ⟨c, d, n4, rfl, hc, hd, lc, ld, rfl⟩
    rw [prR_comm] at hc
    rw [prI_comm] at hd
    go_wp2_with fail
    refine (sameWide_any _ _ _ _ (hc.trans ha.symm) (hd.trans hb.symm) _).mono ?_; rintro e w2 ⟨rfl, n5, rfl⟩
    go_wp2_with fail
    refine (product_impl _ _ _ _ x y x y (Sim.refl _ _) (Sim.refl _ _) (Sim.refl _ _) (Sim.refl _ _) _).mono ?_; rintro e w' ⟨c2, d2, n6, rfl, hc2, hd2, lc2, ld2, rfl⟩
    go_wp2_with fail
    refine (square_impl _ _ x y (Sim.refl _ _) (Sim.refl _ _) _).mono ?_; rintro e w' ⟨c3, d3, n7, rfl, hc3, hd3, lc3, ld3, rfl⟩
    go_wp2_with fail
    refine (sameWide_any _ _ _ _ (hc2.trans hc3.symm) (hd2.trans ((prI_self x y).trans hd3.symm)) _).mono ?_; rintro e w2 ⟨rfl, n8, rfl⟩
    go_wp2
    go_ret
    exact ⟨rfl, below_drewN HB.out _⟩

/-! ### The row's step -/
set_option maxRecDepth 100000 in
theorem lifted (os : Os) (started : os.Started) (H : Type) (enc : TypeId × Value → H) :
    ReturnsInHanded {} Try.checked os 6 .any (Rows.fnProductSpec.pre6 enc Try.prog Try.f6 Rows.fnProductRow.domain false) (Rows.fnProductSpec.post enc Try.prog Try.f6 false true false false) := by
  refine returnsInHanded_of_change (C := Try.checked) own started (by kernel_rfl) Try.func6
    (ChangeSpec.witness6 (enc := enc) (C := Try.checked) false ⟨#[], #[.slice none 0 0], []⟩ 8 (by kernel_rfl) (by kernel_rfl) (by kernel_rfl) (by kernel_rfl)) ?_
  intro W base args ds gs before hval0 hW hcnd _
  have hval : ∀ (j : Nat) t v, Try.f6.params[j]? = some t → args[j]? = some v → Value.okWide Try.prog W .any base t v := hval0
  have hW' := hW
  obtain ⟨p, q, hA0, hV, rfl, hfz, hnd⟩ := hW
  have hA : DataW.TrodAll enc Try.prog W 0 (fun _ => true) true Try.f6.params.toList args.toList ds p := hA0
  rw [Try.params6] at hA hval
  obtain ⟨v0, vs0, d0, ds0, p0, q0, hargs, rfl, rfl, h0, r0⟩ := trodAll_cons hA
  obtain ⟨rfl, rfl, rfl⟩ := trodAll_nil r0
  obtain rfl : args = #[v0] := by cases args; simp_all
  obtain ⟨rfl, rfl⟩ := trodVars_none hV
  obtain ⟨a0, len0, cap0, rfl⟩ := okWide_slice Try.underlying22 (hval 0 22 v0 rfl rfl)
  have k0 := h0
  have lt0 : ∀ x ∈ p0, x.block < W.heap.size := by obtain ⟨m, hm⟩ := k0; exact DataW.trod_lt m _ _ _ hm
  obtain ⟨z0, w0⟩ : ∃ zs, IsRow .u8 W a0 len0 cap0 zs := by
    obtain ⟨fuel, hf⟩ := h0
    rcases open_ints Try.underlying22 Try.underlying5 (by kernel_rfl) hf with ⟨hcs, _⟩ | ⟨x, l, c, zs, hcs, _, hl, hm, hz, _, hcell, hwz⟩
    · simp [Value.cells] at hcs
      obtain ⟨rfl, rfl, rfl⟩ := hcs
      exact ⟨[], .inl ⟨rfl, rfl, rfl, rfl⟩⟩
    · simp [Value.cells] at hcs
      obtain ⟨rfl, rfl, rfl⟩ := hcs
      exact ⟨zs, .inr ⟨_, rfl, hl, hm, by simpa using hz, hcell, hwz⟩⟩
  clear hA0 hval0
  refine (walk a0 len0 cap0 z0 W w0).mono fun e W' ⟨he, bel⟩ => ?_
  subst he
  exact ⟨_, rfl, _, _, _, [], _, [], hW', trodAll_mk1 (shut_bool Try.underlying4 _), (trodAll_cons_mk (Below.trod laidOut (by kernel_rfl) (of_decide_eq_true (by kernel_rfl)) k0 bel lt0) trodAll_mk0), rfl, bel.frame _, fun h => by cases h⟩

theorem over : Rows.fnProductRow.holds Try.pinned (OpenSpec.ofChange Rows.fnProductSpec) :=
  OpenClaim.holds_of_wide 6 Try.f6 rfl rfl rfl rfl rfl rfl rfl ⟨rfl, rfl, rfl, rfl, rfl⟩ rfl rfl rfl rfl rfl (by kernel_rfl) Try.func6 (by kernel_rfl)
    (of_decide_eq_true (by kernel_rfl)) (by unfold Func.isWrapper; first | (rw [if_pos (by decide +kernel)]; kernel_rfl) | (rw [if_neg (by decide +kernel)]; exact ⟨rfl, rfl⟩))
    (fun os started H enc _ => lifted os started H enc)

/-- The statement. -/
theorem proved : Rows.FnProductSaid := over
#print axioms proved
end Go.Proofs.Ytjjailllocakcaa.fnProduct
