/-
  Where both widths agree they escape alike: FnDiffer returns true for every code. Conditions: none.
-/
import Derived.Test.YtakhgppjgeeihaaDrawk
import Derived.Test.YtakhgppjgeeihaaDifx
import Derived.Test.YtakhgppjgeeihaaRows
import Derived.WalkKit
import Derived.ProofKit
import Derived.OpenShut
import Derived.ShutString
import Derived.ChangeOld
import Derived.Below
import Derived.Handy
import Derived.LoopN
import Derived.Lib.Hide
namespace Go.Proofs.Ytakhgppjgeeihaa.fnDiffer
open Go.ChangeShapes Go.WideShapes Go.ChangeAt Go.RowKit
open Go.ChangeMaps (open_string shut_string)
open Go.Proofs.Ytakhgppjgeeihaa Fl
set_option linter.unusedVariables false

theorem own : ownKnob Try.prog.godebug = none := by kernel_rfl
theorem laidOut : laidOutB Try.prog = true := by kernel_rfl

/-- What the walk is told of a slice of integers that came in: it is nil, or it leads to a row of 'cap' cells, the numbers 'zs'. -/
def IsRow (k : IntKind) (w : World) (a : Option Addr) (len cap : Nat) (zs : List Int) : Prop :=
  (a = none ∧ len = 0 ∧ cap = 0 ∧ zs = []) ∨
  ∃ x, a = some x ∧ len ≤ cap ∧ cap ≤ maxLen ∧ zs.length = cap ∧ (∀ i, i < zs.length → w.cell? (x.add i) = some (.int k (zs.getD i 0))) ∧ ∀ n ∈ zs, (Lit.int k n).wf = true

set_option maxRecDepth 100000 in
set_option maxHeartbeats 4000000 in
/-- The walk: the Go text returns true and writes nothing that was there. -/
theorem walk (a0 : Option Addr) (len0 cap0 : Nat) (z0 : List Int) (w : World) (w0 : IsRow .u8 w a0 len0 cap0 z0) :
    Calls Try.prog 5 #[.slice a0 len0 cap0] w fun e w' => e = .returned (.bool true) ∧ Below w.heap.size w w' := by
  have hC : Code8 w a0 len0 cap0 := isrow_bytes w0
  by_cases hl : 1048576 < len0
  · go_enter Try.func5, Try.ntmps5
    go_wp2
    go_ret
    exact ⟨rfl, Below.refl _ _⟩
  · go_enter Try.func5, Try.ntmps5
    go_wp2_with fail
    refine (DrawWidthsDiffer_any _ _ _ _ hC).mono ?_
    rintro e w1 ⟨x, y, m, rfl, hx, hy, hm1, hm2, hb⟩
    have HB := Lib.hid hb
    have hl0 : ¬ (1048576 < (len0 : Int)) := by omega
    clear hb hC w0 hl hx hy hm1 hm2
    go_wp2_with fail
    refine (dif_impl _ _ _ _).mono ?_
    rintro e w2 ⟨L, i, j, hL, rfl, hi, hj, hb2⟩
    have HL := Lib.hid hL
    have HI := Lib.hid hi
    have HJ := Lib.hid hj
    have HB2 := Lib.hid hb2
    clear hL hi hj hb2
    go_wp2_with fail
    refine (dif_spec _ _ _ _).mono ?_
    rintro e w3 ⟨L', i', j', hL', rfl, hi', hj', hb3⟩
    obtain rfl : L' = L := by have := HL.out; omega
    obtain rfl : i' = i := hi'.unique HI.out
    obtain rfl : j' = j := hj'.unique HJ.out
    have HB3 := Lib.hid hb3
    clear hL' hi' hj' hb3
    by_cases hij : i' = j'
    · subst hij
      go_wp2
      go_ret
      exact ⟨rfl, below_step (below_step HB.out HB2.out) HB3.out⟩
    · have hne : (i' == j') = false := by rw [beq_eq_false_iff_ne]; exact hij
      have HESC : ∀ W, Calls Try.prog 15 #[.complex .f32 x y, .int .i64 m] W fun e w' => e = .returned (.int .i64 i') ∧ Below W.heap.size W w' := fun W =>
        (escSingle_impl x y m W).mono (by
          rintro e w' ⟨L2, i2, h1, rfl, h2, h3⟩
          obtain rfl : L2 = L' := by have := HL.out; omega
          rw [h2.unique HI.out]; exact ⟨rfl, h3⟩)
      have HESW : ∀ w1 w2 W, Calls Try.prog 26 #[.complex .f64 (ffV .f32 .f64 x w1) (ffV .f32 .f64 y w2), .int .i64 m] W fun e w' => e = .returned (.int .i64 j') ∧ Below W.heap.size W w' := fun w1 w2 W =>
        (escWide_impl _ _ m W).mono (by
          rintro e w' ⟨L2, i2, h1, rfl, h2, h3⟩
          obtain rfl : L2 = L' := by have := HL.out; omega
          rw [BdW_of] at h2
          rw [h2.unique HJ.out]; exact ⟨rfl, h3⟩)
      have HESC' := Lib.hid HESC
      have HESW' := Lib.hid HESW
      clear HESC HESW
      obtain ⟨K, hKL, hKB, hKn, hc⟩ := first_facts HI.out HJ.out hij
      have hL4 : L' ≤ 400 := by have := HL.out; omega
      have hK4 : K ≤ 400 := by omega
      have HAG := Lib.hid (fun (h : K < 400) W => agr_first x y K h hKB hKn W)
      have hneq : (!(i' == j')) = true := by rw [hne]; rfl
      clear hKL hKB hKn hL4
      go_wp2_with fail
      refine (HESC'.out _).mono ?_
      rintro e w4 ⟨rfl, hb4⟩
      have HB4 := Lib.hid hb4
      clear hb4
      go_wp2_with fail
      refine (widen_impl _ _ _).mono ?_
      rintro e w' ⟨rfl, rfl⟩
      go_wp2_with fail
      refine (HESW'.out _ _ _).mono ?_
      rintro e w5 ⟨rfl, hb5⟩
      have HB5 := Lib.hid (below_step (below_drewN (below_step (below_step (below_step HB.out HB2.out) HB3.out) HB4.out) _) hb5)
      clear hb5
      have hneq2 : (i' != j') = true := bne_iff_ne.2 hij
      by_cases hK : K < 400
      · have hK' : (K : Int) < 400 := by omega
        rcases hc with ⟨c1, c2, c3⟩ | ⟨c1, c2, c3⟩ | ⟨c1, c2, c3⟩
        · obtain ⟨M, hM⟩ : ∃ M, (if i' < j' then j' else i') = M := ⟨_, rfl⟩
          go_wp2_with fail
          (go_at_call 28; refine (HAG.out hK _).mono ?_)
          rintro e w6 ⟨n, rfl, hn, hb6⟩
          go_wp2
          go_ret
          exact ⟨rfl, below_step HB5.out hb6⟩
        · rw [if_neg (by omega)] at c3
          subst c3
          go_wp2_with fail
          (go_at_call 28; refine (HAG.out hK _).mono ?_)
          rintro e w6 ⟨n, rfl, hn, hb6⟩
          go_wp2
          go_ret
          exact ⟨rfl, below_step HB5.out hb6⟩
        · rw [if_pos (by omega)] at c3
          subst c3
          go_wp2_with fail
          (go_at_call 28; refine (HAG.out hK _).mono ?_)
          rintro e w6 ⟨n, rfl, hn, hb6⟩
          go_wp2
          go_ret
          exact ⟨rfl, below_step HB5.out hb6⟩
      · have hK' : (400 : Int) ≤ (K : Int) := by omega
        rcases hc with ⟨c1, c2, c3⟩ | ⟨c1, c2, c3⟩ | ⟨c1, c2, c3⟩
        · obtain ⟨M, hM⟩ : ∃ M, (if i' < j' then j' else i') = M := ⟨_, rfl⟩
          go_wp2_with fail
          go_ret
          exact ⟨rfl, HB5.out⟩
        · rw [if_neg (by omega)] at c3
          subst c3
          go_wp2_with fail
          go_ret
          exact ⟨rfl, HB5.out⟩
        · rw [if_pos (by omega)] at c3
          subst c3
          go_wp2_with fail
          go_ret
          exact ⟨rfl, HB5.out⟩

/-! ### The row's step -/
set_option maxRecDepth 100000 in
theorem lifted (os : Os) (started : os.Started) (H : Type) (enc : TypeId × Value → H) :
    ReturnsInHanded {} Try.checked os 5 .any (Rows.fnDifferSpec.pre6 enc Try.prog Try.f5 Rows.fnDifferRow.domain false) (Rows.fnDifferSpec.post enc Try.prog Try.f5 false true false false) := by
  refine returnsInHanded_of_change (C := Try.checked) own started (by kernel_rfl) Try.func5
    (ChangeSpec.witness6 (enc := enc) (C := Try.checked) false ⟨#[], #[.slice none 0 0], []⟩ 8 (by kernel_rfl) (by kernel_rfl) (by kernel_rfl) (by kernel_rfl)) ?_
  intro W base args ds gs before hval0 hW hcnd _
  have hval : ∀ (j : Nat) t v, Try.f5.params[j]? = some t → args[j]? = some v → Value.okWide Try.prog W .any base t v := hval0
  have hW' := hW
  obtain ⟨p, q, hA0, hV, rfl, hfz, hnd⟩ := hW
  have hA : DataW.TrodAll enc Try.prog W 0 (fun _ => true) true Try.f5.params.toList args.toList ds p := hA0
  rw [Try.params5] at hA hval
  obtain ⟨v0, vs0, d0, ds0, p0, q0, hargs, rfl, rfl, h0, r0⟩ := trodAll_cons hA
  obtain ⟨rfl, rfl, rfl⟩ := trodAll_nil r0
  obtain rfl : args = #[v0] := by cases args; simp_all
  obtain ⟨rfl, rfl⟩ := trodVars_none hV
  obtain ⟨a0, len0, cap0, rfl⟩ := okWide_slice Try.underlying22 (hval 0 22 v0 rfl rfl)
  have k0 := h0
  have lt0 : ∀ x ∈ p0, x.block < W.heap.size := by obtain ⟨m, hm⟩ := k0; exact DataW.trod_lt m _ _ _ hm
  obtain ⟨z0, w0⟩ : ∃ zs, IsRow .u8 W a0 len0 cap0 zs := by
    obtain ⟨fuel, hf⟩ := h0
    rcases open_ints Try.underlying22 Try.underlying5 (by kernel_rfl) hf with ⟨hcs, _⟩ | ⟨x, l, c, zs, hcs, _, hl, hm, hz, _, hcell, hwz⟩
    · simp [Value.cells] at hcs
      obtain ⟨rfl, rfl, rfl⟩ := hcs
      exact ⟨[], .inl ⟨rfl, rfl, rfl, rfl⟩⟩
    · simp [Value.cells] at hcs
      obtain ⟨rfl, rfl, rfl⟩ := hcs
      exact ⟨zs, .inr ⟨_, rfl, hl, hm, by simpa using hz, hcell, hwz⟩⟩
  clear hA0 hval0
  refine (walk a0 len0 cap0 z0 W w0).mono fun e W' ⟨he, bel⟩ => ?_
  subst he
  exact ⟨_, rfl, _, _, _, [], _, [], hW', trodAll_mk1 (shut_bool Try.underlying4 _), (trodAll_cons_mk (Below.trod laidOut (by kernel_rfl) (of_decide_eq_true (by kernel_rfl)) k0 bel lt0) trodAll_mk0), rfl, bel.frame _, fun h => by cases h⟩

theorem over : Rows.fnDifferRow.holds Try.pinned (OpenSpec.ofChange Rows.fnDifferSpec) :=
  OpenClaim.holds_of_wide 5 Try.f5 rfl rfl rfl rfl rfl rfl rfl ⟨rfl, rfl, rfl, rfl, rfl⟩ rfl rfl rfl rfl rfl (by kernel_rfl) Try.func5 (by kernel_rfl)
    (of_decide_eq_true (by kernel_rfl)) (by unfold Func.isWrapper; first | (rw [if_pos (by decide +kernel)]; kernel_rfl) | (rw [if_neg (by decide +kernel)]; exact ⟨rfl, rfl⟩))
    (fun os started H enc _ => lifted os started H enc)

/-- The statement. -/
theorem proved : Rows.FnDifferSaid := over
#print axioms proved
end Go.Proofs.Ytakhgppjgeeihaa.fnDiffer
