/-
  Cycles come back: FnCycle returns true for every code. Conditions: none.
-/
import Derived.Test.YtakhgppjgeeihaaDrawi
import Derived.Test.YtakhgppjgeeihaaCycs
import Derived.Test.YtakhgppjgeeihaaRows
import Derived.WalkKit
import Derived.ProofKit
import Derived.OpenShut
import Derived.ShutString
import Derived.ChangeOld
import Derived.Below
import Derived.Handy
import Derived.LoopN
import Derived.Lib.Hide
namespace Go.Proofs.Ytakhgppjgeeihaa.fnCycle
open Go.ChangeShapes Go.WideShapes Go.ChangeAt Go.RowKit
open Go.ChangeMaps (open_string shut_string)
open Go.Proofs.Ytakhgppjgeeihaa Fl
set_option linter.unusedVariables false

theorem own : ownKnob Try.prog.godebug = none := by kernel_rfl
theorem laidOut : laidOutB Try.prog = true := by kernel_rfl

/-- What the walk is told of a slice of integers that came in: it is nil, or it leads to a row of 'cap' cells, the numbers 'zs'. -/
def IsRow (k : IntKind) (w : World) (a : Option Addr) (len cap : Nat) (zs : List Int) : Prop :=
  (a = none ∧ len = 0 ∧ cap = 0 ∧ zs = []) ∨
  ∃ x, a = some x ∧ len ≤ cap ∧ cap ≤ maxLen ∧ zs.length = cap ∧ (∀ i, i < zs.length → w.cell? (x.add i) = some (.int k (zs.getD i 0))) ∧ ∀ n ∈ zs, (Lit.int k n).wf = true

set_option maxRecDepth 100000 in
set_option maxHeartbeats 4000000 in
/-- The walk: the Go text returns true and writes nothing that was there. -/
theorem walk (a0 : Option Addr) (len0 cap0 : Nat) (z0 : List Int) (w : World) (w0 : IsRow .u8 w a0 len0 cap0 z0) :
    Calls Try.prog 7 #[.slice a0 len0 cap0] w fun e w' => e = .returned (.bool true) ∧ Below w.heap.size w w' := by
  have hC : Code8 w a0 len0 cap0 := isrow_bytes w0
  by_cases hl : 1048576 < len0
  · go_enter Try.func7, Try.ntmps7
    go_wp2
    go_ret
    exact ⟨rfl, Below.refl _ _⟩
  · go_enter Try.func7, Try.ntmps7
    go_wp2_with fail
    refine (DrawCycleWide_any _ _ _ _ hC).mono ?_
    rintro e w1 ⟨x, y, m, rfl, hx, hy, hm1, hm2, hb⟩
    have HB := Lib.hid hb
    have hl0 : ¬ (1048576 < (len0 : Int)) := by omega
    clear hb hC w0 hl hx hy hm1 hm2
    go_wp2_with fail
    refine (cycW _ _ _ _).mono ?_
    rintro e w2 ⟨F, p, hF, rfl, hp, hb2⟩
    have HF := Lib.hid hF
    have HP := Lib.hid hp
    have HB2 := Lib.hid hb2
    clear hF hp hb2
    go_wp2_with fail
    refine (cycS _ _ _ _).mono ?_
    rintro e w3 ⟨F', p', hF', rfl, hp', hb3⟩
    obtain rfl : F' = F := by have := HF.out; omega
    obtain rfl : p' = p := hp'.unique HP.out
    have HB3 := Lib.hid hb3
    clear hF' hp' hb3
    by_cases hp0 : p' = 0
    · subst hp0
      go_wp2
      go_ret
      exact ⟨rfl, below_step (below_step HB.out HB2.out) HB3.out⟩
    · obtain ⟨q, rfl, hq1, hq2, hq3, hq4⟩ : ∃ q : Nat, p' = q ∧ 1 ≤ q ∧ q ≤ F' ∧ eqO x y (F' + q) F' = true ∧ ∀ j, 1 ≤ j → j < q → eqO x y (F' + j) F' = false := by
        rcases HP.out with ⟨h, _⟩ | h
        · exact absurd h hp0
        · exact h
      have HQ3 := Lib.hid hq3
      have HQ4 := Lib.hid hq4
      have hF2 : F' ≤ 200 := by have := HF.out; omega
      have hF1 : 1 ≤ F' := by omega
      obtain ⟨F1, hmx⟩ : ∃ F1 : Int, (if m < 200 then m else 200) = F1 := ⟨_, rfl⟩
      have hmn : (if 1 < F1 then F1 else 1) = (F' : Int) := by have := HF.out; split at hmx <;> split <;> omega
      clear hq3 hq4
      have hq0 : ¬ ((q : Int) = 0) := by omega
      by_cases hbig : 400 < F' + q + 1
      · have hmin : (if ((F' : Int) + q + 1) < 400 then ((F' : Int) + q + 1) else 400) = 400 := by rw [if_neg (by omega)]
        have hN : (((400 : Nat) : Int)) < (F' : Int) + q + 1 := by omega
        have hN' : (400 : Int) < (F' : Int) + q + 1 := by omega
        go_wp2_with fail
        refine (orbWide_in _ _ 400 (by omega) _).mono ?_
        rintro e w4 ⟨b, cap, ws, rfl, hlen, hol, hlies, hb4⟩
        have HB4 := Lib.hid hb4
        clear hlen hol hlies hb4 hmx hmn hmin
        go_wp2_with fail
        go_ret
        exact ⟨rfl, below_step (below_step (below_step HB.out HB2.out) HB3.out) HB4.out⟩
      · obtain ⟨N, hNN⟩ : ∃ N, N = F' + q + 1 := ⟨_, rfl⟩
        have hmin : (if ((F' : Int) + q + 1) < 400 then ((F' : Int) + q + 1) else 400) = (N : Int) := by split <;> omega
        have hN4 : N ≤ 400 := by omega
        have HN4 := Lib.hid hN4
        have HNN := Lib.hid hNN
        clear hNN
        go_wp2_with fail
        refine (orbWide_in _ _ N HN4.out _).mono ?_
        rintro e w4 ⟨b, cap, ws, rfl, hlen, hol, hlies, hb4⟩
        have HOL := Lib.hid hol
        have HLI := Lib.hid hlies
        have HLEN := Lib.hid hlen
        have HB4 := Lib.hid hb4
        clear hol hlies hlen hb4 hmx hmn hmin
        obtain ⟨g, hg⟩ : ∃ g, b = some ⟨g, 0, none⟩ := by
          obtain ⟨g, h, _⟩ := HLI.out.at 0 (by rw [HLEN.out]; have := HNN.out; omega)
          exact ⟨g, h⟩
        subst hg
        have hNI : ¬ ((N : Int) < (F' : Int) + q + 1) := by have := HNN.out; omega
        have hcA : ∀ j, j ≤ q → ∃ u v, w4.cell? ⟨g, F' + j, none⟩ = some (.complex .f64 u v) ∧ VD x y (F' + j) u v := fun j hj => by
          obtain ⟨g', eg, _, hc⟩ := HLI.out.at (F' + j) (by rw [HLEN.out]; have := HNN.out; omega)
          cases eg
          exact ⟨_, _, hc, HOL.out _ (by rw [HLEN.out]; have := HNN.out; omega)⟩
        obtain ⟨a, b, hcF, hvF⟩ := hcA 0 (Nat.zero_le _)
        have hvF' : VD x y F' a b := hvF
        have hAl : ∀ j, j ≤ q → ∃ u v, w4.cell? ⟨g, F' + j, none⟩ = some (.complex .f64 u v) ∧ ∀ W, Calls Try.prog 22 #[.complex .f64 u v, .complex .f64 a b] W fun e W' => e = .returned (.bool (eqO x y (F' + j) F')) ∧ W = W' := fun j hj => by
          obtain ⟨u, v, h1, h2⟩ := hcA j hj
          refine ⟨u, v, h1, fun W => ?_⟩
          rw [← eqC_orb h2 hvF']
          exact alike_impl u v a b W
        have HAL := Lib.hid hAl
        have hcF' : w4.cell? ⟨g, F', none⟩ = some (.complex .f64 a b) := hcF
        have hFN : F' < N := by have := HNN.out; omega
        clear hcA hAl hcF hvF hvF'
        go_wp2_with fail
        go_loopw [10] (fun c wr => ∃ (i n : Nat), c = .int .i64 ((i : Int) + 1) ∧ i + 1 ≤ q ∧ wr = w4.drewN n) (fun c wr => q + 2 - (intOf c).toNat)
        case atStart => exact ⟨0, 0, rfl, by omega, rfl⟩
        case round =>
          obtain ⟨i, n, rfl, hiq, rfl⟩ := hrel
          by_cases hin : i + 1 < q
          · obtain ⟨u, v, hc, hA⟩ := HAL.out (i + 1) hiq
            rw [HQ4.out (i + 1) (by omega) hin] at hA
            have hidx : ((F' : Int) + ((i : Int) + 1)).toNat = F' + (i + 1) := by omega
            have hlt : (F' : Int) + ((i : Int) + 1) < (N : Int) := by have := HNN.out; omega
            have hge : 0 ≤ (F' : Int) + ((i : Int) + 1) := by omega
            have hi4 : i ≤ 200 := by omega
            have f1 : IntKind.i64.wrap ((F' : Int) + ((i : Int) + 1)) = (F' : Int) + ((i : Int) + 1) := IntWalk.i64_in _ (by omega)
            have f2 : wrap64 ((F' : Int) + ((i : Int) + 1)) = (F' : Int) + ((i : Int) + 1) := by unfold wrap64; omega
            have HA := Lib.hid hA
            clear hA
            go_wp2_with fail
            go_region_with (go_at_call 22; refine (HA.out _).mono ?_; rintro e w' ⟨rfl, rfl⟩)
            clear f1 f2
            all_goals
              go_wp2
              exact ⟨⟨i + 1, _, by simp, by omega, rfl⟩, by simp [intOf]; omega⟩
          · have hqi : (q : Int) ≤ (i : Int) + 1 := by omega
            obtain ⟨u, v, hc, hA⟩ := HAL.out q (Nat.le_refl _)
            rw [HQ3.out] at hA
            have hidx : ((F' : Int) + (q : Int)).toNat = F' + q := by omega
            have hlt : (F' : Int) + (q : Int) < (N : Int) := by have := HNN.out; omega
            have hge : 0 ≤ (F' : Int) + (q : Int) := by omega
            have f1 : IntKind.i64.wrap ((F' : Int) + (q : Int)) = (F' : Int) + (q : Int) := IntWalk.i64_in _ (by omega)
            have f2 : wrap64 ((F' : Int) + (q : Int)) = (F' : Int) + (q : Int) := by unfold wrap64; omega
            have HA := Lib.hid hA
            clear hA
            go_wp2_with fail
            go_region_with (go_at_call 22; refine (HA.out _).mono ?_; rintro e w' ⟨rfl, rfl⟩)
            all_goals
              go_wp2
              go_ret
              exact ⟨rfl, below_drewN (below_step (below_step (below_step HB.out HB2.out) HB3.out) HB4.out) _⟩

/-! ### The row's step -/
set_option maxRecDepth 100000 in
theorem lifted (os : Os) (started : os.Started) (H : Type) (enc : TypeId × Value → H) :
    ReturnsInHanded {} Try.checked os 7 .any (Rows.fnCycleSpec.pre6 enc Try.prog Try.f7 Rows.fnCycleRow.domain false) (Rows.fnCycleSpec.post enc Try.prog Try.f7 false true false false) := by
  refine returnsInHanded_of_change (C := Try.checked) own started (by kernel_rfl) Try.func7
    (ChangeSpec.witness6 (enc := enc) (C := Try.checked) false ⟨#[], #[.slice none 0 0], []⟩ 8 (by kernel_rfl) (by kernel_rfl) (by kernel_rfl) (by kernel_rfl)) ?_
  intro W base args ds gs before hval0 hW hcnd _
  have hval : ∀ (j : Nat) t v, Try.f7.params[j]? = some t → args[j]? = some v → Value.okWide Try.prog W .any base t v := hval0
  have hW' := hW
  obtain ⟨p, q, hA0, hV, rfl, hfz, hnd⟩ := hW
  have hA : DataW.TrodAll enc Try.prog W 0 (fun _ => true) true Try.f7.params.toList args.toList ds p := hA0
  rw [Try.params7] at hA hval
  obtain ⟨v0, vs0, d0, ds0, p0, q0, hargs, rfl, rfl, h0, r0⟩ := trodAll_cons hA
  obtain ⟨rfl, rfl, rfl⟩ := trodAll_nil r0
  obtain rfl : args = #[v0] := by cases args; simp_all
  obtain ⟨rfl, rfl⟩ := trodVars_none hV
  obtain ⟨a0, len0, cap0, rfl⟩ := okWide_slice Try.underlying22 (hval 0 22 v0 rfl rfl)
  have k0 := h0
  have lt0 : ∀ x ∈ p0, x.block < W.heap.size := by obtain ⟨m, hm⟩ := k0; exact DataW.trod_lt m _ _ _ hm
  obtain ⟨z0, w0⟩ : ∃ zs, IsRow .u8 W a0 len0 cap0 zs := by
    obtain ⟨fuel, hf⟩ := h0
    rcases open_ints Try.underlying22 Try.underlying5 (by kernel_rfl) hf with ⟨hcs, _⟩ | ⟨x, l, c, zs, hcs, _, hl, hm, hz, _, hcell, hwz⟩
    · simp [Value.cells] at hcs
      obtain ⟨rfl, rfl, rfl⟩ := hcs
      exact ⟨[], .inl ⟨rfl, rfl, rfl, rfl⟩⟩
    · simp [Value.cells] at hcs
      obtain ⟨rfl, rfl, rfl⟩ := hcs
      exact ⟨zs, .inr ⟨_, rfl, hl, hm, by simpa using hz, hcell, hwz⟩⟩
  clear hA0 hval0
  refine (walk a0 len0 cap0 z0 W w0).mono fun e W' ⟨he, bel⟩ => ?_
  subst he
  exact ⟨_, rfl, _, _, _, [], _, [], hW', trodAll_mk1 (shut_bool Try.underlying4 _), (trodAll_cons_mk (Below.trod laidOut (by kernel_rfl) (of_decide_eq_true (by kernel_rfl)) k0 bel lt0) trodAll_mk0), rfl, bel.frame _, fun h => by cases h⟩

theorem over : Rows.fnCycleRow.holds Try.pinned (OpenSpec.ofChange Rows.fnCycleSpec) :=
  OpenClaim.holds_of_wide 7 Try.f7 rfl rfl rfl rfl rfl rfl rfl ⟨rfl, rfl, rfl, rfl, rfl⟩ rfl rfl rfl rfl rfl (by kernel_rfl) Try.func7 (by kernel_rfl)
    (of_decide_eq_true (by kernel_rfl)) (by unfold Func.isWrapper; first | (rw [if_pos (by decide +kernel)]; kernel_rfl) | (rw [if_neg (by decide +kernel)]; exact ⟨rfl, rfl⟩))
    (fun os started H enc _ => lifted os started H enc)

/-- The statement. -/
theorem proved : Rows.FnCycleSaid := over
#print axioms proved
end Go.Proofs.Ytakhgppjgeeihaa.fnCycle
