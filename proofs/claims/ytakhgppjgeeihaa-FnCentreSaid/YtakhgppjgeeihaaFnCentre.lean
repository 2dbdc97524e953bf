/-
  The centre of the period 1 is 0: FnCentre returns true for every code. Conditions: none.
-/
import Derived.Test.YtakhgppjgeeihaaCenx
import Derived.Test.YtakhgppjgeeihaaRows
import Derived.WalkKit
import Derived.ProofKit
import Derived.OpenShut
import Derived.ShutString
import Derived.ChangeOld
import Derived.Below
import Derived.Handy
import Derived.LoopN
import Derived.Lib.Hide
namespace Go.Proofs.Ytakhgppjgeeihaa.fnCentre
open Go.ChangeShapes Go.WideShapes Go.ChangeAt Go.RowKit
open Go.ChangeMaps (open_string shut_string)
open Go.Proofs.Ytakhgppjgeeihaa Fl
set_option linter.unusedVariables false

theorem own : ownKnob Try.prog.godebug = none := by kernel_rfl
theorem laidOut : laidOutB Try.prog = true := by kernel_rfl

/-- What the walk is told of a slice of integers that came in: it is nil, or it leads to a row of 'cap' cells, the numbers 'zs'. -/
def IsRow (k : IntKind) (w : World) (a : Option Addr) (len cap : Nat) (zs : List Int) : Prop :=
  (a = none ∧ len = 0 ∧ cap = 0 ∧ zs = []) ∨
  ∃ x, a = some x ∧ len ≤ cap ∧ cap ≤ maxLen ∧ zs.length = cap ∧ (∀ i, i < zs.length → w.cell? (x.add i) = some (.int k (zs.getD i 0))) ∧ ∀ n ∈ zs, (Lit.int k n).wf = true

set_option maxRecDepth 100000 in
set_option maxHeartbeats 4000000 in
/-- The walk: the Go text returns true and writes nothing that was there. -/
theorem walk (a0 : Option Addr) (len0 cap0 : Nat) (z0 : List Int) (w : World) (w0 : IsRow .u8 w a0 len0 cap0 z0) :
    Calls Try.prog 4 #[.slice a0 len0 cap0] w fun e w' => e = .returned (.bool true) ∧ Below w.heap.size w w' := by
  have hC : Code8 w a0 len0 cap0 := isrow_bytes w0
  by_cases hl : 1048576 < len0
  · go_enter Try.func4, Try.ntmps4
    go_wp2
    go_ret
    exact ⟨rfl, Below.refl _ _⟩
  · go_enter Try.func4, Try.ntmps4
    go_wp2_with fail
    refine (DrawCentreSteps_any _ _ _ _ hC).mono ?_
    rintro e w1 ⟨x, y, p, n, rfl, hx, hy, hp, hn, hp2, hn2, hb⟩
    have HB := Lib.hid hb
    have HX := Lib.hid hx
    have HY := Lib.hid hy
    have hl0 : ¬ (1048576 < (len0 : Int)) := by omega
    clear hb hC w0 hl hx hy
    by_cases hr : p < 1 ∨ n < 0
    · have HR := Lib.hid hr
      clear hr
      go_wp2_with fail
      refine (centre_out _ _ _ _ HR.out (by omega) (by omega) _).mono ?_
      rintro e w2 ⟨b, rfl, hb2⟩
      have HB2 := Lib.hid hb2
      clear hb2
      go_wp2_with fail
      refine (centre_sout _ _ _ _ HR.out _).mono ?_
      rintro e w3 ⟨b', rfl, hb3⟩
      have HB3 := Lib.hid hb3
      clear hb3
      go_wp2_with fail
      refine (sameWides_any _ _ _ [] [] (Lies.none _ _) (Lies.none _ _) rfl (by simp) (fun j h h' => by simp at h)).mono ?_
      rintro e w4 ⟨rfl, k, rfl⟩
      go_wp2_with fail
      refine (sameWides_any _ _ _ [] [] (Lies.none _ _) (Lies.none _ _) rfl (by simp) (fun j h h' => by simp at h)).mono ?_
      rintro e w5 ⟨rfl, k2, rfl⟩
      go_wp2
      go_ret
      exact ⟨rfl, below_drewN (below_step (below_step HB.out HB2.out) HB3.out) (k + k2)⟩
    · obtain ⟨P, rfl⟩ : ∃ P : Nat, p = P := ⟨p.toNat, by omega⟩
      obtain ⟨N, rfl⟩ : ∃ N : Nat, n = N := ⟨n.toNat, by omega⟩
      have hP1 : 1 ≤ P := by omega
      have hP4 : P ≤ 4 := by omega
      have hN : N ≤ 20 := by omega
      clear hr hp hn hp2 hn2
      go_wp2_with fail
      refine (centre_impl _ _ P N HX.out HY.out hP1 hP4 hN _).mono ?_
      rintro e w2 ⟨b, cap, ws, rfl, hlen, hol, hlies, hb2⟩
      have HOL := Lib.hid hol
      have HLI := Lib.hid hlies
      have HLEN := Lib.hid hlen
      have HB2 := Lib.hid hb2
      clear hol hlies hlen hb2
      go_wp2_with fail
      refine (centre_spec _ _ P N HX.out HY.out hP1 hP4 hN _).mono ?_
      rintro e w3 ⟨b', cap', ws', rfl, hlen, hol, hlies, hb3⟩
      have HOL' := Lib.hid hol
      have HLI' := Lib.hid hlies
      have HLEN' := Lib.hid hlen
      have HB3 := Lib.hid hb3
      clear hol hlies hlen hb3
      go_wp2_with fail
      refine (sameWides_any _ _ _ ws ws' (HLI.out.below HB3.out) HLI'.out (by rw [HLEN.out, HLEN'.out]) (by rw [HLEN.out]; omega) (fun j h h' => ⟨(HOL.out j h).1.trans (HOL'.out j h').1.symm, (HOL.out j h).2.1.trans (HOL'.out j h').2.1.symm⟩)).mono ?_
      rintro e w4 ⟨rfl, k, rfl⟩
      obtain ⟨g, rfl, _, hc0⟩ := (HLI.out.below HB3.out).at 0 (by rw [HLEN.out]; omega)
      have hv0 := HOL.out 0 (by rw [HLEN.out]; omega)
      obtain ⟨u, v, hu⟩ : ∃ u v, ws[0]'(by rw [HLEN.out]; omega) = (u, v) := ⟨_, _, rfl⟩
      rw [hu] at hc0 hv0
      have s1 : Sim D u x := hv0.1
      have s2 : Sim D v y := hv0.2.1
      have hN1 : (0 : Int) < (N : Int) + 1 := by omega
      clear hu hv0
      go_wp2_with fail
      refine (sameWide_any _ _ _ _ s1 s2 _).mono ?_
      rintro e w5 ⟨rfl, k2, rfl⟩
      have HBE := Lib.hid (fun m => below_drewN (below_step (below_step HB.out HB2.out) HB3.out) m)
      by_cases hP : 1 < P
      · have hP' : (1 : Int) < (P : Int) := by omega
        go_wp2_with fail
        go_ret
        exact ⟨rfl, HBE.out _⟩
      · obtain rfl : P = 1 := by omega
        by_cases hN0 : N = 0
        · subst hN0
          go_wp2_with fail
          go_ret
          exact ⟨rfl, HBE.out _⟩
        · have hN0' : ((N : Int) == 0) = false := by simp; omega
          obtain ⟨g1, eg, _, hc1⟩ := (HLI.out.below HB3.out).at 1 (by rw [HLEN.out]; omega)
          cases eg
          have hv1 := HOL.out 1 (by rw [HLEN.out]; omega)
          obtain ⟨u1, v1, hu1⟩ : ∃ u v, ws[1]'(by rw [HLEN.out]; omega) = (u, v) := ⟨_, _, rfl⟩
          rw [hu1] at hc1 hv1
          have hN2 : (1 : Int) < (N : Int) + 1 := by omega
          have hfin : finB x = true → finB y = true → eqC .f64 u1 v1 0 0 = true := fun f1 f2 => by
            unfold finB at f1 f2
            simp at f1 f2
            exact cen_one HX.out HY.out f1 f2 hv1
          have HFIN := Lib.hid hfin
          clear hu1 hv1 hfin
          obtain ⟨p, hp⟩ : ∃ p, (finB x && finB y) = p := ⟨_, rfl⟩
          have hfa : ∀ W, Calls Try.prog 21 #[.complex .f64 x y] W (BV p W) := fun W => by rw [← hp]; exact finite_any x y HX.out HY.out W
          have HFA := Lib.hid hfa
          have HPE := Lib.hid hp
          clear hfa hp
          go_wp2_with fail
          refine (HFA.out _).mono ?_
          rintro e w6 ⟨rfl, k3, rfl⟩
          cases p
          · go_wp2_with fail
            go_ret
            exact ⟨rfl, HBE.out _⟩
          · have hq : eqC .f64 u1 v1 0 0 = true := by
              have h := HPE.out
              rw [Bool.and_eq_true] at h
              exact HFIN.out h.1 h.2
            go_wp2_with fail
            refine (alike_impl _ _ _ _ _).mono ?_
            rintro e w7 ⟨rfl, rfl⟩
            rw [hq]
            go_wp2
            go_ret
            exact ⟨rfl, HBE.out _⟩

/-! ### The row's step -/
set_option maxRecDepth 100000 in
theorem lifted (os : Os) (started : os.Started) (H : Type) (enc : TypeId × Value → H) :
    ReturnsInHanded {} Try.checked os 4 .any (Rows.fnCentreSpec.pre6 enc Try.prog Try.f4 Rows.fnCentreRow.domain false) (Rows.fnCentreSpec.post enc Try.prog Try.f4 false true false false) := by
  refine returnsInHanded_of_change (C := Try.checked) own started (by kernel_rfl) Try.func4
    (ChangeSpec.witness6 (enc := enc) (C := Try.checked) false ⟨#[], #[.slice none 0 0], []⟩ 8 (by kernel_rfl) (by kernel_rfl) (by kernel_rfl) (by kernel_rfl)) ?_
  intro W base args ds gs before hval0 hW hcnd _
  have hval : ∀ (j : Nat) t v, Try.f4.params[j]? = some t → args[j]? = some v → Value.okWide Try.prog W .any base t v := hval0
  have hW' := hW
  obtain ⟨p, q, hA0, hV, rfl, hfz, hnd⟩ := hW
  have hA : DataW.TrodAll enc Try.prog W 0 (fun _ => true) true Try.f4.params.toList args.toList ds p := hA0
  rw [Try.params4] at hA hval
  obtain ⟨v0, vs0, d0, ds0, p0, q0, hargs, rfl, rfl, h0, r0⟩ := trodAll_cons hA
  obtain ⟨rfl, rfl, rfl⟩ := trodAll_nil r0
  obtain rfl : args = #[v0] := by cases args; simp_all
  obtain ⟨rfl, rfl⟩ := trodVars_none hV
  obtain ⟨a0, len0, cap0, rfl⟩ := okWide_slice Try.underlying22 (hval 0 22 v0 rfl rfl)
  have k0 := h0
  have lt0 : ∀ x ∈ p0, x.block < W.heap.size := by obtain ⟨m, hm⟩ := k0; exact DataW.trod_lt m _ _ _ hm
  obtain ⟨z0, w0⟩ : ∃ zs, IsRow .u8 W a0 len0 cap0 zs := by
    obtain ⟨fuel, hf⟩ := h0
    rcases open_ints Try.underlying22 Try.underlying5 (by kernel_rfl) hf with ⟨hcs, _⟩ | ⟨x, l, c, zs, hcs, _, hl, hm, hz, _, hcell, hwz⟩
    · simp [Value.cells] at hcs
      obtain ⟨rfl, rfl, rfl⟩ := hcs
      exact ⟨[], .inl ⟨rfl, rfl, rfl, rfl⟩⟩
    · simp [Value.cells] at hcs
      obtain ⟨rfl, rfl, rfl⟩ := hcs
      exact ⟨zs, .inr ⟨_, rfl, hl, hm, by simpa using hz, hcell, hwz⟩⟩
  clear hA0 hval0
  refine (walk a0 len0 cap0 z0 W w0).mono fun e W' ⟨he, bel⟩ => ?_
  subst he
  exact ⟨_, rfl, _, _, _, [], _, [], hW', trodAll_mk1 (shut_bool Try.underlying4 _), (trodAll_cons_mk (Below.trod laidOut (by kernel_rfl) (of_decide_eq_true (by kernel_rfl)) k0 bel lt0) trodAll_mk0), rfl, bel.frame _, fun h => by cases h⟩

theorem over : Rows.fnCentreRow.holds Try.pinned (OpenSpec.ofChange Rows.fnCentreSpec) :=
  OpenClaim.holds_of_wide 4 Try.f4 rfl rfl rfl rfl rfl rfl rfl ⟨rfl, rfl, rfl, rfl, rfl⟩ rfl rfl rfl rfl rfl (by kernel_rfl) Try.func4 (by kernel_rfl)
    (of_decide_eq_true (by kernel_rfl)) (by unfold Func.isWrapper; first | (rw [if_pos (by decide +kernel)]; kernel_rfl) | (rw [if_neg (by decide +kernel)]; exact ⟨rfl, rfl⟩))
    (fun os started H enc _ => lifted os started H enc)

/-- The statement. -/
theorem proved : Rows.FnCentreSaid := over
#print axioms proved
end Go.Proofs.Ytakhgppjgeeihaa.fnCentre
