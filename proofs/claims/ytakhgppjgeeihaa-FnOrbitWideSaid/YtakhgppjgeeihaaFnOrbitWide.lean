/-
  Wide orbits go by steps: FnOrbitWide returns true for every code. Conditions: none.
-/
import Derived.Test.YtakhgppjgeeihaaDrawi
import Derived.Test.YtakhgppjgeeihaaOrbx
import Derived.Test.YtakhgppjgeeihaaRows
import Derived.WalkKit
import Derived.ProofKit
import Derived.OpenShut
import Derived.ShutString
import Derived.ChangeOld
import Derived.Below
import Derived.Handy
import Derived.LoopN
import Derived.Lib.Hide
namespace Go.Proofs.Ytakhgppjgeeihaa.fnOrbitWide
open Go.ChangeShapes Go.WideShapes Go.ChangeAt Go.RowKit
open Go.ChangeMaps (open_string shut_string)
open Go.Proofs.Ytakhgppjgeeihaa Fl
set_option linter.unusedVariables false

theorem own : ownKnob Try.prog.godebug = none := by kernel_rfl
theorem laidOut : laidOutB Try.prog = true := by kernel_rfl

/-- What the walk is told of a slice of integers that came in: it is nil, or it leads to a row of 'cap' cells, the numbers 'zs'. -/
def IsRow (k : IntKind) (w : World) (a : Option Addr) (len cap : Nat) (zs : List Int) : Prop :=
  (a = none ∧ len = 0 ∧ cap = 0 ∧ zs = []) ∨
  ∃ x, a = some x ∧ len ≤ cap ∧ cap ≤ maxLen ∧ zs.length = cap ∧ (∀ i, i < zs.length → w.cell? (x.add i) = some (.int k (zs.getD i 0))) ∧ ∀ n ∈ zs, (Lit.int k n).wf = true

set_option maxRecDepth 100000 in
set_option maxHeartbeats 4000000 in
/-- The walk: the Go text returns true and writes nothing that was there. -/
theorem walk (a0 : Option Addr) (len0 cap0 : Nat) (z0 : List Int) (w : World) (w0 : IsRow .u8 w a0 len0 cap0 z0) :
    Calls Try.prog 6 #[.slice a0 len0 cap0] w fun e w' => e = .returned (.bool true) ∧ Below w.heap.size w w' := by
  have hC : Code8 w a0 len0 cap0 := isrow_bytes w0
  by_cases hl : 1048576 < len0
  · go_enter Try.func6, Try.ntmps6
    go_wp2
    go_ret
    exact ⟨rfl, Below.refl _ _⟩
  · go_enter Try.func6, Try.ntmps6
    go_wp2_with fail
    refine (DrawOrbitWide_any _ _ _ _ hC).mono ?_
    rintro e w1 ⟨x, y, n, rfl, hx, hy, hm1, hm2, hb⟩
    have HB := Lib.hid hb
    have hl0 : ¬ (1048576 < (len0 : Int)) := by omega
    clear hb hC w0 hl hx hy
    by_cases hn : 0 ≤ n ∧ n ≤ 400
    · obtain ⟨N, rfl⟩ : ∃ N : Nat, n = N := ⟨n.toNat, by omega⟩
      have hN : N ≤ 400 := by omega
      have HN := Lib.hid hN
      clear hn hm1 hm2 hN
      go_wp2_with fail
      refine (orbWide_in _ _ _ HN.out _).mono ?_
      rintro e w2 ⟨b, cap, ws, rfl, hlen, hol, hlies, hb2⟩
      have HOL := Lib.hid hol
      have HLI := Lib.hid hlies
      have HLEN := Lib.hid hlen
      have HB2 := Lib.hid hb2
      clear hol hlies hlen hb2
      go_wp2_with fail
      refine (orbWide_sin _ _ _ HN.out _).mono ?_
      rintro e w3 ⟨b', cap', ws', rfl, hlen, hol, hlies, hb3⟩
      have HOL' := Lib.hid hol
      have HLI' := Lib.hid hlies
      have HLEN' := Lib.hid hlen
      have HB3 := Lib.hid hb3
      clear hol hlies hlen hb3
      go_wp2_with fail
      refine (sameWides_any _ _ _ ws ws' (HLI.out.below HB3.out) HLI'.out (by rw [HLEN.out, HLEN'.out]) (by rw [HLEN.out]; have := HN.out; omega) (fun j h h' => HOL.out.same HOL'.out j h h')).mono ?_
      rintro e w4 ⟨rfl, k, rfl⟩
      go_wp2
      go_loopw [9] (fun c wr => ∃ (i n : Nat), c = .int .i64 ((i : Int) + 1) ∧ i ≤ N ∧ wr = w3.drewN n) (fun c wr => N + 2 - (intOf c).toNat)
      case atStart => exact ⟨0, k, rfl, by omega, rfl⟩
      case round =>
        obtain ⟨i, n, rfl, hiN, rfl⟩ := hrel
        have hN4 := HN.out
        have hL3 : Lies (w3.drewN n) (.slice b N cap) ws := (HLI.out.below HB3.out).drewN n
        by_cases hin : i + 1 < N
        · obtain ⟨g, rfl, _, hc1⟩ := hL3.at i (by rw [HLEN.out]; omega)
          obtain ⟨g2, eg, _, hc2⟩ := hL3.at (i + 1) (by rw [HLEN.out]; omega)
          cases eg
          have hst := fun W => HOL.out.step i (by rw [HLEN.out]; omega) (by rw [HLEN.out]; omega) W
          obtain ⟨u, v, hu⟩ : ∃ u v, ws[i]'(by rw [HLEN.out]; omega) = (u, v) := ⟨_, _, rfl⟩
          obtain ⟨u2, v2, hu2⟩ : ∃ u v, ws[i + 1]'(by rw [HLEN.out]; omega) = (u, v) := ⟨_, _, rfl⟩
          rw [hu] at hc1 hst
          rw [hu2] at hc2 hst
          have hc1' : w3.cell? ⟨g, i, none⟩ = some (.complex .f64 u v) := hc1
          have hc2' : w3.cell? ⟨g, i + 1, none⟩ = some (.complex .f64 u2 v2) := hc2
          have HST := Lib.hid hst
          have hin2 : i < N := by omega
          have hi4 : i ≤ 400 := by omega
          have f1 : IntKind.i64.wrap (i : Int) = (i : Int) := IntWalk.i64_in _ (by omega)
          have f2 : IntKind.i64.wrap ((i : Int) + 1 - 1) = (i : Int) := by rw [show (i : Int) + 1 - 1 = i by omega]; exact f1
          have f3 : wrap64 (i : Int) = (i : Int) := by unfold wrap64; omega
          have f4 : wrap64 ((i : Int) + 1 - 1) = (i : Int) := by unfold wrap64; omega
          clear hu hu2 hst hc1 hc2 hL3
          go_wp2_with fail
          go_region_with (first | (go_at_call 32; refine (HST.out _).mono ?_; rintro e w' ⟨p, q, n1, rfl, rfl, s1, s2⟩) | (go_at_call 20; refine (sameWide_any _ _ _ _ (by assumption) (by assumption) _).mono ?_; rintro e w' ⟨rfl, n2, rfl⟩))
          clear f1 f2 f3 f4
          all_goals
            go_wp2
            exact ⟨⟨i + 1, _, by simp, by omega, rfl⟩, by simp [intOf]; omega⟩
        · by_cases hN0 : N = 0
          · subst hN0
            go_wp2_with fail
            go_ret
            exact ⟨rfl, below_drewN (below_step (below_step HB.out HB2.out) HB3.out) n⟩
          · obtain ⟨g, rfl, _, hc1⟩ := hL3.at 0 (by rw [HLEN.out]; omega)
            have hv := HOL.out 0 (by rw [HLEN.out]; omega)
            obtain ⟨u, v, hu⟩ : ∃ u v, ws[0]'(by rw [HLEN.out]; omega) = (u, v) := ⟨_, _, rfl⟩
            rw [hu] at hc1 hv
            have s1 : Sim D u 0 := hv.1
            have s2 : Sim D v 0 := hv.2.1
            have hN1 : 0 < N := by omega
            have hN1' : (0 : Int) < (N : Int) := by omega
            have hc1' : w3.cell? ⟨g, 0, none⟩ = some (.complex .f64 u v) := hc1
            clear hu hv hc1 hL3
            go_wp2_with fail
            refine (sameWide_any _ _ _ _ s1 s2 _).mono ?_
            rintro e w' ⟨rfl, n2, rfl⟩
            go_wp2
            go_ret
            exact ⟨rfl, below_drewN (below_step (below_step HB.out HB2.out) HB3.out) (n + n2)⟩
    · have HN := Lib.hid hn
      clear hn
      go_wp2_with fail
      refine (orbWide_out _ _ _ HN.out _).mono ?_
      rintro e w2 ⟨b, rfl, hb2⟩
      have HB2 := Lib.hid hb2
      clear hb2
      go_wp2_with fail
      refine (orbWide_sout _ _ _ HN.out _).mono ?_
      rintro e w3 ⟨b', rfl, hb3⟩
      have HB3 := Lib.hid hb3
      clear hb3
      go_wp2_with fail
      refine (sameWides_any _ _ _ [] [] (Lies.none _ _) (Lies.none _ _) rfl (by simp) (fun j h h' => by simp at h)).mono ?_
      rintro e w4 ⟨rfl, k, rfl⟩
      go_wp2_with fail
      refine (sameWides_any _ _ _ [] [] (Lies.none _ _) (Lies.none _ _) rfl (by simp) (fun j h h' => by simp at h)).mono ?_
      rintro e w5 ⟨rfl, k2, rfl⟩
      go_wp2
      go_ret
      exact ⟨rfl, below_drewN (below_step (below_step HB.out HB2.out) HB3.out) (k + k2)⟩

/-! ### The row's step -/
set_option maxRecDepth 100000 in
theorem lifted (os : Os) (started : os.Started) (H : Type) (enc : TypeId × Value → H) :
    ReturnsInHanded {} Try.checked os 6 .any (Rows.fnOrbitWideSpec.pre6 enc Try.prog Try.f6 Rows.fnOrbitWideRow.domain false) (Rows.fnOrbitWideSpec.post enc Try.prog Try.f6 false true false false) := by
  refine returnsInHanded_of_change (C := Try.checked) own started (by kernel_rfl) Try.func6
    (ChangeSpec.witness6 (enc := enc) (C := Try.checked) false ⟨#[], #[.slice none 0 0], []⟩ 8 (by kernel_rfl) (by kernel_rfl) (by kernel_rfl) (by kernel_rfl)) ?_
  intro W base args ds gs before hval0 hW hcnd _
  have hval : ∀ (j : Nat) t v, Try.f6.params[j]? = some t → args[j]? = some v → Value.okWide Try.prog W .any base t v := hval0
  have hW' := hW
  obtain ⟨p, q, hA0, hV, rfl, hfz, hnd⟩ := hW
  have hA : DataW.TrodAll enc Try.prog W 0 (fun _ => true) true Try.f6.params.toList args.toList ds p := hA0
  rw [Try.params6] at hA hval
  obtain ⟨v0, vs0, d0, ds0, p0, q0, hargs, rfl, rfl, h0, r0⟩ := trodAll_cons hA
  obtain ⟨rfl, rfl, rfl⟩ := trodAll_nil r0
  obtain rfl : args = #[v0] := by cases args; simp_all
  obtain ⟨rfl, rfl⟩ := trodVars_none hV
  obtain ⟨a0, len0, cap0, rfl⟩ := okWide_slice Try.underlying22 (hval 0 22 v0 rfl rfl)
  have k0 := h0
  have lt0 : ∀ x ∈ p0, x.block < W.heap.size := by obtain ⟨m, hm⟩ := k0; exact DataW.trod_lt m _ _ _ hm
  obtain ⟨z0, w0⟩ : ∃ zs, IsRow .u8 W a0 len0 cap0 zs := by
    obtain ⟨fuel, hf⟩ := h0
    rcases open_ints Try.underlying22 Try.underlying5 (by kernel_rfl) hf with ⟨hcs, _⟩ | ⟨x, l, c, zs, hcs, _, hl, hm, hz, _, hcell, hwz⟩
    · simp [Value.cells] at hcs
      obtain ⟨rfl, rfl, rfl⟩ := hcs
      exact ⟨[], .inl ⟨rfl, rfl, rfl, rfl⟩⟩
    · simp [Value.cells] at hcs
      obtain ⟨rfl, rfl, rfl⟩ := hcs
      exact ⟨zs, .inr ⟨_, rfl, hl, hm, by simpa using hz, hcell, hwz⟩⟩
  clear hA0 hval0
  refine (walk a0 len0 cap0 z0 W w0).mono fun e W' ⟨he, bel⟩ => ?_
  subst he
  exact ⟨_, rfl, _, _, _, [], _, [], hW', trodAll_mk1 (shut_bool Try.underlying4 _), (trodAll_cons_mk (Below.trod laidOut (by kernel_rfl) (of_decide_eq_true (by kernel_rfl)) k0 bel lt0) trodAll_mk0), rfl, bel.frame _, fun h => by cases h⟩

theorem over : Rows.fnOrbitWideRow.holds Try.pinned (OpenSpec.ofChange Rows.fnOrbitWideSpec) :=
  OpenClaim.holds_of_wide 6 Try.f6 rfl rfl rfl rfl rfl rfl rfl ⟨rfl, rfl, rfl, rfl, rfl⟩ rfl rfl rfl rfl rfl (by kernel_rfl) Try.func6 (by kernel_rfl)
    (of_decide_eq_true (by kernel_rfl)) (by unfold Func.isWrapper; first | (rw [if_pos (by decide +kernel)]; kernel_rfl) | (rw [if_neg (by decide +kernel)]; exact ⟨rfl, rfl⟩))
    (fun os started H enc _ => lifted os started H enc)

/-- The statement. -/
theorem proved : Rows.FnOrbitWideSaid := over
#print axioms proved
end Go.Proofs.Ytakhgppjgeeihaa.fnOrbitWide
