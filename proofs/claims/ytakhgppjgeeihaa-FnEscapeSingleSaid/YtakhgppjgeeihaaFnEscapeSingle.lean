/-
  Single orbits escape where they first leave: FnEscapeSingle returns true for every code. Conditions: none.
-/
import Derived.Test.YtakhgppjgeeihaaDrawj
import Derived.Test.YtakhgppjgeeihaaEsp
import Derived.Test.YtakhgppjgeeihaaRows
import Derived.WalkKit
import Derived.ProofKit
import Derived.OpenShut
import Derived.ShutString
import Derived.ChangeOld
import Derived.Below
import Derived.Handy
import Derived.LoopN
import Derived.Lib.Hide
namespace Go.Proofs.Ytakhgppjgeeihaa.fnEscapeSingle
open Go.ChangeShapes Go.WideShapes Go.ChangeAt Go.RowKit
open Go.ChangeMaps (open_string shut_string)
open Go.Proofs.Ytakhgppjgeeihaa Fl
set_option linter.unusedVariables false

theorem own : ownKnob Try.prog.godebug = none := by kernel_rfl
theorem laidOut : laidOutB Try.prog = true := by kernel_rfl

/-- What the walk is told of a slice of integers that came in: it is nil, or it leads to a row of 'cap' cells, the numbers 'zs'. -/
def IsRow (k : IntKind) (w : World) (a : Option Addr) (len cap : Nat) (zs : List Int) : Prop :=
  (a = none ∧ len = 0 ∧ cap = 0 ∧ zs = []) ∨
  ∃ x, a = some x ∧ len ≤ cap ∧ cap ≤ maxLen ∧ zs.length = cap ∧ (∀ i, i < zs.length → w.cell? (x.add i) = some (.int k (zs.getD i 0))) ∧ ∀ n ∈ zs, (Lit.int k n).wf = true

set_option maxRecDepth 100000 in
set_option maxHeartbeats 4000000 in
/-- The walk: the Go text returns true and writes nothing that was there. -/
theorem walk (a0 : Option Addr) (len0 cap0 : Nat) (z0 : List Int) (w : World) (w0 : IsRow .u8 w a0 len0 cap0 z0) :
    Calls Try.prog 10 #[.slice a0 len0 cap0] w fun e w' => e = .returned (.bool true) ∧ Below w.heap.size w w' := by
  have hC : Code8 w a0 len0 cap0 := isrow_bytes w0
  by_cases hl : 1048576 < len0
  · go_enter Try.func10, Try.ntmps10
    go_wp2
    go_ret
    exact ⟨rfl, Below.refl _ _⟩
  · go_enter Try.func10, Try.ntmps10
    go_wp2_with fail
    refine (DrawEscapeSingle_any _ _ _ _ hC).mono ?_
    rintro e w1 ⟨x, y, m, rfl, hx, hy, hm1, hm2, hb⟩
    have HB := Lib.hid hb
    have HM := Lib.hid (And.intro hm1 hm2)
    clear hb hm1 hm2
    go_wp2_with fail
    refine (escSingle_impl _ _ _ _).mono ?_
    rintro e w2 ⟨L, i, hL, rfl, he, hb2⟩
    have HL := Lib.hid hL
    have HE := Lib.hid he
    have HB2 := Lib.hid hb2
    clear hL he hb2
    go_wp2_with fail
    refine (escSingle_spec _ _ _ _).mono ?_
    rintro e w3 ⟨L', i', hL', rfl, he', hb3⟩
    obtain rfl : L' = L := by have := HL.out; omega
    obtain rfl : i' = i := he'.unique HE.out
    have HB3 := Lib.hid hb3
    clear hL' he' hb3
    by_cases hi : i' < 0
    · go_wp2
      go_ret
      exact ⟨rfl, HB.out.trans ((HB2.out.trans (HB3.out.mono HB2.out.size)).mono HB.out.size)⟩
    · obtain ⟨I, rfl⟩ : ∃ I : Nat, i' = I := ⟨i'.toNat, by omega⟩
      have hI : I ≤ 400 := by
        have := HL.out
        rcases HE.out with ⟨h, _⟩ | ⟨k, h1, h2, _⟩ <;> omega
      clear hi
      obtain ⟨N, hN1, hN2, hN3⟩ : ∃ N : Nat, N ≤ 400 ∧ N ≤ I + 1 ∧ (N : Int) = min 400 (I + 1 : Int) := ⟨min 400 (I + 1), by omega, by omega, by omega⟩
      have hB0 : ∀ j, j < N → BdF x y j = decide (j < I) := fun j hj => by
        rcases HE.out with ⟨h, _⟩ | ⟨k, _, h2, h3, h4⟩
        · omega
        · obtain rfl : k = I := by omega
          by_cases hjk : j < k
          · rw [h4 j hjk]; simp [hjk]
          · rw [show j = k by omega, h3]; simp
      have HB0 := Lib.hid hB0
      have HX := Lib.hid hx
      have HY := Lib.hid hy
      have HN1 := Lib.hid hN1
      have HN2 := Lib.hid hN2
      have hmin : (if ((I : Int) + 1) < 400 then ((I : Int) + 1) else 400) = (N : Int) := by split <;> omega
      have hi0 : ¬ ((I : Int) < 0) := by omega
      have hl0 : ¬ (1048576 < (len0 : Int)) := by omega
      clear hB0 hx hy hC w0 hl hN1 hN2 hN3
      go_wp2_with fail
      refine (orbSingle_in _ _ _ HN1.out _).mono ?_
      rintro e w4 ⟨b, cap, ws, rfl, hlen, hol, hlies, hb4⟩
      have HOL := Lib.hid hol
      have HLI := Lib.hid hlies
      have HLEN := Lib.hid hlen
      have HB4 := Lib.hid hb4
      clear hol hlies hlen hb4 hmin
      go_wp2
      go_loopw [9] (fun k wr => ∃ (i n : Nat), k = .int .i64 i ∧ i ≤ N ∧ wr = w4.drewN n) (fun k wr => N + 1 - (intOf k).toNat)
      case atStart => exact ⟨0, 0, rfl, by omega, rfl⟩
      case round =>
        obtain ⟨i, n, rfl, hiN, rfl⟩ := hrel
        by_cases hin : i < N
        · obtain ⟨g, rfl, _, hcell⟩ := (HLI.out.drewN n).at i (by rw [HLEN.out]; exact hin)
          have hv := HOL.out i (by rw [HLEN.out]; exact hin)
          have hbd := HB0.out i hin
          have hi4 : i ≤ 400 := by have := HN1.out; omega
          have hiI2 : i ≤ I := by have := HN2.out; omega
          obtain ⟨u, v, hu⟩ : ∃ u v, ws[i]'(by rw [HLEN.out]; exact hin) = (u, v) := ⟨_, _, rfl⟩
          rw [hu] at hv hcell
          have hB1 : ∀ j, j < i → BdF x y j = true := fun j hj => by rw [HB0.out j (by omega)]; simp; have := HN1.out; omega
          have hN := fun w1 w2 W => VF_norm x y i u v hv hB1 w1 w2 W
          rw [hbd] at hN
          clear hbd hu hv hB1
          by_cases hiI : i < I
          · have hN' : ∀ w1 w2 W, Calls Try.prog 38 #[.complex .f64 (ffV .f32 .f64 u w1) (ffV .f32 .f64 v w2)] W fun e W' => ∃ v m, e = .returned (.float .f64 v) ∧ W' = W.drewN m ∧ (D.order v 4616189618054758400 == some Ordering.lt || D.order v 4616189618054758400 == some Ordering.eq) = true := by
              intro w1 w2 W; have h := hN w1 w2 W; rw [show decide (i < I) = true by simpa using hiI] at h; exact h
            have HN' := Lib.hid hN'
            clear hN hN'
            go_wp2_with (first | (go_at_call 27; refine (widen_impl _ _ _).mono ?_; rintro e w' ⟨rfl, rfl⟩) | (go_at_call 38; refine (HN'.out _ _ _).mono ?_; rintro e w' ⟨r, n1, rfl, rfl, hle⟩))
            exact ⟨⟨i + 1, _, by simp, by omega, rfl⟩, by simp [intOf]; omega⟩
          · have hN' : ∀ w1 w2 W, Calls Try.prog 38 #[.complex .f64 (ffV .f32 .f64 u w1) (ffV .f32 .f64 v w2)] W fun e W' => ∃ v m, e = .returned (.float .f64 v) ∧ W' = W.drewN m ∧ (D.order v 4616189618054758400 == some Ordering.lt || D.order v 4616189618054758400 == some Ordering.eq) = false := by
              intro w1 w2 W; have h := hN w1 w2 W; rw [show decide (i < I) = false by simpa using hiI] at h; exact h
            have HN' := Lib.hid hN'
            clear hN hN'
            go_wp2_with (first | (go_at_call 27; refine (widen_impl _ _ _).mono ?_; rintro e w' ⟨rfl, rfl⟩) | (go_at_call 38; refine (HN'.out _ _ _).mono ?_; rintro e w' ⟨r, n1, rfl, rfl, hle⟩))
            exact ⟨⟨i + 1, _, by simp, by omega, rfl⟩, by simp [intOf]; omega⟩
        · go_wp2
          go_ret
          exact ⟨rfl, below_drewN (below_step (below_step (below_step HB.out HB2.out) HB3.out) HB4.out) n⟩

/-! ### The row's step -/
set_option maxRecDepth 100000 in
theorem lifted (os : Os) (started : os.Started) (H : Type) (enc : TypeId × Value → H) :
    ReturnsInHanded {} Try.checked os 10 .any (Rows.fnEscapeSingleSpec.pre6 enc Try.prog Try.f10 Rows.fnEscapeSingleRow.domain false) (Rows.fnEscapeSingleSpec.post enc Try.prog Try.f10 false true false false) := by
  refine returnsInHanded_of_change (C := Try.checked) own started (by kernel_rfl) Try.func10
    (ChangeSpec.witness6 (enc := enc) (C := Try.checked) false ⟨#[], #[.slice none 0 0], []⟩ 8 (by kernel_rfl) (by kernel_rfl) (by kernel_rfl) (by kernel_rfl)) ?_
  intro W base args ds gs before hval0 hW hcnd _
  have hval : ∀ (j : Nat) t v, Try.f10.params[j]? = some t → args[j]? = some v → Value.okWide Try.prog W .any base t v := hval0
  have hW' := hW
  obtain ⟨p, q, hA0, hV, rfl, hfz, hnd⟩ := hW
  have hA : DataW.TrodAll enc Try.prog W 0 (fun _ => true) true Try.f10.params.toList args.toList ds p := hA0
  rw [Try.params10] at hA hval
  obtain ⟨v0, vs0, d0, ds0, p0, q0, hargs, rfl, rfl, h0, r0⟩ := trodAll_cons hA
  obtain ⟨rfl, rfl, rfl⟩ := trodAll_nil r0
  obtain rfl : args = #[v0] := by cases args; simp_all
  obtain ⟨rfl, rfl⟩ := trodVars_none hV
  obtain ⟨a0, len0, cap0, rfl⟩ := okWide_slice Try.underlying22 (hval 0 22 v0 rfl rfl)
  have k0 := h0
  have lt0 : ∀ x ∈ p0, x.block < W.heap.size := by obtain ⟨m, hm⟩ := k0; exact DataW.trod_lt m _ _ _ hm
  obtain ⟨z0, w0⟩ : ∃ zs, IsRow .u8 W a0 len0 cap0 zs := by
    obtain ⟨fuel, hf⟩ := h0
    rcases open_ints Try.underlying22 Try.underlying5 (by kernel_rfl) hf with ⟨hcs, _⟩ | ⟨x, l, c, zs, hcs, _, hl, hm, hz, _, hcell, hwz⟩
    · simp [Value.cells] at hcs
      obtain ⟨rfl, rfl, rfl⟩ := hcs
      exact ⟨[], .inl ⟨rfl, rfl, rfl, rfl⟩⟩
    · simp [Value.cells] at hcs
      obtain ⟨rfl, rfl, rfl⟩ := hcs
      exact ⟨zs, .inr ⟨_, rfl, hl, hm, by simpa using hz, hcell, hwz⟩⟩
  clear hA0 hval0
  refine (walk a0 len0 cap0 z0 W w0).mono fun e W' ⟨he, bel⟩ => ?_
  subst he
  exact ⟨_, rfl, _, _, _, [], _, [], hW', trodAll_mk1 (shut_bool Try.underlying4 _), (trodAll_cons_mk (Below.trod laidOut (by kernel_rfl) (of_decide_eq_true (by kernel_rfl)) k0 bel lt0) trodAll_mk0), rfl, bel.frame _, fun h => by cases h⟩

theorem over : Rows.fnEscapeSingleRow.holds Try.pinned (OpenSpec.ofChange Rows.fnEscapeSingleSpec) :=
  OpenClaim.holds_of_wide 10 Try.f10 rfl rfl rfl rfl rfl rfl rfl ⟨rfl, rfl, rfl, rfl, rfl⟩ rfl rfl rfl rfl rfl (by kernel_rfl) Try.func10 (by kernel_rfl)
    (of_decide_eq_true (by kernel_rfl)) (by unfold Func.isWrapper; first | (rw [if_pos (by decide +kernel)]; kernel_rfl) | (rw [if_neg (by decide +kernel)]; exact ⟨rfl, rfl⟩))
    (fun os started H enc _ => lifted os started H enc)

/-- The statement. -/
theorem proved : Rows.FnEscapeSingleSaid := over
#print axioms proved
end Go.Proofs.Ytakhgppjgeeihaa.fnEscapeSingle
