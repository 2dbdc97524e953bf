/-
  Four turns lead back, two turn into the opposite number, and Turn is the reference's: FnTurn returns true for every code. Conditions: none.
-/
import Derived.Test.YtjjailllocakcaaDrawc
import Derived.Test.YtjjailllocakcaaCfn
import Derived.Test.YtjjailllocakcaaRows
import Derived.WalkKit
import Derived.ProofKit
import Derived.OpenShut
import Derived.ShutString
import Derived.ChangeOld
import Derived.Below
import Derived.Handy
import Derived.Lib.Hide
namespace Go.Proofs.Ytjjailllocakcaa.fnTurn
open Go.ChangeShapes Go.WideShapes Go.ChangeAt Go.RowKit
open Go.ChangeMaps (open_string shut_string)
open Go.Proofs.Ytjjailllocakcaa Fl
set_option linter.unusedVariables false

theorem own : ownKnob Try.prog.godebug = none := by kernel_rfl
theorem laidOut : laidOutB Try.prog = true := by kernel_rfl

/-- What the walk is told of a slice of integers that came in: it is nil, or it leads to a row of 'cap' cells, the numbers 'zs'. -/
def IsRow (k : IntKind) (w : World) (a : Option Addr) (len cap : Nat) (zs : List Int) : Prop :=
  (a = none ∧ len = 0 ∧ cap = 0 ∧ zs = []) ∨
  ∃ x, a = some x ∧ len ≤ cap ∧ cap ≤ maxLen ∧ zs.length = cap ∧ (∀ i, i < zs.length → w.cell? (x.add i) = some (.int k (zs.getD i 0))) ∧ ∀ n ∈ zs, (Lit.int k n).wf = true

/-- The walk: the Go text returns true and writes nothing that was there. -/
theorem walk (a0 : Option Addr) (len0 cap0 : Nat) (z0 : List Int) (w : World) (w0 : IsRow .u8 w a0 len0 cap0 z0) :
    Calls Try.prog 3 #[.slice a0 len0 cap0] w fun e w' => e = .returned (.bool true) ∧ Below w.heap.size w w' := by
  have hC : Code8 w a0 len0 cap0 := isrow_bytes w0
  by_cases hl : 1048576 < len0
  · go_enter Try.func3, Try.ntmps3
    go_wp2
    go_ret
    exact ⟨rfl, Below.refl _ _⟩
  · go_enter Try.func3, Try.ntmps3
    go_wp2_with fail
    refine (DrawTurn_any _ _ _ _ hC).mono ?_
    rintro e w1 ⟨x, y, rfl, hx, hy, hb⟩
    have HB := Lib.hid hb
    clear hb
    go_wp2_with fail
    refine (turn_impl _ _ _).mono ?_; rintro e w' ⟨a, b, n1, rfl, ha, hb, la, lb, rfl⟩
    go_wp2_with fail
    refine (turn_spec _ _ _).mono ?_; rintro e w' ⟨a', b', n2, rfl, ha', hb', la', lb', rfl⟩
    go_wp2_with fail
    refine (sameWide_any _ _ _ _ (ha.trans ha'.symm) (hb.trans hb'.symm) _).mono ?_; rintro e w2 ⟨rfl, n3, rfl⟩
    have hf := fun w => finite_any x y hx hy w
    cases hfin : (finB x && finB y) with
    | false =>
      rw [hfin] at hf
      clear hfin
      go_wp2_with fail
      refine (hf _).mono ?_; rintro e w2 ⟨rfl, n4, rfl⟩
      clear hf
      go_wp2_with fail
      refine (sameWide_any _ _ _ _ (ha.trans ha'.symm) (hb.trans hb'.symm) _).mono ?_; rintro e w2 ⟨rfl, n5, rfl⟩
      go_wp2
      go_ret
      exact ⟨rfl, below_drewN HB.out _⟩
    | true =>
      rw [hfin] at hf
      rw [Bool.and_eq_true] at hfin
      have fx : rung D x < D.infRung := by simpa [finB] using hfin.1
      have fy : rung D y < D.infRung := by simpa [finB] using hfin.2
      have nx : isN D x = false := by simp [isN]; omega
      have ny : isN D y = false := by simp [isN]; omega
      have HF := Lib.hid hf
      have nnx : isN D (negw D x) = false := by rw [isN_negw D x hx]; exact nx
      have nny : isN D (negw D y) = false := by rw [isN_negw D y hy]; exact ny
      obtain ⟨t1, t2⟩ := turn_like x y hx hy fx fy
      -- the first turn
      have A1 : Like D a (negw D y) := ha.like.trans t1
      have B1 : Like D b x := hb.like.trans t2
      have fa : rung D a < D.infRung := like_fin A1 (by rw [rung_negw D y hy]; exact fy)
      have fb : rung D b < D.infRung := like_fin B1 fx
      obtain ⟨t3, t4⟩ := turn_like a b la lb fa fb
      have hn : nrm a b = nrm x y := by
        rw [nrm_like A1 B1 nny nx, nrm_comm]
        have h := nrm_neg x y hy
        exact h.eq_of (by obtain ⟨r, hr, e⟩ := nrm_word x y nx ny; rw [e]; exact isN_word D _ _ hr)
      clear hfin hf
      go_wp2_with fail
      refine (HF.out _).mono ?_; rintro e w2 ⟨rfl, n4, rfl⟩
      go_wp2_with fail
      refine (turn_impl _ _ _).mono ?_; rintro e w' ⟨c, d, n5, rfl, hc, hd, lc, ld, rfl⟩
      -- the second one
      have C1 : Like D c (negw D x) := hc.like.trans (t3.trans (negw_like D lb hx B1))
      have D1 : Like D d (negw D y) := hd.like.trans (t4.trans A1)
      have fc : rung D c < D.infRung := like_fin C1 (by rw [rung_negw D x hx]; exact fx)
      have fd : rung D d < D.infRung := like_fin D1 (by rw [rung_negw D y hy]; exact fy)
      obtain ⟨t5, t6⟩ := turn_like c d lc ld fc fd
      go_wp2_with fail
      refine (turn_impl _ _ _).mono ?_; rintro e w' ⟨p, q, n6, rfl, hp, hq, lp, lq, rfl⟩
      -- the third one
      have P1 : Like D p y := by
        have h := hp.like.trans (t5.trans (negw_like D ld (negw_lt D y hy) D1))
        rw [negw_negw] at h; exact h
      have Q1 : Like D q (negw D x) := hq.like.trans (t6.trans C1)
      have fp : rung D p < D.infRung := like_fin P1 fy
      have fq : rung D q < D.infRung := like_fin Q1 (by rw [rung_negw D x hx]; exact fx)
      obtain ⟨t7, t8⟩ := turn_like p q lp lq fp fq
      go_wp2_with fail
      refine (turn_impl _ _ _).mono ?_; rintro e w' ⟨r, s, n7, rfl, hr, hs, lr, ls, rfl⟩
      have R1 : Like D r x := by
        have h := hr.like.trans (t7.trans (negw_like D lq (negw_lt D x hx) Q1))
        rw [negw_negw] at h; exact h
      have S1 : Like D s y := hs.like.trans (t8.trans P1)
      have e1 : eqC .f64 r s x y = true := eqC_like _ _ _ _ R1 S1 nx ny
      have e2 : eqC .f64 c d (negw D x) (negw D y) = true := eqC_like _ _ _ _ C1 D1 nnx nny
      have HN := Lib.hid hn
      clear hn
      go_wp2_with fail
      refine (alike_impl _ _ _ _ _).mono ?_; rintro e w' ⟨rfl, rfl⟩
      go_wp2_with fail
      refine (alike_impl _ _ _ _ _).mono ?_; rintro e w' ⟨rfl, rfl⟩
      go_wp2_with fail
      refine (norm_impl _ _ a b (Sim.refl _ _) (Sim.refl _ _) _).mono ?_; rintro e w' ⟨u, n8, rfl, hu, lu, rfl⟩
      go_wp2_with fail
      refine (norm_impl _ _ x y (Sim.refl _ _) (Sim.refl _ _) _).mono ?_; rintro e w' ⟨v, n9, rfl, hv, lv, rfl⟩
      rw [HN.out] at hu
      go_wp2_with fail
      refine (alike_any _ _ (hu.trans hv.symm) _).mono ?_; rintro e w2 ⟨rfl, n10, rfl⟩
      go_wp2
      go_ret
      exact ⟨rfl, below_drewN HB.out _⟩

/-! ### The row's step -/
set_option maxRecDepth 100000 in
theorem lifted (os : Os) (started : os.Started) (H : Type) (enc : TypeId × Value → H) :
    ReturnsInHanded {} Try.checked os 3 .any (Rows.fnTurnSpec.pre6 enc Try.prog Try.f3 Rows.fnTurnRow.domain false) (Rows.fnTurnSpec.post enc Try.prog Try.f3 false true false false) := by
  refine returnsInHanded_of_change (C := Try.checked) own started (by kernel_rfl) Try.func3
    (ChangeSpec.witness6 (enc := enc) (C := Try.checked) false ⟨#[], #[.slice none 0 0], []⟩ 8 (by kernel_rfl) (by kernel_rfl) (by kernel_rfl) (by kernel_rfl)) ?_
  intro W base args ds gs before hval0 hW hcnd _
  have hval : ∀ (j : Nat) t v, Try.f3.params[j]? = some t → args[j]? = some v → Value.okWide Try.prog W .any base t v := hval0
  have hW' := hW
  obtain ⟨p, q, hA0, hV, rfl, hfz, hnd⟩ := hW
  have hA : DataW.TrodAll enc Try.prog W 0 (fun _ => true) true Try.f3.params.toList args.toList ds p := hA0
  rw [Try.params3] at hA hval
  obtain ⟨v0, vs0, d0, ds0, p0, q0, hargs, rfl, rfl, h0, r0⟩ := trodAll_cons hA
  obtain ⟨rfl, rfl, rfl⟩ := trodAll_nil r0
  obtain rfl : args = #[v0] := by cases args; simp_all
  obtain ⟨rfl, rfl⟩ := trodVars_none hV
  obtain ⟨a0, len0, cap0, rfl⟩ := okWide_slice Try.underlying22 (hval 0 22 v0 rfl rfl)
  have k0 := h0
  have lt0 : ∀ x ∈ p0, x.block < W.heap.size := by obtain ⟨m, hm⟩ := k0; exact DataW.trod_lt m _ _ _ hm
  obtain ⟨z0, w0⟩ : ∃ zs, IsRow .u8 W a0 len0 cap0 zs := by
    obtain ⟨fuel, hf⟩ := h0
    rcases open_ints Try.underlying22 Try.underlying5 (by kernel_rfl) hf with ⟨hcs, _⟩ | ⟨x, l, c, zs, hcs, _, hl, hm, hz, _, hcell, hwz⟩
    · simp [Value.cells] at hcs
      obtain ⟨rfl, rfl, rfl⟩ := hcs
      exact ⟨[], .inl ⟨rfl, rfl, rfl, rfl⟩⟩
    · simp [Value.cells] at hcs
      obtain ⟨rfl, rfl, rfl⟩ := hcs
      exact ⟨zs, .inr ⟨_, rfl, hl, hm, by simpa using hz, hcell, hwz⟩⟩
  clear hA0 hval0
  refine (walk a0 len0 cap0 z0 W w0).mono fun e W' ⟨he, bel⟩ => ?_
  subst he
  exact ⟨_, rfl, _, _, _, [], _, [], hW', trodAll_mk1 (shut_bool Try.underlying4 _), (trodAll_cons_mk (Below.trod laidOut (by kernel_rfl) (of_decide_eq_true (by kernel_rfl)) k0 bel lt0) trodAll_mk0), rfl, bel.frame _, fun h => by cases h⟩

theorem over : Rows.fnTurnRow.holds Try.pinned (OpenSpec.ofChange Rows.fnTurnSpec) :=
  OpenClaim.holds_of_wide 3 Try.f3 rfl rfl rfl rfl rfl rfl rfl ⟨rfl, rfl, rfl, rfl, rfl⟩ rfl rfl rfl rfl rfl (by kernel_rfl) Try.func3 (by kernel_rfl)
    (of_decide_eq_true (by kernel_rfl)) (by unfold Func.isWrapper; first | (rw [if_pos (by decide +kernel)]; kernel_rfl) | (rw [if_neg (by decide +kernel)]; exact ⟨rfl, rfl⟩))
    (fun os started H enc _ => lifted os started H enc)

/-- The statement. -/
theorem proved : Rows.FnTurnSaid := over
#print axioms proved
end Go.Proofs.Ytjjailllocakcaa.fnTurn
