/-
  A step of Newton in the program. Conditions: none.
-/
import Derived.Test.YtakhgppjgeeihaaDif
import Derived.Test.YtakhgppjgeeihaaQsim
import Derived.Outline
namespace Go.Proofs.Ytakhgppjgeeihaa
open Go.RowKit Go.Shelf Fl
attribute [local go_sem] Oper.semAt_some
theorem derD_sim {cx cy cx' cy' : Nat} (h : Sim D cx cx') (k : Sim D cy cy') (n : Nat) : derD cx cy n = derD cx' cy' n := by
  induction n with
  | zero => rfl
  | succ n ih =>
    show (addT D (mulT D twoW (prR (orbD cx cy n).1 (orbD cx cy n).2 (derD cx cy n).1 (derD cx cy n).2)) oneW, addT D (mulT D twoW (prI (orbD cx cy n).1 (orbD cx cy n).2 (derD cx cy n).1 (derD cx cy n).2)) 0) = _
    rw [ih, orbD_sim h k]
    rfl
/-- the number behind c, in plain words -/
def nextD (cx cy p : Nat) : Nat × Nat :=
  (subT D cx (quoT (orbD cx cy p).1 (orbD cx cy p).2 (derD cx cy p).1 (derD cx cy p).2).1, subT D cy (quoT (orbD cx cy p).1 (orbD cx cy p).2 (derD cx cy p).1 (derD cx cy p).2).2)
/-- words that stand for the slope at the k-th number -/
def ED (cx cy k x y : Nat) : Prop := Sim D x (derD cx cy k).1 ∧ Sim D y (derD cx cy k).2 ∧ x < 2 ^ D.width ∧ y < 2 ^ D.width
theorem ED_zero (cx cy : Nat) : ED cx cy 0 0 0 := ⟨Sim.refl _ _, Sim.refl _ _, by decide, by decide⟩
/-- the quotient of a number of the orbit by the slope there -/
theorem quo_at {cx cy p a b c d : Nat} (hp : 1 ≤ p) (hp4 : p ≤ 4) (hz : VD cx cy p a b) (he : ED cx cy p c d) : quoT a b c d = quoT (orbD cx cy p).1 (orbD cx cy p).2 (derD cx cy p).1 (derD cx cy p).2 := by
  obtain ⟨h1, h2, h3, h4⟩ := hz
  obtain ⟨g1, g2, _, _⟩ := he
  have l := orbD_lt cx cy p
  exact quoT_sim h1 h2 g1 g2 h3 l.1 h4 l.2 (fun f1 f2 => der_fin cx cy p hp hp4 f1 f2)
set_option maxRecDepth 100000 in
set_option maxHeartbeats 2000000 in
theorem newtW (cx cy p : Nat) (hp : 1 ≤ p) (hp4 : p ≤ 4) (w : World) : Calls Try.prog 56 #[.complex .f64 cx cy, .int .i64 p] w fun e w' =>
    ∃ x y, e = .returned (.complex .f64 x y) ∧ Sim D x (nextD cx cy p).1 ∧ Sim D y (nextD cx cy p).2 ∧ x < 2 ^ D.width ∧ y < 2 ^ D.width ∧ Below w.heap.size w w' := by
  refine (callsIn_wide (n := 3)).1 ?_
  refine callsIn_of_wp_marks Try.func56 rfl trivial ?_ rfl
  simp only [Try.ntmps56, List.size_toArray, List.length_cons, List.length_nil, Nat.reduceAdd, Nat.reduceSub, Array.replicate_succ, Array.replicate_zero, List.push_toArray, List.append_toArray, List.nil_append, List.cons_append]
  gi_wp2
  refine wide_scope ?_
  gi_wp2
  refine wpIn_label ?_
  gi_wp2_with (refine ⟨trivial, (callsIn_wide.2 (orbitOf_w _ _ _ _)).mono ?_⟩; rintro e w' ⟨rfl, t, u, rfl⟩)
  obtain ⟨w1, hw1⟩ : ∃ w1, ((((w.alloc (Obj.cells #[Value.complex FloatKind.f64 cx cy] 31)).alloc (Obj.cells #[Value.int IntKind.i64 p] 3)).alloc (Obj.cells #[Value.complex FloatKind.f64 0 0] 31)).alloc (Obj.cells #[Value.complex FloatKind.f64 cx cy] 31)) = w1 := ⟨_, rfl⟩
  obtain ⟨w2, hw2⟩ : ∃ w2, (w1.alloc (Obj.cells #[Value.complex FloatKind.f64 cx cy] t)).alloc (Obj.cells #[Value.func (Fn.func 32) #[] #[]] u) = w2 := ⟨_, rfl⟩
  have s1 : w1.heap.size = w.heap.size + 4 := by rw [← hw1]; simp
  have s2 : w2.heap.size = w.heap.size + 6 := by rw [← hw2]; simp [s1]
  have b0 : Boxed w1 w.heap.size 31 (.complex .f64 cx cy) := by rw [← hw1]; exact (((Boxed.new w _ _).alloc _).alloc _).alloc _
  have b1 : Boxed w1 (w.heap.size + 1) 3 (.int .i64 p) := by rw [← hw1]; have h := Boxed.new (w.alloc (Obj.cells #[Value.complex FloatKind.f64 cx cy] 31)) 3 (.int .i64 p); rw [World.size_alloc] at h; exact (h.alloc _).alloc _
  have b2 : Boxed w1 (w.heap.size + 1 + 1) 31 (.complex .f64 0 0) := by rw [← hw1]; have h := Boxed.new ((w.alloc (Obj.cells #[Value.complex FloatKind.f64 cx cy] 31)).alloc (Obj.cells #[Value.int IntKind.i64 p] 3)) 31 (.complex .f64 0 0); rw [World.size_alloc, World.size_alloc] at h; exact h.alloc _
  have b3 : Boxed w1 (w.heap.size + 1 + 1 + 1) 31 (.complex .f64 cx cy) := by rw [← hw1]; have h := Boxed.new (((w.alloc (Obj.cells #[Value.complex FloatKind.f64 cx cy] 31)).alloc (Obj.cells #[Value.int IntKind.i64 p] 3)).alloc (Obj.cells #[Value.complex FloatKind.f64 0 0] 31)) 31 (.complex .f64 cx cy); rw [World.size_alloc, World.size_alloc, World.size_alloc] at h; exact h
  have b4 : Boxed w2 (w.heap.size + 1 + 1 + 1 + 1) t (.complex .f64 cx cy) := by rw [← hw2]; have h := Boxed.new w1 t (.complex .f64 cx cy); rw [s1] at h; exact h.alloc _
  have b5 : Boxed w2 (w.heap.size + 1 + 1 + 1 + 1 + 1) u (.func (.func 32) #[] #[]) := by
    rw [← hw2]; have h := Boxed.new (w1.alloc (Obj.cells #[Value.complex FloatKind.f64 cx cy] t)) u (.func (.func 32) #[] #[]); rw [World.size_alloc, s1] at h; exact h
  have c0 : Boxed w2 w.heap.size 31 (.complex .f64 cx cy) := by rw [← hw2]; exact (b0.alloc _).alloc _
  have c1 : Boxed w2 (w.heap.size + 1) 3 (.int .i64 p) := by rw [← hw2]; exact (b1.alloc _).alloc _
  have c2 : Boxed w2 (w.heap.size + 1 + 1) 31 (.complex .f64 0 0) := by rw [← hw2]; exact (b2.alloc _).alloc _
  have c3 : Boxed w2 (w.heap.size + 1 + 1 + 1) 31 (.complex .f64 cx cy) := by rw [← hw2]; exact (b3.alloc _).alloc _
  have hB : Below w.heap.size w w2 := by
    rw [← hw2, ← hw1]
    exact (((((((Below.refl _ w).alloc (Nat.le_refl _) _).alloc (by simp) _).alloc (by simp; omega) _).alloc (by simp; omega) _).alloc (by simp; omega) _).alloc (by simp; omega) _)
  rw [hw1, hw2]
  clear hw1 hw2 b0 b1 b2 b3
  refine wpIn_range_end (w := w2) rfl (by decide) (gf := 79) (lb := #[.pointer (some ⟨w.heap.size + 1 + 1 + 1 + 1 + 1, 0, none⟩), .pointer (some ⟨w.heap.size + 1 + 1 + 1 + 1, 0, none⟩)]) rfl trivial (enters_of Try.func79 (by kernel_rfl) rfl)
    (orb_w _ _ cx cy (VD cx cy) (VD_zero cx cy) w2 _ (VD_step cx cy) b5.cell b4.cell (by omega) (by omega)) KpO.trans (fun W l o h => KpO.put W l o (by omega) (by omega)) (Below.refl _ _) (by rintro k xs ⟨x, y, rfl, _⟩; rfl)
    p (by omega)
    (fun k W => (k ≤ p ∧ Boxed W w.heap.size 31 (.complex .f64 cx cy) ∧ Boxed W (w.heap.size + 1) 3 (.int .i64 p) ∧ (∃ a b, Boxed W (w.heap.size + 1 + 1) 31 (.complex .f64 a b) ∧ ED cx cy k a b) ∧ Boxed W (w.heap.size + 1 + 1 + 1) 31 (.complex .f64 cx cy)) ∧ Below w.heap.size w W)
    (fun j W => (j = .exit 0 ∧ ∃ x y, Boxed W (w.heap.size + 1 + 1 + 1) 31 (.complex .f64 x y) ∧ Sim D x (nextD cx cy p).1 ∧ Sim D y (nextD cx cy p).2 ∧ x < 2 ^ D.width ∧ y < 2 ^ D.width) ∧ Below w.heap.size w W)
    ?hI ?hIx (fun k W h => h.1.1) ⟨⟨by omega, c0, c1, ⟨0, 0, c2, ED_zero cx cy⟩, c3⟩, hB⟩
    (fun xs => { tmps := #[.complex .f64 cx cy, .int .i64 p, .pointer (some ⟨w.heap.size, 0, none⟩), .pointer (some ⟨w.heap.size + 1, 0, none⟩), .complex .f64 0 0, .pointer (some ⟨w.heap.size + 1 + 1, 0, none⟩), .pointer (some ⟨w.heap.size + 1 + 1 + 1, 0, none⟩), xs.getD 0 undef, xs.getD 1 undef, undef, undef, .complex .f64 cx cy, .complex .f64 cx cy, .func (.func 79) #[] #[.pointer (some ⟨w.heap.size + 1 + 1 + 1 + 1 + 1, 0, none⟩), .pointer (some ⟨w.heap.size + 1 + 1 + 1 + 1, 0, none⟩)], xs.getD 0 undef, xs.getD 1 undef, undef, undef, undef, undef, undef, undef, undef, undef, undef, undef, undef, undef, undef, undef, undef, undef, undef, undef, undef, undef, undef], defers := [] }) ?assign ?body ?stop
  case hI =>
    refine OwnFrom.and (Own.from (fun s X Y row h hg hr => ?_) _) (ownFrom_below (Nat.le_refl _) (by omega))
    obtain ⟨h1, h2, h3, ⟨a, b, h4, h5⟩, h6⟩ := h
    exact ⟨h1, boxed_own _ _ (fun _ => _) s X Y row h2 hg hr, boxed_own _ _ (fun _ => _) s X Y row h3 hg hr, ⟨a, b, boxed_own _ _ (fun _ => _) s X Y row h4 hg hr, h5⟩, boxed_own _ _ (fun _ => _) s X Y row h6 hg hr⟩
  case hIx =>
    refine OwnFrom.and (Own.from (fun s X Y row h hg hr => ?_) _) (ownFrom_below (Nat.le_refl _) (by omega))
    obtain ⟨h1, x, y, h2, h3⟩ := h
    exact ⟨h1, x, y, boxed_own _ _ (fun _ => _) () X Y row h2 hg hr, h3⟩
  case assign =>
    rintro l k xs W Kx ⟨x, y, rfl, hv⟩ hKx
    gi_wp2
    exact hKx
  case body =>
    rintro l k xs W ⟨x, y, rfl, hv⟩ ⟨⟨hk, d0, d1, ⟨a, b, d2, hab⟩, d3⟩, hBW⟩
    have e0 := d0.cell
    have e1 := d1.cell
    have e2 := d2.cell
    have f2 := d2.frozen
    have e3 := d3.cell
    have f3 := d3.frozen
    have hmx : Try.prog.follows .mixedOrders = true := by kernel_rfl
    have HV := Lib.hid hv
    have HAB := Lib.hid hab
    clear hv hab
    by_cases hkp : k = p
    · have hkp' : ((k : Int) == (p : Int)) = true := by rw [hkp]; simp
      have HKP := Lib.hid hkp
      have HQ : quoT x y a b = quoT (orbD cx cy p).1 (orbD cx cy p).2 (derD cx cy p).1 (derD cx cy p).2 := quo_at hp hp4 (by rw [← hkp]; exact HV.out) (by rw [← hkp]; exact HAB.out)
      have hqi : ∀ W, Calls Try.prog 74 #[.complex .f64 x y, .complex .f64 a b] W (CV .f64 (quoT (orbD cx cy p).1 (orbD cx cy p).2 (derD cx cy p).1 (derD cx cy p).2).1 (quoT (orbD cx cy p).1 (orbD cx cy p).2 (derD cx cy p).1 (derD cx cy p).2).2 W) := fun W => by rw [← HQ]; exact quo_impl x y a b W
      have HQI := Lib.hid hqi
      clear hkp HQ hqi
      gi_wp2
      gi_region_with_o (first | (refine ⟨trivial, ?_⟩; gi_at_call 74; refine (CallsIn.inRound l (callsIn_wide.2 (HQI.out _))).mono ?_; rintro e w' ⟨a1, b1, n1, rfl, q1, q2, q3, q4, rfl⟩) | (gi_at_call 74; refine (CallsIn.inRound l (callsIn_wide.2 (HQI.out _))).mono ?_; rintro e w' ⟨a1, b1, n1, rfl, q1, q2, q3, q4, rfl⟩))
      all_goals gi_wp2
      all_goals
        have hb := fun (n : Nat) (v : Value) => (show Boxed (W.drewN n) (w.heap.size + 1 + 1 + 1) 31 (.complex .f64 cx cy) from d3).set v
        exact ⟨(ktrans _).trans ((KeepsOthers.setCell _ _ _).from _), ⟨rfl, _, _, hb _ _, faV_sub _ _ _ _ _ (Sim.refl _ _) q1, faV_sub _ _ _ _ _ (Sim.refl _ _) q2, faV_lt _ _ _ _ _, faV_lt _ _ _ _ _⟩, (below_drewN hBW _).setCell (p := ⟨w.heap.size + 1 + 1 + 1, 0, none⟩) (by show w.heap.size ≤ w.heap.size + 1 + 1 + 1; omega) _⟩
    · have hkp' : ((k : Int) == (p : Int)) = false := by simp; omega
      gi_wp2_with (refine ⟨trivial, ?_⟩; gi_at_call 75; refine (CallsIn.inRound l (callsIn_wide.2 (product_impl _ _ _ _ _ _ _ _ HV.out.1 HV.out.2.1 HAB.out.1 HAB.out.2.1 _))).mono ?_; rintro e w' ⟨a1, b1, n1, rfl, q1, q2, q3, q4, rfl⟩)
      have hb := fun (n : Nat) (v : Value) => (show Boxed (W.drewN n) (w.heap.size + 1 + 1) 31 (.complex .f64 a b) from d2).set v
      have ho := fun (n : Nat) (v : Value) (i : Nat) (hi : i ≠ w.heap.size + 1 + 1) => (Below.heap_setCell (W.drewN n) ⟨w.heap.size + 1 + 1, 0, none⟩ v i hi : _ = W.heap[i]?)
      exact ⟨(ktrans _).trans ((KeepsOthers.setCell _ _ _).from _), ⟨ho _ _ _ (by omega), ho _ _ _ (by omega)⟩,
        ⟨by omega, (ho _ _ _ (by omega)).trans d0, (ho _ _ _ (by omega)).trans d1, ⟨_, _, hb _ _, faV_add _ _ _ _ _ (faV_mul _ _ _ _ _ (Sim.refl _ _) q1) (Sim.refl _ _), faV_add _ _ _ _ _ (faV_mul _ _ _ _ _ (Sim.refl _ _) q2) (Sim.refl _ _), faV_lt _ _ _ _ _, faV_lt _ _ _ _ _⟩, (ho _ _ _ (by omega)).trans d3⟩,
        (below_drewN hBW _).setCell (p := ⟨w.heap.size + 1 + 1, 0, none⟩) (by show w.heap.size ≤ w.heap.size + 1 + 1; omega) _⟩
  case stop =>
    rintro B j W hBs ⟨⟨rfl, x, y, h2, h3⟩, hBW⟩ hK
    have e0 := h2.cell
    gi_wp2
    rw [Exit.noGoto_ret]
    refine ⟨by simp, .inl ⟨_, _, rfl, run_takeDeferred hK, ?_⟩⟩
    exact ⟨_, results_tmp rfl _ _ _, x, y, rfl, h3.1, h3.2.1, h3.2.2.1, h3.2.2.2, hBW.trans (belowK_b (w := w2) (by omega) W B _ _ hBs hK rfl rfl)⟩
end Go.Proofs.Ytakhgppjgeeihaa
