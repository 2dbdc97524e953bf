/-
  AgreeCount where the widths part. Conditions: none.
-/
import Derived.Test.YtakhgppjgeeihaaDif
namespace Go.Proofs.Ytakhgppjgeeihaa
open Go.RowKit Go.Shelf Fl
attribute [local go_sem] Oper.semAt_some
theorem eqC_le4 {a b c d : Nat} (h : eqC .f64 a b c d = true) : le4 (nrm a b) = le4 (nrm c d) := by
  obtain ⟨⟨h1, h2, h3⟩, h4, h5, h6⟩ := (eqC_iff .f64 a b c d).1 h
  have l1 : Like D a c := .inr ⟨h1, h2, h3⟩
  have l2 : Like D b d := .inr ⟨h4, h5, h6⟩
  exact le4_like (addT_like D gD (mulT_like D gD l1 l1) (mulT_like D gD l2 l2))
theorem BdW_eq {cx cy vx vy : Nat} (hx : Sim D vx (widT cx)) (hy : Sim D vy (widT cy)) (k : Nat) : BdD vx vy k = BdW cx cy k := by
  unfold BdW BdD
  rw [orbD_sim hx hy k]
theorem two_sets (W : World) (n m p q k : Nat) (u v : Value) (hp : k ≠ p) (hq : k ≠ q) : ((((W.drewN n).setCell ⟨p, 0, none⟩ u).drewN m).setCell ⟨q, 0, none⟩ v).heap[k]? = W.heap[k]? :=
  (Below.heap_setCell (((W.drewN n).setCell ⟨p, 0, none⟩ u).drewN m) ⟨q, 0, none⟩ v k hq).trans (Below.heap_setCell (W.drewN n) ⟨p, 0, none⟩ u k hp)
theorem two_boxed {W : World} (n m : Nat) {p q : Nat} {t s : TypeId} {a b : Value} (u v : Value) (hpq : p ≠ q) (h1 : Boxed W p t a) (h2 : Boxed W q s b) :
    Boxed ((((W.drewN n).setCell ⟨p, 0, none⟩ u).drewN m).setCell ⟨q, 0, none⟩ v) p t u ∧ Boxed ((((W.drewN n).setCell ⟨p, 0, none⟩ u).drewN m).setCell ⟨q, 0, none⟩ v) q s v := by
  have a1 : Boxed ((W.drewN n).setCell ⟨p, 0, none⟩ u) p t u := (show Boxed (W.drewN n) p t a from h1).set u
  have a2 : Boxed ((W.drewN n).setCell ⟨p, 0, none⟩ u) q s b := (show Boxed (W.drewN n) q s b from h2).other (by omega) u
  exact ⟨(show Boxed (((W.drewN n).setCell ⟨p, 0, none⟩ u).drewN m) p t u from a1).other (by omega) v, (show Boxed (((W.drewN n).setCell ⟨p, 0, none⟩ u).drewN m) q s b from a2).set v⟩
set_option maxRecDepth 100000 in
set_option maxHeartbeats 2000000 in
theorem agrW (cx cy : Nat) (m : Int) (K : Nat) (hK : (K : Int) < min (max m 0) 400) (hB : ∀ j, j < K → BdF cx cy j = true) (hne : BdF cx cy K ≠ BdW cx cy K) (w : World) :
    Calls Try.prog 28 #[.complex .f32 cx cy, .int .i64 m] w fun e w' => ∃ n : Nat, e = .returned (.int .i64 n) ∧ n ≤ K ∧ Below w.heap.size w w' := by
  have HB := Lib.hid hB
  have HNE := Lib.hid hne
  have HK := Lib.hid hK
  clear hB hne hK
  refine (callsIn_wide (n := 3)).1 ?_
  refine callsIn_of_wp_marks Try.func28 rfl trivial ?_ rfl
  simp only [Try.ntmps28, List.size_toArray, List.length_cons, List.length_nil, Nat.reduceAdd, Nat.reduceSub, Array.replicate_succ, Array.replicate_zero, List.push_toArray, List.append_toArray, List.nil_append, List.cons_append]
  gi_wp2
  refine wide_scope ?_
  gi_wp2_with (first | (refine ⟨trivial, ?_⟩; gi_at_call 64; refine (callsIn_wide.2 (steps_of _ _)).mono ?_; rintro e w' ⟨⟨L, hL4, hL0, rfl⟩, rfl⟩; have hL := Lib.hid hL0; clear hL0) | (refine ⟨trivial, ?_⟩; gi_at_call 27; refine (callsIn_wide.2 (widen_impl _ _ _)).mono ?_; rintro e w' ⟨rfl, rfl⟩))
  refine wpIn_label ?_
  gi_wp2_with (refine ⟨trivial, (callsIn_wide.2 (orbitOf_s _ _ _ _)).mono ?_⟩; rintro e w' ⟨rfl, t, u, rfl⟩)
  obtain ⟨vx, hvx⟩ : ∃ vx, ffV FloatKind.f32 FloatKind.f64 cx (w.alloc (Obj.cells #[Value.int IntKind.i64 L] 3)) = vx := ⟨_, rfl⟩
  obtain ⟨vy, hvy⟩ : ∃ vy, ffV FloatKind.f32 FloatKind.f64 cy ((w.alloc (Obj.cells #[Value.int IntKind.i64 L] 3)).drewN (ffN FloatKind.f32 FloatKind.f64 cx)) = vy := ⟨_, rfl⟩
  have sx : Sim D vx (widT cx) := by rw [← hvx]; exact wid_T _ _
  have sy : Sim D vy (widT cy) := by rw [← hvy]; exact wid_T _ _
  rw [hvx, hvy]
  clear hvx hvy
  obtain ⟨w0, hw0⟩ : ∃ w0, (w.alloc (Obj.cells #[Value.int IntKind.i64 L] 3)).drewN (ffN FloatKind.f32 FloatKind.f64 cx + ffN FloatKind.f32 FloatKind.f64 cy) = w0 := ⟨_, rfl⟩
  obtain ⟨w1, hw1⟩ : ∃ w1, (((w0.alloc (Obj.cells #[Value.complex FloatKind.f64 vx vy] 31)).alloc (Obj.cells #[Value.complex FloatKind.f64 0 0] 31)).alloc (Obj.cells #[Value.int IntKind.i64 0] 3)) = w1 := ⟨_, rfl⟩
  obtain ⟨w2, hw2⟩ : ∃ w2, (w1.alloc (Obj.cells #[Value.complex FloatKind.f32 cx cy] t)).alloc (Obj.cells #[Value.func (Fn.func 45) #[] #[]] u) = w2 := ⟨_, rfl⟩
  have s0 : w0.heap.size = w.heap.size + 1 := by rw [← hw0]; simp
  have s1 : w1.heap.size = w.heap.size + 4 := by rw [← hw1]; simp [s0]
  have s2 : w2.heap.size = w.heap.size + 6 := by rw [← hw2]; simp [s1]
  have a0 : Boxed w0 w.heap.size 3 (.int .i64 L) := by rw [← hw0]; exact Boxed.new w _ _
  have b0 : Boxed w1 w.heap.size 3 (.int .i64 L) := by rw [← hw1]; exact ((a0.alloc _).alloc _).alloc _
  have b1 : Boxed w1 (w.heap.size + 1) 31 (.complex .f64 vx vy) := by rw [← hw1]; have h := Boxed.new w0 31 (.complex .f64 vx vy); rw [s0] at h; exact (h.alloc _).alloc _
  have b2 : Boxed w1 (w.heap.size + 1 + 1) 31 (.complex .f64 0 0) := by rw [← hw1]; have h := Boxed.new (w0.alloc (Obj.cells #[Value.complex FloatKind.f64 vx vy] 31)) 31 (.complex .f64 0 0); rw [World.size_alloc, s0] at h; exact h.alloc _
  have b3 : Boxed w1 (w.heap.size + 1 + 1 + 1) 3 (.int .i64 0) := by rw [← hw1]; have h := Boxed.new ((w0.alloc (Obj.cells #[Value.complex FloatKind.f64 vx vy] 31)).alloc (Obj.cells #[Value.complex FloatKind.f64 0 0] 31)) 3 (.int .i64 0); rw [World.size_alloc, World.size_alloc, s0] at h; exact h
  have b4 : Boxed w2 (w.heap.size + 1 + 1 + 1 + 1) t (.complex .f32 cx cy) := by rw [← hw2]; have h := Boxed.new w1 t (.complex .f32 cx cy); rw [s1] at h; exact h.alloc _
  have b5 : Boxed w2 (w.heap.size + 1 + 1 + 1 + 1 + 1) u (.func (.func 45) #[] #[]) := by
    rw [← hw2]; have h := Boxed.new (w1.alloc (Obj.cells #[Value.complex FloatKind.f32 cx cy] t)) u (.func (.func 45) #[] #[]); rw [World.size_alloc, s1] at h; exact h
  have c0 : Boxed w2 w.heap.size 3 (.int .i64 L) := by rw [← hw2]; exact (b0.alloc _).alloc _
  have c1 : Boxed w2 (w.heap.size + 1) 31 (.complex .f64 vx vy) := by rw [← hw2]; exact (b1.alloc _).alloc _
  have c2 : Boxed w2 (w.heap.size + 1 + 1) 31 (.complex .f64 0 0) := by rw [← hw2]; exact (b2.alloc _).alloc _
  have c3 : Boxed w2 (w.heap.size + 1 + 1 + 1) 3 (.int .i64 0) := by rw [← hw2]; exact (b3.alloc _).alloc _
  have hB : Below w.heap.size w w2 := by
    have h0 : Below w.heap.size w w0 := by rw [← hw0]; exact below_drewN ((Below.refl _ w).alloc (Nat.le_refl _) _) _
    rw [← hw2, ← hw1]
    exact (((((h0.alloc (by omega) _).alloc (by simp; omega) _).alloc (by simp; omega) _).alloc (by simp; omega) _).alloc (by simp; omega) _)
  rw [hw0, hw1, hw2]
  clear hw0 hw1 hw2 a0 b0 b1 b2 b3
  refine wpIn_range_end (w := w2) rfl (by decide) (gf := 78) (lb := #[.pointer (some ⟨w.heap.size + 1 + 1 + 1 + 1 + 1, 0, none⟩), .pointer (some ⟨w.heap.size + 1 + 1 + 1 + 1, 0, none⟩)]) rfl trivial (enters_of Try.func78 (by kernel_rfl) rfl)
    (orb_s _ _ cx cy (VF cx cy) (VF_zero cx cy) w2 _ (VF_step cx cy) b5.cell b4.cell (by omega) (by omega)) KpO.trans (fun W l o h => KpO.put W l o (by omega) (by omega)) (Below.refl _ _) (by rintro k xs ⟨x, y, rfl, _⟩; rfl)
    K (by have := HK.out; omega)
    (fun k W => (k ≤ K ∧ Boxed W w.heap.size 3 (.int .i64 L) ∧ Boxed W (w.heap.size + 1) 31 (.complex .f64 vx vy) ∧ (∃ a b, Boxed W (w.heap.size + 1 + 1) 31 (.complex .f64 a b) ∧ VD vx vy k a b) ∧ Boxed W (w.heap.size + 1 + 1 + 1) 3 (.int .i64 k)) ∧ Below w.heap.size w W)
    (fun c W => (c = .exit 0 ∧ ∃ n : Nat, n ≤ K ∧ Boxed W (w.heap.size + 1 + 1 + 1) 3 (.int .i64 n)) ∧ Below w.heap.size w W)
    ?hI ?hIx (fun k W h => h.1.1) ⟨⟨by omega, c0, c1, ⟨0, 0, c2, VD_zero vx vy⟩, c3⟩, hB⟩
    (fun xs => { tmps := #[.complex .f32 cx cy, .int .i64 m, undef, undef, .int .i64 0, .pointer (some ⟨w.heap.size, 0, none⟩), .pointer (some ⟨w.heap.size + 1, 0, none⟩), .pointer (some ⟨w.heap.size + 1 + 1, 0, none⟩), .pointer (some ⟨w.heap.size + 1 + 1 + 1, 0, none⟩), xs.getD 0 undef, xs.getD 1 undef, .int .i64 m, .int .i64 L, .complex .f32 cx cy, .complex .f64 vx vy, .complex .f32 cx cy, .func (.func 78) #[] #[.pointer (some ⟨w.heap.size + 1 + 1 + 1 + 1 + 1, 0, none⟩), .pointer (some ⟨w.heap.size + 1 + 1 + 1 + 1, 0, none⟩)], xs.getD 0 undef, xs.getD 1 undef, undef, undef, undef, undef, undef, undef, undef, undef, undef, undef, undef, undef, undef, undef, undef], defers := [] }) ?assign ?body ?stop
  case hI =>
    refine OwnFrom.and (Own.from (fun s X Y row h hg hr => ?_) _) (ownFrom_below (Nat.le_refl _) (by omega))
    obtain ⟨h1, h2, h3, ⟨a, b, h4, h5⟩, h6⟩ := h
    exact ⟨h1, boxed_own _ _ (fun _ => _) s X Y row h2 hg hr, boxed_own _ _ (fun _ => _) s X Y row h3 hg hr, ⟨a, b, boxed_own _ _ (fun _ => _) s X Y row h4 hg hr, h5⟩, boxed_own _ _ (fun _ => _) s X Y row h6 hg hr⟩
  case hIx =>
    refine OwnFrom.and (Own.from (fun s X Y row h hg hr => ?_) _) (ownFrom_below (Nat.le_refl _) (by omega))
    obtain ⟨h1, n, h2, h3⟩ := h
    exact ⟨h1, n, h2, boxed_own _ _ (fun _ => _) () X Y row h3 hg hr⟩
  case assign =>
    rintro l k xs W Kx ⟨x, y, rfl, hv⟩ hKx
    gi_wp2
    exact hKx
  case body =>
    rintro l k xs W ⟨x, y, rfl, hv⟩ ⟨⟨hk, d0, d1, ⟨a, b, d2, hab⟩, d3⟩, hBW⟩
    have e0 := d0.cell
    have e1 := d1.cell
    have e2 := d2.cell
    have f2 := d2.frozen
    have e3 := d3.cell
    have f3 := d3.frozen
    have hkL : ((k : Int) == (L : Int)) = false := by have := hL.out; have := HK.out; simp; omega
    have hmx : Try.prog.follows .mixedOrders = true := by kernel_rfl
    obtain ⟨p, hp0⟩ : ∃ p, (D.order a (widT x) == some Ordering.eq) = p := ⟨_, rfl⟩
    obtain ⟨q, hq0⟩ : ∃ q, (D.order b (widT y) == some Ordering.eq) = q := ⟨_, rfl⟩
    have hp : ∀ w1, (FloatKind.f64.format.order a (ffV FloatKind.f32 FloatKind.f64 x w1) == some Ordering.eq) = p := fun w1 => by
      rw [← hp0]; exact congrArg (· == some Ordering.eq) (order_sim D gD (Sim.refl D a) (wid_T x w1))
    have hq : ∀ w1, (FloatKind.f64.format.order b (ffV FloatKind.f32 FloatKind.f64 y w1) == some Ordering.eq) = q := fun w1 => by
      rw [← hq0]; exact congrArg (· == some Ordering.eq) (order_sim D gD (Sim.refl D b) (wid_T y w1))
    have hlt : p = true → q = true → k < K := fun e1 e2 => by
      have heq : eqC .f64 a b (widT x) (widT y) = true := by
        have h : eqC .f64 a b (widT x) (widT y) = (p && q) := by rw [← hp0, ← hq0]; rfl
        rw [h, e1, e2]; rfl
      have h1 := eqC_le4 heq
      rcases Nat.lt_or_ge k K with h | h
      · exact h
      · have hkK : k = K := by omega
        rw [hkK] at hv hab
        obtain ⟨t1, t2⟩ := hv.2.2 HB.out
        obtain ⟨t3, t4, _, _⟩ := hab
        have h2 : le4 (nrm a b) = BdW cx cy K := by
          rw [← BdW_eq sx sy K]; unfold BdD nrm
          rw [mulT_sim D gD t3 t3, mulT_sim D gD t4 t4]
        have h3 : le4 (nrm (widT x) (widT y)) = BdF cx cy K := by unfold BdF; rw [widT_sim t1, widT_sim t2]
        exact absurd (by rw [← h3, ← h1, h2]) HNE.out
    have HLT := Lib.hid hlt
    have HV := Lib.hid hv
    have HAB := Lib.hid hab
    clear hv hab hlt hp0 hq0
    cases p
    · gi_wp2
      gi_region_with_o (first | (refine ⟨trivial, ?_⟩; gi_at_call 27; refine (CallsIn.inRound l (callsIn_wide.2 (widen_impl _ _ _))).mono ?_; rintro e w' ⟨rfl, rfl⟩) | (gi_at_call 27; refine (CallsIn.inRound l (callsIn_wide.2 (widen_impl _ _ _))).mono ?_; rintro e w' ⟨rfl, rfl⟩))
      all_goals gi_wp2
      all_goals exact ⟨ktrans _, ⟨rfl, k, hk, d3⟩, below_drewN hBW _⟩
    · cases q
      · gi_wp2
        gi_region_with_o (first | (refine ⟨trivial, ?_⟩; gi_at_call 27; refine (CallsIn.inRound l (callsIn_wide.2 (widen_impl _ _ _))).mono ?_; rintro e w' ⟨rfl, rfl⟩) | (gi_at_call 27; refine (CallsIn.inRound l (callsIn_wide.2 (widen_impl _ _ _))).mono ?_; rintro e w' ⟨rfl, rfl⟩))
        all_goals gi_wp2
        all_goals exact ⟨ktrans _, ⟨rfl, k, hk, d3⟩, below_drewN hBW _⟩
      · have hkK := HLT.out rfl rfl
        have hk1 : k < 500 := by have := HK.out; omega
        gi_wp2
        gi_region_with_o (first | (refine ⟨trivial, ?_⟩; gi_at_call 27; refine (CallsIn.inRound l (callsIn_wide.2 (widen_impl _ _ _))).mono ?_; rintro e w' ⟨rfl, rfl⟩) | (gi_at_call 27; refine (CallsIn.inRound l (callsIn_wide.2 (widen_impl _ _ _))).mono ?_; rintro e w' ⟨rfl, rfl⟩))
        all_goals gi_wp2_with (refine ⟨trivial, ?_⟩; gi_at_call 32; refine (CallsIn.inRound l (callsIn_wide.2 (VD_step vx vy k _ _ _ HAB.out))).mono ?_; rintro e w' ⟨x', y', m1, rfl, rfl, hab'⟩)
        all_goals
          have hb := fun n1 n2 : Nat => two_boxed (W := W) (p := w.heap.size + 1 + 1 + 1) (q := w.heap.size + 1 + 1) n1 n2 (.int .i64 ((k : Int) + 1)) (.complex .f64 x' y') (by omega) d3 d2
          refine ⟨(((ktrans _).trans ((KeepsOthers.setCell _ _ _).from _)).trans (ktrans _)).trans ((KeepsOthers.setCell _ _ _).from _), ⟨two_sets W _ _ _ _ _ _ _ (by omega) (by omega), two_sets W _ _ _ _ _ _ _ (by omega) (by omega)⟩,
            ⟨by omega, (two_sets W _ _ _ _ _ _ _ (by omega) (by omega)).trans d0, (two_sets W _ _ _ _ _ _ _ (by omega) (by omega)).trans d1, ⟨x', y', (hb _ _).2, hab'⟩, (hb _ _).1⟩, ?_⟩
          exact (below_drewN ((below_drewN hBW _).setCell (p := ⟨w.heap.size + 1 + 1 + 1, 0, none⟩) (by show w.heap.size ≤ w.heap.size + 1 + 1 + 1; omega) _) _).setCell (p := ⟨w.heap.size + 1 + 1, 0, none⟩) (by show w.heap.size ≤ w.heap.size + 1 + 1; omega) _
  case stop =>
    rintro B c W hBs ⟨⟨rfl, n, h1, h2⟩, hBW⟩ hK
    have e0 := h2.cell
    gi_wp2
    rw [Exit.noGoto_ret]
    refine ⟨by simp, .inl ⟨_, _, rfl, run_takeDeferred hK, ?_⟩⟩
    exact ⟨_, results_tmp rfl _ _ _, n, rfl, h1, hBW.trans (belowK_b (w := w2) (by omega) W B _ _ hBs hK rfl rfl)⟩
end Go.Proofs.Ytakhgppjgeeihaa
