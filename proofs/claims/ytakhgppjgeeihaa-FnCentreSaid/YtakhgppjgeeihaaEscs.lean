/-
  Where the orbit of a single number escapes, in the program. Conditions: none.
-/
import Derived.Test.YtakhgppjgeeihaaOrbs
namespace Go.Proofs.Ytakhgppjgeeihaa
open Go.RowKit Go.Shelf Fl
attribute [local go_sem] Oper.semAt_some
set_option maxRecDepth 100000 in
set_option maxHeartbeats 2000000 in
theorem escS (cx cy : Nat) (m : Int) (V : Nat → Nat → Nat → Prop) (Bd : Nat → Bool) (hV0 : V 0 0 0)
    (hs : ∀ k x y W, V k x y → Calls Try.prog 45 #[.complex .f32 x y, .complex .f32 cx cy] W fun e W' => ∃ x' y' m, e = .returned (.complex .f32 x' y') ∧ W' = W.drewN m ∧ V (k + 1) x' y')
    (hn : ∀ k x y, V k x y → (∀ j, j < k → Bd j = true) → ∀ w1 w2 W, Calls Try.prog 38 #[.complex .f64 (ffV .f32 .f64 x w1) (ffV .f32 .f64 y w2)] W fun e W' => ∃ v m, e = .returned (.float .f64 v) ∧ W' = W.drewN m ∧ le4 v = Bd k)
    (w : World) : Calls Try.prog 49 #[.complex .f32 cx cy, .int .i64 m, .func (.func 45) #[] #[]] w fun e w' =>
      ∃ (L : Nat) (i : Int) (v : Nat), (L : Int) = min (max m 0) 400 ∧ e = .returned (.tuple #[.int .i64 i, .float .f64 v]) ∧ EscAt Bd L i ∧ Below w.heap.size w w' := by
  refine (callsIn_wide (n := 3)).1 ?_
  refine callsIn_of_wp_marks Try.func49 rfl trivial ?_ rfl
  simp only [Try.ntmps49, List.size_toArray, List.length_cons, List.length_nil, Nat.reduceAdd, Nat.reduceSub, Array.replicate_succ, Array.replicate_zero, List.push_toArray, List.append_toArray, List.nil_append, List.cons_append]
  gi_wp2
  refine wide_scope ?_
  gi_wp2_with (refine ⟨trivial, (callsIn_wide.2 (steps_of _ _)).mono ?_⟩; rintro e w' ⟨⟨L, hL4, hL0, rfl⟩, rfl⟩; have hL := Lib.hid hL0; clear hL0)
  refine wpIn_label ?_
  gi_wp2_with (refine ⟨trivial, (callsIn_wide.2 (orbitOf_s _ _ _ _)).mono ?_⟩; rintro e w' ⟨rfl, t, u, rfl⟩)
  obtain ⟨w1, hw1⟩ : ∃ w1, (((w.alloc (Obj.cells #[Value.int IntKind.i64 0] 3)).alloc (Obj.cells #[Value.float FloatKind.f64 0] 47)).alloc (Obj.cells #[Value.int IntKind.i64 L] 3)) = w1 := ⟨_, rfl⟩
  obtain ⟨w2, hw2⟩ : ∃ w2, (w1.alloc (Obj.cells #[Value.complex FloatKind.f32 cx cy] t)).alloc (Obj.cells #[Value.func (Fn.func 45) #[] #[]] u) = w2 := ⟨_, rfl⟩
  have s1 : w1.heap.size = w.heap.size + 3 := by rw [← hw1]; simp
  have s2 : w2.heap.size = w.heap.size + 5 := by rw [← hw2]; simp [s1]
  have b0 : Boxed w1 w.heap.size 3 (.int .i64 0) := by rw [← hw1]; exact ((Boxed.new w _ _).alloc _).alloc _
  have b1 : Boxed w1 (w.heap.size + 1) 47 (.float .f64 0) := by rw [← hw1]; have h := Boxed.new (w.alloc (Obj.cells #[Value.int IntKind.i64 0] 3)) 47 (.float .f64 0); rw [World.size_alloc] at h; exact h.alloc _
  have b2 : Boxed w1 (w.heap.size + 1 + 1) 3 (.int .i64 L) := by rw [← hw1]; have h := Boxed.new ((w.alloc (Obj.cells #[Value.int IntKind.i64 0] 3)).alloc (Obj.cells #[Value.float FloatKind.f64 0] 47)) 3 (.int .i64 L); rw [World.size_alloc, World.size_alloc] at h; exact h
  have b3 : Boxed w2 (w.heap.size + 1 + 1 + 1) t (.complex .f32 cx cy) := by rw [← hw2]; have h := Boxed.new w1 t (.complex .f32 cx cy); rw [s1] at h; exact h.alloc _
  have b4 : Boxed w2 (w.heap.size + 1 + 1 + 1 + 1) u (.func (.func 45) #[] #[]) := by
    rw [← hw2]; have h := Boxed.new (w1.alloc (Obj.cells #[Value.complex FloatKind.f32 cx cy] t)) u (.func (.func 45) #[] #[]); rw [World.size_alloc, s1] at h; exact h
  have c0 : Boxed w2 w.heap.size 3 (.int .i64 0) := by rw [← hw2]; exact (b0.alloc _).alloc _
  have c1 : Boxed w2 (w.heap.size + 1) 47 (.float .f64 0) := by rw [← hw2]; exact (b1.alloc _).alloc _
  have c2 : Boxed w2 (w.heap.size + 1 + 1) 3 (.int .i64 L) := by rw [← hw2]; exact (b2.alloc _).alloc _
  have hB : Below w.heap.size w w2 := by
    rw [← hw2, ← hw1]
    exact ((((((Below.refl _ w).alloc (Nat.le_refl _) _).alloc (by simp) _).alloc (by simp; omega) _).alloc (by simp; omega) _).alloc (by simp; omega) _)
  rw [hw1, hw2]
  clear hw1 hw2 b0 b1 b2
  refine wpIn_range_end (w := w2) rfl (by decide) (gf := 78) (lb := #[.pointer (some ⟨w.heap.size + 1 + 1 + 1 + 1, 0, none⟩), .pointer (some ⟨w.heap.size + 1 + 1 + 1, 0, none⟩)]) rfl trivial (enters_of Try.func78 (by kernel_rfl) rfl)
    (orb_s _ _ cx cy V hV0 w2 _ hs b4.cell b3.cell (by omega) (by omega)) KpO.trans (fun W l o h => KpO.put W l o (by omega) (by omega)) (Below.refl _ _) (by rintro k xs ⟨x, y, rfl, _⟩; rfl)
    (L + 1) (by omega)
    (fun k W => (k ≤ L + 1 ∧ (∀ j, j < k → Bd j = true) ∧ Boxed W w.heap.size 3 (.int .i64 0) ∧ Boxed W (w.heap.size + 1) 47 (.float .f64 0) ∧ Boxed W (w.heap.size + 1 + 1) 3 (.int .i64 L)) ∧ Below w.heap.size w W)
    (fun c W => ((c = .exit 0 ∧ (∀ j, j ≤ L → Bd j = true) ∧ Boxed W w.heap.size 3 (.int .i64 0) ∧ Boxed W (w.heap.size + 1) 47 (.float .f64 0)) ∨
      (c = .ret ∧ ∃ k v : Nat, k ≤ L ∧ Bd k = false ∧ (∀ j, j < k → Bd j = true) ∧ Boxed W w.heap.size 3 (.int .i64 k) ∧ Boxed W (w.heap.size + 1) 47 (.float .f64 v))) ∧ Below w.heap.size w W)
    ?hI ?hIx (fun k W h => h.1.1) ⟨⟨by omega, by simp, c0, c1, c2⟩, hB⟩
    (fun xs => { tmps := #[.complex .f32 cx cy, .int .i64 m, .func (.func 45) #[] #[], undef, undef, undef, .pointer (some ⟨w.heap.size, 0, none⟩), .pointer (some ⟨w.heap.size + 1, 0, none⟩), .pointer (some ⟨w.heap.size + 1 + 1, 0, none⟩), xs.getD 0 undef, xs.getD 1 undef, undef, .int .i64 m, .int .i64 L, .complex .f32 cx cy, .func (.func 45) #[] #[], .func (.func 78) #[] #[.pointer (some ⟨w.heap.size + 1 + 1 + 1 + 1, 0, none⟩), .pointer (some ⟨w.heap.size + 1 + 1 + 1, 0, none⟩)], xs.getD 0 undef, xs.getD 1 undef, undef, undef, undef, undef, undef, undef, undef, undef, undef, undef, undef], defers := [] }) ?assign ?body ?stop
  case hI => exact OwnFrom.and (Own.from (fun s X Y row h hg hr => ⟨h.1, h.2.1, boxed_own _ _ (fun _ => _) s X Y row h.2.2.1 hg hr, boxed_own _ _ (fun _ => _) s X Y row h.2.2.2.1 hg hr, boxed_own _ _ (fun _ => _) s X Y row h.2.2.2.2 hg hr⟩) _) (ownFrom_below (Nat.le_refl _) (by omega))
  case hIx =>
    refine OwnFrom.and (Own.from (fun s X Y row h hg hr => ?_) _) (ownFrom_below (Nat.le_refl _) (by omega))
    rcases h with ⟨rfl, h1, h2, h3⟩ | ⟨rfl, k, v, h1, h2, h3, h4, h5⟩
    · exact .inl ⟨rfl, h1, boxed_own _ _ (fun _ => _) () X Y row h2 hg hr, boxed_own _ _ (fun _ => _) () X Y row h3 hg hr⟩
    · exact .inr ⟨rfl, k, v, h1, h2, h3, boxed_own _ _ (fun _ => _) () X Y row h4 hg hr, boxed_own _ _ (fun _ => _) () X Y row h5 hg hr⟩
  case assign =>
    rintro l k xs W K ⟨x, y, rfl, hv⟩ hK
    gi_wp2
    exact hK
  case body =>
    rintro l k xs W ⟨x, y, rfl, hv⟩ ⟨⟨hk, hj, d0, d1, d2⟩, hBW⟩
    have e2 := d2.cell
    have e0 := d0.cell
    have f0 := d0.frozen
    have e1 := d1.cell
    have f1 := d1.frozen
    have e3 : ∀ m v, ((W.drewN m).setCell ⟨w.heap.size, 0, none⟩ v).cell? ⟨w.heap.size + 1, 0, none⟩ = some (.float .f64 0) := fun m v => ((show Boxed (W.drewN m) _ _ _ from d1).other (by omega) v).cell
    have hnk := hn k x y hv hj
    clear hn hs
    gi_wp2_with (first
      | (refine ⟨trivial, (CallsIn.inRound l (callsIn_wide.2 (inWidth_wid _ _ _))).mono ?_⟩; rintro e w' ⟨rfl, rfl⟩)
      | (refine ⟨trivial, (CallsIn.inRound l (callsIn_wide.2 (hnk _ _ _))).mono ?_⟩; rintro e w' ⟨v, m1, rfl, rfl, hle⟩))
    · exact ⟨KeepsFrom.refl _ _, .inl ⟨rfl, fun j h => hj j (by omega), d0, d1⟩, hBW⟩
    · rename_i hx
      have hf : Bd k = false := by rw [← hle]; unfold le4; simp at hx; simp [hx]
      have g0 : Boxed ((W.drewN (ffN .f32 .f64 x + ffN .f32 .f64 y + m1)).setCell ⟨w.heap.size, 0, none⟩ (.int .i64 k)) w.heap.size 3 (.int .i64 k) := (show Boxed (W.drewN (ffN .f32 .f64 x + ffN .f32 .f64 y + m1)) _ _ _ from d0).set _
      have g1 : Boxed ((W.drewN (ffN .f32 .f64 x + ffN .f32 .f64 y + m1)).setCell ⟨w.heap.size, 0, none⟩ (.int .i64 k)) (w.heap.size + 1) 47 (.float .f64 0) := (show Boxed (W.drewN (ffN .f32 .f64 x + ffN .f32 .f64 y + m1)) _ _ _ from d1).other (by omega) _
      exact ⟨((ktrans _).trans ((KeepsOthers.setCell _ _ _).from _)).trans ((KeepsOthers.setCell _ _ _).from _), .inr ⟨rfl, k, v, by omega, hf, hj, g0.other (by omega) _, g1.set _⟩,
        ((below_drewN hBW _).setCell (p := ⟨w.heap.size, 0, none⟩) (Nat.le_refl _) _).setCell (p := ⟨w.heap.size + 1, 0, none⟩) (Nat.le_succ _) _⟩
    · rename_i hx
      have hf : Bd k = true := by rw [← hle]; unfold le4; simp at hx; rcases hx with h | h <;> simp [h]
      have hjk : ∀ j, j < k + 1 → Bd j = true := fun j h => by
        rcases Nat.lt_or_ge j k with h1 | h1
        · exact hj j h1
        · rw [show j = k by omega]; exact hf
      exact ⟨ktrans _, ⟨rfl, rfl⟩, ⟨by omega, hjk, d0, d1, d2⟩, below_drewN hBW _⟩
  case stop =>
    rintro B c W hBs ⟨⟨rfl, h1, h2, h3⟩ | ⟨rfl, k, v, h1, h2, h3, h4, h5⟩, hBW⟩ hK
    · have e0 := h2.cell
      have f0 := h2.frozen
      have e1 := h3.cell
      have f1 := h3.frozen
      have e3 : ∀ v, (W.setCell ⟨w.heap.size, 0, none⟩ v).cell? ⟨w.heap.size + 1, 0, none⟩ = some (.float .f64 0) := fun v => (h3.other (by omega) v).cell
      gi_wp2
      rw [Exit.noGoto_ret]
      have g0 : Boxed (W.setCell ⟨w.heap.size, 0, none⟩ (.int .i64 (-1))) w.heap.size 3 (.int .i64 (-1)) := h2.set _
      have g1 : Boxed (W.setCell ⟨w.heap.size, 0, none⟩ (.int .i64 (-1))) (w.heap.size + 1) 47 (.float .f64 0) := h3.other (by omega) _
      have k0 := g0.other (B' := w.heap.size + 1) (by omega) (.float .f64 0)
      have k1 := g1.set (.float .f64 0)
      have hK2 := (((KeepsOthers.setCell W ⟨w.heap.size, 0, none⟩ (.int .i64 (-1))).from 0).trans ((KeepsOthers.setCell _ ⟨w.heap.size + 1, 0, none⟩ (.float .f64 0)).from 0)).same B _ (Nat.zero_le _) hK rfl
      refine ⟨by simp, .inl ⟨_, _, rfl, run_takeDeferred hK2, ?_⟩⟩
      have q0 := (k0.kept (grownBy_putObj' _ B (.deferred none)) (by intro h; cases h; omega)).cell
      have q1 := (k1.kept (grownBy_putObj' _ B (.deferred none)) (by intro h; cases h; omega)).cell
      refine ⟨.tuple #[.int .i64 (-1), .float .f64 0], ?_, L, -1, 0, hL.out, rfl, .inl ⟨rfl, h1⟩, ((hBW.setCell (p := ⟨w.heap.size, 0, none⟩) (Nat.le_refl _) _).setCell (p := ⟨w.heap.size + 1, 0, none⟩) (Nat.le_succ _) _).trans (belowK_b (w := w2) (by omega) _ B _ _ (by omega) hK2 rfl rfl)⟩
      simp [results, Try.f49, go_sem, q0, q1]
    · have e0 := h4.cell
      have e1 := h5.cell
      gi_wp2
      rw [Exit.noGoto_ret]
      refine ⟨by simp, .inl ⟨_, _, rfl, run_takeDeferred hK, ?_⟩⟩
      have q0 := (h4.kept (grownBy_putObj' _ B (.deferred none)) (by intro h; cases h; omega)).cell
      have q1 := (h5.kept (grownBy_putObj' _ B (.deferred none)) (by intro h; cases h; omega)).cell
      refine ⟨.tuple #[.int .i64 k, .float .f64 v], ?_, L, k, v, hL.out, rfl, .inr ⟨k, h1, rfl, h2, h3⟩, hBW.trans (belowK_b (w := w2) (by omega) _ B _ _ (by omega) hK rfl rfl)⟩
      simp [results, Try.f49, go_sem, q0, q1]
end Go.Proofs.Ytakhgppjgeeihaa
