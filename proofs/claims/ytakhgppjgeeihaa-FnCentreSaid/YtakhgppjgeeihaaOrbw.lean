/-
  OrbitWide. Conditions: none.
-/
import Derived.Test.YtakhgppjgeeihaaEsc2
import Derived.Maps.AppendAt
namespace Go.Proofs.Ytakhgppjgeeihaa
open Go.RowKit Go.Shelf Fl
attribute [local go_sem] Oper.semAt_some
theorem Try.info31 : (Try.prog.info? 31).map (fun i => (i.zero, i.size, i.bytes)) = some (some (.complex .f64 0 0), 1, 16) := by kernel_rfl
theorem under34 : Try.prog.underlying 34 = some (.slice 31) := by kernel_rfl
/-- words of the first numbers of an orbit -/
def OL (cx cy : Nat) (ws : List (Nat × Nat)) : Prop := ∀ j, (h : j < ws.length) → VD cx cy j ws[j].1 ws[j].2
def cv (p : Nat × Nat) : Value := .complex .f64 p.1 p.2
theorem OL.snoc {cx cy : Nat} {ws : List (Nat × Nat)} (h : OL cx cy ws) {x y : Nat} (hv : VD cx cy ws.length x y) : OL cx cy (ws ++ [(x, y)]) := by
  intro j hj
  rcases Nat.lt_or_ge j ws.length with h1 | h1
  · rw [List.getElem_append_left h1]; exact h j h1
  · have e : j = ws.length := by simp at hj; omega
    subst e
    simpa using hv
set_option maxRecDepth 100000 in
set_option maxHeartbeats 2000000 in
theorem firstW (cx cy : Nat) (n : Int) (w : World) : Calls Try.prog 66 #[.complex .f64 cx cy, .int .i64 n, .func (.func 32) #[] #[]] w fun e w' =>
    (¬ (0 ≤ n ∧ n ≤ 400) ∧ (∃ b, e = .returned (.tuple #[.slice b 0 0, .bool false])) ∧ Below w.heap.size w w') ∨
    (0 ≤ n ∧ n ≤ 400 ∧ ∃ v ws, e = .returned (.tuple #[v, .bool true]) ∧ (ws.length : Int) = n ∧ OL cx cy ws ∧ w'.ownsRow w.heap.size 31 1 v ws.length (ws.map cv) ∧ Below w.heap.size w w') := by
  by_cases hn : 0 ≤ n ∧ n ≤ 400
  · obtain ⟨h0, h1⟩ := hn
    obtain ⟨N, rfl⟩ : ∃ N : Nat, n = N := ⟨n.toNat, by omega⟩
    have hN : N ≤ 400 := by omega
    clear h0 h1
    obtain ⟨i0, hi, hz0, hz1, hz2⟩ := info_parts Try.info31
    refine Calls.mono ?_ (fun e w' h => Or.inr ⟨by omega, by omega, h⟩)
    refine (callsIn_wide (n := 3)).1 ?_
    refine callsIn_of_wp_marks Try.func66 rfl trivial ?_ rfl
    simp only [Try.ntmps66, List.size_toArray, List.length_cons, List.length_nil, Nat.reduceAdd, Nat.reduceSub, Array.replicate_succ, Array.replicate_zero, List.push_toArray, List.append_toArray, List.nil_append, List.cons_append]
    gi_wp2
    refine wide_scope ?_
    gi_wp2_with (gi_at_make; refine wpListIn_make_own _ rfl _ _ 34 rfl w.heap.size 31 i0 (.complex .f64 0 0) 1 under34 hi hz0 hz1 .i64 .i64 N N rfl rfl rfl (by rw [hz2]; omega) (by unfold maxLen; omega) (by simp) ?_; intro w1 hown1 hgrow1)
    refine wpIn_label ?_
    gi_wp2_with (refine ⟨trivial, (callsIn_wide.2 (orbitOf_w _ _ _ _)).mono ?_⟩; rintro e w' ⟨rfl, t, u, rfl⟩)
    have hN0 : ¬ ((N : Int) < 0) := by omega
    have sz : w.heap.size + 1 < w1.heap.size := by
      rcases hown1.2 with ⟨h, _⟩ | ⟨g, cap, cur, h, _, hh, _⟩
      · cases h
      · simp at h; obtain ⟨h, _⟩ := h; rw [← h] at hh; exact (Array.getElem?_eq_some_iff.1 hh).1
    have hneq : w1.heap.size ≠ w.heap.size + 1 := by omega
    have hB1 : Below w.heap.size w w1 := ((Below.refl _ w).alloc (Nat.le_refl _) (.cells #[.int .i64 N] 3)).grown hgrow1 (by simp) (by intro k e; cases e)
    have n1 : Boxed w1 w.heap.size 3 (.int .i64 N) := (Boxed.new w 3 (.int .i64 N)).kept hgrow1 (by simp)
    have lb0 := Boxed.new w1 34 (.slice (some ⟨w.heap.size + 1, 0, none⟩) 0 N)
    obtain ⟨w2, hw2⟩ : ∃ w2, w1.alloc (Obj.cells #[.slice (some ⟨w.heap.size + 1, 0, none⟩) 0 N] 34) = w2 := ⟨_, rfl⟩
    have s2 : w2.heap.size = w1.heap.size + 1 := by rw [← hw2]; simp
    have bc := Boxed.new w2 t (.complex .f64 cx cy)
    have bs := Boxed.new (w2.alloc (.cells #[.complex .f64 cx cy] t)) u (.func (.func 32) #[] #[])
    rw [World.size_alloc, s2] at bs
    rw [s2] at bc
    obtain ⟨w3, hw3⟩ : ∃ w3, (w2.alloc (.cells #[.complex .f64 cx cy] t)).alloc (.cells #[.func (.func 32) #[] #[]] u) = w3 := ⟨_, rfl⟩
    have s3 : w3.heap.size = w1.heap.size + 3 := by rw [← hw3]; simp [s2]
    have hB3 : Below w.heap.size w w3 := by
      rw [← hw3, ← hw2]; exact ((hB1.alloc (by omega) _).alloc (by simp; omega) _).alloc (by simp; omega) _
    have l3 : Boxed w3 w1.heap.size 34 (.slice (some ⟨w.heap.size + 1, 0, none⟩) 0 N) := by rw [← hw3, ← hw2]; exact (lb0.alloc _).alloc _
    have n3 : Boxed w3 w.heap.size 3 (.int .i64 N) := by rw [← hw3, ← hw2]; exact ((n1.alloc _).alloc _).alloc _
    have c3 : Boxed w3 (w1.heap.size + 1) t (.complex .f64 cx cy) := by rw [← hw3]; exact bc.alloc _
    have f3 : Boxed w3 (w1.heap.size + 1 + 1) u (.func (.func 32) #[] #[]) := by rw [← hw3]; exact bs
    have hown3 : w3.ownsRow w.heap.size 31 1 (.slice (some ⟨w.heap.size + 1, 0, none⟩) 0 N) 0 [] := by
      rw [← hw3, ← hw2]; have h := hown1; simp only [World.size_alloc] at h; exact ((h.alloc _).alloc _).alloc _
    rw [hw2, hw3]
    clear hw2 hw3 bc bs lb0 n1 hown1 hgrow1
    have hown (v : Value) (k : Nat) (ws : List (Nat × Nat)) := holdsRow_own (β := Unit) w.heap.size w1.heap.size 34 31 1 (fun _ => k) (fun _ => ws.map cv) (fun _ v' => v' = v)
    refine wpIn_range_end (w := w3) rfl (by decide) (gf := 79) (lb := #[.pointer (some ⟨w1.heap.size + 1 + 1, 0, none⟩), .pointer (some ⟨w1.heap.size + 1, 0, none⟩)]) rfl trivial (enters_of Try.func79 (by kernel_rfl) rfl)
      (orb_w _ _ cx cy (VD cx cy) (VD_zero cx cy) w3 _ (VD_step cx cy) f3.cell c3.cell (by omega) (by omega)) KpO.trans (fun W l o h => KpO.put W l o (by omega) (by omega)) (Below.refl _ _) (by rintro k xs ⟨x, y, rfl, _⟩; rfl)
      N (by omega)
      (fun k W => (k ≤ N ∧ w3.heap.size ≤ W.heap.size ∧ Boxed W w.heap.size 3 (.int .i64 N) ∧ ∃ ws, ws.length = k ∧ OL cx cy ws ∧ Boxed W w1.heap.size 34 (.slice (some ⟨w.heap.size + 1, 0, none⟩) k N) ∧ W.ownsRow w.heap.size 31 1 (.slice (some ⟨w.heap.size + 1, 0, none⟩) k N) k (ws.map cv)) ∧ Below w.heap.size w W)
      (fun c W => (c = .exit 0 ∧ ∃ ws, ws.length = N ∧ OL cx cy ws ∧ Boxed W w1.heap.size 34 (.slice (some ⟨w.heap.size + 1, 0, none⟩) N N) ∧ W.ownsRow w.heap.size 31 1 (.slice (some ⟨w.heap.size + 1, 0, none⟩) N N) N (ws.map cv)) ∧ Below w.heap.size w W)
      ?hI ?hIx (fun k W h => h.1.1) ⟨⟨by omega, Nat.le_refl _, n3, [], rfl, by intro j h; simp at h, l3, hown3⟩, hB3⟩
      (fun xs => { tmps := #[.complex .f64 cx cy, .int .i64 N, .func (.func 32) #[] #[], undef, .pointer (some ⟨w.heap.size, 0, none⟩), undef, .slice none 0 0, .bool false, .pointer (some ⟨w1.heap.size, 0, none⟩), xs.getD 0 undef, xs.getD 1 undef, .int .i64 N, .bool (decide ((N : Int) < 0)), .bool (decide ((N : Int) < 0)), .int .i64 N, .bool (decide (400 < (N : Int))), .bool (decide ((N : Int) < 0) || decide (400 < (N : Int))), undef, .int .i64 N, .slice (some ⟨w.heap.size + 1, 0, none⟩) 0 N, .complex .f64 cx cy, .func (.func 32) #[] #[], .func (.func 79) #[] #[.pointer (some ⟨w1.heap.size + 1 + 1, 0, none⟩), .pointer (some ⟨w1.heap.size + 1, 0, none⟩)], xs.getD 0 undef, xs.getD 1 undef, undef, undef, undef, undef, undef, undef, undef, undef], defers := [] }) ?assign ?body ?stop
    case hI =>
      refine OwnFrom.and (Own.from (fun s X Y row h hg hr => ?_) _) (ownFrom_below (Nat.le_refl _) (by omega))
      obtain ⟨h1, hz, h2, ws, h3, h4, h5, h6⟩ := h
      obtain ⟨v', a1, a2, rfl⟩ := hown _ s ws () X Y row ⟨_, h5, h6, rfl⟩ hg hr
      exact ⟨h1, Nat.le_trans hz hg.size, boxed_own _ _ (fun _ => _) s X Y row h2 hg hr, ws, h3, h4, a1, a2⟩
    case hIx =>
      refine OwnFrom.and (Own.from (fun s X Y row h hg hr => ?_) _) (ownFrom_below (Nat.le_refl _) (by omega))
      obtain ⟨h1, ws, h3, h4, h5, h6⟩ := h
      obtain ⟨v', a1, a2, rfl⟩ := hown _ N ws () X Y row ⟨_, h5, h6, rfl⟩ hg hr
      exact ⟨h1, ws, h3, h4, a1, a2⟩
    case assign =>
      rintro l k xs W K ⟨x, y, rfl, hv⟩ hK
      gi_wp2
      exact hK
    case body =>
      rintro l k xs W ⟨x, y, rfl, hvd⟩ ⟨⟨hk, hz, hn, ws, hlen, hol, hv, hrow⟩, hB⟩
      have hc := hv.cell
      have hnc := hn.cell
      by_cases hkN : k = N
      · subst hkN
        gi_wp2
        exact ⟨KeepsFrom.refl _ _, ⟨rfl, ws, hlen, hol, hv, hrow⟩, hB⟩
      · have hkN' : ¬ ((k : Int) = (N : Int)) := by omega
        gi_wp2_with (gi_at_builtin; refine wpListIn_append_fits _ rfl _ _ 34 rfl w.heap.size 31 i0 1 under34 hi hz1 (w.heap.size + 1) k N _ rfl (hrow.alloc _) ⟨W.heap.size, 0, none⟩ 1 1 [.complex .f64 x y] rfl rfl (cell_one_new _ _ _) (by simp [Value.oneCell']) (by omega) ?_; intro w4 hown' hgrow; have hv1 := (hv.alloc (.cells #[.complex .f64 x y] 31)).kept hgrow (by simp; omega); have hc1 := hv1.cell; have hf1 := hv1.frozen)
        have hz4 : W.heap.size + 1 ≤ w4.heap.size := by have := hgrow.size; simpa using this
        have e : ∀ i, i < W.heap.size → i ≠ w.heap.size + 1 → i ≠ w1.heap.size → (w4.setCell ⟨w1.heap.size, 0, none⟩ (.slice (some ⟨w.heap.size + 1, 0, none⟩) (k + 1) N)).heap[i]? = W.heap[i]? := fun i h1 h2 h3 =>
          ((grownBy_setCell' w4 w1.heap.size _).block i (by omega) (by simp; omega)).trans ((hgrow.block i (by simp; omega) (by simp; omega)).trans (Below.heap_alloc W _ i h1))
        have hs := (grownBy_setCell' w4 w1.heap.size (.slice (some ⟨w.heap.size + 1, 0, none⟩) (k + 1) N)).size
        have hBW : Below w.heap.size W (w4.setCell ⟨w1.heap.size, 0, none⟩ (.slice (some ⟨w.heap.size + 1, 0, none⟩) (k + 1) N)) :=
          (((Below.refl w.heap.size W).alloc hB.size _).grown hgrow (by simp; omega) (by intro j ej; cases ej; omega)).setCell (p := ⟨w1.heap.size, 0, none⟩) (by show w.heap.size ≤ w1.heap.size; omega) _
        exact ⟨⟨by omega, fun i o hi h0 _ => (e i (Array.getElem?_eq_some_iff.1 h0).1 (by omega) (by omega)).trans h0⟩, ⟨e _ (by omega) (by omega) (by omega), e _ (by omega) (by omega) (by omega)⟩,
          ⟨by omega, by omega, (e _ (by omega) (by omega) (by omega)).trans hn, ws ++ [(x, y)], by simp [hlen], hol.snoc (by rw [hlen]; exact hvd), hv1.set _,
            by rw [List.map_append]; exact hown'.kept (grownBy_setCell' w4 w1.heap.size _) (.inr (by simp [Value.ownBlock]; omega))⟩, hB.trans hBW⟩
    case stop =>
      rintro B c W hBs ⟨⟨rfl, ws, hlen, hol, hv, hrow⟩, hB⟩ hK
      have hc := hv.cell
      gi_wp2
      refine ⟨by simp, .inl ⟨_, _, rfl, run_takeDeferred hK, ?_⟩⟩
      exact ⟨_, results_tmp2 rfl _ _ _, _, ws, rfl, by rw [hlen], hol, by rw [hlen]; exact ownsRow_putObj hrow _ hK rfl, hB.trans (belowK_b (w := w3) hB3.size W B _ _ hBs hK rfl rfl)⟩
  · refine Calls.mono ?_ (fun e w' h => Or.inl ⟨hn, h⟩)
    rcases Int.lt_or_le n 0 with h | h
    · clear hn
      have h' : ¬ 0 ≤ n := by omega
      go_enter Try.func66, Try.ntmps66
      go_wp2
      refine wp_scope_straight ?_
      go_wp2
      rw [Exit.noGoto_ret]
      go_ret2
      exact ⟨⟨_, rfl⟩, ((Below.refl _ w).alloc (Nat.le_refl _) _).alloc (by simp) _⟩
    · have h1 : 400 < n := by omega
      have h' : ¬ n < 0 := by omega
      have h2 : ¬ n ≤ 400 := by omega
      clear hn
      go_enter Try.func66, Try.ntmps66
      go_wp2
      refine wp_scope_straight ?_
      go_wp2
      rw [Exit.noGoto_ret]
      go_ret2
      exact ⟨⟨_, rfl⟩, ((Below.refl _ w).alloc (Nat.le_refl _) _).alloc (by simp) _⟩
end Go.Proofs.Ytakhgppjgeeihaa
