/-
  CycleWide. Conditions: none.
-/
import Derived.Test.YtakhgppjgeeihaaOrbx
import Derived.Outline
namespace Go.Proofs.Ytakhgppjgeeihaa
open Go.RowKit Go.Shelf Fl
attribute [local go_sem] Oper.semAt_some
/-- two complex numbers of an orbit are equal -/
def eqO (cx cy j k : Nat) : Bool := eqC .f64 (orbD cx cy j).1 (orbD cx cy j).2 (orbD cx cy k).1 (orbD cx cy k).2
theorem eqC_sim {a b c d a' b' c' d' : Nat} (h1 : Sim D a a') (h2 : Sim D b b') (h3 : Sim D c c') (h4 : Sim D d d') : eqC .f64 a b c d = eqC .f64 a' b' c' d' := by
  unfold eqC
  have e1 : FloatKind.f64.format.order a c = FloatKind.f64.format.order a' c' := order_sim D gD h1 h3
  have e2 : FloatKind.f64.format.order b d = FloatKind.f64.format.order b' d' := order_sim D gD h2 h4
  rw [e1, e2]
theorem eqC_orb {cx cy j k a b c d : Nat} (h : VD cx cy j a b) (g : VD cx cy k c d) : eqC .f64 a b c d = eqO cx cy j k := eqC_sim h.1 h.2.1 g.1 g.2.1
/-- the cycle's length as CycleWide tells it: F numbers are passed over, F looked at -/
def CycAt (cx cy F : Nat) (p : Int) : Prop := (p = 0 ∧ ∀ j, 1 ≤ j → j ≤ F → eqO cx cy (F + j) F = false) ∨ ∃ q : Nat, p = q ∧ 1 ≤ q ∧ q ≤ F ∧ eqO cx cy (F + q) F = true ∧ ∀ j, 1 ≤ j → j < q → eqO cx cy (F + j) F = false
theorem CycAt.unique {cx cy F : Nat} {p q : Int} (h : CycAt cx cy F p) (k : CycAt cx cy F q) : p = q := by
  rcases h with ⟨rfl, h1⟩ | ⟨a, rfl, h1, h2, h3, h4⟩ <;> rcases k with ⟨rfl, k1⟩ | ⟨b, rfl, k1, k2, k3, k4⟩
  · rfl
  · rw [h1 b k1 k2] at k3; cases k3
  · rw [k1 a h1 h2] at h3; cases h3
  · rcases Nat.lt_trichotomy a b with h | h | h
    · rw [k4 a h1 h] at h3; cases h3
    · rw [h]
    · rw [h4 b k1 h] at k3; cases k3
set_option maxRecDepth 100000 in
set_option maxHeartbeats 2000000 in
theorem cycW (cx cy : Nat) (m : Int) (w : World) : Calls Try.prog 34 #[.complex .f64 cx cy, .int .i64 m] w fun e w' =>
    ∃ (F : Nat) (p : Int), (F : Int) = min (max m 1) 200 ∧ e = .returned (.int .i64 p) ∧ CycAt cx cy F p ∧ Below w.heap.size w w' := by
  obtain ⟨F1, hmx⟩ : ∃ F1 : Int, (if m < 1 then 1 else m) = F1 := ⟨_, rfl⟩
  obtain ⟨F, hmn⟩ : ∃ F : Nat, (if 200 < F1 then 200 else F1) = (F : Int) := ⟨(if 200 < F1 then 200 else F1).toNat, by split at hmx <;> split <;> omega⟩
  have hF : (F : Int) = min (max m 1) 200 := by split at hmx <;> split at hmn <;> omega
  have HF := Lib.hid hF
  have hF1 : 1 ≤ F := by omega
  have hF2 : F ≤ 200 := by omega
  clear hF
  refine (callsIn_wide (n := 3)).1 ?_
  refine callsIn_of_wp_marks Try.func34 rfl trivial ?_ rfl
  simp only [Try.ntmps34, List.size_toArray, List.length_cons, List.length_nil, Nat.reduceAdd, Nat.reduceSub, Array.replicate_succ, Array.replicate_zero, List.push_toArray, List.append_toArray, List.nil_append, List.cons_append]
  gi_wp2
  refine wide_scope ?_
  gi_wp2
  refine wpIn_label ?_
  clear hmx hmn
  gi_wp2_with (refine ⟨trivial, (callsIn_wide.2 (orbitOf_w _ _ _ _)).mono ?_⟩; rintro e w' ⟨rfl, t, u, rfl⟩)
  obtain ⟨w1, hw1⟩ : ∃ w1, (((w.alloc (Obj.cells #[Value.int IntKind.i64 0] 3)).alloc (Obj.cells #[Value.int IntKind.i64 F] 3)).alloc (Obj.cells #[Value.complex FloatKind.f64 0 0] 31)) = w1 := ⟨_, rfl⟩
  obtain ⟨w2, hw2⟩ : ∃ w2, (w1.alloc (Obj.cells #[Value.complex FloatKind.f64 cx cy] t)).alloc (Obj.cells #[Value.func (Fn.func 32) #[] #[]] u) = w2 := ⟨_, rfl⟩
  have s1 : w1.heap.size = w.heap.size + 3 := by rw [← hw1]; simp
  have s2 : w2.heap.size = w.heap.size + 5 := by rw [← hw2]; simp [s1]
  have b0 : Boxed w1 w.heap.size 3 (.int .i64 0) := by rw [← hw1]; exact ((Boxed.new w _ _).alloc _).alloc _
  have b1 : Boxed w1 (w.heap.size + 1) 3 (.int .i64 F) := by rw [← hw1]; have h := Boxed.new (w.alloc (Obj.cells #[Value.int IntKind.i64 0] 3)) 3 (.int .i64 F); rw [World.size_alloc] at h; exact h.alloc _
  have b2 : Boxed w1 (w.heap.size + 1 + 1) 31 (.complex .f64 0 0) := by rw [← hw1]; have h := Boxed.new ((w.alloc (Obj.cells #[Value.int IntKind.i64 0] 3)).alloc (Obj.cells #[Value.int IntKind.i64 F] 3)) 31 (.complex .f64 0 0); rw [World.size_alloc, World.size_alloc] at h; exact h
  have b3 : Boxed w2 (w.heap.size + 1 + 1 + 1) t (.complex .f64 cx cy) := by rw [← hw2]; have h := Boxed.new w1 t (.complex .f64 cx cy); rw [s1] at h; exact h.alloc _
  have b4 : Boxed w2 (w.heap.size + 1 + 1 + 1 + 1) u (.func (.func 32) #[] #[]) := by
    rw [← hw2]; have h := Boxed.new (w1.alloc (Obj.cells #[Value.complex FloatKind.f64 cx cy] t)) u (.func (.func 32) #[] #[]); rw [World.size_alloc, s1] at h; exact h
  have c0 : Boxed w2 w.heap.size 3 (.int .i64 0) := by rw [← hw2]; exact (b0.alloc _).alloc _
  have c1 : Boxed w2 (w.heap.size + 1) 3 (.int .i64 F) := by rw [← hw2]; exact (b1.alloc _).alloc _
  have c2 : Boxed w2 (w.heap.size + 1 + 1) 31 (.complex .f64 0 0) := by rw [← hw2]; exact (b2.alloc _).alloc _
  have hB : Below w.heap.size w w2 := by
    rw [← hw2, ← hw1]
    exact ((((((Below.refl _ w).alloc (Nat.le_refl _) _).alloc (by simp) _).alloc (by simp; omega) _).alloc (by simp; omega) _).alloc (by simp; omega) _)
  rw [hw1, hw2]
  clear hw1 hw2 b0 b1 b2
  refine wpIn_range_end (w := w2) rfl (by decide) (gf := 79) (lb := #[.pointer (some ⟨w.heap.size + 1 + 1 + 1 + 1, 0, none⟩), .pointer (some ⟨w.heap.size + 1 + 1 + 1, 0, none⟩)]) rfl trivial (enters_of Try.func79 (by kernel_rfl) rfl)
    (orb_w _ _ cx cy (VD cx cy) (VD_zero cx cy) w2 _ (VD_step cx cy) b4.cell b3.cell (by omega) (by omega)) KpO.trans (fun W l o h => KpO.put W l o (by omega) (by omega)) (Below.refl _ _) (by rintro k xs ⟨x, y, rfl, _⟩; rfl)
    (2 * F) (by omega)
    (fun k W => (k ≤ 2 * F ∧ (∀ j, 1 ≤ j → F + j < k → eqO cx cy (F + j) F = false) ∧ Boxed W w.heap.size 3 (.int .i64 0) ∧ Boxed W (w.heap.size + 1) 3 (.int .i64 F) ∧ ∃ a b, Boxed W (w.heap.size + 1 + 1) 31 (.complex .f64 a b) ∧ (F < k → VD cx cy F a b)) ∧ Below w.heap.size w W)
    (fun c W => ((c = .exit 0 ∧ (∀ j, 1 ≤ j → j ≤ F → eqO cx cy (F + j) F = false) ∧ Boxed W w.heap.size 3 (.int .i64 0)) ∨
      (c = .ret ∧ ∃ q : Nat, 1 ≤ q ∧ q ≤ F ∧ eqO cx cy (F + q) F = true ∧ (∀ j, 1 ≤ j → j < q → eqO cx cy (F + j) F = false) ∧ Boxed W w.heap.size 3 (.int .i64 q))) ∧ Below w.heap.size w W)
    ?hI ?hIx (fun k W h => h.1.1) ⟨⟨by omega, fun j h1 h2 => by omega, c0, c1, 0, 0, c2, fun h => by omega⟩, hB⟩
    (fun xs => { tmps := #[.complex .f64 cx cy, .int .i64 m, undef, undef, .pointer (some ⟨w.heap.size, 0, none⟩), .pointer (some ⟨w.heap.size + 1, 0, none⟩), .pointer (some ⟨w.heap.size + 1 + 1, 0, none⟩), xs.getD 0 undef, xs.getD 1 undef, .int .i64 m, .int .i64 F1, .int .i64 F, .complex .f64 cx cy, .func (.func 79) #[] #[.pointer (some ⟨w.heap.size + 1 + 1 + 1 + 1, 0, none⟩), .pointer (some ⟨w.heap.size + 1 + 1 + 1, 0, none⟩)], xs.getD 0 undef, xs.getD 1 undef, undef, undef, undef, undef, undef, undef, undef, undef, undef, undef, undef, undef, undef, undef, undef, undef, undef, undef, undef, undef, undef], defers := [] }) ?assign ?body ?stop
  case hI =>
    refine OwnFrom.and (Own.from (fun s X Y row h hg hr => ?_) _) (ownFrom_below (Nat.le_refl _) (by omega))
    obtain ⟨h1, h2, h3, h4, a, b, h5, h6⟩ := h
    exact ⟨h1, h2, boxed_own _ _ (fun _ => _) s X Y row h3 hg hr, boxed_own _ _ (fun _ => _) s X Y row h4 hg hr, a, b, boxed_own _ _ (fun _ => _) s X Y row h5 hg hr, h6⟩
  case hIx =>
    refine OwnFrom.and (Own.from (fun s X Y row h hg hr => ?_) _) (ownFrom_below (Nat.le_refl _) (by omega))
    rcases h with ⟨rfl, h1, h2⟩ | ⟨rfl, q, h1, h2, h3, h4, h5⟩
    · exact .inl ⟨rfl, h1, boxed_own _ _ (fun _ => _) () X Y row h2 hg hr⟩
    · exact .inr ⟨rfl, q, h1, h2, h3, h4, boxed_own _ _ (fun _ => _) () X Y row h5 hg hr⟩
  case assign =>
    rintro l k xs W K ⟨x, y, rfl, hv⟩ hK
    gi_wp2
    exact hK
  case body =>
    rintro l k xs W ⟨x, y, rfl, hv⟩ ⟨⟨hk, hj, d0, d1, a, b, d2, hab⟩, hBW⟩
    have e0 := d0.cell
    have f0 := d0.frozen
    have e1 := d1.cell
    have e2 := d2.cell
    have f2 := d2.frozen
    have HJ := Lib.hid hj
    have HAB := Lib.hid hab
    clear hj hab
    by_cases h1 : k < F
    · gi_wp2
      exact ⟨KeepsFrom.refl _ _, ⟨rfl, rfl⟩, ⟨by omega, fun j h1 h2 => by omega, d0, d1, a, b, d2, fun h => by omega⟩, hBW⟩
    · by_cases h2 : k = F
      · subst h2
        gi_wp2
        have g2 : Boxed (W.setCell ⟨w.heap.size + 1 + 1, 0, none⟩ (.complex .f64 x y)) (w.heap.size + 1 + 1) 31 (.complex .f64 x y) := d2.set _
        exact ⟨(KeepsOthers.setCell _ _ _).from _, ⟨Below.heap_setCell _ _ _ _ (by simp <;> omega), Below.heap_setCell _ _ _ _ (by simp <;> omega)⟩, ⟨by omega, fun j h1 h2 => by omega, d0.other (by omega) _, d1.other (by omega) _, x, y, g2, fun _ => hv⟩, hBW.setCell (p := ⟨w.heap.size + 1 + 1, 0, none⟩) (by show w.heap.size ≤ w.heap.size + 1 + 1; omega) _⟩
      · have h2' : ((k : Int) == (F : Int)) = false := by simp; omega
        obtain ⟨p, hp⟩ : ∃ p, (FloatKind.f64.format.order x a == some Ordering.eq) = p := ⟨_, rfl⟩
        obtain ⟨q, hq⟩ : ∃ q, (FloatKind.f64.format.order y b == some Ordering.eq) = q := ⟨_, rfl⟩
        have heq : eqO cx cy k F = (p && q) := by rw [← eqC_orb hv (HAB.out (by omega))]; unfold eqC; rw [hp, hq]
        have HEQ := Lib.hid heq
        clear heq
        obtain ⟨r, hr⟩ : ∃ r, k = F + r := ⟨k - F, by omega⟩
        have HR := Lib.hid hr
        cases p
        · by_cases h4 : k = 2 * F
          · have h4' : ((k : Int) == 2 * (F : Int)) = true := by simp; omega
            clear hr
            gi_wp2
            exact ⟨KeepsFrom.refl _ _, .inl ⟨rfl, fun j h1 h2 => by rcases Nat.lt_or_ge (F + j) k with h | h; exact HJ.out j h1 h; rw [show F + j = k by omega, HEQ.out]; rfl, d0⟩, hBW⟩
          · have h4' : ((k : Int) == 2 * (F : Int)) = false := by simp; omega
            clear hr
            gi_wp2
            exact ⟨KeepsFrom.refl _ _, ⟨rfl, rfl⟩, ⟨by omega, fun j h1 h2 => by rcases Nat.lt_or_ge (F + j) k with h | h; exact HJ.out j h1 h; rw [show F + j = k by omega, HEQ.out]; rfl, d0, d1, a, b, d2, fun h => HAB.out (by omega)⟩, hBW⟩
        · cases q
          · by_cases h4 : k = 2 * F
            · have h4' : ((k : Int) == 2 * (F : Int)) = true := by simp; omega
              clear hr
              gi_wp2
              exact ⟨KeepsFrom.refl _ _, .inl ⟨rfl, fun j h1 h2 => by rcases Nat.lt_or_ge (F + j) k with h | h; exact HJ.out j h1 h; rw [show F + j = k by omega, HEQ.out]; rfl, d0⟩, hBW⟩
            · have h4' : ((k : Int) == 2 * (F : Int)) = false := by simp; omega
              clear hr
              gi_wp2
              exact ⟨KeepsFrom.refl _ _, ⟨rfl, rfl⟩, ⟨by omega, fun j h1 h2 => by rcases Nat.lt_or_ge (F + j) k with h | h; exact HJ.out j h1 h; rw [show F + j = k by omega, HEQ.out]; rfl, d0, d1, a, b, d2, fun h => HAB.out (by omega)⟩, hBW⟩
          · have hsub : (k : Int) - (F : Int) = (r : Int) := by omega
            clear hr
            gi_wp2
            have g0 : Boxed (W.setCell ⟨w.heap.size, 0, none⟩ (.int .i64 r)) w.heap.size 3 (.int .i64 r) := d0.set _
            exact ⟨(KeepsOthers.setCell _ _ _).from _, .inr ⟨rfl, r, by have := HR.out; omega, by have := HR.out; omega, by have := HR.out; rw [← this]; exact HEQ.out, fun j h1 h2 => HJ.out j h1 (by have := HR.out; omega), g0⟩, hBW.setCell (p := ⟨w.heap.size, 0, none⟩) (Nat.le_refl _) _⟩
  case stop =>
    rintro B c W hBs ⟨⟨rfl, h1, h2⟩ | ⟨rfl, q, h1, h2, h3, h4, h5⟩, hBW⟩ hK
    · have e0 := h2.cell
      have f0 := h2.frozen
      gi_wp2
      rw [Exit.noGoto_ret]
      have g0 : Boxed (W.setCell ⟨w.heap.size, 0, none⟩ (.int .i64 0)) w.heap.size 3 (.int .i64 0) := h2.set _
      have hK2 := ((KeepsOthers.setCell W ⟨w.heap.size, 0, none⟩ (.int .i64 0)).from 0).same B _ (Nat.zero_le _) hK rfl
      refine ⟨by simp, .inl ⟨_, _, rfl, run_takeDeferred hK2, ?_⟩⟩
      have q0 := (g0.kept (grownBy_putObj' _ B (.deferred none)) (by intro h; cases h; omega)).cell
      refine ⟨.int .i64 0, ?_, F, 0, HF.out, rfl, .inl ⟨rfl, h1⟩, (hBW.setCell (p := ⟨w.heap.size, 0, none⟩) (Nat.le_refl _) _).trans (belowK_b (w := w2) (by omega) _ B _ _ (by omega) hK2 rfl rfl)⟩
      simp [results, Try.f34, go_sem, q0]
    · have e0 := h5.cell
      gi_wp2
      rw [Exit.noGoto_ret]
      refine ⟨by simp, .inl ⟨_, _, rfl, run_takeDeferred hK, ?_⟩⟩
      have q0 := (h5.kept (grownBy_putObj' _ B (.deferred none)) (by intro h; cases h; omega)).cell
      refine ⟨.int .i64 q, ?_, F, q, HF.out, rfl, .inr ⟨q, rfl, h1, h2, h3, h4⟩, hBW.trans (belowK_b (w := w2) (by omega) _ B _ _ (by omega) hK rfl rfl)⟩
      simp [results, Try.f34, go_sem, q0]
end Go.Proofs.Ytakhgppjgeeihaa
