/-
  The walk of FnExactBoxAdd: it returns true. Conditions: none.
-/
import Derived.Test.YtjhleindjllibaaExact3
import Derived.Deep.DeepCutAuto
namespace Go.Proofs.Ytjhleindjllibaa
open Go.ChangeShapes Go.WideShapes Go.ChangeAt Go.RowKit

theorem addV_form (a b c d a' b' c' d' : Int) : ∃ x y z u r, addV a b c d a' b' c' d' = .tuple #[bx x y z u, .bool r] := by
  unfold addV; split
  · exact doneV_form _ _ _ _
  · exact ⟨_, _, _, _, _, rfl⟩
theorem toBox_ex (a b c d : Int) (w : World) : Calls Try.prog 19 #[bx a b c d] w fun e w' => e = .returned (bx a b c d) ∧ w' = ((w.alloc (Obj.cells #[.int .i64 a, .int .i64 b, .int .i64 c, .int .i64 d] 30)).alloc (Obj.cells #[.int .i64 a, .int .i64 b, .int .i64 c, .int .i64 d] 32)).alloc (Obj.cells #[.int .i64 a, .int .i64 b, .int .i64 c, .int .i64 d] 32) := by
  go_enter Try.func19, Try.ntmps19
  go_wp2
  go_returns
  exact ⟨rfl, rfl⟩
theorem s8_below {w W W' : World} {a b c d a' b' c' d' : Int} (hb : Below W.heap.size W W') (h : (W.cell? ⟨w.heap.size, 0, none⟩ = some (.int .i64 a) ∧ W.cell? ⟨w.heap.size, 1, none⟩ = some (.int .i64 b) ∧ W.cell? ⟨w.heap.size, 2, none⟩ = some (.int .i64 c) ∧ W.cell? ⟨w.heap.size, 3, none⟩ = some (.int .i64 d) ∧ W.cell? ⟨w.heap.size + 1, 0, none⟩ = some (.int .i64 a') ∧ W.cell? ⟨w.heap.size + 1, 1, none⟩ = some (.int .i64 b') ∧ W.cell? ⟨w.heap.size + 1, 2, none⟩ = some (.int .i64 c') ∧ W.cell? ⟨w.heap.size + 1, 3, none⟩ = some (.int .i64 d'))) : (W'.cell? ⟨w.heap.size, 0, none⟩ = some (.int .i64 a) ∧ W'.cell? ⟨w.heap.size, 1, none⟩ = some (.int .i64 b) ∧ W'.cell? ⟨w.heap.size, 2, none⟩ = some (.int .i64 c) ∧ W'.cell? ⟨w.heap.size, 3, none⟩ = some (.int .i64 d) ∧ W'.cell? ⟨w.heap.size + 1, 0, none⟩ = some (.int .i64 a') ∧ W'.cell? ⟨w.heap.size + 1, 1, none⟩ = some (.int .i64 b') ∧ W'.cell? ⟨w.heap.size + 1, 2, none⟩ = some (.int .i64 c') ∧ W'.cell? ⟨w.heap.size + 1, 3, none⟩ = some (.int .i64 d')) := by
  obtain ⟨h0, h1, h2, h3, k0, k1, k2, k3⟩ := h
  exact ⟨cell_below hb h0, cell_below hb h1, cell_below hb h2, cell_below hb h3, cell_below hb k0, cell_below hb k1, cell_below hb k2, cell_below hb k3⟩
theorem s8_start (w : World) (a b c d a' b' c' d' : Int) : ∃ W, (w.alloc (.cells #[.int .i64 a, .int .i64 b, .int .i64 c, .int .i64 d] 30)).alloc (.cells #[.int .i64 a', .int .i64 b', .int .i64 c', .int .i64 d'] 30) = W ∧ (W.cell? ⟨w.heap.size, 0, none⟩ = some (.int .i64 a) ∧ W.cell? ⟨w.heap.size, 1, none⟩ = some (.int .i64 b) ∧ W.cell? ⟨w.heap.size, 2, none⟩ = some (.int .i64 c) ∧ W.cell? ⟨w.heap.size, 3, none⟩ = some (.int .i64 d) ∧ W.cell? ⟨w.heap.size + 1, 0, none⟩ = some (.int .i64 a') ∧ W.cell? ⟨w.heap.size + 1, 1, none⟩ = some (.int .i64 b') ∧ W.cell? ⟨w.heap.size + 1, 2, none⟩ = some (.int .i64 c') ∧ W.cell? ⟨w.heap.size + 1, 3, none⟩ = some (.int .i64 d')) ∧ w.heap.size + 1 < W.heap.size ∧ Below w.heap.size w W := by
  obtain ⟨p0, p1, p2, p3, _⟩ := cells4 w _ rfl (.int .i64 a) (.int .i64 b) (.int .i64 c) (.int .i64 d) 30
  obtain ⟨W1, hW1⟩ : ∃ W1, w.alloc (.cells #[.int .i64 a, .int .i64 b, .int .i64 c, .int .i64 d] 30) = W1 := ⟨_, rfl⟩
  have s1 : W1.heap.size = w.heap.size + 1 := by rw [← hW1]; simp
  have b1 : Below w.heap.size w W1 := by rw [← hW1]; exact (Below.refl _ w).alloc (Nat.le_refl _) _
  rw [hW1] at p0 p1 p2 p3 ⊢
  obtain ⟨q0, q1, q2, q3, _⟩ := cells4 W1 _ s1 (.int .i64 a') (.int .i64 b') (.int .i64 c') (.int .i64 d') 30
  exact ⟨_, rfl, ⟨cell_up p0 _, cell_up p1 _, cell_up p2 _, cell_up p3 _, q0, q1, q2, q3⟩, by simp [s1], b1.alloc (by omega) _⟩
theorem set4 (W : World) (k : Nat) (x y z u : Value) (h0 : W.cell? ⟨k, 0, none⟩ = some (.int .i64 0)) (h1 : W.cell? ⟨k, 1, none⟩ = some (.int .i64 0)) (h2 : W.cell? ⟨k, 2, none⟩ = some (.int .i64 0)) (h3 : W.cell? ⟨k, 3, none⟩ = some (.int .i64 0)) :
    ((((W.setCell ⟨k, 0, none⟩ x).setCell ⟨k, 1, none⟩ y).setCell ⟨k, 2, none⟩ z).setCell ⟨k, 3, none⟩ u).cell? ⟨k, 0, none⟩ = some x ∧ ((((W.setCell ⟨k, 0, none⟩ x).setCell ⟨k, 1, none⟩ y).setCell ⟨k, 2, none⟩ z).setCell ⟨k, 3, none⟩ u).cell? ⟨k, 1, none⟩ = some y ∧
    ((((W.setCell ⟨k, 0, none⟩ x).setCell ⟨k, 1, none⟩ y).setCell ⟨k, 2, none⟩ z).setCell ⟨k, 3, none⟩ u).cell? ⟨k, 2, none⟩ = some z ∧ ((((W.setCell ⟨k, 0, none⟩ x).setCell ⟨k, 1, none⟩ y).setCell ⟨k, 2, none⟩ z).setCell ⟨k, 3, none⟩ u).cell? ⟨k, 3, none⟩ = some u := by
  have ne : ∀ i j : Nat, i ≠ j → (⟨k, i, none⟩ : Addr) ≠ ⟨k, j, none⟩ := fun i j h e => by injection e with _ e2 _; exact h e2
  have o : ∀ (V : World) (i j : Nat) (v : Value), i ≠ j → (V.setCell ⟨k, i, none⟩ v).cell? ⟨k, j, none⟩ = V.cell? ⟨k, j, none⟩ := fun V i j v h => World.cell?_setCell_other _ _ _ _ (ne i j h)
  refine ⟨?_, ?_, ?_, ?_⟩
  · rw [o _ 3 0 _ (by decide), o _ 2 0 _ (by decide), o _ 1 0 _ (by decide)]; exact World.cell?_setCell_same _ _ _ h0
  · rw [o _ 3 1 _ (by decide), o _ 2 1 _ (by decide)]; exact World.cell?_setCell_same _ _ _ (by rw [o _ 0 1 _ (by decide)]; exact h1)
  · rw [o _ 3 2 _ (by decide)]; exact World.cell?_setCell_same _ _ _ (by rw [o _ 1 2 _ (by decide), o _ 0 2 _ (by decide)]; exact h2)
  · exact World.cell?_setCell_same _ _ _ (by rw [o _ 2 3 _ (by decide), o _ 1 3 _ (by decide), o _ 0 3 _ (by decide)]; exact h3)
theorem eqBox_any (a b c d : Int) (w : World) : Calls Try.prog 32 #[bx a b c d, bx a b c d] w fun e w' => e = .returned (.bool true) ∧ Below w.heap.size w w' := by
  go_enter Try.func32, Try.ntmps32
  go_wp2
  go_ret
  exact ⟨rfl, by go_grown⟩
set_option maxHeartbeats 2000000 in
theorem walkBoxAdd (a b c d a' b' c' d' : Int) (w : World) : Calls Try.prog 9 #[bx a b c d, bx a' b' c' d'] w fun e w' => e = .returned (.bool true) ∧ Below w.heap.size w w' := by
  have h1 := fun w => spec_add a b c d a' b' c' d' w
  have h2 := fun w => impl_add a b c d a' b' c' d' w
  obtain ⟨x, y, z, u, r, hr⟩ := addV_form a b c d a' b' c' d'
  rw [hr] at h1 h2
  have H1 := Lib.hid h1
  have H2 := Lib.hid h2
  clear h1 h2 hr
  go_enter Try.func9, Try.ntmps9
  go_wp2_with fail
  obtain ⟨W2, hW2, hS2, hl2, hB2⟩ := s8_start w a b c d a' b' c' d'
  rw [hW2]
  clear hW2
  have HB2 := Lib.hid hB2
  clear hB2
  go_cut [5, 6] (fun s5 s6 wx => ∃ k : Nat, s5 = .pointer (some ⟨k, 0, none⟩) ∧ s6 = .bool r ∧ (wx.cell? ⟨w.heap.size, 0, none⟩ = some (.int .i64 a) ∧ wx.cell? ⟨w.heap.size, 1, none⟩ = some (.int .i64 b) ∧ wx.cell? ⟨w.heap.size, 2, none⟩ = some (.int .i64 c) ∧ wx.cell? ⟨w.heap.size, 3, none⟩ = some (.int .i64 d) ∧ wx.cell? ⟨w.heap.size + 1, 0, none⟩ = some (.int .i64 a') ∧ wx.cell? ⟨w.heap.size + 1, 1, none⟩ = some (.int .i64 b') ∧ wx.cell? ⟨w.heap.size + 1, 2, none⟩ = some (.int .i64 c') ∧ wx.cell? ⟨w.heap.size + 1, 3, none⟩ = some (.int .i64 d')) ∧ (wx.cell? ⟨k, 0, none⟩ = some (.int .i64 x) ∧ wx.cell? ⟨k, 1, none⟩ = some (.int .i64 y) ∧ wx.cell? ⟨k, 2, none⟩ = some (.int .i64 z) ∧ wx.cell? ⟨k, 3, none⟩ = some (.int .i64 u)) ∧ w.heap.size + 1 < k ∧ Below W2.heap.size W2 wx)
  case first =>
    go_region_held3 (fun w' => (w'.cell? ⟨w.heap.size, 0, none⟩ = some (.int .i64 a) ∧ w'.cell? ⟨w.heap.size, 1, none⟩ = some (.int .i64 b) ∧ w'.cell? ⟨w.heap.size, 2, none⟩ = some (.int .i64 c) ∧ w'.cell? ⟨w.heap.size, 3, none⟩ = some (.int .i64 d) ∧ w'.cell? ⟨w.heap.size + 1, 0, none⟩ = some (.int .i64 a') ∧ w'.cell? ⟨w.heap.size + 1, 1, none⟩ = some (.int .i64 b') ∧ w'.cell? ⟨w.heap.size + 1, 2, none⟩ = some (.int .i64 c') ∧ w'.cell? ⟨w.heap.size + 1, 3, none⟩ = some (.int .i64 d'))) (repeat (first | (with_reducible assumption) | (with_reducible refine s8_up _ ?_) | (with_reducible refine s8_dr ?_) | (with_reducible refine s8_drN _ ?_) | (with_reducible refine s8_set _ _ _ (by omega) (by omega) ?_))) (first
      | (go_at_call 19; refine (toBox_ex _ _ _ _ _).mono ?_; rintro e w9 ⟨rfl, rfl⟩)
      | (go_at_call 30; refine (H1.out _).mono ?_; rintro e w9 ⟨rfl, hb9⟩; have s9 := s8_below hb9 (by assumption); obtain ⟨hc9, hf9⟩ := bcell hb9; have b9 := Lib.hid (show Below W2.heap.size W2 w9 from below_step (by go_grown) hb9); have z9 : W2.heap.size ≤ w9.heap.size := b9.out.size))
    all_goals
      go_wp2
      go_meet
      case rel =>
        refine ⟨_, rfl, rfl, ?_, ⟨?_, ?_, ?_, ?_⟩, ?_, ?_⟩
        case refine_1 => (repeat (first | (with_reducible assumption) | (with_reducible refine s8_up _ ?_) | (with_reducible refine s8_dr ?_) | (with_reducible refine s8_drN _ ?_) | (with_reducible refine s8_set _ _ _ (by omega) (by omega) ?_)))
        case refine_2 => first | ((repeat (first | (with_reducible refine cell_dr ?_) | (with_reducible refine cell_drN _ ?_) | (with_reducible refine (cells4 _ _ ?_ _ _ _ _ _).1; simp; done) | (with_reducible refine (cells4 _ _ ?_ _ _ _ _ _).2.1; simp; done) | (with_reducible refine (cells4 _ _ ?_ _ _ _ _ _).2.2.1; simp; done) | (with_reducible refine (cells4 _ _ ?_ _ _ _ _ _).2.2.2.1; simp; done) | (with_reducible refine cell_up ?_ _))); done) | ((repeat (first | (with_reducible refine cell_dr ?_) | (with_reducible refine cell_drN _ ?_))); refine (set4 w9 _ _ _ _ _ ?_ ?_ ?_ ?_).1 <;> (refine cell_below hb9 ?_; (repeat (first | (with_reducible refine cell_dr ?_) | (with_reducible refine cell_drN _ ?_) | (with_reducible refine (cells4 _ _ ?_ _ _ _ _ _).1; simp; done) | (with_reducible refine (cells4 _ _ ?_ _ _ _ _ _).2.1; simp; done) | (with_reducible refine (cells4 _ _ ?_ _ _ _ _ _).2.2.1; simp; done) | (with_reducible refine (cells4 _ _ ?_ _ _ _ _ _).2.2.2.1; simp; done) | (with_reducible refine cell_up ?_ _)))))
        case refine_3 => first | ((repeat (first | (with_reducible refine cell_dr ?_) | (with_reducible refine cell_drN _ ?_) | (with_reducible refine (cells4 _ _ ?_ _ _ _ _ _).1; simp; done) | (with_reducible refine (cells4 _ _ ?_ _ _ _ _ _).2.1; simp; done) | (with_reducible refine (cells4 _ _ ?_ _ _ _ _ _).2.2.1; simp; done) | (with_reducible refine (cells4 _ _ ?_ _ _ _ _ _).2.2.2.1; simp; done) | (with_reducible refine cell_up ?_ _))); done) | ((repeat (first | (with_reducible refine cell_dr ?_) | (with_reducible refine cell_drN _ ?_))); refine (set4 w9 _ _ _ _ _ ?_ ?_ ?_ ?_).2.1 <;> (refine cell_below hb9 ?_; (repeat (first | (with_reducible refine cell_dr ?_) | (with_reducible refine cell_drN _ ?_) | (with_reducible refine (cells4 _ _ ?_ _ _ _ _ _).1; simp; done) | (with_reducible refine (cells4 _ _ ?_ _ _ _ _ _).2.1; simp; done) | (with_reducible refine (cells4 _ _ ?_ _ _ _ _ _).2.2.1; simp; done) | (with_reducible refine (cells4 _ _ ?_ _ _ _ _ _).2.2.2.1; simp; done) | (with_reducible refine cell_up ?_ _)))))
        case refine_4 => first | ((repeat (first | (with_reducible refine cell_dr ?_) | (with_reducible refine cell_drN _ ?_) | (with_reducible refine (cells4 _ _ ?_ _ _ _ _ _).1; simp; done) | (with_reducible refine (cells4 _ _ ?_ _ _ _ _ _).2.1; simp; done) | (with_reducible refine (cells4 _ _ ?_ _ _ _ _ _).2.2.1; simp; done) | (with_reducible refine (cells4 _ _ ?_ _ _ _ _ _).2.2.2.1; simp; done) | (with_reducible refine cell_up ?_ _))); done) | ((repeat (first | (with_reducible refine cell_dr ?_) | (with_reducible refine cell_drN _ ?_))); refine (set4 w9 _ _ _ _ _ ?_ ?_ ?_ ?_).2.2.1 <;> (refine cell_below hb9 ?_; (repeat (first | (with_reducible refine cell_dr ?_) | (with_reducible refine cell_drN _ ?_) | (with_reducible refine (cells4 _ _ ?_ _ _ _ _ _).1; simp; done) | (with_reducible refine (cells4 _ _ ?_ _ _ _ _ _).2.1; simp; done) | (with_reducible refine (cells4 _ _ ?_ _ _ _ _ _).2.2.1; simp; done) | (with_reducible refine (cells4 _ _ ?_ _ _ _ _ _).2.2.2.1; simp; done) | (with_reducible refine cell_up ?_ _)))))
        case refine_5 => first | ((repeat (first | (with_reducible refine cell_dr ?_) | (with_reducible refine cell_drN _ ?_) | (with_reducible refine (cells4 _ _ ?_ _ _ _ _ _).1; simp; done) | (with_reducible refine (cells4 _ _ ?_ _ _ _ _ _).2.1; simp; done) | (with_reducible refine (cells4 _ _ ?_ _ _ _ _ _).2.2.1; simp; done) | (with_reducible refine (cells4 _ _ ?_ _ _ _ _ _).2.2.2.1; simp; done) | (with_reducible refine cell_up ?_ _))); done) | ((repeat (first | (with_reducible refine cell_dr ?_) | (with_reducible refine cell_drN _ ?_))); refine (set4 w9 _ _ _ _ _ ?_ ?_ ?_ ?_).2.2.2 <;> (refine cell_below hb9 ?_; (repeat (first | (with_reducible refine cell_dr ?_) | (with_reducible refine cell_drN _ ?_) | (with_reducible refine (cells4 _ _ ?_ _ _ _ _ _).1; simp; done) | (with_reducible refine (cells4 _ _ ?_ _ _ _ _ _).2.1; simp; done) | (with_reducible refine (cells4 _ _ ?_ _ _ _ _ _).2.2.1; simp; done) | (with_reducible refine (cells4 _ _ ?_ _ _ _ _ _).2.2.2.1; simp; done) | (with_reducible refine cell_up ?_ _)))))
        case refine_6 => omega
        case refine_7 => repeat (first | exact b9.out | (refine below_drewN ?_ _) | (refine Below.drew ?_) | (refine Below.alloc ?_ (by omega) _) | (refine Below.setCell ?_ (by dsimp only; omega) _))
  case rest =>
    obtain ⟨k, rfl, rfl, hS3, hk, hkl, hb3⟩ := hcut
    have HB3 := Lib.hid (below_step HB2.out hb3)
    have hl3 : w.heap.size + 1 < wc.heap.size := by have := hb3.size; omega
    have HK := Lib.hid hk
    clear hb3 HB2 hS2 hk hl2
    go_wp2_with fail
    go_cut [7, 8] (fun s7 s8 wx => ∃ k2 : Nat, s7 = .pointer (some ⟨k2, 0, none⟩) ∧ s8 = .bool r ∧ (wx.cell? ⟨k2, 0, none⟩ = some (.int .i64 x) ∧ wx.cell? ⟨k2, 1, none⟩ = some (.int .i64 y) ∧ wx.cell? ⟨k2, 2, none⟩ = some (.int .i64 z) ∧ wx.cell? ⟨k2, 3, none⟩ = some (.int .i64 u)) ∧ Below wc.heap.size wc wx)
    case first =>
      go_region_held3 (fun w' => (w'.cell? ⟨w.heap.size, 0, none⟩ = some (.int .i64 a) ∧ w'.cell? ⟨w.heap.size, 1, none⟩ = some (.int .i64 b) ∧ w'.cell? ⟨w.heap.size, 2, none⟩ = some (.int .i64 c) ∧ w'.cell? ⟨w.heap.size, 3, none⟩ = some (.int .i64 d) ∧ w'.cell? ⟨w.heap.size + 1, 0, none⟩ = some (.int .i64 a') ∧ w'.cell? ⟨w.heap.size + 1, 1, none⟩ = some (.int .i64 b') ∧ w'.cell? ⟨w.heap.size + 1, 2, none⟩ = some (.int .i64 c') ∧ w'.cell? ⟨w.heap.size + 1, 3, none⟩ = some (.int .i64 d'))) (repeat (first | (with_reducible assumption) | (with_reducible refine s8_up _ ?_) | (with_reducible refine s8_dr ?_) | (with_reducible refine s8_drN _ ?_) | (with_reducible refine s8_set _ _ _ (by omega) (by omega) ?_))) (first
        | (go_at_call 19; refine (toBox_ex _ _ _ _ _).mono ?_; rintro e w9 ⟨rfl, rfl⟩)
        | (go_at_call 31; refine (H2.out _).mono ?_; rintro e w9 ⟨rfl, hb9⟩; have s9 := s8_below hb9 (by assumption); obtain ⟨hc9, hf9⟩ := bcell hb9; have b9 := Lib.hid (show Below wc.heap.size wc w9 from below_step (by go_grown) hb9); have z9 : wc.heap.size ≤ w9.heap.size := b9.out.size))
      all_goals
        go_wp2
        go_meet
        case rel =>
          refine ⟨_, rfl, rfl, ⟨?_, ?_, ?_, ?_⟩, ?_⟩
          case refine_1 => first | ((repeat (first | (with_reducible refine cell_dr ?_) | (with_reducible refine cell_drN _ ?_) | (with_reducible refine (cells4 _ _ ?_ _ _ _ _ _).1; simp; done) | (with_reducible refine (cells4 _ _ ?_ _ _ _ _ _).2.1; simp; done) | (with_reducible refine (cells4 _ _ ?_ _ _ _ _ _).2.2.1; simp; done) | (with_reducible refine (cells4 _ _ ?_ _ _ _ _ _).2.2.2.1; simp; done) | (with_reducible refine cell_up ?_ _))); done) | ((repeat (first | (with_reducible refine cell_dr ?_) | (with_reducible refine cell_drN _ ?_))); refine (set4 w9 _ _ _ _ _ ?_ ?_ ?_ ?_).1 <;> (refine cell_below hb9 ?_; (repeat (first | (with_reducible refine cell_dr ?_) | (with_reducible refine cell_drN _ ?_) | (with_reducible refine (cells4 _ _ ?_ _ _ _ _ _).1; simp; done) | (with_reducible refine (cells4 _ _ ?_ _ _ _ _ _).2.1; simp; done) | (with_reducible refine (cells4 _ _ ?_ _ _ _ _ _).2.2.1; simp; done) | (with_reducible refine (cells4 _ _ ?_ _ _ _ _ _).2.2.2.1; simp; done) | (with_reducible refine cell_up ?_ _)))))
          case refine_2 => first | ((repeat (first | (with_reducible refine cell_dr ?_) | (with_reducible refine cell_drN _ ?_) | (with_reducible refine (cells4 _ _ ?_ _ _ _ _ _).1; simp; done) | (with_reducible refine (cells4 _ _ ?_ _ _ _ _ _).2.1; simp; done) | (with_reducible refine (cells4 _ _ ?_ _ _ _ _ _).2.2.1; simp; done) | (with_reducible refine (cells4 _ _ ?_ _ _ _ _ _).2.2.2.1; simp; done) | (with_reducible refine cell_up ?_ _))); done) | ((repeat (first | (with_reducible refine cell_dr ?_) | (with_reducible refine cell_drN _ ?_))); refine (set4 w9 _ _ _ _ _ ?_ ?_ ?_ ?_).2.1 <;> (refine cell_below hb9 ?_; (repeat (first | (with_reducible refine cell_dr ?_) | (with_reducible refine cell_drN _ ?_) | (with_reducible refine (cells4 _ _ ?_ _ _ _ _ _).1; simp; done) | (with_reducible refine (cells4 _ _ ?_ _ _ _ _ _).2.1; simp; done) | (with_reducible refine (cells4 _ _ ?_ _ _ _ _ _).2.2.1; simp; done) | (with_reducible refine (cells4 _ _ ?_ _ _ _ _ _).2.2.2.1; simp; done) | (with_reducible refine cell_up ?_ _)))))
          case refine_3 => first | ((repeat (first | (with_reducible refine cell_dr ?_) | (with_reducible refine cell_drN _ ?_) | (with_reducible refine (cells4 _ _ ?_ _ _ _ _ _).1; simp; done) | (with_reducible refine (cells4 _ _ ?_ _ _ _ _ _).2.1; simp; done) | (with_reducible refine (cells4 _ _ ?_ _ _ _ _ _).2.2.1; simp; done) | (with_reducible refine (cells4 _ _ ?_ _ _ _ _ _).2.2.2.1; simp; done) | (with_reducible refine cell_up ?_ _))); done) | ((repeat (first | (with_reducible refine cell_dr ?_) | (with_reducible refine cell_drN _ ?_))); refine (set4 w9 _ _ _ _ _ ?_ ?_ ?_ ?_).2.2.1 <;> (refine cell_below hb9 ?_; (repeat (first | (with_reducible refine cell_dr ?_) | (with_reducible refine cell_drN _ ?_) | (with_reducible refine (cells4 _ _ ?_ _ _ _ _ _).1; simp; done) | (with_reducible refine (cells4 _ _ ?_ _ _ _ _ _).2.1; simp; done) | (with_reducible refine (cells4 _ _ ?_ _ _ _ _ _).2.2.1; simp; done) | (with_reducible refine (cells4 _ _ ?_ _ _ _ _ _).2.2.2.1; simp; done) | (with_reducible refine cell_up ?_ _)))))
          case refine_4 => first | ((repeat (first | (with_reducible refine cell_dr ?_) | (with_reducible refine cell_drN _ ?_) | (with_reducible refine (cells4 _ _ ?_ _ _ _ _ _).1; simp; done) | (with_reducible refine (cells4 _ _ ?_ _ _ _ _ _).2.1; simp; done) | (with_reducible refine (cells4 _ _ ?_ _ _ _ _ _).2.2.1; simp; done) | (with_reducible refine (cells4 _ _ ?_ _ _ _ _ _).2.2.2.1; simp; done) | (with_reducible refine cell_up ?_ _))); done) | ((repeat (first | (with_reducible refine cell_dr ?_) | (with_reducible refine cell_drN _ ?_))); refine (set4 w9 _ _ _ _ _ ?_ ?_ ?_ ?_).2.2.2 <;> (refine cell_below hb9 ?_; (repeat (first | (with_reducible refine cell_dr ?_) | (with_reducible refine cell_drN _ ?_) | (with_reducible refine (cells4 _ _ ?_ _ _ _ _ _).1; simp; done) | (with_reducible refine (cells4 _ _ ?_ _ _ _ _ _).2.1; simp; done) | (with_reducible refine (cells4 _ _ ?_ _ _ _ _ _).2.2.1; simp; done) | (with_reducible refine (cells4 _ _ ?_ _ _ _ _ _).2.2.2.1; simp; done) | (with_reducible refine cell_up ?_ _)))))
          case refine_5 => repeat (first | exact b9.out | (refine below_drewN ?_ _) | (refine Below.drew ?_) | (refine Below.alloc ?_ (by omega) _) | (refine Below.setCell ?_ (by dsimp only; omega) _))
    case rest =>
      obtain ⟨k2, rfl, rfl, hk2, hb4⟩ := hcut
      obtain ⟨c0, c1, c2, c3⟩ := HK.out
      have d0 := cell_below hb4 c0
      have d1 := cell_below hb4 c1
      have d2 := cell_below hb4 c2
      have d3 := cell_below hb4 c3
      obtain ⟨e0, e1, e2, e3⟩ := hk2
      have HB4 := Lib.hid (below_step HB3.out hb4)
      clear hb4 c0 c1 c2 c3 HB3 HK
      go_wp2_with (go_at_call 32; refine (eqBox_any _ _ _ _ _).mono ?_; rintro e w9 ⟨rfl, hb9⟩; have b9 := Lib.hid hb9; clear hb9)
      go_ret
      exact ⟨rfl, below_step HB4.out b9.out⟩
end Go.Proofs.Ytjhleindjllibaa
