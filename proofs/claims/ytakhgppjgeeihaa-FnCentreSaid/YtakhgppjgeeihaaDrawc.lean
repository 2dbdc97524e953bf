/-
  What the other drawing functions of the laws give: single numbers, numbers near the set. Conditions: the code reads as bytes.
-/
import Derived.Test.YtakhgppjgeeihaaDrawn
namespace Go.Proofs.Ytakhgppjgeeihaa
open Go.ChangeShapes Go.WideShapes Go.ChangeAt Go.RowKit

theorem Rd.alloc {w : World} {g m : Nat} (h : Rd w g m) (o : Obj) : Rd (w.alloc o) g m := by
  obtain ⟨⟨a, len, cap, p, h0, h1, hlen, hp, hb⟩, hf0, hf1⟩ := h
  have hg := World.block_lt_of_cell? w _ h0
  have hg' : g < w.heap.size := hg
  refine ⟨⟨a, len, cap, p, ?_, ?_, hlen, hp, ?_⟩, ?_, ?_⟩
  · rw [World.cell?_alloc_lt _ _ _ hg]; exact h0
  · rw [World.cell?_alloc_lt _ _ _ (show (⟨g, 1, none⟩ : Addr).block < w.heap.size from hg')]; exact h1
  · rcases hb with hb | ⟨b, off, z, ha, hbg, hc⟩
    · exact .inl hb
    · refine .inr ⟨b, off, z, ha, hbg, fun i hi => ⟨?_, (hc i hi).2⟩⟩
      rw [World.cell?_alloc_lt _ _ _ (show (⟨b, off + i, none⟩ : Addr).block < w.heap.size by show b < _; omega)]; exact (hc i hi).1
  · rw [((Below.refl w.heap.size w).alloc (Nat.le_refl _) o).frozen (p := ⟨g, 0, none⟩) hg']; exact hf0
  · rw [((Below.refl w.heap.size w).alloc (Nat.le_refl _) o).frozen (p := ⟨g, 1, none⟩) hg']; exact hf1
/-- pick, and what it leaves of the other blocks -/
theorem pick_call2 (w : World) (g m : Nat) (n : Int) (hr : Rd w g m) (hm : m ≤ 1000) (hn : 1 ≤ n) (hn' : n ≤ 100000) :
    Calls Try.prog 55 #[.pointer (some ⟨g, 0, none⟩), .int .i64 n] w fun e w' => ∃ k : Int, e = .returned (.int .i64 k) ∧ 0 ≤ k ∧ k < n ∧ Rd w' g (m + 1) ∧ Below g w w' ∧ ∀ b o, b ≠ g → w'.cell? ⟨b, o, none⟩ = w.cell? ⟨b, o, none⟩ := by
  obtain ⟨N, rfl⟩ := Int.eq_ofNat_of_zero_le (show 0 ≤ n by omega)
  refine (pick_any w g m N hr hm (by omega) (by omega)).mono fun e w' h => ?_
  obtain ⟨k, h1, h2, h3, h4, h5⟩ := hr.picked h
  refine ⟨k, h1, h2, h3, h4, h5, fun b o hb => ?_⟩
  obtain ⟨_, p', nq, _, _, _, _, rfl⟩ := h
  simp only [World.cell?_drewN]
  exact World.cell?_setCell_other _ _ _ _ (by intro h; injection h with h _ _; exact hb h.symm)
set_option maxHeartbeats 4000000 in
theorem l91C_any (w : World) (g m : Nat) (hr : Rd w g m) (hm : m ≤ 700) : Calls Try.prog 54 #[.pointer (some ⟨g, 0, none⟩)] w (GotC .f64 g (m + 7) w) := by
  go_enter Try.func54, Try.ntmps54
  go_wp2_with fail
  refine (pick_call _ _ _ _ hr (by omega) (by omega) (by omega)).mono ?_
  rintro e w1 ⟨k, rfl, hk0, hk1, hr1, hb1⟩
  have HB1 := Lib.hid hb1
  have HR1 := Lib.hid hr1
  have hg1 : g < w1.heap.size := by obtain ⟨_, _, _, _, h0, _⟩ := hr1.ex; exact World.block_lt_of_cell? w1 _ h0
  have HG1 := Lib.hid hg1
  clear hb1 hr1 hg1
  go_wp2_with fail
  · refine (wide_any _ _ _ HR1.out (by omega)).mono ?_
    rintro e w2 ⟨⟨x, y, rfl, hx, hy⟩, hr2, hb2⟩
    go_wp2
    go_ret
    exact ⟨⟨x, y, rfl, hx, hy⟩, hr2.mono (by omega), HB1.out.trans hb2⟩
  · refine (pick_call2 _ _ _ _ (HR1.out.alloc _) (by omega) (by omega) (by omega)).mono ?_
    rintro e w2 ⟨k2, rfl, hk2, hk3, hr2, hb2, hc2⟩
    have hne : w1.heap.size ≠ g := by have := HG1.out; omega
    have HB2 := Lib.hid (HB1.out.trans (((Below.refl g w1).alloc (Nat.le_of_lt HG1.out) _).trans hb2))
    have HR2 := Lib.hid hr2
    clear hb2 hr2
    have hk : k2 = 0 ∨ k2 = 1 ∨ k2 = 2 ∨ k2 = 3 ∨ k2 = 4 ∨ k2 = 5 ∨ k2 = 6 ∨ k2 = 7 ∨ k2 = 8 ∨ k2 = 9 := by omega
    clear hk2 hk3
    rcases hk with rfl | rfl | rfl | rfl | rfl | rfl | rfl | rfl | rfl | rfl
    all_goals
      go_wp2
      go_ret
      exact ⟨⟨_, _, rfl, by decide, by decide⟩, HR2.out.mono (by omega), HB2.out⟩
  · refine (pick_call _ _ _ _ HR1.out (by omega) (by omega) (by omega)).mono ?_
    rintro e w2 ⟨k2, rfl, hk2, hk3, hr2, hb2⟩
    have HB2 := Lib.hid (HB1.out.trans hb2)
    have HR2 := Lib.hid hr2
    clear hb2 hr2
    go_wp2_with fail
    refine (pick_call _ _ _ _ (HR2.out.drewN _) (by omega) (by omega) (by omega)).mono ?_
    rintro e w3 ⟨k3, rfl, hk4, hk5, hr3, hb3⟩
    have HB3 := Lib.hid ((below_drewN HB2.out _).trans hb3)
    have HR3 := Lib.hid hr3
    clear hb3 hr3
    go_wp2
    go_ret
    exact ⟨⟨_, _, rfl, faV_lt _ _ _ _ _, faV_lt _ _ _ _ _⟩, (HR3.out.drewN _).mono (by omega), below_drewN HB3.out _⟩
end Go.Proofs.Ytakhgppjgeeihaa
