/-
  What the readers and drawers of the reference give: l6Open a reader, l91Part, l91Wide, l91Single, l91C some float or complex number. Conditions: the code reads as bytes.
-/
import Derived.Test.YtakhgppjgeeihaaDraw
import Derived.Outline
namespace Go.Proofs.Ytakhgppjgeeihaa
open Go.ChangeShapes Go.WideShapes Go.ChangeAt Go.RowKit

/-- a code that came in: a row of bytes -/
def Code8 (w : World) (a : Option Addr) (len cap : Nat) : Prop := len ≤ cap ∧ cap ≤ maxLen ∧ Bytes w w.heap.size a len

/-- a reader has been opened in block g -/
def Opened (w : World) (e : Ending) (w' : World) : Prop := ∃ g : Nat, e = .returned (.pointer (some ⟨g, 0, none⟩)) ∧ Rd w' g 0 ∧ w.heap.size ≤ g ∧ Below w.heap.size w w'

theorem opened_mk (w : World) (a : Option Addr) (len cap T : Nat) (hl : len ≤ 2000) (hb : Bytes w w.heap.size a len) :
    Opened w (.returned (.pointer (some ⟨w.heap.size, 0, none⟩))) (w.alloc (.cells #[.slice a len cap, .int .i64 0] T)) := by
  refine ⟨w.heap.size, rfl, ⟨⟨a, len, cap, 0, ?_, ?_, hl, Nat.le_refl _, ?_⟩, ?_, ?_⟩, Nat.le_refl _, (Below.refl _ _).alloc (Nat.le_refl _) _⟩
  · simp
  · simp
  · rcases hb with hb | ⟨b, off, z, ha, hbg, hc⟩
    · exact .inl hb
    · refine .inr ⟨b, off, z, ha, hbg, fun i hi => ⟨?_, (hc i hi).2⟩⟩
      rw [World.cell?_alloc_lt _ _ _ hbg]; exact (hc i hi).1
  · simp
  · simp
theorem open_any (w : World) (a : Option Addr) (len cap : Nat) (h : Code8 w a len cap) : Calls Try.prog 53 #[.slice a len cap] w (Opened w) := by
  obtain ⟨hlc, hcap, hB⟩ := h
  by_cases hl : len ≤ 2000
  · go_enter Try.func53, Try.ntmps53
    go_wp2
    go_ret
    exact opened_mk w _ len cap _ hl hB
  · rcases hB with hB | ⟨b, off, z, rfl, hb, hc⟩
    · omega
    · go_enter Try.func53, Try.ntmps53
      go_wp2
      go_ret
      exact opened_mk w _ 2000 cap _ (by omega) (.inr ⟨b, off, z, rfl, hb, fun i hi => hc i (by omega)⟩)

/-- a float of a kind has come, the reader has moved on by at most d places -/
def GotF (g m : Nat) (w : World) (e : Ending) (w' : World) : Prop := (∃ x : Nat, e = .returned (.float .f64 x) ∧ x < 2 ^ 64) ∧ Rd w' g m ∧ Below g w w'
def GotC (k : FloatKind) (g m : Nat) (w : World) (e : Ending) (w' : World) : Prop := (∃ x y : Nat, e = .returned (.complex k x y) ∧ x < 2 ^ k.format.width ∧ y < 2 ^ k.format.width) ∧ Rd w' g m ∧ Below g w w'
theorem Rd.mono {w : World} {g m n : Nat} (h : Rd w g m) (hm : m ≤ n) : Rd w g n := by
  obtain ⟨⟨a, len, cap, p, h0, h1, hlen, hp, hb⟩, hf0, hf1⟩ := h
  exact ⟨⟨a, len, cap, p, h0, h1, hlen, by omega, hb⟩, hf0, hf1⟩
theorem Rd.drewN {w : World} {g m : Nat} (h : Rd w g m) (n : Nat) : Rd (w.drewN n) g m := ⟨h.ex, h.fr0, h.fr1⟩

set_option maxHeartbeats 1000000 in
theorem part_any (w : World) (g m : Nat) (hr : Rd w g m) (hm : m ≤ 900) : Calls Try.prog 82 #[.pointer (some ⟨g, 0, none⟩)] w (GotF g (m + 3) w) := by
  go_enter Try.func82, Try.ntmps82
  go_wp2_with fail
  refine (pick_call _ _ _ _ hr (by omega) (by omega) (by omega)).mono ?_
  rintro e w1 ⟨k, rfl, hk0, hk1, hr1, hb1⟩
  have HB1 := Lib.hid hb1
  have HR1 := Lib.hid hr1
  clear hb1 hr1
  go_wp2_with fail
  iterate 10
    · go_wp2
      go_ret
      refine ⟨⟨_, rfl, ?_⟩, ?_, ?_⟩
      · first | exact faV_lt _ _ _ _ _ | decide
      · first | exact HR1.out.mono (by omega) | exact (HR1.out.mono (by omega)).drewN _
      · first | exact HB1.out | exact below_drewN HB1.out _
  refine (pick_call _ _ _ _ HR1.out (by omega) (by omega) (by omega)).mono ?_
  rintro e w2 ⟨k2, rfl, hk2, hk3, hr2, hb2⟩
  have HB2 := Lib.hid (HB1.out.trans hb2)
  have HR2 := Lib.hid hr2
  clear hb2 hr2
  go_wp2_with fail
  refine (pick_call _ _ _ _ HR2.out (by omega) (by omega) (by omega)).mono ?_
  rintro e w3 ⟨k4, rfl, hk4, hk5, hr3, hb3⟩
  have HB3 := Lib.hid (HB2.out.trans hb3)
  have HR3 := Lib.hid hr3
  clear hb3 hr3
  go_wp2
  go_ret
  exact ⟨⟨_, rfl, faV_lt _ _ _ _ _⟩, HR3.out.drewN _, below_drewN HB3.out _⟩

theorem wide_any (w : World) (g m : Nat) (hr : Rd w g m) (hm : m ≤ 800) : Calls Try.prog 73 #[.pointer (some ⟨g, 0, none⟩)] w (GotC .f64 g (m + 6) w) := by
  go_enter Try.func73, Try.ntmps73
  go_wp2_with fail
  refine (part_any _ _ _ hr (by omega)).mono ?_
  rintro e w1 ⟨⟨x, rfl, hx⟩, hr1, hb1⟩
  go_wp2_with fail
  refine (part_any _ _ _ hr1 (by omega)).mono ?_
  rintro e w2 ⟨⟨y, rfl, hy⟩, hr2, hb2⟩
  go_wp2
  go_ret
  exact ⟨⟨x, y, rfl, hx, hy⟩, hr2, hb1.trans hb2⟩
theorem ffV_lt (s k : FloatKind) (b : Nat) (w : World) (hb : b < 2 ^ s.format.width) : ffV s k b w < 2 ^ k.format.width := by
  unfold ffV
  by_cases hsk : s = k
  · subst hsk; rw [if_pos rfl]; exact hb
  · rw [if_neg hsk]
    split
    · exact (nan_conv k _ _).2
    · exact k.format.write_lt _
    · split
      · have h : ∀ t, (Question.floatToFloat b).cut t < 2 ^ 32 := fun t => Nat.mod_lt _ (by decide)
        have := h (w.tape w.drawn (.floatToFloat b))
        cases k
        · exact this
        · have e : 2 ^ FloatKind.f64.format.width = 2 ^ 64 := by decide
          rw [e]; omega
      · exact k.format.write_lt _
end Go.Proofs.Ytakhgppjgeeihaa
