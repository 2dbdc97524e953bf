/-
  What the reader of a code (l6Rd) gives: pick returns a number in its range and moves the place on. Conditions: the reader's slice reads as bytes, its place is small.
-/
import Derived.Test.YtakhgppjgeeihaaRun
import Derived.Test.YtakhgppjgeeihaaRows
import Derived.WalkSpells
import Derived.ProofKit
import Derived.Handy
import Derived.Lib.Hide
import Derived.Deep.QuietTactic
import Derived.BigQuiet
namespace Go.Proofs.Ytakhgppjgeeihaa
open Go.ChangeShapes Go.WideShapes Go.ChangeAt Go.RowKit

theorem below_step {w wb w' : World} (h : Below w.heap.size w wb) (h2 : Below wb.heap.size wb w') : Below w.heap.size w w' := h.trans (h2.mono h.size)
theorem bcell {W w1 : World} (hb : Below W.heap.size W w1) : (∀ b o, b < W.heap.size → w1.cell? ⟨b, o, none⟩ = W.cell? ⟨b, o, none⟩) ∧ (∀ b o, b < W.heap.size → w1.frozen? ⟨b, o, none⟩ = W.frozen? ⟨b, o, none⟩) :=
  ⟨fun b o h => hb.cell (p := ⟨b, o, none⟩) h, fun b o h => hb.frozen (p := ⟨b, o, none⟩) h⟩

/-- the bytes of a slice, as far as they are read -/
def Bytes (w : World) (g : Nat) (a : Option Addr) (len : Nat) : Prop :=
  len = 0 ∨ ∃ (b off : Nat) (z : Nat → Int), a = some ⟨b, off, none⟩ ∧ b < g ∧ ∀ i, i < len → w.cell? ⟨b, off + i, none⟩ = some (.int .u8 (z i)) ∧ 0 ≤ z i ∧ z i ≤ 255
/-- a reader lies in block g; its place is at most m -/
structure Rd (w : World) (g m : Nat) : Prop where
  ex : ∃ (a : Option Addr) (len cap p : Nat), w.cell? ⟨g, 0, none⟩ = some (.slice a len cap) ∧ w.cell? ⟨g, 1, none⟩ = some (.int .i64 p) ∧ len ≤ 2000 ∧ p ≤ m ∧ Bytes w g a len
  fr0 : w.frozen? ⟨g, 0, none⟩ = false
  fr1 : w.frozen? ⟨g, 1, none⟩ = false

theorem xor_nonneg (x y : Int) (hx : 0 ≤ x) (hx' : x < 1099511627776) (hy : 0 ≤ y) (hy' : y < 1099511627776) : 0 ≤ bits BinOp.xor IntKind.i64 x y ∧ bits BinOp.xor IntKind.i64 x y < 1099511627776 := by
  obtain ⟨a, rfl⟩ := Int.eq_ofNat_of_zero_le hx
  obtain ⟨b, rfl⟩ := Int.eq_ofNat_of_zero_le hy
  have ha : a < 2 ^ 40 := by have : (2 : Nat) ^ 40 = 1099511627776 := rfl; omega
  have hb : b < 2 ^ 40 := by have : (2 : Nat) ^ 40 = 1099511627776 := rfl; omega
  have hxor : a ^^^ b < 2 ^ 40 := Nat.xor_lt_two_pow ha hb
  have e : (BitVec.ofInt 64 (a : Int) ^^^ BitVec.ofInt 64 (b : Int)).toNat = a ^^^ b := by
    rw [BitVec.toNat_xor, BitVec.toNat_ofInt, BitVec.toNat_ofInt]
    have h1 : ((a : Int) % ((2 ^ 64 : Nat) : Int)).toNat = a := by have : (2 : Nat) ^ 40 = 1099511627776 := rfl; omega
    have h2 : ((b : Int) % ((2 ^ 64 : Nat) : Int)).toNat = b := by have : (2 : Nat) ^ 40 = 1099511627776 := rfl; omega
    rw [h1, h2]
  have e2 : bits BinOp.xor IntKind.i64 (a : Int) (b : Int) = ((a ^^^ b : Nat) : Int) := by
    show IntKind.i64.wrap ((BitVec.ofInt 64 (a : Int) ^^^ BitVec.ofInt 64 (b : Int)).toNat : Int) = _
    rw [e]
    have : (2 : Nat) ^ 40 = 1099511627776 := rfl
    exact IntWalk.i64_in _ (by omega)
  rw [e2]
  have : (2 : Nat) ^ 40 = 1099511627776 := rfl
  omega

/-- what pick leaves -/
def Picked (w : World) (g m n : Nat) (e : Ending) (w' : World) : Prop :=
  ∃ (k : Int) (p nq : Nat), e = .returned (.int .i64 k) ∧ 0 ≤ k ∧ k < n ∧ p ≤ m + 1 ∧ w' = (w.setCell ⟨g, 1, none⟩ (.int .i64 p)).drewN nq

set_option maxHeartbeats 1000000 in
theorem pick_any (w : World) (g m n : Nat) (hr : Rd w g m) (hm : m ≤ 1000) (hn : 1 ≤ n) (hn' : n ≤ 100000) :
    Calls Try.prog 55 #[.pointer (some ⟨g, 0, none⟩), .int .i64 n] w (Picked w g m n) := by
  obtain ⟨⟨a, len, cap, p, h0, h1, hlen, hp, hb⟩, hf0, hf1⟩ := hr
  by_cases hz : len = 0
  · subst hz
    go_enter Try.func55, Try.ntmps55
    go_wp2
    go_ret
    exact ⟨0, p + 1, 0, rfl, by omega, by omega, by omega, rfl⟩
  · rcases hb with hb | ⟨b, off, z, rfl, hbg, hc⟩
    · exact absurd hb hz
    have t1 : ((len : Int) == 0) = false := by rw [beq_eq_false_iff_ne]; omega
    by_cases hk : p < len
    · obtain ⟨c1, c2, c3⟩ := hc p hk
      clear hc
      go_enter Try.func55, Try.ntmps55
      go_wp2
      go_ret
      exact ⟨z p % n, p + 1, 0, rfl, Int.emod_nonneg _ (by omega), Int.emod_lt_of_pos _ (by omega), by omega, rfl⟩
    · obtain ⟨c1, c2, c3⟩ := hc (p % len) (Nat.mod_lt _ (by omega))
      obtain ⟨k1, k2, k3⟩ := hc ((p * 7 + 3) % len) (Nat.mod_lt _ (by omega))
      clear hc
      have m1 : p % len < len := Nat.mod_lt _ (by omega)
      have m2 : (p * 7 + 3) % len < len := Nat.mod_lt _ (by omega)
      have e2 : ((p : Int) * 7 + 3) = ((p * 7 + 3 : Nat) : Int) := by omega
      have u1 : (0 : Int) ≤ (p : Int) % (len : Int) := Int.emod_nonneg _ (by omega)
      have u2 : (p : Int) % (len : Int) < (len : Int) := Int.emod_lt_of_pos _ (by omega)
      have v1 : (0 : Int) ≤ ((p : Int) * 7 + 3) % (len : Int) := Int.emod_nonneg _ (by omega)
      have v2 : ((p : Int) * 7 + 3) % (len : Int) < (len : Int) := Int.emod_lt_of_pos _ (by omega)
      have y1 : (0 : Int) ≤ (p : Int) / (len : Int) := Int.ediv_nonneg (by omega) (by omega)
      have y2 : (p : Int) / (len : Int) ≤ (p : Int) := Int.ediv_le_self _ (by omega)
      have f3 : IntKind.i64.wrap ((p : Int) * 7) = (p : Int) * 7 := IntWalk.i64_in _ (by omega)
      have f4 : IntKind.i64.wrap ((p : Int) * 7 + 3) = (p : Int) * 7 + 3 := IntWalk.i64_in _ (by omega)
      have g1 : IntKind.i64.wrap (z (p % len) * 131) = z (p % len) * 131 := IntWalk.i64_in _ (by omega)
      have g2 : IntKind.i64.wrap (z ((p * 7 + 3) % len) * 1117) = z ((p * 7 + 3) % len) * 1117 := IntWalk.i64_in _ (by omega)
      have g3 : IntKind.i64.wrap (z (p % len) * 131 + z ((p * 7 + 3) % len) * 1117) = z (p % len) * 131 + z ((p * 7 + 3) % len) * 1117 := IntWalk.i64_in _ (by omega)
      have g4 : IntKind.i64.wrap ((p : Int) * 29) = (p : Int) * 29 := IntWalk.i64_in _ (by omega)
      have g5 : IntKind.i64.wrap (z (p % len) * 131 + z ((p * 7 + 3) % len) * 1117 + (p : Int) * 29) = z (p % len) * 131 + z ((p * 7 + 3) % len) * 1117 + (p : Int) * 29 := IntWalk.i64_in _ (by omega)
      have g6 : IntKind.i64.wrap ((p : Int) / (len : Int)) = (p : Int) / (len : Int) := IntWalk.i64_in _ (by omega)
      have g7 : IntKind.i64.wrap ((p : Int) / (len : Int) * 53) = (p : Int) / (len : Int) * 53 := IntWalk.i64_in _ (by omega)
      obtain ⟨X, hX⟩ : ∃ X, z (p % len) * 131 + z ((p * 7 + 3) % len) * 1117 + (p : Int) * 29 + (p : Int) / (len : Int) * 53 = X := ⟨_, rfl⟩
      have g8 : IntKind.i64.wrap (z (p % len) * 131 + z ((p * 7 + 3) % len) * 1117 + (p : Int) * 29 + (p : Int) / (len : Int) * 53) = X := by rw [hX]; exact IntWalk.i64_in _ (by omega)
      have x1 : 0 ≤ X := by omega
      have x2 : X ≤ 1000000 := by omega
      have xr := xor_nonneg X (X / 64) x1 (by omega) (by omega) (by omega)
      obtain ⟨xr1, xr2⟩ := xr
      have xr3 : (bits BinOp.xor IntKind.i64 X (X / 64)) % (n : Int) < n := Int.emod_lt_of_pos _ (by omega)
      have xr4 : 0 ≤ (bits BinOp.xor IntKind.i64 X (X / 64)) % (n : Int) := Int.emod_nonneg _ (by omega)
      have f1 : (p : Int).tmod (len : Int) = (p : Int) % (len : Int) := Int.tmod_eq_emod_of_nonneg (by omega)
      have f2 : ((p : Int) * 7 + 3).tmod (len : Int) = ((p : Int) * 7 + 3) % (len : Int) := Int.tmod_eq_emod_of_nonneg (by omega)
      have f5 : (p : Int).tdiv (len : Int) = (p : Int) / (len : Int) := Int.tdiv_eq_ediv_of_nonneg (by omega)
      have d1 : ((p : Int) % (len : Int)).toNat = p % len := by rw [← Int.natCast_emod, Int.toNat_natCast]
      have d2 : (((p : Int) * 7 + 3) % (len : Int)).toNat = (p * 7 + 3) % len := by rw [e2, ← Int.natCast_emod, Int.toNat_natCast]
      have XR3 := Lib.hid xr3
      have XR4 := Lib.hid xr4
      clear e2 hX xr3 xr4
      go_enter Try.func55, Try.ntmps55
      go_wp2
      go_quiet (fail)
      clear f1 f2 f3 f4 f5 g1 g2 g3 g4 g5 g6 g7 g8 d1 d2
      go_wp2
      go_ret
      exact ⟨_, p + 1, nq, rfl, XR4.out, XR3.out, by omega, rfl⟩

theorem Rd.picked {w w' : World} {g m n : Nat} {e : Ending} (hr : Rd w g m) (h : Picked w g m n e w') : ∃ k : Int, e = .returned (.int .i64 k) ∧ 0 ≤ k ∧ k < n ∧ Rd w' g (m + 1) ∧ Below g w w' := by
  obtain ⟨k, p', nq, rfl, hk1, hk2, hp', rfl⟩ := h
  obtain ⟨⟨a, len, cap, p, h0, h1, hlen, hp, hb⟩, hf0, hf1⟩ := hr
  refine ⟨k, rfl, hk1, hk2, ⟨⟨a, len, cap, p', ?_, ?_, hlen, hp', ?_⟩, ?_, ?_⟩, ?_⟩
  · simp only [World.cell?_drewN]
    rw [World.cell?_setCell_other _ _ _ _ (by intro h; injection h; omega)]; exact h0
  · simp only [World.cell?_drewN]
    exact World.cell?_setCell_same _ _ _ h1
  · rcases hb with hb | ⟨b, off, z, ha, hbg, hc⟩
    · exact .inl hb
    · refine .inr ⟨b, off, z, ha, hbg, fun i hi => ⟨?_, (hc i hi).2⟩⟩
      have := (hc i hi).1
      simp only [World.cell?_drewN]
      have hne : (⟨b, off + i, none⟩ : Addr) ≠ ⟨g, 1, none⟩ := by intro h; injection h; omega
      rw [World.cell?_setCell_other _ _ _ _ (Ne.symm hne)]; exact this
  · simpa [World.frozen?_setCell] using hf0
  · simpa [World.frozen?_setCell] using hf1
  · exact below_drewN ((Below.refl g w).setCell (p := ⟨g, 1, none⟩) (Nat.le_refl _) _) nq
/-- pick, as its callers take it -/
theorem pick_call (w : World) (g m : Nat) (n : Int) (hr : Rd w g m) (hm : m ≤ 1000) (hn : 1 ≤ n) (hn' : n ≤ 100000) :
    Calls Try.prog 55 #[.pointer (some ⟨g, 0, none⟩), .int .i64 n] w fun e w' => ∃ k : Int, e = .returned (.int .i64 k) ∧ 0 ≤ k ∧ k < n ∧ Rd w' g (m + 1) ∧ Below g w w' := by
  obtain ⟨N, rfl⟩ := Int.eq_ofNat_of_zero_le (show 0 ≤ n by omega)
  exact (pick_any w g m N hr hm (by omega) (by omega)).mono fun e w' h => hr.picked h
end Go.Proofs.Ytakhgppjgeeihaa
