/-
  The orbit's iterator. Conditions: none.
-/
import Derived.Test.YtakhgppjgeeihaaRng
namespace Go.Proofs.Ytakhgppjgeeihaa
open Go.RowKit Go.Shelf Fl
attribute [local go_sem] Oper.semAt_some
theorem orbitOf_w (w : World) (x y s : Nat) : Calls Try.prog 68 #[.complex .f64 x y, .func (.func s) #[] #[]] w fun e w' =>
    e = .returned (.func (.func 79) #[] #[.pointer (some ⟨w.heap.size + 1, 0, none⟩), .pointer (some ⟨w.heap.size, 0, none⟩)]) ∧
      ∃ t u, w' = (w.alloc (.cells #[.complex .f64 x y] t)).alloc (.cells #[.func (.func s) #[] #[]] u) := by
  go_enter Try.func68, Try.ntmps68
  go_wp2
  go_ret
  exact ⟨rfl, _, _, rfl⟩
theorem grown_drewN (W : World) (m : Nat) : W.grownBy (W.drewN m) none := by
  exact ⟨rfl, rfl, rfl, Nat.le_refl _, fun _ _ _ => rfl⟩
/-- two blocks lie as they lay -/
def KpO (a b : Nat) (W W' : World) : Prop := W'.heap[a]? = W.heap[a]? ∧ W'.heap[b]? = W.heap[b]?
theorem KpO.trans {a b : Nat} {X Y Z : World} (h : KpO a b X Y) (k : KpO a b Y Z) : KpO a b X Z := ⟨k.1.trans h.1, k.2.trans h.2⟩
theorem KpO.put {a b : Nat} (W : World) (l : Nat) (o : Obj) (h1 : a < l) (h2 : b < l) : KpO a b W (W.putObj l o) := ⟨World.putObj_heap_other (by omega), World.putObj_heap_other (by omega)⟩
theorem KpO.cell {a b : Nat} {W W' : World} (h : KpO a b W W') : W'.cell? ⟨a, 0, none⟩ = W.cell? ⟨a, 0, none⟩ ∧ W'.cell? ⟨b, 0, none⟩ = W.cell? ⟨b, 0, none⟩ := ⟨World.cell?_of_block h.1, World.cell?_of_block h.2⟩
/-- what the iterator may hand to the k-th round -/
def okW (T : FloatKind) (V : Nat → Nat → Nat → Prop) (k : Nat) (xs : Array Value) : Prop := ∃ x y, xs = #[.int .i64 k, .complex T x y] ∧ V k x y
set_option maxRecDepth 100000 in
theorem orb_w (a b cu cv : Nat) (V : Nat → Nat → Nat → Prop) (hV0 : V 0 0 0) (w0 : World) (n : Nat)
    (hs : ∀ k x y W, V k x y → Calls Try.prog 32 #[.complex .f64 x y, .complex .f64 cu cv] W fun e W' => ∃ x' y' m, e = .returned (.complex .f64 x' y') ∧ W' = W.drewN m ∧ V (k + 1) x' y')
    (ha : w0.cell? ⟨a, 0, none⟩ = some (.func (.func 32) #[] #[])) (hb : w0.cell? ⟨b, 0, none⟩ = some (.complex .f64 cu cv)) (h1 : a < w0.heap.size) (h2 : b < w0.heap.size) :
    EndSeq Fence.wide n Try.prog 79 #[.pointer (some ⟨a, 0, none⟩), .pointer (some ⟨b, 0, none⟩)] (okW .f64 V) (KpO a b) w0 := by
  intro l M J Jx W hW hJ hJx hM0 hM hY h0
  refine callsIn_of_wp Try.func79 rfl trivial ?_ rfl
  simp only [Try.ntmps79, List.size_toArray, List.length_cons, List.length_nil, Nat.reduceAdd, Nat.reduceSub, Array.replicate_succ, Array.replicate_zero, List.push_toArray, List.append_toArray, List.nil_append, List.cons_append]
  gi_wp2
  gi_loopw [4, 5] (fun z k wr => ∃ (i x y : Nat), z = .complex .f64 x y ∧ k = .int .i64 i ∧ V i x y ∧ J i wr ∧ wr.cell? ⟨a, 0, none⟩ = some (.func (.func 32) #[] #[]) ∧ wr.cell? ⟨b, 0, none⟩ = some (.complex .f64 cu cv)) (fun z k wr => M + 1 - (intOf k).toNat)
  case atStart =>
    exact ⟨0, 0, 0, rfl, rfl, hV0, h0, (hW.cell (p := ⟨a, 0, none⟩) h1).trans ha, (hW.cell (p := ⟨b, 0, none⟩) h2).trans hb⟩
  case round =>
    obtain ⟨i, x, y, rfl, rfl, hv, hj, hca, hcb⟩ := hrel
    have hi := hM _ _ hj
    obtain ⟨fn, tmps, assign, body, hy, hR⟩ := hY i _ wr ⟨x, y, rfl, hv⟩ hj
    gi_wp2
    refine ⟨fun h => (by cases h), hR.mono ?_⟩
    clear hy hR
    rintro e W' (⟨rfl, hj', hk⟩ | ⟨rfl, hx'⟩)
    · have ca := hk.cell.1.trans hca
      have cb := hk.cell.2.trans hcb
      clear hca hcb
      gi_wp2
      refine ⟨trivial, fun h => (by cases h), (callsIn_wide.2 (hs i x y W' hv)).mono ?_⟩
      rintro e W2 ⟨x', y', m, rfl, rfl, hv'⟩
      gi_wp2
      go_roundw
      case rel => exact ⟨i + 1, x', y', rfl, (by simp), hv', hJ _ _ _ none hj' (grown_drewN _ _) (by simp), ca, cb⟩
      case measure => simp [intOf]; omega
    · gi_wp2
      go_end0
      exact ⟨⟨_, rfl⟩, hx'⟩
end Go.Proofs.Ytakhgppjgeeihaa
