/-
  The orbit's iterator at single numbers. Conditions: none.
-/
import Derived.Test.YtakhgppjgeeihaaSgl
namespace Go.Proofs.Ytakhgppjgeeihaa
open Go.RowKit Go.Shelf Fl
attribute [local go_sem] Oper.semAt_some
theorem orbitOf_s (w : World) (x y s : Nat) : Calls Try.prog 65 #[.complex .f32 x y, .func (.func s) #[] #[]] w fun e w' =>
    e = .returned (.func (.func 78) #[] #[.pointer (some ⟨w.heap.size + 1, 0, none⟩), .pointer (some ⟨w.heap.size, 0, none⟩)]) ∧
      ∃ t u, w' = (w.alloc (.cells #[.complex .f32 x y] t)).alloc (.cells #[.func (.func s) #[] #[]] u) := by
  go_enter Try.func65, Try.ntmps65
  go_wp2
  go_ret
  exact ⟨rfl, _, _, rfl⟩
set_option maxRecDepth 100000 in
theorem orb_s (a b cu cv : Nat) (V : Nat → Nat → Nat → Prop) (hV0 : V 0 0 0) (w0 : World) (n : Nat)
    (hs : ∀ k x y W, V k x y → Calls Try.prog 45 #[.complex .f32 x y, .complex .f32 cu cv] W fun e W' => ∃ x' y' m, e = .returned (.complex .f32 x' y') ∧ W' = W.drewN m ∧ V (k + 1) x' y')
    (ha : w0.cell? ⟨a, 0, none⟩ = some (.func (.func 45) #[] #[])) (hb : w0.cell? ⟨b, 0, none⟩ = some (.complex .f32 cu cv)) (h1 : a < w0.heap.size) (h2 : b < w0.heap.size) :
    EndSeq Fence.wide n Try.prog 78 #[.pointer (some ⟨a, 0, none⟩), .pointer (some ⟨b, 0, none⟩)] (okW .f32 V) (KpO a b) w0 := by
  intro l M J Jx W hW hJ hJx hM0 hM hY h0
  refine callsIn_of_wp Try.func78 rfl trivial ?_ rfl
  simp only [Try.ntmps78, List.size_toArray, List.length_cons, List.length_nil, Nat.reduceAdd, Nat.reduceSub, Array.replicate_succ, Array.replicate_zero, List.push_toArray, List.append_toArray, List.nil_append, List.cons_append]
  gi_wp2
  gi_loopw [4, 5] (fun z k wr => ∃ (i x y : Nat), z = .complex .f32 x y ∧ k = .int .i64 i ∧ V i x y ∧ J i wr ∧ wr.cell? ⟨a, 0, none⟩ = some (.func (.func 45) #[] #[]) ∧ wr.cell? ⟨b, 0, none⟩ = some (.complex .f32 cu cv)) (fun z k wr => M + 1 - (intOf k).toNat)
  case atStart =>
    exact ⟨0, 0, 0, rfl, rfl, hV0, h0, (hW.cell (p := ⟨a, 0, none⟩) h1).trans ha, (hW.cell (p := ⟨b, 0, none⟩) h2).trans hb⟩
  case round =>
    obtain ⟨i, x, y, rfl, rfl, hv, hj, hca, hcb⟩ := hrel
    have hi := hM _ _ hj
    obtain ⟨fn, tmps, assign, body, hy, hR⟩ := hY i _ wr ⟨x, y, rfl, hv⟩ hj
    gi_wp2
    refine ⟨fun h => (by cases h), hR.mono ?_⟩
    clear hy hR
    rintro e W' (⟨rfl, hj', hk⟩ | ⟨rfl, hx'⟩)
    · have ca := hk.cell.1.trans hca
      have cb := hk.cell.2.trans hcb
      clear hca hcb
      gi_wp2
      refine ⟨trivial, fun h => (by cases h), (callsIn_wide.2 (hs i x y W' hv)).mono ?_⟩
      rintro e W2 ⟨x', y', m, rfl, rfl, hv'⟩
      gi_wp2
      go_roundw
      case rel => exact ⟨i + 1, x', y', rfl, (by simp), hv', hJ _ _ _ none hj' (grown_drewN _ _) (by simp), ca, cb⟩
      case measure => simp [intOf]; omega
    · gi_wp2
      go_end0
      exact ⟨⟨_, rfl⟩, hx'⟩
end Go.Proofs.Ytakhgppjgeeihaa
