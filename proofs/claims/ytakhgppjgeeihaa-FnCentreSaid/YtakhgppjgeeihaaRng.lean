/-
  A range over an iterator that never ends of itself: the rounds are counted, and what the rounds say bounds their number. Conditions: none.
-/
import Derived.RangeFuncNested
import Derived.RangeFuncBound
import Derived.RangeFuncCalls
import Derived.RangeFuncLeaves
import Derived.Shelf.Abstract
import Derived.Shelf.RegionOpen
import Derived.WalkKit
import Derived.OwnWalkIn
import Derived.TacticsInMore
import Derived.LoopNIn
import Derived.LoopIn
import Derived.Test.YtakhgppjgeeihaaCfn2
namespace Go.Proofs.Ytakhgppjgeeihaa
open Go.RowKit

/-- The word of an iterator that never ends of itself: called with yield of loop l it ends, where the rounds bound their own number by M: a round has said 'no more'. `ok k xs`: what it may hand to the k-th round. -/
def EndSeq (F : Fence) (n : Nat) (P : Program) (g : Nat) (lb : Array Value) (ok : Nat → Array Value → Prop) (Kp : World → World → Prop) (w0 : World) : Prop :=
  ∀ (l M : Nat) (J : Nat → World → Prop) (Jx : Unit → World → Prop) (W : World), Below w0.heap.size w0 W → AbidesFrom W.heap.size J → AbidesFrom W.heap.size Jx →
    M ≤ 100000 → (∀ k W1, J k W1 → k ≤ M) →
    (∀ k xs W1, ok k xs → J k W1 → YieldAt F (n - 1) P l xs W1 fun e W' =>
      (e = .returned (.bool true) ∧ J (k + 1) W' ∧ Kp W1 W') ∨ (e = .returned (.bool false) ∧ Jx () W')) →
    J 0 W → CallsIn F n P g (#[.func (.yield l) #[] #[]] ++ lb) W fun e W' => (∃ v, e = .returned v) ∧ Jx () W'

/-- how the body of a round may be left -/
def endPost (B : Nat) (Kp : World → World → Prop) (k : Nat) (I : Nat → World → Prop) (Ix : Code → World → Prop) (W : World) : Exit → Act → World → Prop
  | .normal, _, W' => KeepsFrom B W W' ∧ Kp W W' ∧ I (k + 1) W'
  | .ret, _, W' => KeepsFrom B W W' ∧ Ix .ret W'
  | .exit id, _, W' => KeepsFrom B W W' ∧ Ix (.exit id) W'
  | .goto t, _, W' => KeepsFrom B W W' ∧ Ix (.goto t) W'
  | .panic _, _, _ => False
  | .outgrown, _, _ => False

variable {F : Fence} {n : Nat} {P : Program} {w : World}
/-- The loop over such an iterator, ahead of any other: I k holds ahead of the k-th round, Ix c where a round has left by c. -/
theorem wpIn_range_end {g : Operand} {ps : Array Tmp} {assign body : Code} {Q : Exit → Act → World → Prop} {a : Act}
    (hro : F.round = none) (h1 : 1 ≤ n) {gf : Nat} {lb : Array Value} (hg : a.eval g = .func (.func gf) #[] lb) (hFg : F.fn gf) (eg : ∀ args w, (callFunc gf args).run P w = .ok (.enter gf args) w)
    {ok : Nat → Array Value → Prop} {Kp : World → World → Prop} {w0 : World} (hseq : EndSeq F (n - 1) P gf lb ok Kp w0)
    (hKt : ∀ {X Y Z : World}, Kp X Y → Kp Y Z → Kp X Z) (hKb : ∀ (W : World) (l : Nat) (o : Obj), w.heap.size ≤ l → Kp W (W.putObj l o)) (hb0 : Below w0.heap.size w0 w) (hps : ∀ k xs, ok k xs → xs.size = ps.size)
    (M : Nat) (hM0 : M ≤ 100000) (I : Nat → World → Prop) (Ix : Code → World → Prop) (hI : OwnFrom w.heap.size I) (hIx : OwnFrom w.heap.size Ix) (hM : ∀ k W, I k W → k ≤ M) (h0 : I 0 w) (a₁ : Array Value → Act)
    (hassign : ∀ (l k : Nat) (xs : Array Value) (W : World) (K : Act → World → Prop), ok k xs → K (a₁ xs) W →
      assign.wpIn (F.inRound l) (n - 1 - 1) P (Exit.then K (fun _ _ _ => False)) { tmps := (ps.zip xs).foldl (fun t (p, v) => t.setIfInBounds p v) a.tmps, defers := [] } W)
    (hbody : ∀ (l k : Nat) (xs : Array Value) (W : World), ok k xs → I k W → body.wpIn (F.inRound l) (n - 1 - 1) P (endPost w.heap.size Kp k I Ix W) (a₁ xs) W)
    (hstop : ∀ (B : Nat) (c : Code) (W : World), w.heap.size ≤ B → Ix c W → W.heap[B]? = some (.deferred (some [])) → c.wpIn F n P Q { a with defers := { target := .collected B, args := #[] } :: a.defers } W) :
    (Code.rangeFunc g ps assign body).wpIn F n P Q a w := by
  refine wpIn_rangeFunc fun fn hfn => ?_
  rw [hro]
  let rec_ : LoopState → Option Code → Loop := fun st pe => { state := st, pending := pe, fn := fn, tmps := a.tmps, params := ps, assign := assign, body := body, defers := w.heap.size }
  let Rec : LoopState → Option Code → World → Prop := fun st pe W => W.heap[w.heap.size + 1]? = some (.loop (rec_ st pe)) ∧ W.heap[w.heap.size]? = some (.deferred (some []))
  -- the record turns, nothing else does
  have turn : ∀ st pe st' pe' (W : World), Rec st pe W → Rec st' pe' (W.putObj (w.heap.size + 1) (.loop (rec_ st' pe'))) := fun st pe st' pe' W h =>
    ⟨World.putObj_heap_same (Array.getElem?_eq_some_iff.1 h.1).1, (World.putObj_heap_other (by omega)).trans h.2⟩
  have turnI : ∀ st pe st' pe' k (W : World), Rec st pe W → I k W → I k (W.putObj (w.heap.size + 1) (.loop (rec_ st' pe'))) := fun st pe st' pe' k W h hi => hI.putObj _ hi (by omega) h.1 rfl
  have turnX : ∀ st pe st' pe' c (W : World), Rec st pe W → Ix c W → Ix c (W.putObj (w.heap.size + 1) (.loop (rec_ st' pe'))) := fun st pe st' pe' k W h hi => hIx.putObj _ hi (by omega) h.1 rfl
  have turnB : ∀ st pe st' pe' (W : World), Rec st pe W → Kp W (W.putObj (w.heap.size + 1) (.loop (rec_ st' pe'))) := fun st pe st' pe' W h =>
    hKb W _ _ (by omega)
  have kept : ∀ st pe (W W' : World), KeepsFrom w.heap.size W W' → Rec st pe W → Rec st pe W' := fun st pe W W' hk h => ⟨hk.same _ _ (by omega) h.1 rfl, hk.same _ _ (Nat.le_refl _) h.2 rfl⟩
  have turned : ∀ st pe (W W' : World) row, W.grownBy W' row → (∀ r, row = some r → ∃ o : Obj, W.heap[r]? = some o ∧ o.isWalk = true) → Rec st pe W → Rec st pe W' := fun st pe W W' row hg hr h =>
    ⟨(grownBy_keeps hg hr h.1 rfl).trans h.1, (grownBy_keeps hg hr h.2 rfl).trans h.2⟩
  have fin : ∀ (jump : Option Code) (W : World), Rec .busy none W → (Instr.endRound (w.heap.size + 1) jump).run P W = .ok (.bool jump.isNone) (W.putObj (w.heap.size + 1) (.loop (rec_ (if jump.isNone then .ready else .done) jump))) :=
    fun jump W h => run_endRound (P := P) jump h.1
  obtain ⟨W1, hW1⟩ : ∃ W1, (w.alloc (.deferred (some []))).alloc (.loop (rec_ .ready none)) = W1 := ⟨_, rfl⟩
  have hR1 : Rec .ready none W1 := by
    subst hW1
    have e1 := World.alloc_heap_new (w.alloc (.deferred (some []))) (.loop (rec_ .ready none))
    rw [World.size_alloc] at e1
    exact ⟨e1, (Below.heap_alloc _ _ _ (by simp)).trans (World.alloc_heap_new w _)⟩
  have hs1 : W1.heap.size = w.heap.size + 2 := by subst hW1; simp
  have hI1 : I 0 W1 := by subst hW1; exact hI.alloc _ (hI.alloc _ h0)
  have hb1 : Below w0.heap.size w0 W1 := by
    subst hW1; exact hb0.trans ((((Below.refl _ w).alloc (Nat.le_refl _) _).alloc (by simp) _).mono hb0.size)
  refine ⟨w.heap.size + 1, [{ target := .collected w.heap.size, args := #[] }], W1, { target := .fn (.func gf) lb, args := #[.func (.yield (w.heap.size + 1)) #[] #[]] }, W1, gf,
    #[.func (.yield (w.heap.size + 1)) #[] #[]] ++ lb, W1, ?_, ?_, ?_, ?_, fun _ => h1, ?_⟩
  · rw [← hW1]; exact run_enterLoop_outer _ _ _ _ _
  · simp only [resolve, hg]
    simp [go_sem]
  · intro f' hf'; simp [Target.leads] at hf'; subst hf'; exact hFg
  · simp [invoke, go_sem, eg]
  · have walkRow : ∀ {X : World} {row : Option Nat}, (∀ r, row = some r → W1.heap.size ≤ r ∧ ∃ o : Obj, X.heap[r]? = some o ∧ o.isWalk = true) → (∀ r, row = some r → w.heap.size ≤ r ∧ ∃ o : Obj, X.heap[r]? = some o ∧ o.isCells = false) :=
      fun hr r e => by obtain ⟨hB, o, ho, hw⟩ := hr r e; exact ⟨by omega, o, ho, Obj.not_cells_of_walk hw⟩
    refine (hseq (w.heap.size + 1) M (fun k W => I k W ∧ Rec .ready none W) (fun _ W => ∃ c, Ix c W ∧ Rec .done (some c) W) W1 hb1
      (fun k A B row hs hg' hr => ⟨hI k A B row hs.1 hg' (walkRow hr), turned _ _ _ _ _ hg' (fun r e => (hr r e).2) hs.2⟩)
      (fun _ A B row hs hg' hr => by
        obtain ⟨c, hc, hl⟩ := hs
        exact ⟨c, hIx c A B row hc hg' (walkRow hr), turned _ _ _ _ _ hg' (fun r e => (hr r e).2) hl⟩)
      hM0 (fun k W h => hM k W h.1) ?_ ⟨hI1, hR1⟩).mono ?_
    · rintro k xs W hok ⟨hi, hR⟩
      refine ⟨fn, _, assign, body, run_yield (P := P) (args := xs) hR.1 (hps k xs hok), roundIn_of_wpIn hfn (hassign _ k xs W _ hok ⟨_, run_beginRound hR.1 rfl, ?_⟩)⟩
      have hR2 := turn .ready none .busy none W hR
      refine wpIn_mono (hbody _ k xs _ hok (turnI .ready none .busy none k W hR hi)) ?_
      have left : ∀ (c : Code) (W3 : World), KeepsFrom w.heap.size (W.putObj (w.heap.size + 1) (.loop (rec_ .busy none))) W3 → Ix c W3 →
          ∃ v w', (Instr.endRound (w.heap.size + 1) (some c)).run P W3 = .ok v w' ∧ ((Ending.returned v = .returned (.bool true) ∧ (I (k + 1) w' ∧ Rec .ready none w') ∧ Kp W w') ∨ (Ending.returned v = .returned (.bool false) ∧ ∃ c, Ix c w' ∧ Rec .done (some c) w')) :=
        fun c W3 hk hx => ⟨_, _, fin (some c) W3 (kept _ _ _ _ hk hR2), .inr ⟨rfl, c, turnX _ _ _ _ _ _ (kept _ _ _ _ hk hR2) hx, turn _ _ _ _ _ (kept _ _ _ _ hk hR2)⟩⟩
      rintro e a3 W3 hp
      cases e with
      | normal =>
        obtain ⟨hk3, hb3, hi3⟩ := hp
        have hR3 := kept _ _ _ _ hk3 hR2
        exact ⟨_, _, fin none W3 hR3, .inl ⟨rfl, ⟨turnI _ _ _ _ _ _ hR3 hi3, turn _ _ _ _ _ hR3⟩, hKt (hKt (turnB _ _ _ _ _ hR) hb3) (turnB _ _ _ _ _ hR3)⟩⟩
      | ret => exact left _ _ hp.1 hp.2
      | exit id => exact left _ _ hp.1 hp.2
      | goto t => exact left _ _ hp.1 hp.2
      | panic ch => exact hp.elim
      | outgrown => exact hp.elim
    · rintro e W2 ⟨⟨v, rfl⟩, c, hi, hR⟩
      exact ⟨some c, _, run_endLoop (P := P) hR.1 (by simp [rec_]), hstop _ c _ (Nat.le_refl _) (turnX _ _ .exhausted (some c) _ _ hR hi) (turn _ _ .exhausted (some c) _ hR).2⟩
end Go.Proofs.Ytakhgppjgeeihaa
