/-
  What Kind returns, in the program and in the reference. Conditions: none.
-/
import Derived.Test.YtjjailllocakcaaCfn2
import Derived.Laws.BitsAllLaws
import Derived.Laws.Externs
namespace Go.Proofs.Ytjjailllocakcaa
open Fl

theorem bits_run (a : Nat) (w : World) : (callFunc 65 #[.float .f64 a]).run Try.prog w = .ok (.value (.int .u64 a)) w :=
  run_callFunc_extern Try.func65 (by kernel_rfl) (by kernel_rfl) (by kernel_rfl) (e := Extern.MathFloatBits.float64bits) (by kernel_rfl) _ w
theorem frombits_run (a : Int) (w : World) : (callFunc 64 #[.int .u64 a]).run Try.prog w = .ok (.value (.float .f64 a.toNat)) w :=
  run_callFunc_extern Try.func64 (by kernel_rfl) (by kernel_rfl) (by kernel_rfl) (e := Extern.MathFloatBits.float64frombits) (by kernel_rfl) _ w
attribute [go_sem] bits_run frombits_run
theorem abs_bits (x : Nat) (hx : x < 2 ^ D.width) : (bits .andNot .u64 (x : Int) 9223372036854775808).toNat = rung D x := by
  rw [show (9223372036854775808 : Int) = ((9223372036854775808 : Nat) : Int) from rfl, u64_andNot_nat x 9223372036854775808 (show x < 18446744073709551616 from hx) (by decide), Int.toNat_natCast]
  exact Nat.and_two_pow_sub_one_eq_mod x 63
theorem abs_any (x : Nat) (hx : x < 2 ^ D.width) (w : World) : Calls Try.prog 63 #[.float .f64 x] w fun e w' => e = .returned (.float .f64 (rung D x)) ∧ w = w' := by
  have h := abs_bits x hx
  go_enter Try.func63, Try.ntmps63
  go_wp2
  go_ret
  exact ⟨rfl, rfl⟩
theorem key_rung (f : Ieee.Format) (x : Nat) (hx : x < f.signWeight) : sgn f x = false ∧ rung f x = x := by
  unfold sgn rung
  rw [Nat.div_eq_of_lt hx, Nat.mod_eq_of_lt hx]; exact ⟨rfl, rfl⟩
theorem order_max (x : Nat) : (D.order (rung D x) 9218868437227405311 == some Ordering.gt) = decide (rung D x = D.infRung) := by
  have hs : rung D x < D.signWeight := Nat.mod_lt _ (by decide)
  obtain ⟨h1, h2⟩ := key_rung D (rung D x) hs
  have hm : isN D 9218868437227405311 = false := by decide
  have hi : D.infRung = 9218868437227405312 := by decide
  cases hn : isN D (rung D x) with
  | true =>
    rw [order_nan D gD _ _ (.inl hn)]
    unfold isN at hn; rw [h2] at hn
    have : D.infRung < rung D x := by simpa using hn
    symm; simp; omega
  | false =>
    rw [order_key D gD _ _ hn hm]
    have hk : key D (rung D x) = (rung D x : Int) := by unfold key; rw [h1, h2]; rfl
    have hk2 : key D 9218868437227405311 = (9218868437227405311 : Int) := by decide
    rw [hk, hk2, hi]
    unfold isN at hn; rw [h2, hi] at hn
    have h3 : ¬ 9218868437227405312 < rung D x := by simpa using hn
    rcases Nat.lt_or_ge (rung D x) 9218868437227405312 with h | h
    · have e1 : decide (rung D x = 9218868437227405312) = false := by simp; omega
      rw [e1]
      simp only [compare, compareOfLessAndEq]
      split
      · rfl
      · split
        · rfl
        · omega
    · have e0 : rung D x = 9218868437227405312 := by omega
      rw [e0]; decide
theorem isinf_any (x : Nat) (hx : x < 2 ^ D.width) (w : World) : Calls Try.prog 61 #[.float .f64 x, .int .i64 0] w fun e w' => e = .returned (.bool (decide (rung D x = D.infRung))) ∧ w = w' := by
  have h := order_max x
  go_enter Try.func61, Try.ntmps61
  go_wp2_with (go_at_call 63; refine (abs_any x hx w).mono ?_; rintro e w' ⟨rfl, rfl⟩)
  go_ret
  exact ⟨rfl, rfl⟩
/-- a single word is an infinity -/
def infB (x : Nat) : Bool := decide (rung F x = F.infRung)
theorem wid_inf (x : Nat) (w : World) : decide (rung D (ffV .f32 .f64 x w) = D.infRung) = infB x := by
  unfold infB
  cases hn : isN F x with
  | true =>
    have h := wid_nan x w hn
    unfold isN at h hn
    have h1 : D.infRung < rung D (ffV .f32 .f64 x w) := by simpa using h
    have h2 : F.infRung < rung F x := by simpa using hn
    rw [Bool.eq_iff_iff]; simp only [decide_eq_true_eq]; omega
  | false =>
    rw [wid_run x w hn, rung_widW x hn, Bool.eq_iff_iff]
    simp only [decide_eq_true_eq]
    have hle := nN hn
    constructor
    · intro h
      rcases Nat.lt_or_ge (rung F x) F.infRung with h1 | h1
      · have := widR_lt _ h1; omega
      · omega
    · intro h
      rw [h]; unfold widR; simp
theorem faVF_sub (x : Nat) (w : World) : Sim F (faV .sub .f32 x x w) (subT F x x) := faV_sim w .sub (by simp) .f32 x x
theorem subF_fin (x : Nat) (hx : x < 2 ^ F.width) (h : rung F x < F.infRung) : subT F x x = F.word false 0 := by
  have hn : isN F x = false := by simp [isN]; omega
  have hn' : isN F (negw F x) = false := by rw [isN_negw F x hx]; exact hn
  rw [subT_eq F gF x x hx, addT_eq F gF x _ hn hn']
  unfold addW
  rw [rung_negw F x hx, if_neg (by omega), if_neg (by omega), sval_negw F x hx, sgn_negw F x hx]
  have e : sval F x + -sval F x = 0 := by omega
  rw [e, if_pos rfl, addR_zero]
  cases sgn F x <;> rfl
theorem subF_inf (x : Nat) (hx : x < 2 ^ F.width) (h : ¬ rung F x < F.infRung) : isN F (subT F x x) = true := by
  cases hn : isN F x with
  | true =>
    rw [subT_eq F gF x x hx, addT_nan F gF (.inl hn)]; exact isN_qn F gF
  | false =>
    have hr : rung F x = F.infRung := by simp [isN] at hn; omega
    have hn' : isN F (negw F x) = false := by rw [isN_negw F x hx]; exact hn
    rw [subT_eq F gF x x hx, addT_eq F gF x _ hn hn']
    unfold addW
    rw [rung_negw F x hx, if_pos hr, if_pos hr, sgn_negw F x hx, if_neg (by cases sgn F x <;> simp)]
    exact isN_qn F gF
theorem infF_run (x : Nat) (hx : x < 2 ^ F.width) (hn : isN F x = false) (w : World) : (F.order (faV .sub .f32 x x w) 0 == some .eq) = !infB x := by
  have h := faVF_sub x w
  unfold infB
  have hle := nN hn
  by_cases hf : rung F x < F.infRung
  · rw [subF_fin x hx hf] at h
    rw [h.eq_of (isN_word F _ _ (Nat.zero_le _))]
    rw [show decide (rung F x = F.infRung) = false by simp; omega]
    decide
  · have h2 : isN F (faV .sub .f32 x x w) = true := by rw [h.isN]; exact subF_inf x hx hf
    rw [order_nan F gF _ _ (.inl h2), show decide (rung F x = F.infRung) = true by simp; omega]
    rfl
/-- the kind of a single number, by its words -/
def kindN (x y : Nat) : Int :=
  if eqC .f32 x y 0 0 then 0 else if eqC .f32 x y 1065353216 0 then 1 else if eqC .f32 x y 0 1065353216 then 2
  else if eqC .f32 x y 3212836864 0 then 3 else if eqC .f32 x y 0 3212836864 then 4
  else if eqC .f32 x y x y then (if infB x || infB y then 6 else 7) else 5
def KV (x y : Nat) (w : World) (e : Ending) (w' : World) : Prop := e = .returned (.int .i64 (kindN x y)) ∧ ∃ n, w' = w.drewN n
theorem eqC_nan {x y : Nat} (h : eqC .f32 x y x y = true) : isN F x = false ∧ isN F y = false := by
  unfold eqC at h
  rw [Bool.and_eq_true] at h
  exact ⟨((eq_iff F gF _ _).1 h.1).1, ((eq_iff F gF _ _).1 h.2).1⟩
theorem kind_spec (x y : Nat) (hx : x < 2 ^ F.width) (hy : y < 2 ^ F.width) (w : World) : Calls Try.prog 52 #[.complex .f32 x y] w (KV x y w) := by
  cases hc : eqC .f32 x y x y with
  | false =>
    have e0 : kindN x y = if eqC .f32 x y 0 0 then 0 else if eqC .f32 x y 1065353216 0 then 1 else if eqC .f32 x y 0 1065353216 then 2
      else if eqC .f32 x y 3212836864 0 then 3 else if eqC .f32 x y 0 3212836864 then 4 else 5 := by unfold kindN; rw [hc]; rfl
    unfold eqC at hc e0
    go_enter Try.func52, Try.ntmps52
    go_wp2
    all_goals
      go_ret
      refine ⟨congrArg (fun n => Ending.returned (Value.int .i64 n)) ?_, by first | exact ⟨_, rfl⟩ | exact ⟨0, rfl⟩⟩
      rw [e0]; grind
  | true =>
    obtain ⟨nx, ny⟩ := eqC_nan hc
    have h1 : ∀ w, (FloatKind.f32.format.order (faV .sub .f32 x x w) 0 == some Ordering.eq) = !infB x := infF_run x hx nx
    have h2 : ∀ w, (FloatKind.f32.format.order (faV .sub .f32 y y w) 0 == some Ordering.eq) = !infB y := infF_run y hy ny
    have e0 : kindN x y = if eqC .f32 x y 0 0 then 0 else if eqC .f32 x y 1065353216 0 then 1 else if eqC .f32 x y 0 1065353216 then 2
      else if eqC .f32 x y 3212836864 0 then 3 else if eqC .f32 x y 0 3212836864 then 4 else if infB x || infB y then 6 else 7 := by unfold kindN; rw [hc]; rfl
    unfold eqC at hc e0
    rw [Bool.and_eq_true] at hc
    obtain ⟨hc1, hc2⟩ := hc
    generalize infB x = p at h1 e0
    generalize infB y = q at h2 e0
    go_enter Try.func52, Try.ntmps52
    go_wp2
    all_goals
      go_ret
      refine ⟨congrArg (fun n => Ending.returned (Value.int .i64 n)) ?_, by first | exact ⟨_, rfl⟩ | exact ⟨0, rfl⟩⟩
      rw [e0]
      grind
theorem isinf_wid (x : Nat) (hx : x < 2 ^ F.width) (w1 w : World) : Calls Try.prog 61 #[.float .f64 (ffV .f32 .f64 x w1), .int .i64 0] w fun e w' => e = .returned (.bool (infB x)) ∧ w = w' := by
  rw [← wid_inf x w1]
  exact isinf_any _ (ffV_lt .f32 .f64 x w1 hx) w
theorem widen_inf (x y : Nat) (hx : x < 2 ^ F.width) (hy : y < 2 ^ F.width) (w : World) : Calls Try.prog 26 #[.complex .f32 x y] w fun e w' =>
    ∃ X Y n, e = .returned (.complex .f64 X Y) ∧ w' = w.drewN n ∧ (∀ w, Calls Try.prog 61 #[.float .f64 X, .int .i64 0] w fun e w' => e = .returned (.bool (infB x)) ∧ w = w') ∧
      (∀ w, Calls Try.prog 61 #[.float .f64 Y, .int .i64 0] w fun e w' => e = .returned (.bool (infB y)) ∧ w = w') := by
  refine (widen_impl x y w).mono ?_
  rintro e w' ⟨rfl, rfl⟩
  exact ⟨_, _, _, rfl, rfl, fun w2 => isinf_wid x hx _ w2, fun w2 => isinf_wid y hy _ w2⟩

theorem kind_impl (x y : Nat) (hx : x < 2 ^ F.width) (hy : y < 2 ^ F.width) (w : World) : Calls Try.prog 47 #[.complex .f32 x y] w (KV x y w) := by
  have e0 : kindN x y = if eqC .f32 x y 0 0 then 0 else if eqC .f32 x y 1065353216 0 then 1 else if eqC .f32 x y 0 1065353216 then 2
      else if eqC .f32 x y 3212836864 0 then 3 else if eqC .f32 x y 0 3212836864 then 4 else if eqC .f32 x y x y then (if infB x || infB y then 6 else 7) else 5 := rfl
  have hW := widen_inf x y hx hy
  cases hc : eqC .f32 x y x y with
  | false =>
    rw [hc] at e0
    unfold eqC at e0
    go_enter Try.func47, Try.ntmps47
    go_wp2_with (first
      | (go_at_call 26; refine (hW _).mono ?_; rintro e w' ⟨X, Y, n, rfl, rfl, i1, i2⟩)
      | (go_at_call 45; refine (unlike_impl _ _ _ _ _).mono ?_; rw [hc]; rintro e w' ⟨rfl, rfl⟩))
    all_goals
      go_ret
      refine ⟨congrArg (fun n => Ending.returned (Value.int .i64 n)) ?_, by first | exact ⟨_, rfl⟩ | exact ⟨0, rfl⟩⟩
      rw [e0]
      grind
  | true =>
    rw [hc] at e0
    unfold eqC at e0
    generalize infB x = p at e0 hW
    generalize infB y = q at e0 hW
    cases p <;> cases q
    all_goals
      go_enter Try.func47, Try.ntmps47
      go_wp2_with (first
        | (go_at_call 26; refine (hW _).mono ?_; rintro e w' ⟨X, Y, n, rfl, rfl, i1, i2⟩)
        | (go_at_call 45; refine (unlike_impl _ _ _ _ _).mono ?_; rw [hc]; rintro e w' ⟨rfl, rfl⟩)
        | (go_at_call 61; refine (i1 _).mono ?_; clear i1; rintro e w' ⟨rfl, rfl⟩)
        | (go_at_call 61; refine (i2 _).mono ?_; rintro e w' ⟨rfl, rfl⟩))
      all_goals
        go_ret
        refine ⟨congrArg (fun n => Ending.returned (Value.int .i64 n)) ?_, by first | exact ⟨_, rfl⟩ | exact ⟨0, rfl⟩⟩
        rw [e0]
        grind
end Go.Proofs.Ytjjailllocakcaa
