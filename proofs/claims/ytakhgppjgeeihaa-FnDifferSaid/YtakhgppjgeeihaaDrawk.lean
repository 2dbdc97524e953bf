/-
  The draw of WidthsDiffer. Conditions: none.
-/
import Derived.Test.YtakhgppjgeeihaaDrawj
namespace Go.Proofs.Ytakhgppjgeeihaa
open Go.RowKit
theorem DrawWidthsDiffer_any (w : World) (a : Option Addr) (len cap : Nat) (h : Code8 w a len cap) : Calls Try.prog 23 #[.slice a len cap] w (GotJ w) := by
  go_enter Try.func23, Try.ntmps23
  go_wp2_with fail
  refine (open_any _ _ _ _ h).mono ?_
  rintro e w1 ⟨g, rfl, hr, hg, hb⟩
  go_wp2_with fail
  refine (pick_call _ _ _ _ hr (by omega) (by omega) (by omega)).mono ?_
  rintro e w2 ⟨k1, rfl, h1, h2, hr2, hb2⟩
  have HB2 := Lib.hid (hb.trans (hb2.mono hg))
  have HG := Lib.hid hg
  clear hr hb hb2 hg h
  by_cases hk : k1 = 0
  · subst hk
    go_wp2_with fail
    refine (l91C_any _ _ _ hr2 (by omega)).mono ?_
    rintro e w3 ⟨⟨x, y, rfl, hx, hy⟩, hr3, hb3⟩
    have HX := Lib.hid hx
    have HY := Lib.hid hy
    clear hx hy
    go_wp2_with fail
    refine (l91Most_any _ _ _ (hr3.drewN _) (by omega)).mono ?_
    rintro e w4 ⟨⟨k, rfl, h3, h4⟩, hr4, hb4⟩
    go_wp2
    go_ret2
    exact ⟨_, _, k, rfl, ffV_lt .f64 .f32 _ _ HX.out, ffV_lt .f64 .f32 _ _ HY.out, h3, h4, HB2.out.trans (((below_drewN hb3 _).trans hb4).mono HG.out)⟩
  · go_wp2_with fail
    refine (pick_call _ _ _ _ hr2 (by omega) (by omega) (by omega)).mono ?_
    rintro e w3 ⟨k3, rfl, h3, h4, hr3, hb3⟩
    go_wp2_with fail
    refine (pick_call _ _ _ _ (hr3.drewN _) (by omega) (by omega) (by omega)).mono ?_
    rintro e w4 ⟨k4, rfl, h5, h6, hr4, hb4⟩
    go_wp2_with fail
    refine (pick_call _ _ _ _ (hr4.drewN _) (by omega) (by omega) (by omega)).mono ?_
    rintro e w5 ⟨k5, rfl, h7, h8, hr5, hb5⟩
    go_wp2
    go_ret2
    exact ⟨_, _, _, rfl, faV_lt _ _ _ _ _, faV_lt _ _ _ _ _, by omega, by omega, HB2.out.trans ((((below_drewN hb3 _).trans (below_drewN hb4 _)).trans hb5).mono HG.out)⟩
end Go.Proofs.Ytakhgppjgeeihaa
