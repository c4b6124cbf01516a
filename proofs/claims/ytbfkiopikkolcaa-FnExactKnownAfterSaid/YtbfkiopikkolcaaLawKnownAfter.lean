/-
  The law KnownAfter: the walk.
-/
import Derived.Test.YtbfkiopikkolcaaLsG
import Derived.Test.YtbfkiopikkolcaaApart
namespace Go.Proofs.Ytbfkiopikkolcaa
open Go.RowKit Go.ChangeShapes Go.WideShapes Go.Maps
set_option linter.unusedVariables false
attribute [local go_sem ↓] Go.wp_at_zero Go.wp_at_succ

set_option maxRecDepth 100000 in
set_option maxHeartbeats 4000000 in
theorem lawKnownAfter (w : World) (ao : Option Addr) (n cap : Nat) (l : List Ls) (ha : LsArg w ao n cap l) (aos : Option Addr) (ns caps : Nat) (ls : List Int) (has : InArg w aos ns caps ls) :
    Calls Try.prog 7 #[.slice ao n cap, .slice aos ns caps] w fun e w' => e = .returned (.bool true) ∧ Below w.heap.size w w' := by
  obtain rfl : n = l.length := ha.1
  obtain ⟨hns, hms, hrs, hss⟩ := has
  have HNs := hid hns
  clear hns
  have hms' := hms
  unfold maxLen at hms'
  by_cases hbigs : (1048576 : Int) < (ns : Int)
  · go_enter Try.func7, Try.ntmps7
    go_wp2_with fail
    go_ret
    refine ⟨rfl, ?_⟩
    (repeat (first | with_reducible exact Below.refl _ _ | with_reducible assumption | refine Below.drew ?_ | refine below_drewN ?_ _ | (refine Below.alloc ?_ (by first | omega | (simp; done) | (simp; omega)) _) | (refine Below.setCell ?_ (by first | omega | (simp; done) | (simp; omega)) _) | (refine Below.trans ?_ (Below.mono (by assumption) (by first | omega | (simp; done) | (simp; omega))))))
  have h20s : ns ≤ 1048576 := by omega
  go_enter Try.func7, Try.ntmps7
  go_wp2_with fail
  refine (szLessonS_any ao l.length cap l 1048576 _ (by omega) (by omega) ha).mono ?_
  rintro e w1 ⟨rfl, hb1⟩
  have B1 := hb1
  have hle := szAllLs_le 1048576 l.length l (by omega) (by omega)
  by_cases hz : (szAllLs 1048576 l.length l) < 0
  · go_wp2_with fail
    go_ret
    exact ⟨rfl, B1⟩
  have hsm := szAllLs_small2 rfl (by omega) (by omega) hz
  have h20 := hsm.1
  go_wp2_with fail
  refine (toLessonS_any ao l.length cap l _ (ha.below B1) hsm).mono ?_
  rintro e w2 ⟨ap, ac, aL, rfl, oa_2, ma, hb2⟩
  have B2 := B1.trans (hb2.mono B1.size)
  go_wp2_with fail
  refine (toI64S_any aos ns caps ls _ HNs.out (rd_below hrs B2) h20s).mono ?_
  rintro e w3 ⟨asp, asc, rfl, oas_3, hb3⟩
  have B3 := B2.trans (hb3.mono B2.size)
  have oa_3 := oa_2.below hb3
  go_wp2_with fail
  refine (sKnownAf_any ap l.length ac aL asp ns asc ls _ oa_3 (ls_good ma hsm) HNs.out (owns_rd oas_3) h20s).mono ?_
  rw [ma]
  rintro e w4 ⟨rfl, hb4⟩
  have B4 := B3.trans (hb4.mono B3.size)
  have oa_4 := oa_3.below hb4
  have oas_4 := owns_below oas_3 hb4
  go_wp2_with fail
  refine (toLessonS_any ao l.length cap l _ (ha.below B4) hsm).mono ?_
  rintro e w5 ⟨xp, xc, xL, rfl, ox_5, mx, hb5⟩
  have B5 := B4.trans (hb5.mono B4.size)
  go_wp2_with fail
  refine (toI64S_any aos ns caps ls _ HNs.out (rd_below hrs B5) h20s).mono ?_
  rintro e w6 ⟨xsp, xsc, rfl, oxs_6, hb6⟩
  have B6 := B5.trans (hb6.mono B5.size)
  have ox_6 := ox_5.below hb6
  go_wp2_with fail
  refine (knownAf_any xp l.length xc xL xsp ns xsc ls _ ox_6 (ls_good mx hsm) HNs.out (owns_rd oxs_6) h20s).mono ?_
  rw [mx]
  rintro e w7 ⟨rfl, hb7⟩
  have B7 := B6.trans (hb7.mono B6.size)
  have ox_7 := ox_6.below hb7
  have oxs_7 := owns_below oxs_6 hb7
  go_wp2_with fail
  refine (toLessonS_any ao l.length cap l _ (ha.below B7) hsm).mono ?_
  rintro e w8 ⟨yp, yc, yL, rfl, oy_8, my, hb8⟩
  have B8 := B7.trans (hb8.mono B7.size)
  have ox_8 := ox_7.below hb8
  have oxs_8 := owns_below oxs_7 hb8
  go_wp2_with fail
  refine (eqLessonS_any _ _ _ _ _ xL yL _ ox_8 oy_8 (mx.trans my.symm) (ls_good mx hsm)).mono ?_
  rintro e w9 ⟨rfl, hb9⟩
  have B9 := B8.trans (hb9.mono B8.size)
  have ox_9 := ox_8.below hb9
  have oxs_9 := owns_below oxs_8 hb9
  go_wp2_with fail
  refine (toI64S_any aos ns caps ls _ HNs.out (rd_below hrs B9) h20s).mono ?_
  rintro e w10 ⟨ysp, ysc, rfl, oys_10, hb10⟩
  have B10 := B9.trans (hb10.mono B9.size)
  have ox_10 := ox_9.below hb10
  have oxs_10 := owns_below oxs_9 hb10
  go_wp2_with fail
  refine (eqI64_any _ _ ls _ _ _ _ HNs.out (by omega) (owns_rd oxs_10) (owns_rd oys_10)).mono ?_
  rintro e w11 ⟨rfl, hb11⟩
  have B11 := B10.trans (hb11.mono B10.size)
  have ox_11 := ox_10.below hb11
  have oxs_11 := owns_below oxs_10 hb11
  go_wp2_with fail
  go_ret
  exact ⟨rfl, B11⟩
end Go.Proofs.Ytbfkiopikkolcaa
