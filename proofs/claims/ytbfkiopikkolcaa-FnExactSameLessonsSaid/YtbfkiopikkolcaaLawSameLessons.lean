/-
  The law SameLessons: the walk.
-/
import Derived.Test.YtbfkiopikkolcaaLsC
import Derived.Test.YtbfkiopikkolcaaApart
namespace Go.Proofs.Ytbfkiopikkolcaa
open Go.RowKit Go.ChangeShapes Go.WideShapes Go.Maps
set_option linter.unusedVariables false
attribute [local go_sem ↓] Go.wp_at_zero Go.wp_at_succ

set_option maxRecDepth 100000 in
set_option maxHeartbeats 4000000 in
theorem lawSameLessons (w : World) (ao1 : Option Addr) (n1 cap1 : Nat) (l1 : List Ls) (ha1 : LsArg w ao1 n1 cap1 l1) (ao2 : Option Addr) (n2 cap2 : Nat) (l2 : List Ls) (ha2 : LsArg w ao2 n2 cap2 l2) :
    Calls Try.prog 4 #[.slice ao1 n1 cap1, .slice ao2 n2 cap2] w fun e w' => e = .returned (.bool true) ∧ Below w.heap.size w w' := by
  obtain rfl : n1 = l1.length := ha1.1
  obtain rfl : n2 = l2.length := ha2.1
  go_enter Try.func4, Try.ntmps4
  go_wp2_with fail
  refine (szLessonS_any ao1 l1.length cap1 l1 1048576 _ (by omega) (by omega) ha1).mono ?_
  rintro e w1 ⟨rfl, hb1⟩
  have B1 := hb1
  have hle1 := szAllLs_le 1048576 l1.length l1 (by omega) (by omega)
  by_cases hz1 : (szAllLs 1048576 l1.length l1) < 0
  · go_wp2_with fail
    go_ret
    exact ⟨rfl, B1⟩
  have hsm1 := szAllLs_small2 rfl (by omega) (by omega) hz1
  have h201 := hsm1.1
  go_wp2_with fail
  refine (szLessonS_any ao2 l2.length cap2 l2 (szAllLs 1048576 l1.length l1) _ (by omega) (by omega) (ha2.below B1)).mono ?_
  rintro e w2 ⟨rfl, hb2⟩
  have B2 := B1.trans (hb2.mono B1.size)
  have hle2 := szAllLs_le (szAllLs 1048576 l1.length l1) l2.length l2 (by omega) (by omega)
  by_cases hz2 : (szAllLs (szAllLs 1048576 l1.length l1) l2.length l2) < 0
  · go_wp2_with fail
    go_ret
    exact ⟨rfl, B2⟩
  have hsm2 := szAllLs_small2 rfl (by omega) (by omega) hz2
  have h202 := hsm2.1
  go_wp2_with fail
  refine (toLessonS_any ao1 l1.length cap1 l1 _ (ha1.below B2) hsm1).mono ?_
  rintro e w3 ⟨a1p, a1c, a1L, rfl, oa1_3, ma1, hb3⟩
  have B3 := B2.trans (hb3.mono B2.size)
  go_wp2_with fail
  refine (toLessonS_any ao2 l2.length cap2 l2 _ (ha2.below B3) hsm2).mono ?_
  rintro e w4 ⟨a2p, a2c, a2L, rfl, oa2_4, ma2, hb4⟩
  have B4 := B3.trans (hb4.mono B3.size)
  have oa1_4 := oa1_3.below hb4
  go_wp2_with fail
  refine (sSameLs_any a1p l1.length a1c a1L a2p l2.length a2c a2L _ oa1_4 (ls_good ma1 hsm1) oa2_4 (ls_good ma2 hsm2)).mono ?_
  rw [ma1, ma2]
  rintro e w5 ⟨rfl, hb5⟩
  have B5 := B4.trans (hb5.mono B4.size)
  have oa1_5 := oa1_4.below hb5
  have oa2_5 := oa2_4.below hb5
  go_wp2_with fail
  refine (toLessonS_any ao1 l1.length cap1 l1 _ (ha1.below B5) hsm1).mono ?_
  rintro e w6 ⟨x1p, x1c, x1L, rfl, ox1_6, mx1, hb6⟩
  have B6 := B5.trans (hb6.mono B5.size)
  go_wp2_with fail
  refine (toLessonS_any ao2 l2.length cap2 l2 _ (ha2.below B6) hsm2).mono ?_
  rintro e w7 ⟨x2p, x2c, x2L, rfl, ox2_7, mx2, hb7⟩
  have B7 := B6.trans (hb7.mono B6.size)
  have ox1_7 := ox1_6.below hb7
  go_wp2_with fail
  refine (sameLs_any x1p l1.length x1c x1L x2p l2.length x2c x2L _ ox1_7 (ls_good mx1 hsm1) ox2_7 (ls_good mx2 hsm2)).mono ?_
  rw [mx1, mx2]
  rintro e w8 ⟨rfl, hb8⟩
  have B8 := B7.trans (hb8.mono B7.size)
  have ox1_8 := ox1_7.below hb8
  have ox2_8 := ox2_7.below hb8
  go_wp2_with fail
  refine (toLessonS_any ao1 l1.length cap1 l1 _ (ha1.below B8) hsm1).mono ?_
  rintro e w9 ⟨y1p, y1c, y1L, rfl, oy1_9, my1, hb9⟩
  have B9 := B8.trans (hb9.mono B8.size)
  have ox1_9 := ox1_8.below hb9
  have ox2_9 := ox2_8.below hb9
  go_wp2_with fail
  refine (eqLessonS_any _ _ _ _ _ x1L y1L _ ox1_9 oy1_9 (mx1.trans my1.symm) (ls_good mx1 hsm1)).mono ?_
  rintro e w10 ⟨rfl, hb10⟩
  have B10 := B9.trans (hb10.mono B9.size)
  have ox1_10 := ox1_9.below hb10
  have ox2_10 := ox2_9.below hb10
  go_wp2_with fail
  refine (toLessonS_any ao2 l2.length cap2 l2 _ (ha2.below B10) hsm2).mono ?_
  rintro e w11 ⟨y2p, y2c, y2L, rfl, oy2_11, my2, hb11⟩
  have B11 := B10.trans (hb11.mono B10.size)
  have ox1_11 := ox1_10.below hb11
  have ox2_11 := ox2_10.below hb11
  go_wp2_with fail
  refine (eqLessonS_any _ _ _ _ _ x2L y2L _ ox2_11 oy2_11 (mx2.trans my2.symm) (ls_good mx2 hsm2)).mono ?_
  rintro e w12 ⟨rfl, hb12⟩
  have B12 := B11.trans (hb12.mono B11.size)
  have ox1_12 := ox1_11.below hb12
  have ox2_12 := ox2_11.below hb12
  go_wp2_with fail
  go_ret
  exact ⟨rfl, B12⟩
end Go.Proofs.Ytbfkiopikkolcaa
