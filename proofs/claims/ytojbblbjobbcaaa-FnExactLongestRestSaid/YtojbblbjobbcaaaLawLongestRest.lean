/-
  The law LongestRest: the walk.
-/
import Derived.Test.YtojbblbjobbcaaaRestC
import Derived.Test.YtojbblbjobbcaaaCodeB
namespace Go.Proofs.Ytojbblbjobbcaaa
open Go.RowKit Go.ChangeShapes Go.WideShapes Go.Maps
set_option linter.unusedVariables false
attribute [local go_sem ↓] Go.wp_at_zero Go.wp_at_succ

set_option maxRecDepth 100000 in
set_option maxHeartbeats 4000000 in
theorem lawLongestRest (w : World) (ao : Option Addr) (n cap : Nat) (l : List ByteArray) (ha : StArg w ao n cap l) :
    Calls Try.prog 11 #[.slice ao n cap] w fun e w' => e = .returned (.bool true) ∧ Below w.heap.size w w' := by
  obtain ⟨hn, hm, hr, hs⟩ := ha
  have HN := hid hn
  clear hn
  obtain ⟨S0, hS0⟩ := good_exists l
  go_enter Try.func11, Try.ntmps11
  go_wp2_with fail
  refine (szStringS_any ao n cap l 1048576 _ (by omega) (by omega) HN.out hm hr hs).mono ?_
  rintro e w1 ⟨rfl, hb1⟩
  have B1 := hb1
  have hle := szAllSt_le 1048576 n l (by omega) (by omega)
  by_cases hz : (szAllSt 1048576 n l) < 0
  · go_wp2_with fail
    go_ret
    exact ⟨rfl, B1⟩
  have h20 := szAllSt_len (by omega) hz
  go_wp2_with fail
  refine (toStringS_any ao n cap l _ HN.out (rd_below hr B1) h20).mono ?_
  rintro e w2 ⟨ap, ac, rfl, oa_2, hb2⟩
  have B2 := B1.trans (hb2.mono B1.size)
  go_wp2_with fail
  refine (sLong_any S0 ap n ac l _ hS0 HN.out (owns_rdN oa_2) hs h20 (owns_cap oa_2).1 (owns_cap oa_2).2).mono ?_
  rintro e w3 ⟨rfl, hb3⟩
  have B3 := B2.trans (hb3.mono B2.size)
  have oa_3 := owns_below oa_2 hb3
  go_wp2_with fail
  refine (toStringS_any ao n cap l _ HN.out (rd_below hr B3) h20).mono ?_
  rintro e w4 ⟨xp, xc, rfl, ox_4, hb4⟩
  have B4 := B3.trans (hb4.mono B3.size)
  go_wp2_with fail
  refine (long_any S0 xp n xc l _ hS0 HN.out (owns_rdN ox_4) hs h20).mono ?_
  rintro e w5 ⟨rfl, hb5⟩
  have B5 := B4.trans (hb5.mono B4.size)
  have ox_5 := owns_below ox_4 hb5
  go_wp2_with fail
  refine (toStringS_any ao n cap l _ HN.out (rd_below hr B5) h20).mono ?_
  rintro e w6 ⟨yp, yc, rfl, oy_6, hb6⟩
  have B6 := B5.trans (hb6.mono B5.size)
  have ox_6 := owns_below ox_5 hb6
  go_wp2_with fail
  refine (eqStringS_any _ _ l _ _ _ _ HN.out (by omega) (owns_rdN ox_6) (owns_rdN oy_6)).mono ?_
  rintro e w7 ⟨rfl, hb7⟩
  have B7 := B6.trans (hb7.mono B6.size)
  have ox_7 := owns_below ox_6 hb7
  go_wp2_with fail
  go_ret
  exact ⟨rfl, B7⟩
end Go.Proofs.Ytojbblbjobbcaaa
