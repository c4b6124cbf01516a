/-
  The law RestsOf: the walk.
-/
import Derived.Test.YtnjdoedhhpkjhaaRestsOf
import Derived.Test.YtnjdoedhhpkjhaaApart
import Derived.Test.YtnjdoedhhpkjhaaMark
import Derived.Test.YtnjdoedhhpkjhaaCodeB
namespace Go.Proofs.Ytnjdoedhhpkjhaa
open Go.RowKit Go.ChangeShapes Go.WideShapes Go.Maps
set_option linter.unusedVariables false
attribute [local go_sem ↓] Go.wp_at_zero Go.wp_at_succ

set_option maxRecDepth 100000 in
set_option maxHeartbeats 4000000 in
theorem lawRestsOf (w : World) (ao : Option Addr) (n cap : Nat) (l : List ByteArray) (ha : StArg w ao n cap l) :
    Calls Try.prog 4 #[.slice ao n cap] w fun e w' => e = .returned (.bool true) ∧ Below w.heap.size w w' := by
  obtain ⟨hn, hm, hr, hs⟩ := ha
  have HN := hid hn
  clear hn
  obtain ⟨S0, hS0⟩ := good_exists l
  have hlen := restsL_len hS0
  rw [← strs_len] at hlen
  obtain ⟨xs, hxs⟩ : ∃ xs, xs = restsL l S0 := ⟨_, rfl⟩
  rw [← hxs] at hlen
  have HX := hid hxs
  clear hxs
  obtain ⟨c0, hc0⟩ : ∃ c, c = restsC l := ⟨_, rfl⟩
  have HC0 := hid hc0
  clear hc0
  go_enter Try.func4, Try.ntmps4
  go_wp2_with fail
  refine (szStringS_any ao n cap l 1048576 _ (by omega) (by omega) HN.out hm hr hs).mono ?_
  rintro e w1 ⟨rfl, hb1⟩
  have B1 := hb1
  have hle := szAllSt_le 1048576 n l (by omega) (by omega)
  by_cases hz : (szAllSt 1048576 n l) < 0
  · go_wp2_with fail
    go_ret
    exact ⟨rfl, B1⟩
  have h20 := szAllSt_len (by omega) hz
  go_wp2_with fail
  refine (toStringS_any ao n cap l _ HN.out (rd_below hr B1) h20).mono ?_
  rintro e w2 ⟨ap, ac, rfl, oa_2, hb2⟩
  have B2 := B1.trans (hb2.mono B1.size)
  go_wp2_with fail
  refine (sRestsOf_any S0 ap n ac l _ hS0 HN.out (owns_rdN oa_2) hs h20 (owns_cap oa_2).1 (owns_cap oa_2).2).mono ?_
  rw [← HX.out, ← HC0.out]
  rintro e w3 ⟨wp, wc, rfl, ow_3, hb3⟩
  have B3 := B2.trans (hb3.mono B2.size)
  have oa_3 := owns_below oa_2 hb3
  go_wp2_with fail
  refine (toStringS_any ao n cap l _ HN.out (rd_below hr B3) h20).mono ?_
  rintro e w4 ⟨xp, xc, rfl, ox_4, hb4⟩
  have B4 := B3.trans (hb4.mono B3.size)
  have ow_4 := owns_below ow_3 hb4
  go_wp2_with fail
  refine (restsOf_any S0 xp n xc l _ hS0 HN.out (owns_rdN ox_4) hs h20).mono ?_
  rw [← HX.out, ← HC0.out]
  rintro e w5 ⟨gp, gc, rfl, og_5, hb5⟩
  have B5 := B4.trans (hb5.mono B4.size)
  have ow_5 := owns_below ow_4 hb5
  have ox_5 := owns_below ox_4 hb5
  go_wp2_with fail
  refine (eqStringS_any _ _ xs _ _ _ _ (strs_len xs) (by omega) (owns_rdN og_5) (owns_rdN ow_5)).mono ?_
  rintro e w6 ⟨rfl, hb6⟩
  have B6 := B5.trans (hb6.mono B5.size)
  have ow_6 := owns_below ow_5 hb6
  have ox_6 := owns_below ox_5 hb6
  have og_6 := owns_below og_5 hb6
  go_wp2_with fail
  refine (toStringS_any ao n cap l _ HN.out (rd_below hr B6) h20).mono ?_
  rintro e w7 ⟨yp, yc, rfl, oy_7, hb7⟩
  have B7 := B6.trans (hb7.mono B6.size)
  have ow_7 := owns_below ow_6 hb7
  have ox_7 := owns_below ox_6 hb7
  have og_7 := owns_below og_6 hb7
  go_wp2_with fail
  refine (eqStringS_any _ _ l _ _ _ _ HN.out (by omega) (owns_rdN ox_7) (owns_rdN oy_7)).mono ?_
  rintro e w8 ⟨rfl, hb8⟩
  have B8 := B7.trans (hb8.mono B7.size)
  have ow_8 := owns_below ow_7 hb8
  have ox_8 := owns_below ox_7 hb8
  have og_8 := owns_below og_7 hb8
  go_wp2_with fail
  refine (markSt_any _ _ _ _ _ (1) _ ox_8 h20 (by omega) (by omega)).mono ?_
  rintro e w9 ⟨rfl, ox_9, hg9⟩
  have B9 := below_grown B8 B8.size (owns_mono ox_8 B3.size) hg9
  have ow_9 := ow_8.kept hg9 (owns_apart ow_3 ox_4)
  have og_9 := og_8.kept hg9 (owns_apart2 ox_4 og_5)
  go_wp2_with fail
  refine (eqStringS_any _ _ xs _ _ _ _ (strs_len xs) (by omega) (owns_rdN og_9) (owns_rdN ow_9)).mono ?_
  rintro e w10 ⟨rfl, hb10⟩
  have B10 := B9.trans (hb10.mono B9.size)
  have ow_10 := owns_below ow_9 hb10
  have og_10 := owns_below og_9 hb10
  go_wp2_with fail
  refine (markSt_any _ _ _ _ _ 1 _ og_10 (by omega) (by omega) (by omega)).mono ?_
  rintro e w11 ⟨rfl, og_11, hg11⟩
  have B11 := below_grown B10 B10.size (owns_mono og_10 B4.size) hg11
  have ow_11 := ow_10.kept hg11 (owns_apart ow_4 og_5)
  go_wp2_with fail
  refine (heldSt_any _ _ _ 1 _ (owns_rdN og_11) (by omega) (by omega) (by omega)).mono ?_
  rintro e w12 ⟨rfl, hb12⟩
  have B12 := B11.trans (hb12.mono B11.size)
  have ow_12 := owns_below ow_11 hb12
  have og_12 := owns_below og_11 hb12
  go_wp2_with fail
  refine (toStringS_any ao n cap l _ HN.out (rd_below hr B12) h20).mono ?_
  rintro e w13 ⟨zp, zc, rfl, oz_13, hb13⟩
  have B13 := B12.trans (hb13.mono B12.size)
  have ow_13 := owns_below ow_12 hb13
  have og_13 := owns_below og_12 hb13
  go_wp2_with fail
  refine (restsOf_any S0 zp n zc l _ hS0 HN.out (owns_rdN oz_13) hs h20).mono ?_
  rw [← HX.out, ← HC0.out]
  rintro e w14 ⟨hp, hc, rfl, oh_14, hb14⟩
  have B14 := B13.trans (hb14.mono B13.size)
  have ow_14 := owns_below ow_13 hb14
  have og_14 := owns_below og_13 hb14
  have oz_14 := owns_below oz_13 hb14
  go_wp2_with fail
  refine (eqStringS_any _ _ xs _ _ _ _ (strs_len xs) (by omega) (owns_rdN oh_14) (owns_rdN ow_14)).mono ?_
  rintro e w15 ⟨rfl, hb15⟩
  have B15 := B14.trans (hb15.mono B14.size)
  have ow_15 := owns_below ow_14 hb15
  have og_15 := owns_below og_14 hb15
  have oh_15 := owns_below oh_14 hb15
  go_wp2_with fail
  refine (heldSt_any _ _ _ 1 _ (owns_rdN og_15) (by omega) (by omega) (by omega)).mono ?_
  rintro e w16 ⟨rfl, hb16⟩
  have B16 := B15.trans (hb16.mono B15.size)
  have ow_16 := owns_below ow_15 hb16
  have og_16 := owns_below og_15 hb16
  have oh_16 := owns_below oh_15 hb16
  go_wp2_with fail
  go_ret
  exact ⟨rfl, B16⟩
end Go.Proofs.Ytnjdoedhhpkjhaa
