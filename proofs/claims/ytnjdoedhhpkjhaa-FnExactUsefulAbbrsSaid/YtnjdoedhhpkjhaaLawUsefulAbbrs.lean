/-
  The law UsefulAbbrs: the walk.
-/
import Derived.Test.YtnjdoedhhpkjhaaUaS
import Derived.Test.YtnjdoedhhpkjhaaMarkAb
import Derived.Test.YtnjdoedhhpkjhaaApart
namespace Go.Proofs.Ytnjdoedhhpkjhaa
open Go.RowKit Go.ChangeShapes Go.WideShapes Go.Maps
set_option linter.unusedVariables false
attribute [local go_sem ↓] Go.wp_at_zero Go.wp_at_succ

set_option maxRecDepth 100000 in
set_option maxHeartbeats 4000000 in
theorem lawUsefulAbbrs (w : World) (aos : Option Addr) (ns caps : Nat) (ls : List Ab) (has : AbArg w aos ns caps ls) (q : ByteArray) (hq : q.size ≤ maxLen) :
    Calls Try.prog 3 #[.slice aos ns caps, .string q] w fun e w' => e = .returned (.bool true) ∧ Below w.heap.size w w' := by
  obtain ⟨hns, hms, hrs, hss⟩ := has
  have HNs := hid hns
  clear hns
  have hlen := uaL_len ls q
  rw [← i64s_len] at hlen
  obtain ⟨xs, hxs⟩ : ∃ xs, xs = uaL ls q := ⟨_, rfl⟩
  rw [← hxs] at hlen
  have HX := hid hxs
  clear hxs
  obtain ⟨c0, hc0⟩ : ∃ c, c = noteC ls q := ⟨_, rfl⟩
  have HC0 := hid hc0
  clear hc0
  have hq' := hq
  unfold maxLen at hq'
  by_cases hbigq : (1048576 : Int) < (q.size : Int)
  · go_enter Try.func3, Try.ntmps3
    go_wp2_with fail
    go_ret
    refine ⟨rfl, ?_⟩
    (repeat (first | with_reducible exact Below.refl _ _ | with_reducible assumption | refine Below.drew ?_ | refine below_drewN ?_ _ | (refine Below.alloc ?_ (by first | omega | (simp; done) | (simp; omega)) _) | (refine Below.setCell ?_ (by first | omega | (simp; done) | (simp; omega)) _) | (refine Below.trans ?_ (Below.mono (by assumption) (by first | omega | (simp; done) | (simp; omega))))))
  go_enter Try.func3, Try.ntmps3
  go_wp2_with fail
  refine (szAbbrS_any aos ns caps ls 1048576 _ (by omega) (by omega) HNs.out hms hrs hss).mono ?_
  rintro e w1 ⟨rfl, hb1⟩
  have B1 := hb1
  have hles := szAllAb_le 1048576 ns ls (by omega) (by omega)
  by_cases hzs : (szAllAb 1048576 ns ls) < 0
  · go_wp2_with fail
    go_ret
    exact ⟨rfl, B1⟩
  have h20s := szAllAb_len (by omega) hzs
  go_wp2_with fail
  refine (toAbbrS_any aos ns caps ls _ HNs.out (rd_below hrs B1) h20s).mono ?_
  rintro e w2 ⟨asp, asc, rfl, oas_2, hb2⟩
  have B2 := B1.trans (hb2.mono B1.size)
  go_wp2_with fail
  refine (sUseful_any asp ns asc ls q _ HNs.out (owns_rdN oas_2) hss h20s (by omega)).mono ?_
  rw [← HX.out, ← HC0.out]
  rintro e w3 ⟨wp, wc, rfl, ow_3, hb3⟩
  have B3 := B2.trans (hb3.mono B2.size)
  have oas_3 := owns_below oas_2 hb3
  go_wp2_with fail
  refine (toAbbrS_any aos ns caps ls _ HNs.out (rd_below hrs B3) h20s).mono ?_
  rintro e w4 ⟨xsp, xsc, rfl, oxs_4, hb4⟩
  have B4 := B3.trans (hb4.mono B3.size)
  have ow_4 := owns_below ow_3 hb4
  go_wp2_with fail
  refine (useful_any xsp ns xsc ls q _ HNs.out (owns_rdN oxs_4) hss h20s (by omega)).mono ?_
  rw [← HX.out, ← HC0.out]
  rintro e w5 ⟨gp, gc, rfl, og_5, hb5⟩
  have B5 := B4.trans (hb5.mono B4.size)
  have ow_5 := owns_below ow_4 hb5
  have oxs_5 := owns_below oxs_4 hb5
  go_wp2_with fail
  refine (eqI64_any _ _ xs _ _ _ _ (i64s_len xs) (by omega) (owns_rd og_5) (owns_rd ow_5)).mono ?_
  rintro e w6 ⟨rfl, hb6⟩
  have B6 := B5.trans (hb6.mono B5.size)
  have ow_6 := owns_below ow_5 hb6
  have oxs_6 := owns_below oxs_5 hb6
  have og_6 := owns_below og_5 hb6
  go_wp2_with fail
  refine (toAbbrS_any aos ns caps ls _ HNs.out (rd_below hrs B6) h20s).mono ?_
  rintro e w7 ⟨ysp, ysc, rfl, oys_7, hb7⟩
  have B7 := B6.trans (hb7.mono B6.size)
  have ow_7 := owns_below ow_6 hb7
  have oxs_7 := owns_below oxs_6 hb7
  have og_7 := owns_below og_6 hb7
  go_wp2_with fail
  refine (eqAbbrS_any _ _ ls _ _ _ _ HNs.out (by omega) (owns_rdN oxs_7) (owns_rdN oys_7)).mono ?_
  rintro e w8 ⟨rfl, hb8⟩
  have B8 := B7.trans (hb8.mono B7.size)
  have ow_8 := owns_below ow_7 hb8
  have oxs_8 := owns_below oxs_7 hb8
  have og_8 := owns_below og_7 hb8
  go_wp2_with fail
  refine (markAb_any _ _ _ _ _ (1) _ oxs_8 h20s (by omega) (by omega)).mono ?_
  rintro e w9 ⟨rfl, oxs_9, hg9⟩
  have B9 := below_grown B8 B8.size (owns_mono oxs_8 B3.size) hg9
  have ow_9 := ow_8.kept hg9 (owns_apart ow_3 oxs_4)
  have og_9 := og_8.kept hg9 (owns_apart2 oxs_4 og_5)
  go_wp2_with fail
  refine (eqI64_any _ _ xs _ _ _ _ (i64s_len xs) (by omega) (owns_rd og_9) (owns_rd ow_9)).mono ?_
  rintro e w10 ⟨rfl, hb10⟩
  have B10 := B9.trans (hb10.mono B9.size)
  have ow_10 := owns_below ow_9 hb10
  have og_10 := owns_below og_9 hb10
  go_wp2_with fail
  refine (mark64_any _ _ _ _ _ 1 _ og_10 (by omega) (by omega) (by omega)).mono ?_
  rintro e w11 ⟨rfl, og_11, hg11⟩
  have B11 := below_grown B10 B10.size (owns_mono og_10 B4.size) hg11
  have ow_11 := ow_10.kept hg11 (owns_apart ow_4 og_5)
  go_wp2_with fail
  refine (held64_any _ _ _ 1 _ (owns_rdN og_11) (by omega) (by omega) (by omega)).mono ?_
  rintro e w12 ⟨rfl, rfl⟩
  go_wp2_with fail
  refine (toAbbrS_any aos ns caps ls _ HNs.out (rd_below hrs B11) h20s).mono ?_
  rintro e w12 ⟨zsp, zsc, rfl, ozs_12, hb12⟩
  have B12 := B11.trans (hb12.mono B11.size)
  have ow_12 := owns_below ow_11 hb12
  have og_12 := owns_below og_11 hb12
  go_wp2_with fail
  refine (useful_any zsp ns zsc ls q _ HNs.out (owns_rdN ozs_12) hss h20s (by omega)).mono ?_
  rw [← HX.out, ← HC0.out]
  rintro e w13 ⟨hp, hc, rfl, oh_13, hb13⟩
  have B13 := B12.trans (hb13.mono B12.size)
  have ow_13 := owns_below ow_12 hb13
  have og_13 := owns_below og_12 hb13
  have ozs_13 := owns_below ozs_12 hb13
  go_wp2_with fail
  refine (eqI64_any _ _ xs _ _ _ _ (i64s_len xs) (by omega) (owns_rd oh_13) (owns_rd ow_13)).mono ?_
  rintro e w14 ⟨rfl, hb14⟩
  have B14 := B13.trans (hb14.mono B13.size)
  have ow_14 := owns_below ow_13 hb14
  have og_14 := owns_below og_13 hb14
  have oh_14 := owns_below oh_13 hb14
  go_wp2_with fail
  refine (held64_any _ _ _ 1 _ (owns_rdN og_14) (by omega) (by omega) (by omega)).mono ?_
  rintro e w15 ⟨rfl, rfl⟩
  go_wp2_with fail
  go_ret
  exact ⟨rfl, B14⟩
end Go.Proofs.Ytnjdoedhhpkjhaa
