/-
  The law WearSheets: the walk.
-/
import Derived.Test.YtbfkiopikkolcaaEvE
import Derived.Test.YtbfkiopikkolcaaApart
namespace Go.Proofs.Ytbfkiopikkolcaa
open Go.RowKit Go.ChangeShapes Go.WideShapes Go.Maps
set_option linter.unusedVariables false
attribute [local go_sem ↓] Go.wp_at_zero Go.wp_at_succ

set_option maxRecDepth 100000 in
set_option maxHeartbeats 4000000 in
theorem lawWearSheets (w : World) (aos : Option Addr) (ns caps : Nat) (ls : List Int) (has : InArg w aos ns caps ls) (t : Int) (ht : -9223372036854775808 ≤ t ∧ t ≤ 9223372036854775807) :
    Calls Try.prog 9 #[.slice aos ns caps, .int .i64 t] w fun e w' => e = .returned (.bool true) ∧ Below w.heap.size w w' := by
  obtain ⟨hns, hms, hrs, hss⟩ := has
  have HNs := hid hns
  clear hns
  have hlen := wearR_len ls t
  rw [← i64s_len] at hlen
  obtain ⟨xs, hxs⟩ : ∃ xs, xs = wearR ls t := ⟨_, rfl⟩
  rw [← hxs] at hlen
  have HX := hid hxs
  clear hxs
  obtain ⟨c0, hc0⟩ : ∃ c, c = wearC ls t := ⟨_, rfl⟩
  have HC0 := hid hc0
  clear hc0
  have hms' := hms
  unfold maxLen at hms'
  by_cases hbigs : (1048576 : Int) < (ns : Int)
  · go_enter Try.func9, Try.ntmps9
    go_wp2_with fail
    go_ret
    refine ⟨rfl, ?_⟩
    (repeat (first | with_reducible exact Below.refl _ _ | with_reducible assumption | refine Below.drew ?_ | refine below_drewN ?_ _ | (refine Below.alloc ?_ (by first | omega | (simp; done) | (simp; omega)) _) | (refine Below.setCell ?_ (by first | omega | (simp; done) | (simp; omega)) _) | (refine Below.trans ?_ (Below.mono (by assumption) (by first | omega | (simp; done) | (simp; omega))))))
  have h20s : ns ≤ 1048576 := by omega
  go_enter Try.func9, Try.ntmps9
  go_wp2_with fail
  refine (toI64S_any aos ns caps ls _ HNs.out hrs h20s).mono ?_
  rintro e w1 ⟨asp, asc, rfl, oas_1, hb1⟩
  have B1 := hb1
  go_wp2_with fail
  refine (sWear_any _ asp ns asc ls t _ HNs.out oas_1 h20s).mono ?_
  rw [← HX.out, ← HC0.out]
  rintro e w2 ⟨wp, wc, rfl, ow_2, hb2⟩
  have B2 := B1.trans (hb2.mono B1.size)
  have oas_2 := owns_below oas_1 hb2
  go_wp2_with fail
  refine (toI64S_any aos ns caps ls _ HNs.out (rd_below hrs B2) h20s).mono ?_
  rintro e w3 ⟨xsp, xsc, rfl, oxs_3, hb3⟩
  have B3 := B2.trans (hb3.mono B2.size)
  have ow_3 := owns_below ow_2 hb3
  go_wp2_with fail
  refine (wear_any _ xsp ns xsc ls t _ HNs.out oxs_3 h20s).mono ?_
  rw [← HX.out, ← HC0.out]
  rintro e w4 ⟨gp, gc, rfl, og_4, hb4⟩
  have B4 := B3.trans (hb4.mono B3.size)
  have ow_4 := owns_below ow_3 hb4
  have oxs_4 := owns_below oxs_3 hb4
  go_wp2_with fail
  refine (eqI64_any _ _ xs _ _ _ _ (i64s_len xs) (by omega) (owns_rd og_4) (owns_rd ow_4)).mono ?_
  rintro e w5 ⟨rfl, hb5⟩
  have B5 := B4.trans (hb5.mono B4.size)
  have ow_5 := owns_below ow_4 hb5
  have oxs_5 := owns_below oxs_4 hb5
  have og_5 := owns_below og_4 hb5
  go_wp2_with fail
  refine (toI64S_any aos ns caps ls _ HNs.out (rd_below hrs B5) h20s).mono ?_
  rintro e w6 ⟨ysp, ysc, rfl, oys_6, hb6⟩
  have B6 := B5.trans (hb6.mono B5.size)
  have ow_6 := owns_below ow_5 hb6
  have oxs_6 := owns_below oxs_5 hb6
  have og_6 := owns_below og_5 hb6
  go_wp2_with fail
  refine (eqI64_any _ _ ls _ _ _ _ HNs.out (by omega) (owns_rd oxs_6) (owns_rd oys_6)).mono ?_
  rintro e w7 ⟨rfl, hb7⟩
  have B7 := B6.trans (hb7.mono B6.size)
  have ow_7 := owns_below ow_6 hb7
  have oxs_7 := owns_below oxs_6 hb7
  have og_7 := owns_below og_6 hb7
  go_wp2_with fail
  refine (mark64_any _ _ _ _ _ (1) _ oxs_7 (by omega) (by omega) (by omega)).mono ?_
  rintro e w8 ⟨rfl, oxs_8, hg8⟩
  have B8 := below_grown B7 B7.size (owns_mono oxs_7 B2.size) hg8
  have ow_8 := ow_7.kept hg8 (owns_apart ow_2 oxs_3)
  have og_8 := og_7.kept hg8 (owns_apart2 oxs_3 og_4)
  go_wp2_with fail
  refine (eqI64_any _ _ xs _ _ _ _ (i64s_len xs) (by omega) (owns_rd og_8) (owns_rd ow_8)).mono ?_
  rintro e w9 ⟨rfl, hb9⟩
  have B9 := B8.trans (hb9.mono B8.size)
  have ow_9 := owns_below ow_8 hb9
  have og_9 := owns_below og_8 hb9
  go_wp2_with fail
  refine (mark64_any _ _ _ _ _ 1 _ og_9 (by omega) (by omega) (by omega)).mono ?_
  rintro e w10 ⟨rfl, og_10, hg10⟩
  have B10 := below_grown B9 B9.size (owns_mono og_9 B3.size) hg10
  have ow_10 := ow_9.kept hg10 (owns_apart ow_3 og_4)
  go_wp2_with fail
  refine (held64_any _ _ _ 1 _ (owns_rdN og_10) (by omega) (by omega) (by omega)).mono ?_
  rintro e w11 ⟨rfl, rfl⟩
  go_wp2_with fail
  refine (toI64S_any aos ns caps ls _ HNs.out (rd_below hrs B10) h20s).mono ?_
  rintro e w11 ⟨zsp, zsc, rfl, ozs_11, hb11⟩
  have B11 := B10.trans (hb11.mono B10.size)
  have ow_11 := owns_below ow_10 hb11
  have og_11 := owns_below og_10 hb11
  go_wp2_with fail
  refine (wear_any _ zsp ns zsc ls t _ HNs.out ozs_11 h20s).mono ?_
  rw [← HX.out, ← HC0.out]
  rintro e w12 ⟨hp, hc, rfl, oh_12, hb12⟩
  have B12 := B11.trans (hb12.mono B11.size)
  have ow_12 := owns_below ow_11 hb12
  have og_12 := owns_below og_11 hb12
  have ozs_12 := owns_below ozs_11 hb12
  go_wp2_with fail
  refine (eqI64_any _ _ xs _ _ _ _ (i64s_len xs) (by omega) (owns_rd oh_12) (owns_rd ow_12)).mono ?_
  rintro e w13 ⟨rfl, hb13⟩
  have B13 := B12.trans (hb13.mono B12.size)
  have ow_13 := owns_below ow_12 hb13
  have og_13 := owns_below og_12 hb13
  have oh_13 := owns_below oh_12 hb13
  go_wp2_with fail
  refine (held64_any _ _ _ 1 _ (owns_rdN og_13) (by omega) (by omega) (by omega)).mono ?_
  rintro e w14 ⟨rfl, rfl⟩
  go_wp2_with fail
  go_ret
  exact ⟨rfl, B13⟩
end Go.Proofs.Ytbfkiopikkolcaa
