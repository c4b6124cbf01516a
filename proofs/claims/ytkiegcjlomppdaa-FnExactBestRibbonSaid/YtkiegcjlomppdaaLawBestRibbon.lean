/-
  The law BestRibbon: the walk.
-/
import Derived.Test.YtkiegcjlomppdaaRibBest
import Derived.Test.YtkiegcjlomppdaaApart
namespace Go.Proofs.Ytkiegcjlomppdaa
open Go.RowKit Go.ChangeShapes Go.WideShapes Go.Maps
set_option linter.unusedVariables false
attribute [local go_sem ↓] Go.wp_at_zero Go.wp_at_succ

set_option maxRecDepth 100000 in
set_option maxHeartbeats 4000000 in
theorem lawBestRibbon (w : World) (ao : Option Addr) (n cap : Nat) (l : List Rb) (ha : RbArg w ao n cap l) (aop : Option Addr) (np capp : Nat) (lp : List Int) (hap : InArg w aop np capp lp) (u : Int) (hu : -9223372036854775808 ≤ u ∧ u ≤ 9223372036854775807) (v : Int) (hv : -9223372036854775808 ≤ v ∧ v ≤ 9223372036854775807) :
    Calls Try.prog 13 #[.slice ao n cap, .slice aop np capp, .int .i64 u, .int .i64 v] w fun e w' => e = .returned (.bool true) ∧ Below w.heap.size w w' := by
  obtain ⟨hn, hm, hr, hs⟩ := ha
  have HN := hid hn
  clear hn
  obtain ⟨hnp, hmp, hrp, hsp⟩ := hap
  have HNp := hid hnp
  clear hnp
  have hmp' := hmp
  unfold maxLen at hmp'
  by_cases hbigp : (1048576 : Int) < (np : Int)
  · go_enter Try.func13, Try.ntmps13
    go_wp2_with fail
    go_ret
    refine ⟨rfl, ?_⟩
    (repeat (first | with_reducible exact Below.refl _ _ | with_reducible assumption | refine Below.drew ?_ | refine below_drewN ?_ _ | (refine Below.alloc ?_ (by first | omega | (simp; done) | (simp; omega)) _) | (refine Below.setCell ?_ (by first | omega | (simp; done) | (simp; omega)) _) | (refine Below.trans ?_ (Below.mono (by assumption) (by first | omega | (simp; done) | (simp; omega))))))
  have h20p : np ≤ 1048576 := by omega
  go_enter Try.func13, Try.ntmps13
  go_wp2_with fail
  refine (szRb_any ao n cap l 1048576 _ (by omega) (by omega) HN.out hm hr hs).mono ?_
  rintro e w1 ⟨rfl, hb1⟩
  have B1 := hb1
  have hle := szRb_le 1048576 n l (by omega) (by omega)
  by_cases hz : (szRb 1048576 n l) < 0
  · go_wp2_with fail
    go_ret
    exact ⟨rfl, B1⟩
  have h20 := szRb_len (by omega) hz
  go_wp2_with fail
  refine (toRb_any ao n cap l _ HN.out (rd_below hr B1) h20).mono ?_
  rintro e w2 ⟨ap, ac, rfl, oa_2, hb2⟩
  have B2 := B1.trans (hb2.mono B1.size)
  go_wp2_with fail
  refine (toI64S_any aop np capp lp _ HNp.out (rd_below hrp B2) h20p).mono ?_
  rintro e w3 ⟨app, apc, rfl, oap_3, hb3⟩
  have B3 := B2.trans (hb3.mono B2.size)
  have oa_3 := owns_below oa_2 hb3
  go_wp2_with fail
  refine (sBest_any ap n ac l app np apc lp u v _ HN.out (owns_rdN oa_3) h20 HNp.out (owns_rd oap_3) h20p).mono ?_
  rintro e w4 ⟨rfl, hb4⟩
  have B4 := B3.trans (hb4.mono B3.size)
  have oa_4 := owns_below oa_3 hb4
  have oap_4 := owns_below oap_3 hb4
  go_wp2_with fail
  refine (toRb_any ao n cap l _ HN.out (rd_below hr B4) h20).mono ?_
  rintro e w5 ⟨xp, xc, rfl, ox_5, hb5⟩
  have B5 := B4.trans (hb5.mono B4.size)
  go_wp2_with fail
  refine (toI64S_any aop np capp lp _ HNp.out (rd_below hrp B5) h20p).mono ?_
  rintro e w6 ⟨xpp, xpc, rfl, oxp_6, hb6⟩
  have B6 := B5.trans (hb6.mono B5.size)
  have ox_6 := owns_below ox_5 hb6
  go_wp2_with fail
  refine (best_any xp n xc l xpp np xpc lp u v _ HN.out (owns_rdN ox_6) h20 HNp.out (owns_rd oxp_6) h20p).mono ?_
  rintro e w7 ⟨rfl, hb7⟩
  have B7 := B6.trans (hb7.mono B6.size)
  have ox_7 := owns_below ox_6 hb7
  have oxp_7 := owns_below oxp_6 hb7
  go_wp2_with fail
  refine (toRb_any ao n cap l _ HN.out (rd_below hr B7) h20).mono ?_
  rintro e w8 ⟨yp, yc, rfl, oy_8, hb8⟩
  have B8 := B7.trans (hb8.mono B7.size)
  have ox_8 := owns_below ox_7 hb8
  have oxp_8 := owns_below oxp_7 hb8
  go_wp2_with fail
  refine (eqRb_any _ _ l _ _ _ _ HN.out (by omega) (owns_rdN ox_8) (owns_rdN oy_8)).mono ?_
  rintro e w9 ⟨rfl, hb9⟩
  have B9 := B8.trans (hb9.mono B8.size)
  have ox_9 := owns_below ox_8 hb9
  have oxp_9 := owns_below oxp_8 hb9
  go_wp2_with fail
  refine (toI64S_any aop np capp lp _ HNp.out (rd_below hrp B9) h20p).mono ?_
  rintro e w10 ⟨ypp, ypc, rfl, oyp_10, hb10⟩
  have B10 := B9.trans (hb10.mono B9.size)
  have ox_10 := owns_below ox_9 hb10
  have oxp_10 := owns_below oxp_9 hb10
  go_wp2_with fail
  refine (eqI64_any _ _ lp _ _ _ _ HNp.out (by omega) (owns_rd oxp_10) (owns_rd oyp_10)).mono ?_
  rintro e w11 ⟨rfl, hb11⟩
  have B11 := B10.trans (hb11.mono B10.size)
  have ox_11 := owns_below ox_10 hb11
  have oxp_11 := owns_below oxp_10 hb11
  go_wp2_with fail
  go_ret
  exact ⟨rfl, B11⟩
end Go.Proofs.Ytkiegcjlomppdaa
