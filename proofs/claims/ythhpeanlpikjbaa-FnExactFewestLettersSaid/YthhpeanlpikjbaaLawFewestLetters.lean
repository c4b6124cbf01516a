/-
  The law FewestLetters: the walk.
-/
import Derived.Test.YthhpeanlpikjbaaFlLaw
import Derived.OwnWalk
import Derived.Test.YthhpeanlpikjbaaApart
namespace Go.Proofs.Ythhpeanlpikjbaa
open Go.RowKit Go.ChangeShapes Go.WideShapes Go.Maps
set_option linter.unusedVariables false
attribute [local go_sem ↓] Go.wp_at_zero Go.wp_at_succ

set_option maxRecDepth 100000 in
set_option maxHeartbeats 4000000 in
theorem lawFewestLetters (w : World) (ao1 : Option Addr) (n1 cap1 : Nat) (l1 : List Ws) (ha1 : WsArg w ao1 n1 cap1 l1) :
    Calls Try.prog 11 #[.slice ao1 n1 cap1] w fun e w' => e = .returned (.bool true) ∧ Below w.heap.size w w' := by
  obtain rfl : n1 = l1.length := ha1.1
  have hlen := flL_len l1
  have HS2 := hid (sFew2 l1)
  have HI2 := hid (few2 l1)
  obtain ⟨xs, hxs⟩ : ∃ xs, xs = flL l1 := ⟨_, rfl⟩
  rw [← hxs] at hlen HS2 HI2
  clear hxs
  obtain ⟨c0, hc0⟩ : ∃ c, c = flC l1 := ⟨_, rfl⟩
  rw [← hc0] at HS2 HI2
  clear hc0
  obtain ⟨N, hN⟩ : ∃ N, N = xs.length := ⟨_, rfl⟩
  rw [← hN] at hlen HS2 HI2
  have HNX := hid hN
  clear hN
  go_enter Try.func11, Try.ntmps11
  go_wp2_with fail
  refine (szWriterS_any ao1 l1.length cap1 l1 1048576 _ (by omega) (by omega) ha1).mono ?_
  rintro e w1 ⟨rfl, hb1⟩
  have B1 := hb1
  have hle1 := szAllWs_le 1048576 l1.length l1 (by omega) (by omega)
  by_cases hz1 : (szAllWs 1048576 l1.length l1) < 0
  · go_wp2_with fail
    go_ret
    exact ⟨rfl, B1⟩
  have hsm1 := szAllWs_small2 rfl (by omega) (by omega) hz1
  have hTT := wsT_smallF (l := l1) rfl hz1
  have h201 := hsm1.1
  go_wp2_with fail
  refine (toWriterS_any ao1 l1.length cap1 l1 _ (ha1.below B1) hsm1).mono ?_
  rintro e w2 ⟨a1p, a1c, a1L, rfl, oa1_2, ma1, hb2⟩
  have B2 := B1.trans (hb2.mono B1.size)
  go_wp2_with fail
  refine (HS2.out a1p l1.length a1c a1L _ ma1 (oa1_2.arg (ws_good ma1 hsm1) (ws_sm ma1 (fun x hx => (ha1.2.2.2 x hx).sm))) (ws_good ma1 hsm1)).mono ?_
  rintro e w3 ⟨wp, wc, rfl, ow_3, hb3⟩
  have B3 := B2.trans (hb3.mono B2.size)
  go_wp2_with fail
  refine (toWriterS_any ao1 l1.length cap1 l1 _ (ha1.below B3) hsm1).mono ?_
  rintro e w4 ⟨x1p, x1c, x1L, rfl, ox1_4, mx1, hb4⟩
  have B4 := B3.trans (hb4.mono B3.size)
  have ow_4 := owns_below ow_3 hb4
  go_wp2_with fail
  refine (HI2.out x1p l1.length x1c x1L _ mx1 (ox1_4.arg (ws_good mx1 hsm1) (ws_sm mx1 (fun x hx => (ha1.2.2.2 x hx).sm))) (ws_good mx1 hsm1)).mono ?_
  rintro e w5 ⟨gp, gc, rfl, og_5, hb5⟩
  have B5 := B4.trans (hb5.mono B4.size)
  have ow_5 := owns_below ow_4 hb5
  have ox1_5 := ox1_4.below hb5
  go_wp2_with fail
  refine (eqStringS_any _ _ xs _ _ _ _ HNX.out (by omega) (owns_rdN og_5) (owns_rdN ow_5)).mono ?_
  rintro e w6 ⟨rfl, hb6⟩
  have B6 := B5.trans (hb6.mono B5.size)
  have ow_6 := owns_below ow_5 hb6
  have ox1_6 := ox1_5.below hb6
  have og_6 := owns_below og_5 hb6
  go_wp2_with fail
  refine (toWriterS_any ao1 l1.length cap1 l1 _ (ha1.below B6) hsm1).mono ?_
  rintro e w7 ⟨y1p, y1c, y1L, rfl, oy1_7, my1, hb7⟩
  have B7 := B6.trans (hb7.mono B6.size)
  have ow_7 := owns_below ow_6 hb7
  have ox1_7 := ox1_6.below hb7
  have og_7 := owns_below og_6 hb7
  go_wp2_with fail
  refine (eqWriterS_any _ _ _ _ _ x1L y1L _ (ox1_7.arg (ws_good mx1 hsm1) (ws_sm mx1 (fun x hx => (ha1.2.2.2 x hx).sm))) (oy1_7.arg (ws_good my1 hsm1) (ws_sm my1 (fun x hx => (ha1.2.2.2 x hx).sm))) (mx1.trans my1.symm) (ws_good mx1 hsm1)).mono ?_
  rintro e w8 ⟨rfl, hb8⟩
  have B8 := B7.trans (hb8.mono B7.size)
  have ow_8 := owns_below ow_7 hb8
  have ox1_8 := ox1_7.below hb8
  have og_8 := owns_below og_7 hb8
  go_wp2_with fail
  have hz8 : w4.heap.size ≤ w8.heap.size := by have := hb5.size; have := hb6.size; have := hb7.size; have := hb8.size; omega
  have hmT : wsT x1L ≤ 3145728 := by rw [wsT_dF mx1]; exact hTT
  refine (markWs_any w3.heap.size w4.heap.size _ _ _ x1L 1 _ ox1_8 hz8 (fun g hg => (ox1_4.row.lt g hg).2) (fun x hx g hg => ((ox1_4.inner x hx).lt g hg).2) (fun x hx => ((ws_good mx1 hsm1).2 x hx).2) h201 (by omega) (by omega)).mono ?_
  rintro e wM ⟨rfl, hgM⟩
  have BM := B8.trans ((hgM.toBelow (by have := hb4.size; omega)).mono B3.size)
  have ow_M := hgM.owns ow_8 (.inr fun g hg => .inl (ow_3.lt g hg).2)
  have og_M := hgM.owns og_8 (.inr fun g hg => .inr (og_8.lt g hg).1)
  go_wp2_with fail
  refine (eqStringS_any _ _ xs _ _ _ _ HNX.out (by omega) (owns_rdN og_M) (owns_rdN ow_M)).mono ?_
  rintro e w9 ⟨rfl, hb9⟩
  have B9 := BM.trans (hb9.mono BM.size)
  have ow_9 := owns_below ow_M hb9
  have og_9 := owns_below og_M hb9
  go_wp2_with fail
  refine (markSt_any _ _ _ _ _ 1 _ og_9 (by omega) (by omega) (by omega)).mono ?_
  rintro e w10 ⟨rfl, og_10, hg10⟩
  have B10 := below_grown B9 B9.size (owns_mono og_9 B4.size) hg10
  have ow_10 := ow_9.kept hg10 (owns_apart ow_4 og_5)
  go_wp2_with fail
  refine (heldSt_any _ _ _ 1 _ (owns_rdN og_10) (by omega) (by omega) (by omega)).mono ?_
  rintro e w11 ⟨rfl, hb11⟩
  have B11 := B10.trans (hb11.mono B10.size)
  have ow_11 := owns_below ow_10 hb11
  have og_11 := owns_below og_10 hb11
  go_wp2_with fail
  refine (toWriterS_any ao1 l1.length cap1 l1 _ (ha1.below B11) hsm1).mono ?_
  rintro e w12 ⟨z1p, z1c, z1L, rfl, oz1_12, mz1, hb12⟩
  have B12 := B11.trans (hb12.mono B11.size)
  have ow_12 := owns_below ow_11 hb12
  have og_12 := owns_below og_11 hb12
  go_wp2_with fail
  refine (HI2.out z1p l1.length z1c z1L _ mz1 (oz1_12.arg (ws_good mz1 hsm1) (ws_sm mz1 (fun x hx => (ha1.2.2.2 x hx).sm))) (ws_good mz1 hsm1)).mono ?_
  rintro e w13 ⟨hp, hc, rfl, oh_13, hb13⟩
  have B13 := B12.trans (hb13.mono B12.size)
  have ow_13 := owns_below ow_12 hb13
  have og_13 := owns_below og_12 hb13
  go_wp2_with fail
  refine (eqStringS_any _ _ xs _ _ _ _ HNX.out (by omega) (owns_rdN oh_13) (owns_rdN ow_13)).mono ?_
  rintro e w14 ⟨rfl, hb14⟩
  have B14 := B13.trans (hb14.mono B13.size)
  have og_14 := owns_below og_13 hb14
  go_wp2_with fail
  refine (heldSt_any _ _ _ 1 _ (owns_rdN og_14) (by omega) (by omega) (by omega)).mono ?_
  rintro e w15 ⟨rfl, hb15⟩
  have B15 := B14.trans (hb15.mono B14.size)
  go_wp2_with fail
  go_ret
  exact ⟨rfl, B15⟩
end Go.Proofs.Ythhpeanlpikjbaa
