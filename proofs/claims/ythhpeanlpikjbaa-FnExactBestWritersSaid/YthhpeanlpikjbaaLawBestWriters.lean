/-
  The law BestWriters: the walk.
-/
import Derived.Test.YthhpeanlpikjbaaBwLaw
import Derived.Test.YthhpeanlpikjbaaMarkSe
import Derived.OwnWalk
import Derived.Test.YthhpeanlpikjbaaApart
namespace Go.Proofs.Ythhpeanlpikjbaa
open Go.RowKit Go.ChangeShapes Go.WideShapes Go.Maps
set_option linter.unusedVariables false
attribute [local go_sem ↓] Go.wp_at_zero Go.wp_at_succ

set_option maxRecDepth 100000 in
set_option maxHeartbeats 4000000 in
theorem lawBestWriters (w : World) (ao1 : Option Addr) (n1 cap1 : Nat) (l1 : List Ws) (ha1 : WsArg w ao1 n1 cap1 l1) (ao2 : Option Addr) (n2 cap2 : Nat) (l2 : List Se) (ha2 : SeArg w ao2 n2 cap2 l2) :
    Calls Try.prog 10 #[.slice ao1 n1 cap1, .slice ao2 n2 cap2] w fun e w' => e = .returned (.bool true) ∧ Below w.heap.size w w' := by
  obtain rfl : n1 = l1.length := ha1.1
  obtain ⟨hn2, hm2, hr2, hs2⟩ := ha2
  have HN2 := hid hn2
  clear hn2
  have hlen := bwL_len l1 l2
  rw [← i64s_len] at hlen
  obtain ⟨xs, hxs⟩ : ∃ xs, xs = bwL l1 l2 := ⟨_, rfl⟩
  rw [← hxs] at hlen
  have HX := hid hxs
  clear hxs
  obtain ⟨c0, hc0⟩ : ∃ c, c = bwV l1 l2 := ⟨_, rfl⟩
  have HC0 := hid hc0
  clear hc0
  obtain ⟨c1, hc1⟩ : ∃ c, c = bwC l1 l2 := ⟨_, rfl⟩
  have HC1 := hid hc1
  clear hc1
  go_enter Try.func10, Try.ntmps10
  go_wp2_with fail
  refine (szWriterS_any ao1 l1.length cap1 l1 1048576 _ (by omega) (by omega) ha1).mono ?_
  rintro e w1 ⟨rfl, hb1⟩
  have B1 := hb1
  have hle1 := szAllWs_le 1048576 l1.length l1 (by omega) (by omega)
  by_cases hz1 : (szAllWs 1048576 l1.length l1) < 0
  · go_wp2_with fail
    go_ret
    exact ⟨rfl, B1⟩
  have hsm1 := szAllWs_small2 rfl (by omega) (by omega) hz1
  have hTT := wsT_small (l := l1) rfl hz1
  have h201 := hsm1.1
  go_wp2_with fail
  refine (szSeenS_any ao2 n2 cap2 l2 (szAllWs 1048576 l1.length l1) _ (by omega) (by omega) HN2.out hm2 (rd_below hr2 B1) hs2).mono ?_
  rintro e w2 ⟨rfl, hb2⟩
  have B2 := B1.trans (hb2.mono B1.size)
  have hle2 := szAllSe_le (szAllWs 1048576 l1.length l1) n2 l2 (by omega) (by omega)
  by_cases hz2 : (szAllSe (szAllWs 1048576 l1.length l1) n2 l2) < 0
  · go_wp2_with fail
    go_ret
    exact ⟨rfl, B2⟩
  have h202 := szAllSe_len (by omega) hz2
  go_wp2_with fail
  refine (toWriterS_any ao1 l1.length cap1 l1 _ (ha1.below B2) hsm1).mono ?_
  rintro e w3 ⟨a1p, a1c, a1L, rfl, oa1_3, ma1, hb3⟩
  have B3 := B2.trans (hb3.mono B2.size)
  go_wp2_with fail
  refine (toSeenS_any ao2 n2 cap2 l2 _ HN2.out (rd_below hr2 B3) h202).mono ?_
  rintro e w4 ⟨a2p, a2c, rfl, oa2_4, hb4⟩
  have B4 := B3.trans (hb4.mono B3.size)
  have oa1_4 := oa1_3.below hb4
  go_wp2_with fail
  refine (sBestW2 l1 a1p l1.length a1c a1L a2p n2 a2c l2 _ ma1 (oa1_4.arg (ws_good ma1 hsm1) (ws_sm ma1 (fun x hx => (ha1.2.2.2 x hx).sm))) (ws_good ma1 hsm1) HN2.out (owns_rdN oa2_4) hs2 h202).mono ?_
  rw [← HX.out, ← HC0.out, ← HC1.out]
  rintro e w5 ⟨wp, wc, rfl, ow_5, hb5⟩
  have B5 := B4.trans (hb5.mono B4.size)
  have oa1_5 := oa1_4.below hb5
  have oa2_5 := owns_below oa2_4 hb5
  go_wp2_with fail
  refine (toWriterS_any ao1 l1.length cap1 l1 _ (ha1.below B5) hsm1).mono ?_
  rintro e w6 ⟨x1p, x1c, x1L, rfl, ox1_6, mx1, hb6⟩
  have B6 := B5.trans (hb6.mono B5.size)
  have ow_6 := owns_below ow_5 hb6
  go_wp2_with fail
  refine (toSeenS_any ao2 n2 cap2 l2 _ HN2.out (rd_below hr2 B6) h202).mono ?_
  rintro e w7 ⟨x2p, x2c, rfl, ox2_7, hb7⟩
  have B7 := B6.trans (hb7.mono B6.size)
  have ow_7 := owns_below ow_6 hb7
  have ox1_7 := ox1_6.below hb7
  go_wp2_with fail
  refine (bestW2 l1 x1p l1.length x1c x1L x2p n2 x2c l2 _ mx1 (ox1_7.arg (ws_good mx1 hsm1) (ws_sm mx1 (fun x hx => (ha1.2.2.2 x hx).sm))) (ws_good mx1 hsm1) HN2.out (owns_rdN ox2_7) hs2 h202).mono ?_
  rw [← HX.out, ← HC0.out, ← HC1.out]
  rintro e w8 ⟨gp, gc, rfl, og_8, hb8⟩
  have B8 := B7.trans (hb8.mono B7.size)
  have ow_8 := owns_below ow_7 hb8
  have ox1_8 := ox1_7.below hb8
  have ox2_8 := owns_below ox2_7 hb8
  go_wp2_with fail
  refine (eqI64_any _ _ xs _ _ _ _ (i64s_len xs) (by omega) (owns_rd og_8) (owns_rd ow_8)).mono ?_
  rintro e w9 ⟨rfl, hb9⟩
  have B9 := B8.trans (hb9.mono B8.size)
  have ow_9 := owns_below ow_8 hb9
  have ox1_9 := ox1_8.below hb9
  have ox2_9 := owns_below ox2_8 hb9
  have og_9 := owns_below og_8 hb9
  go_wp2_with fail
  refine (toWriterS_any ao1 l1.length cap1 l1 _ (ha1.below B9) hsm1).mono ?_
  rintro e w10 ⟨y1p, y1c, y1L, rfl, oy1_10, my1, hb10⟩
  have B10 := B9.trans (hb10.mono B9.size)
  have ow_10 := owns_below ow_9 hb10
  have ox1_10 := ox1_9.below hb10
  have ox2_10 := owns_below ox2_9 hb10
  have og_10 := owns_below og_9 hb10
  go_wp2_with fail
  refine (eqWriterS_any _ _ _ _ _ x1L y1L _ (ox1_10.arg (ws_good mx1 hsm1) (ws_sm mx1 (fun x hx => (ha1.2.2.2 x hx).sm))) (oy1_10.arg (ws_good my1 hsm1) (ws_sm my1 (fun x hx => (ha1.2.2.2 x hx).sm))) (mx1.trans my1.symm) (ws_good mx1 hsm1)).mono ?_
  rintro e w11 ⟨rfl, hb11⟩
  have B11 := B10.trans (hb11.mono B10.size)
  have ow_11 := owns_below ow_10 hb11
  have ox1_11 := ox1_10.below hb11
  have ox2_11 := owns_below ox2_10 hb11
  have og_11 := owns_below og_10 hb11
  go_wp2_with fail
  refine (toSeenS_any ao2 n2 cap2 l2 _ HN2.out (rd_below hr2 B11) h202).mono ?_
  rintro e w12 ⟨y2p, y2c, rfl, oy2_12, hb12⟩
  have B12 := B11.trans (hb12.mono B11.size)
  have ow_12 := owns_below ow_11 hb12
  have ox1_12 := ox1_11.below hb12
  have ox2_12 := owns_below ox2_11 hb12
  have og_12 := owns_below og_11 hb12
  go_wp2_with fail
  refine (eqSeenS_any _ _ l2 _ _ _ _ HN2.out (by omega) (owns_rdN ox2_12) (owns_rdN oy2_12)).mono ?_
  rintro e w13 ⟨rfl, hb13⟩
  have B13 := B12.trans (hb13.mono B12.size)
  have ow_13 := owns_below ow_12 hb13
  have ox1_13 := ox1_12.below hb13
  have ox2_13 := owns_below ox2_12 hb13
  have og_13 := owns_below og_12 hb13
  go_wp2_with fail
  have hz13 : w6.heap.size ≤ w13.heap.size := by have := hb7.size; have := hb8.size; have := hb9.size; have := hb10.size; have := hb11.size; have := hb12.size; have := hb13.size; omega
  have hmT : wsT x1L ≤ 3145728 := by rw [wsT_d mx1]; exact hTT
  refine (markWs_any w5.heap.size w6.heap.size _ _ _ x1L 1 _ ox1_13 hz13 (fun g hg => (ox1_6.row.lt g hg).2) (fun x hx g hg => ((ox1_6.inner x hx).lt g hg).2) (fun x hx => ((ws_good mx1 hsm1).2 x hx).2) h201 (by omega) (by omega)).mono ?_
  rintro e wM ⟨rfl, hgM⟩
  have BM := B13.trans ((hgM.toBelow (by have := hb6.size; omega)).mono B5.size)
  have ow_M := hgM.owns ow_13 (.inr fun g hg => .inl (ow_5.lt g hg).2)
  have ox2_M := hgM.owns ox2_13 (.inr fun g hg => .inr (ox2_13.lt g hg).1)
  have og_M := hgM.owns og_13 (.inr fun g hg => .inr (Nat.le_trans hb7.size (og_13.lt g hg).1))
  go_wp2_with fail
  refine (markSe_any _ _ _ _ _ (1 + wsT x1L) _ ox2_M h202 (by omega) (by omega)).mono ?_
  rintro e w14 ⟨rfl, ox2_14, hg14⟩
  have B14 := below_grown BM BM.size (owns_mono ox2_M B6.size) hg14
  have ow_14 := ow_M.kept hg14 (owns_apart ow_6 ox2_7)
  have og_14 := og_M.kept hg14 (owns_apart2 ox2_7 og_8)
  go_wp2_with fail
  refine (eqI64_any _ _ xs _ _ _ _ (i64s_len xs) (by omega) (owns_rd og_14) (owns_rd ow_14)).mono ?_
  rintro e w15 ⟨rfl, hb15⟩
  have B15 := B14.trans (hb15.mono B14.size)
  have ow_15 := owns_below ow_14 hb15
  have og_15 := owns_below og_14 hb15
  go_wp2_with fail
  refine (mark64_any _ _ _ _ _ 1 _ og_15 (by omega) (by omega) (by omega)).mono ?_
  rintro e w16 ⟨rfl, og_16, hg16⟩
  have B16 := below_grown B15 B15.size (owns_mono og_15 B7.size) hg16
  have ow_16 := ow_15.kept hg16 (owns_apart ow_7 og_8)
  go_wp2_with fail
  refine (held64_any _ _ _ 1 _ (owns_rdN og_16) (by omega) (by omega) (by omega)).mono ?_
  rintro e w17 ⟨rfl, rfl⟩
  go_wp2_with fail
  refine (toWriterS_any ao1 l1.length cap1 l1 _ (ha1.below B16) hsm1).mono ?_
  rintro e w17 ⟨z1p, z1c, z1L, rfl, oz1_17, mz1, hb17⟩
  have B17 := B16.trans (hb17.mono B16.size)
  have ow_17 := owns_below ow_16 hb17
  have og_17 := owns_below og_16 hb17
  go_wp2_with fail
  refine (toSeenS_any ao2 n2 cap2 l2 _ HN2.out (rd_below hr2 B17) h202).mono ?_
  rintro e w18 ⟨z2p, z2c, rfl, oz2_18, hb18⟩
  have B18 := B17.trans (hb18.mono B17.size)
  have ow_18 := owns_below ow_17 hb18
  have og_18 := owns_below og_17 hb18
  have oz1_18 := oz1_17.below hb18
  go_wp2_with fail
  refine (bestW2 l1 z1p l1.length z1c z1L z2p n2 z2c l2 _ mz1 (oz1_18.arg (ws_good mz1 hsm1) (ws_sm mz1 (fun x hx => (ha1.2.2.2 x hx).sm))) (ws_good mz1 hsm1) HN2.out (owns_rdN oz2_18) hs2 h202).mono ?_
  rw [← HX.out, ← HC0.out, ← HC1.out]
  rintro e w19 ⟨hp, hc, rfl, oh_19, hb19⟩
  have B19 := B18.trans (hb19.mono B18.size)
  have ow_19 := owns_below ow_18 hb19
  have og_19 := owns_below og_18 hb19
  have oz1_19 := oz1_18.below hb19
  have oz2_19 := owns_below oz2_18 hb19
  go_wp2_with fail
  refine (eqI64_any _ _ xs _ _ _ _ (i64s_len xs) (by omega) (owns_rd oh_19) (owns_rd ow_19)).mono ?_
  rintro e w20 ⟨rfl, hb20⟩
  have B20 := B19.trans (hb20.mono B19.size)
  have ow_20 := owns_below ow_19 hb20
  have og_20 := owns_below og_19 hb20
  have oz1_20 := oz1_19.below hb20
  have oh_20 := owns_below oh_19 hb20
  go_wp2_with fail
  refine (held64_any _ _ _ 1 _ (owns_rdN og_20) (by omega) (by omega) (by omega)).mono ?_
  rintro e w21 ⟨rfl, rfl⟩
  go_wp2_with fail
  go_ret
  exact ⟨rfl, B20⟩
end Go.Proofs.Ythhpeanlpikjbaa
