/-
  The law RowShares: the walk.
-/
import Derived.Test.YtaaffcffelkcdaaLayE
import Derived.Test.YtaaffcffelkcdaaApart
namespace Go.Proofs.Ytaaffcffelkcdaa
open Go.RowKit Go.ChangeShapes Go.WideShapes Go.Maps
set_option linter.unusedVariables false
attribute [local go_sem ↓] Go.wp_at_zero Go.wp_at_succ

set_option maxRecDepth 100000 in
set_option maxHeartbeats 4000000 in
theorem lawRowShares (w : World) (ao : Option Addr) (n cap : Nat) (l : List ByteArray) (ha : StArg w ao n cap l) (t : ByteArray) (ht : t.size ≤ maxLen) :
    Calls Try.prog 6 #[.agg #[.slice ao n cap], .string t] w fun e w' => e = .returned (.bool true) ∧ Below w.heap.size w w' := by
  obtain ⟨hn, hm, hr, hs⟩ := ha
  have HN := hid hn
  clear hn
  have hlen := shL_len l t
  rw [← i64s_len] at hlen
  obtain ⟨xs, hxs⟩ : ∃ xs, xs = shL l t := ⟨_, rfl⟩
  rw [← hxs] at hlen
  have HX := hid hxs
  clear hxs
  obtain ⟨c0, hc0⟩ : ∃ c, c = shC l t := ⟨_, rfl⟩
  have HC0 := hid hc0
  clear hc0
  have ht' := ht
  unfold maxLen at ht'
  by_cases hbigt : (1048576 : Int) < (t.size : Int)
  · go_enter Try.func6, Try.ntmps6
    go_wp2_with fail
    go_ret
    refine ⟨rfl, ?_⟩
    (repeat (first | with_reducible exact Below.refl _ _ | with_reducible assumption | refine Below.drew ?_ | refine below_drewN ?_ _ | (refine Below.alloc ?_ (by first | omega | (simp; done) | (simp; omega)) _) | (refine Below.setCell ?_ (by first | omega | (simp; done) | (simp; omega)) _) | (refine Below.trans ?_ (Below.mono (by assumption) (by first | omega | (simp; done) | (simp; omega))))))
  go_enter Try.func6, Try.ntmps6
  go_wp2_with fail
  obtain ⟨w1, hw1⟩ : ∃ w1, w1 = w.alloc (.cells #[.slice ao n cap] 24) := ⟨_, rfl⟩
  have hb1 : Below w.heap.size w w1 := by
    rw [hw1]
    (repeat (first | with_reducible exact Below.refl _ _ | with_reducible assumption | refine Below.drew ?_ | refine below_drewN ?_ _ | (refine Below.alloc ?_ (by first | omega | (simp; done) | (simp; omega)) _) | (refine Below.setCell ?_ (by first | omega | (simp; done) | (simp; omega)) _) | (refine Below.trans ?_ (Below.mono (by assumption) (by first | omega | (simp; done) | (simp; omega))))))
  have cA0_1 : w1.cell? ⟨w.heap.size, 0, none⟩ = some (.slice ao n cap) := by rw [hw1]; simp
  have hA_1 : w.heap.size < w1.heap.size := by rw [hw1]; simp
  rw [← hw1]
  clear hw1
  have B1 := hb1
  refine (szLayout_any ao n cap l 1048576 _ (by omega) (by omega) HN.out hm (rd_below hr B1) hs).mono ?_
  rintro e w2 ⟨rfl, hb2⟩
  have B2 := B1.trans (hb2.mono B1.size)
  have hA_2 := Nat.lt_of_lt_of_le hA_1 hb2.size
  have cA0_2 := (hb2.cell (p := ⟨w.heap.size, 0, none⟩) hA_1).trans cA0_1
  clear cA0_1
  have hle := szLy_le (n := n) (l := l) (left := 1048576) (by omega) (by omega)
  by_cases hz : (szLy n l 1048576) < 0
  · go_wp2_with fail
    go_ret
    exact ⟨rfl, B2⟩
  have h20 := szLy_ok (by omega) hz
  go_wp2_with fail
  refine (toLayout_any ao n cap l _ HN.out (rd_below hr B2) h20).mono ?_
  rintro e w3 ⟨ap, ac, rfl, oa_3, hb3⟩
  have B3 := B2.trans (hb3.mono B2.size)
  have hA_3 := Nat.lt_of_lt_of_le hA_2 hb3.size
  have cA0_3 := (hb3.cell (p := ⟨w.heap.size, 0, none⟩) hA_2).trans cA0_2
  clear cA0_2
  go_wp2_with fail
  refine (sShares_any ap n ac l t _ ht HN.out (owns_rdN oa_3) hs h20).mono ?_
  rw [← HX.out, ← HC0.out]
  rintro e w4 ⟨wp, wc, rfl, ow_4, hb4⟩
  have B4 := B3.trans (hb4.mono B3.size)
  have oa_4 := owns_below oa_3 hb4
  have hA_4 := Nat.lt_of_lt_of_le hA_3 hb4.size
  have cA0_4 := (hb4.cell (p := ⟨w.heap.size, 0, none⟩) hA_3).trans cA0_3
  clear cA0_3
  go_wp2_with fail
  refine (toLayout_any ao n cap l _ HN.out (rd_below hr B4) h20).mono ?_
  rintro e w5 ⟨xp, xc, rfl, ox_5, hb5⟩
  have B5 := B4.trans (hb5.mono B4.size)
  have ow_5 := owns_below ow_4 hb5
  have hA_5 := Nat.lt_of_lt_of_le hA_4 hb5.size
  have cA0_5 := (hb5.cell (p := ⟨w.heap.size, 0, none⟩) hA_4).trans cA0_4
  clear cA0_4
  go_wp2_with fail
  obtain ⟨w6, hw6⟩ : ∃ w6, w6 = w5.alloc (.cells #[.slice xp n xc] 28) := ⟨_, rfl⟩
  have hb6 : Below w5.heap.size w5 w6 := by
    rw [hw6]
    (repeat (first | with_reducible exact Below.refl _ _ | with_reducible assumption | refine Below.drew ?_ | refine below_drewN ?_ _ | (refine Below.alloc ?_ (by first | omega | (simp; done) | (simp; omega)) _) | (refine Below.setCell ?_ (by first | omega | (simp; done) | (simp; omega)) _) | (refine Below.trans ?_ (Below.mono (by assumption) (by first | omega | (simp; done) | (simp; omega))))))
  have cX0_6 : w6.cell? ⟨w5.heap.size, 0, none⟩ = some (.slice xp n xc) := by rw [hw6]; simp
  have hX_6 : w5.heap.size < w6.heap.size := by rw [hw6]; simp
  rw [← hw6]
  clear hw6
  have B6 := B5.trans (hb6.mono B5.size)
  have ow_6 := owns_below ow_5 hb6
  have ox_6 := owns_below ox_5 hb6
  have hA_6 := Nat.lt_of_lt_of_le hA_5 hb6.size
  have cA0_6 := (hb6.cell (p := ⟨w.heap.size, 0, none⟩) hA_5).trans cA0_5
  clear cA0_5
  refine (shares_any xp n xc l t _ ht HN.out (owns_rdN ox_6) hs h20).mono ?_
  rw [← HX.out, ← HC0.out]
  rintro e w7 ⟨gp, gc, rfl, og_7, hb7⟩
  have B7 := B6.trans (hb7.mono B6.size)
  have ow_7 := owns_below ow_6 hb7
  have ox_7 := owns_below ox_6 hb7
  have hA_7 := Nat.lt_of_lt_of_le hA_6 hb7.size
  have cA0_7 := (hb7.cell (p := ⟨w.heap.size, 0, none⟩) hA_6).trans cA0_6
  clear cA0_6
  have hX_7 := Nat.lt_of_lt_of_le hX_6 hb7.size
  have cX0_7 := (hb7.cell (p := ⟨w5.heap.size, 0, none⟩) hX_6).trans cX0_6
  clear cX0_6
  go_wp2_with fail
  refine (eqI64_any _ _ xs _ _ _ _ (i64s_len xs) (by omega) (owns_rd og_7) (owns_rd ow_7)).mono ?_
  rintro e w8 ⟨rfl, hb8⟩
  have B8 := B7.trans (hb8.mono B7.size)
  have ow_8 := owns_below ow_7 hb8
  have ox_8 := owns_below ox_7 hb8
  have og_8 := owns_below og_7 hb8
  have hA_8 := Nat.lt_of_lt_of_le hA_7 hb8.size
  have cA0_8 := (hb8.cell (p := ⟨w.heap.size, 0, none⟩) hA_7).trans cA0_7
  clear cA0_7
  have hX_8 := Nat.lt_of_lt_of_le hX_7 hb8.size
  have cX0_8 := (hb8.cell (p := ⟨w5.heap.size, 0, none⟩) hX_7).trans cX0_7
  clear cX0_7
  go_wp2_with fail
  have sk8 : ∀ W, Below w8.heap.size w8 W → (Below w8.heap.size w8 W ∧ W.cell? ⟨w5.heap.size, 0, none⟩ = some (.slice xp n xc) ∧ W.cell? ⟨w.heap.size, 0, none⟩ = some (.slice ao n cap)) := fun W hb => ⟨hb, (hb.cell (p := ⟨w5.heap.size, 0, none⟩) hX_8).trans cX0_8, (hb.cell (p := ⟨w.heap.size, 0, none⟩) hA_8).trans cA0_8⟩
  go_region_held3 (fun W => Below w8.heap.size w8 W ∧ W.cell? ⟨w5.heap.size, 0, none⟩ = some (.slice xp n xc) ∧ W.cell? ⟨w.heap.size, 0, none⟩ = some (.slice ao n cap)) (first | exact sk8 _ (Below.refl _ _).drew | exact sk8 _ hba | exact sk8 _ hb9) (first | (go_at_call 12; refine (toLayout_any ao n cap l _ HN.out (rd_below hr (B8.trans ((Below.refl w8.heap.size w8).drew.mono B8.size))) h20).mono ?_; rintro e wa ⟨yp, yc, rfl, oy, ha⟩; have hba : Below w8.heap.size w8 wa := ((Below.refl _ _).drew).trans (ha.mono (Nat.le_refl _))) | (go_at_call 14; refine (eqLayout_any xp yp n xc yc l _ HN.out h20 (owns_rdN (owns_below ox_8 hba)) (owns_rdN oy)).mono ?_; rintro e w9 ⟨rfl, hc⟩; have hb9 : Below w8.heap.size w8 w9 := hba.trans (hc.mono hba.size)))
  have B9 := B8.trans (hb9.mono B8.size)
  have ow_9 := owns_below ow_8 hb9
  have ox_9 := owns_below ox_8 hb9
  have og_9 := owns_below og_8 hb9
  have hA_9 := Nat.lt_of_lt_of_le hA_8 hb9.size
  have cA0_9 := (hb9.cell (p := ⟨w.heap.size, 0, none⟩) hA_8).trans cA0_8
  clear cA0_8
  have hX_9 := Nat.lt_of_lt_of_le hX_8 hb9.size
  have cX0_9 := (hb9.cell (p := ⟨w5.heap.size, 0, none⟩) hX_8).trans cX0_8
  clear cX0_8
  go_wp2_with fail
  refine (markLy_any _ _ _ _ _ (1) _ ox_9 h20 (by omega) (by omega)).mono ?_
  rintro e w10 ⟨rfl, ox_10, hg10⟩
  have B10 := below_grown B9 B9.size (owns_mono ox_9 B4.size) hg10
  have ow_10 := ow_9.kept hg10 (owns_apart ow_4 ox_5)
  have og_10 := og_9.kept hg10 (owns_apart2 ox_6 og_7)
  have hA_10 := Nat.lt_of_lt_of_le hA_9 hg10.size
  have cA0_10 := cell_far hg10 hA_9 (owns_far_old ox_5 hA_4) cA0_9
  clear cA0_9
  have hX_10 := Nat.lt_of_lt_of_le hX_9 hg10.size
  have cX0_10 := cell_far hg10 hX_9 (owns_far_new ox_5 (by omega)) cX0_9
  clear cX0_9
  go_wp2_with fail
  refine (eqI64_any _ _ xs _ _ _ _ (i64s_len xs) (by omega) (owns_rd og_10) (owns_rd ow_10)).mono ?_
  rintro e w11 ⟨rfl, hb11⟩
  have B11 := B10.trans (hb11.mono B10.size)
  have ow_11 := owns_below ow_10 hb11
  have og_11 := owns_below og_10 hb11
  have hA_11 := Nat.lt_of_lt_of_le hA_10 hb11.size
  have cA0_11 := (hb11.cell (p := ⟨w.heap.size, 0, none⟩) hA_10).trans cA0_10
  clear cA0_10
  have hX_11 := Nat.lt_of_lt_of_le hX_10 hb11.size
  have cX0_11 := (hb11.cell (p := ⟨w5.heap.size, 0, none⟩) hX_10).trans cX0_10
  clear cX0_10
  go_wp2_with fail
  refine (mark64_any _ _ _ _ _ 1 _ og_11 (by omega) (by omega) (by omega)).mono ?_
  rintro e w12 ⟨rfl, og_12, hg12⟩
  have B12 := below_grown B11 B11.size (owns_mono og_11 B6.size) hg12
  have ow_12 := ow_11.kept hg12 (owns_apart ow_6 og_7)
  have hA_12 := Nat.lt_of_lt_of_le hA_11 hg12.size
  have cA0_12 := cell_far hg12 hA_11 (owns_far_old og_7 hA_6) cA0_11
  clear cA0_11
  have hX_12 := Nat.lt_of_lt_of_le hX_11 hg12.size
  have cX0_12 := cell_far hg12 hX_11 (owns_far_old og_7 hX_6) cX0_11
  clear cX0_11
  go_wp2_with fail
  refine (held64_any _ _ _ 1 _ (owns_rdN og_12) (by omega) (by omega) (by omega)).mono ?_
  rintro e w13 ⟨rfl, rfl⟩
  go_wp2_with fail
  refine (toLayout_any ao n cap l _ HN.out (rd_below hr B12) h20).mono ?_
  rintro e w13 ⟨zp, zc, rfl, oz_13, hb13⟩
  have B13 := B12.trans (hb13.mono B12.size)
  have ow_13 := owns_below ow_12 hb13
  have og_13 := owns_below og_12 hb13
  have hA_13 := Nat.lt_of_lt_of_le hA_12 hb13.size
  have cA0_13 := (hb13.cell (p := ⟨w.heap.size, 0, none⟩) hA_12).trans cA0_12
  clear cA0_12
  have hX_13 := Nat.lt_of_lt_of_le hX_12 hb13.size
  have cX0_13 := (hb13.cell (p := ⟨w5.heap.size, 0, none⟩) hX_12).trans cX0_12
  clear cX0_12
  go_wp2_with fail
  refine (shares_any zp n zc l t _ ht HN.out (owns_rdN oz_13) hs h20).mono ?_
  rw [← HX.out, ← HC0.out]
  rintro e w14 ⟨hp, hc, rfl, oh_14, hb14⟩
  have B14 := B13.trans (hb14.mono B13.size)
  have ow_14 := owns_below ow_13 hb14
  have og_14 := owns_below og_13 hb14
  have oz_14 := owns_below oz_13 hb14
  have hA_14 := Nat.lt_of_lt_of_le hA_13 hb14.size
  have cA0_14 := (hb14.cell (p := ⟨w.heap.size, 0, none⟩) hA_13).trans cA0_13
  clear cA0_13
  have hX_14 := Nat.lt_of_lt_of_le hX_13 hb14.size
  have cX0_14 := (hb14.cell (p := ⟨w5.heap.size, 0, none⟩) hX_13).trans cX0_13
  clear cX0_13
  go_wp2_with fail
  refine (eqI64_any _ _ xs _ _ _ _ (i64s_len xs) (by omega) (owns_rd oh_14) (owns_rd ow_14)).mono ?_
  rintro e w15 ⟨rfl, hb15⟩
  have B15 := B14.trans (hb15.mono B14.size)
  have ow_15 := owns_below ow_14 hb15
  have og_15 := owns_below og_14 hb15
  have oh_15 := owns_below oh_14 hb15
  have hA_15 := Nat.lt_of_lt_of_le hA_14 hb15.size
  have cA0_15 := (hb15.cell (p := ⟨w.heap.size, 0, none⟩) hA_14).trans cA0_14
  clear cA0_14
  have hX_15 := Nat.lt_of_lt_of_le hX_14 hb15.size
  have cX0_15 := (hb15.cell (p := ⟨w5.heap.size, 0, none⟩) hX_14).trans cX0_14
  clear cX0_14
  go_wp2_with fail
  refine (held64_any _ _ _ 1 _ (owns_rdN og_15) (by omega) (by omega) (by omega)).mono ?_
  rintro e w16 ⟨rfl, rfl⟩
  go_wp2_with fail
  go_ret
  exact ⟨rfl, B15⟩
end Go.Proofs.Ytaaffcffelkcdaa
