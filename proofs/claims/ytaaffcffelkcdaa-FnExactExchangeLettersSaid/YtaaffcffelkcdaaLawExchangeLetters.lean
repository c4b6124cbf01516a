/-
  The law ExchangeLetters: the walk.
-/
import Derived.Test.YtaaffcffelkcdaaLayO
import Derived.Test.YtaaffcffelkcdaaApart
namespace Go.Proofs.Ytaaffcffelkcdaa
open Go.RowKit Go.ChangeShapes Go.WideShapes Go.Maps
set_option linter.unusedVariables false
attribute [local go_sem ↓] Go.wp_at_zero Go.wp_at_succ

set_option maxRecDepth 100000 in
set_option maxHeartbeats 4000000 in
theorem lawExchangeLetters (w : World) (ao : Option Addr) (n cap : Nat) (l : List ByteArray) (ha : StArg w ao n cap l) (u : ByteArray) (hu : u.size ≤ maxLen) (v : ByteArray) (hv : v.size ≤ maxLen) :
    Calls Try.prog 7 #[.agg #[.slice ao n cap], .string u, .string v] w fun e w' => e = .returned (.bool true) ∧ Below w.heap.size w w' := by
  obtain ⟨hn, hm, hr, hs⟩ := ha
  have HN := hid hn
  clear hn
  have hlen := exR_len l u v
  obtain ⟨xs, hxs⟩ : ∃ xs, xs = (exR l u v).1 := ⟨_, rfl⟩
  rw [← hxs] at hlen
  have HX := hid hxs
  clear hxs
  obtain ⟨c0, hc0⟩ : ∃ c, c = (exR l u v).2 := ⟨_, rfl⟩
  have HC0 := hid hc0
  clear hc0
  have hu' := hu
  unfold maxLen at hu'
  by_cases hbigu : (1048576 : Int) < (u.size : Int)
  · go_enter Try.func7, Try.ntmps7
    go_wp2_with fail
    go_ret
    refine ⟨rfl, ?_⟩
    (repeat (first | with_reducible exact Below.refl _ _ | with_reducible assumption | refine Below.drew ?_ | refine below_drewN ?_ _ | (refine Below.alloc ?_ (by first | omega | (simp; done) | (simp; omega)) _) | (refine Below.setCell ?_ (by first | omega | (simp; done) | (simp; omega)) _) | (refine Below.trans ?_ (Below.mono (by assumption) (by first | omega | (simp; done) | (simp; omega))))))
  have hv' := hv
  unfold maxLen at hv'
  by_cases hbigv : (1048576 : Int) < (v.size : Int)
  · go_enter Try.func7, Try.ntmps7
    go_wp2_with fail
    go_ret
    refine ⟨rfl, ?_⟩
    (repeat (first | with_reducible exact Below.refl _ _ | with_reducible assumption | refine Below.drew ?_ | refine below_drewN ?_ _ | (refine Below.alloc ?_ (by first | omega | (simp; done) | (simp; omega)) _) | (refine Below.setCell ?_ (by first | omega | (simp; done) | (simp; omega)) _) | (refine Below.trans ?_ (Below.mono (by assumption) (by first | omega | (simp; done) | (simp; omega))))))
  go_enter Try.func7, Try.ntmps7
  go_wp2_with fail
  obtain ⟨w1, hw1⟩ : ∃ w1, w1 = w.alloc (.cells #[.slice ao n cap] 24) := ⟨_, rfl⟩
  have hb1 : Below w.heap.size w w1 := by
    rw [hw1]
    (repeat (first | with_reducible exact Below.refl _ _ | with_reducible assumption | refine Below.drew ?_ | refine below_drewN ?_ _ | (refine Below.alloc ?_ (by first | omega | (simp; done) | (simp; omega)) _) | (refine Below.setCell ?_ (by first | omega | (simp; done) | (simp; omega)) _) | (refine Below.trans ?_ (Below.mono (by assumption) (by first | omega | (simp; done) | (simp; omega))))))
  have cA0_1 : w1.cell? ⟨w.heap.size, 0, none⟩ = some (.slice ao n cap) := by rw [hw1]; simp
  have hA_1 : w.heap.size < w1.heap.size := by rw [hw1]; simp <;> omega
  rw [← hw1]
  clear hw1
  have B1 := hb1
  refine (szLayout_any ao n cap l 1048576 _ (by omega) (by omega) HN.out hm (rd_below hr B1) hs).mono ?_
  rintro e w2 ⟨rfl, hb2⟩
  have B2 := B1.trans (hb2.mono B1.size)
  have hA_2 := Nat.lt_of_lt_of_le hA_1 hb2.size
  have cA0_2 := (hb2.cell (p := ⟨w.heap.size, 0, none⟩) hA_1).trans cA0_1
  clear cA0_1
  have hle := szLy_le (n := n) (l := l) (left := 1048576) (by omega) (by omega)
  by_cases hz : (szLy n l 1048576) < 0
  · go_wp2_with fail
    go_ret
    exact ⟨rfl, B2⟩
  have h20 := szLy_ok (by omega) hz
  go_wp2_with fail
  refine (toLayout_any ao n cap l _ HN.out (rd_below hr B2) h20).mono ?_
  rintro e w3 ⟨ap, ac, rfl, oa_3, hb3⟩
  have B3 := B2.trans (hb3.mono B2.size)
  have hA_3 := Nat.lt_of_lt_of_le hA_2 hb3.size
  have cA0_3 := (hb3.cell (p := ⟨w.heap.size, 0, none⟩) hA_2).trans cA0_2
  clear cA0_2
  go_wp2_with fail
  refine (sExLet_any ap n ac l u v _ hu hv HN.out (owns_rdN oa_3) hs h20).mono ?_
  rw [← HX.out, ← HC0.out]
  rintro e w4 ⟨wp, wc, rfl, ow_4, hb4⟩
  have B4 := B3.trans (hb4.mono B3.size)
  have oa_4 := owns_below oa_3 hb4
  have hA_4 := Nat.lt_of_lt_of_le hA_3 hb4.size
  have cA0_4 := (hb4.cell (p := ⟨w.heap.size, 0, none⟩) hA_3).trans cA0_3
  clear cA0_3
  go_wp2_with fail
  obtain ⟨w5, hw5⟩ : ∃ w5, w5 = w4.alloc (.cells #[.slice wp xs.length wc] 28) := ⟨_, rfl⟩
  have hb5 : Below w4.heap.size w4 w5 := by
    rw [hw5]
    (repeat (first | with_reducible exact Below.refl _ _ | with_reducible assumption | refine Below.drew ?_ | refine below_drewN ?_ _ | (refine Below.alloc ?_ (by first | omega | (simp; done) | (simp; omega)) _) | (refine Below.setCell ?_ (by first | omega | (simp; done) | (simp; omega)) _) | (refine Below.trans ?_ (Below.mono (by assumption) (by first | omega | (simp; done) | (simp; omega))))))
  have cRw0_5 : w5.cell? ⟨w4.heap.size, 0, none⟩ = some (.slice wp xs.length wc) := by rw [hw5]; simp
  have hRw_5 : w4.heap.size < w5.heap.size := by rw [hw5]; simp <;> omega
  rw [← hw5]
  clear hw5
  have B5 := B4.trans (hb5.mono B4.size)
  have oa_5 := owns_below oa_4 hb5
  have ow_5 := owns_below ow_4 hb5
  have hA_5 := Nat.lt_of_lt_of_le hA_4 hb5.size
  have cA0_5 := (hb5.cell (p := ⟨w.heap.size, 0, none⟩) hA_4).trans cA0_4
  clear cA0_4
  refine (toLayout_any ao n cap l _ HN.out (rd_below hr B5) h20).mono ?_
  rintro e w6 ⟨xp, xc, rfl, ox_6, hb6⟩
  have B6 := B5.trans (hb6.mono B5.size)
  have ow_6 := owns_below ow_5 hb6
  have hA_6 := Nat.lt_of_lt_of_le hA_5 hb6.size
  have cA0_6 := (hb6.cell (p := ⟨w.heap.size, 0, none⟩) hA_5).trans cA0_5
  clear cA0_5
  have hRw_6 := Nat.lt_of_lt_of_le hRw_5 hb6.size
  have cRw0_6 := (hb6.cell (p := ⟨w4.heap.size, 0, none⟩) hRw_5).trans cRw0_5
  clear cRw0_5
  go_wp2_with fail
  obtain ⟨w7, hw7⟩ : ∃ w7, w7 = w6.alloc (.cells #[.slice xp n xc] 28) := ⟨_, rfl⟩
  have hb7 : Below w6.heap.size w6 w7 := by
    rw [hw7]
    (repeat (first | with_reducible exact Below.refl _ _ | with_reducible assumption | refine Below.drew ?_ | refine below_drewN ?_ _ | (refine Below.alloc ?_ (by first | omega | (simp; done) | (simp; omega)) _) | (refine Below.setCell ?_ (by first | omega | (simp; done) | (simp; omega)) _) | (refine Below.trans ?_ (Below.mono (by assumption) (by first | omega | (simp; done) | (simp; omega))))))
  have cX0_7 : w7.cell? ⟨w6.heap.size, 0, none⟩ = some (.slice xp n xc) := by rw [hw7]; simp
  have hX_7 : w6.heap.size < w7.heap.size := by rw [hw7]; simp <;> omega
  rw [← hw7]
  clear hw7
  have B7 := B6.trans (hb7.mono B6.size)
  have ow_7 := owns_below ow_6 hb7
  have ox_7 := owns_below ox_6 hb7
  have hA_7 := Nat.lt_of_lt_of_le hA_6 hb7.size
  have cA0_7 := (hb7.cell (p := ⟨w.heap.size, 0, none⟩) hA_6).trans cA0_6
  clear cA0_6
  have hRw_7 := Nat.lt_of_lt_of_le hRw_6 hb7.size
  have cRw0_7 := (hb7.cell (p := ⟨w4.heap.size, 0, none⟩) hRw_6).trans cRw0_6
  clear cRw0_6
  refine (exLet_any xp n xc l u v _ hu hv HN.out (owns_rdN ox_7) hs h20).mono ?_
  rw [← HX.out, ← HC0.out]
  rintro e w8 ⟨gp, gc, rfl, og_8, hb8⟩
  have B8 := B7.trans (hb8.mono B7.size)
  have ow_8 := owns_below ow_7 hb8
  have ox_8 := owns_below ox_7 hb8
  have hA_8 := Nat.lt_of_lt_of_le hA_7 hb8.size
  have cA0_8 := (hb8.cell (p := ⟨w.heap.size, 0, none⟩) hA_7).trans cA0_7
  clear cA0_7
  have hRw_8 := Nat.lt_of_lt_of_le hRw_7 hb8.size
  have cRw0_8 := (hb8.cell (p := ⟨w4.heap.size, 0, none⟩) hRw_7).trans cRw0_7
  clear cRw0_7
  have hX_8 := Nat.lt_of_lt_of_le hX_7 hb8.size
  have cX0_8 := (hb8.cell (p := ⟨w6.heap.size, 0, none⟩) hX_7).trans cX0_7
  clear cX0_7
  go_wp2_with fail
  obtain ⟨w9, hw9⟩ : ∃ w9, w9 = w8.alloc (.cells #[.slice gp xs.length gc] 28) := ⟨_, rfl⟩
  have hb9 : Below w8.heap.size w8 w9 := by
    rw [hw9]
    (repeat (first | with_reducible exact Below.refl _ _ | with_reducible assumption | refine Below.drew ?_ | refine below_drewN ?_ _ | (refine Below.alloc ?_ (by first | omega | (simp; done) | (simp; omega)) _) | (refine Below.setCell ?_ (by first | omega | (simp; done) | (simp; omega)) _) | (refine Below.trans ?_ (Below.mono (by assumption) (by first | omega | (simp; done) | (simp; omega))))))
  have cRg0_9 : w9.cell? ⟨w8.heap.size, 0, none⟩ = some (.slice gp xs.length gc) := by rw [hw9]; simp
  have hRg_9 : w8.heap.size < w9.heap.size := by rw [hw9]; simp <;> omega
  rw [← hw9]
  clear hw9
  have B9 := B8.trans (hb9.mono B8.size)
  have ow_9 := owns_below ow_8 hb9
  have ox_9 := owns_below ox_8 hb9
  have og_9 := owns_below og_8 hb9
  have hA_9 := Nat.lt_of_lt_of_le hA_8 hb9.size
  have cA0_9 := (hb9.cell (p := ⟨w.heap.size, 0, none⟩) hA_8).trans cA0_8
  clear cA0_8
  have hRw_9 := Nat.lt_of_lt_of_le hRw_8 hb9.size
  have cRw0_9 := (hb9.cell (p := ⟨w4.heap.size, 0, none⟩) hRw_8).trans cRw0_8
  clear cRw0_8
  have hX_9 := Nat.lt_of_lt_of_le hX_8 hb9.size
  have cX0_9 := (hb9.cell (p := ⟨w6.heap.size, 0, none⟩) hX_8).trans cX0_8
  clear cX0_8
  refine (eqLayout_any _ _ xs.length _ _ xs _ rfl (by omega) (owns_rdN og_9) (owns_rdN ow_9)).mono ?_
  rintro e w10 ⟨rfl, hb10⟩
  have B10 := B9.trans (hb10.mono B9.size)
  have ow_10 := owns_below ow_9 hb10
  have ox_10 := owns_below ox_9 hb10
  have og_10 := owns_below og_9 hb10
  have hA_10 := Nat.lt_of_lt_of_le hA_9 hb10.size
  have cA0_10 := (hb10.cell (p := ⟨w.heap.size, 0, none⟩) hA_9).trans cA0_9
  clear cA0_9
  have hRw_10 := Nat.lt_of_lt_of_le hRw_9 hb10.size
  have cRw0_10 := (hb10.cell (p := ⟨w4.heap.size, 0, none⟩) hRw_9).trans cRw0_9
  clear cRw0_9
  have hX_10 := Nat.lt_of_lt_of_le hX_9 hb10.size
  have cX0_10 := (hb10.cell (p := ⟨w6.heap.size, 0, none⟩) hX_9).trans cX0_9
  clear cX0_9
  have hRg_10 := Nat.lt_of_lt_of_le hRg_9 hb10.size
  have cRg0_10 := (hb10.cell (p := ⟨w8.heap.size, 0, none⟩) hRg_9).trans cRg0_9
  clear cRg0_9
  go_wp2_with fail
  have sk10 : ∀ W, Below w10.heap.size w10 W → (Below w10.heap.size w10 W ∧ W.cell? ⟨w6.heap.size, 0, none⟩ = some (.slice xp n xc) ∧ W.cell? ⟨w.heap.size, 0, none⟩ = some (.slice ao n cap)) := fun W hb => ⟨hb, (hb.cell (p := ⟨w6.heap.size, 0, none⟩) hX_10).trans cX0_10, (hb.cell (p := ⟨w.heap.size, 0, none⟩) hA_10).trans cA0_10⟩
  go_region_held3 (fun W => Below w10.heap.size w10 W ∧ W.cell? ⟨w6.heap.size, 0, none⟩ = some (.slice xp n xc) ∧ W.cell? ⟨w.heap.size, 0, none⟩ = some (.slice ao n cap)) (first | exact sk10 _ (Below.refl _ _).drew | exact sk10 _ hba | exact sk10 _ hb11) (first | (go_at_call 12; refine (toLayout_any ao n cap l _ HN.out (rd_below hr (B10.trans ((Below.refl w10.heap.size w10).drew.mono B10.size))) h20).mono ?_; rintro e wa ⟨yp, yc, rfl, oy, ha⟩; have hba : Below w10.heap.size w10 wa := ((Below.refl _ _).drew).trans (ha.mono (Nat.le_refl _))) | (go_at_call 14; refine (eqLayout_any xp yp n xc yc l _ HN.out h20 (owns_rdN (owns_below ox_10 hba)) (owns_rdN oy)).mono ?_; rintro e w11 ⟨rfl, hc⟩; have hb11 : Below w10.heap.size w10 w11 := hba.trans (hc.mono hba.size)))
  have B11 := B10.trans (hb11.mono B10.size)
  have ow_11 := owns_below ow_10 hb11
  have ox_11 := owns_below ox_10 hb11
  have og_11 := owns_below og_10 hb11
  have hA_11 := Nat.lt_of_lt_of_le hA_10 hb11.size
  have cA0_11 := (hb11.cell (p := ⟨w.heap.size, 0, none⟩) hA_10).trans cA0_10
  clear cA0_10
  have hRw_11 := Nat.lt_of_lt_of_le hRw_10 hb11.size
  have cRw0_11 := (hb11.cell (p := ⟨w4.heap.size, 0, none⟩) hRw_10).trans cRw0_10
  clear cRw0_10
  have hX_11 := Nat.lt_of_lt_of_le hX_10 hb11.size
  have cX0_11 := (hb11.cell (p := ⟨w6.heap.size, 0, none⟩) hX_10).trans cX0_10
  clear cX0_10
  have hRg_11 := Nat.lt_of_lt_of_le hRg_10 hb11.size
  have cRg0_11 := (hb11.cell (p := ⟨w8.heap.size, 0, none⟩) hRg_10).trans cRg0_10
  clear cRg0_10
  go_wp2_with fail
  refine (markLy_any _ _ _ _ _ (1) _ ox_11 h20 (by omega) (by omega)).mono ?_
  rintro e w12 ⟨rfl, ox_12, hg12⟩
  have B12 := below_grown B11 B11.size (owns_mono ox_11 B5.size) hg12
  have ow_12 := ow_11.kept hg12 (owns_apart ow_5 ox_6)
  have og_12 := og_11.kept hg12 (owns_apart2 ox_7 og_8)
  have hA_12 := Nat.lt_of_lt_of_le hA_11 hg12.size
  have cA0_12 := cell_far hg12 hA_11 (owns_far_old ox_6 hA_5) cA0_11
  clear cA0_11
  have hRw_12 := Nat.lt_of_lt_of_le hRw_11 hg12.size
  have cRw0_12 := cell_far hg12 hRw_11 (owns_far_old ox_6 hRw_5) cRw0_11
  clear cRw0_11
  have hX_12 := Nat.lt_of_lt_of_le hX_11 hg12.size
  have cX0_12 := cell_far hg12 hX_11 (owns_far_new ox_6 (by omega)) cX0_11
  clear cX0_11
  have hRg_12 := Nat.lt_of_lt_of_le hRg_11 hg12.size
  have cRg0_12 := cell_far hg12 hRg_11 (owns_far_new ox_8 (by omega)) cRg0_11
  clear cRg0_11
  go_wp2_with fail
  refine (eqLayout_any _ _ xs.length _ _ xs _ rfl (by omega) (owns_rdN og_12) (owns_rdN ow_12)).mono ?_
  rintro e w13 ⟨rfl, hb13⟩
  have B13 := B12.trans (hb13.mono B12.size)
  have ow_13 := owns_below ow_12 hb13
  have og_13 := owns_below og_12 hb13
  have hA_13 := Nat.lt_of_lt_of_le hA_12 hb13.size
  have cA0_13 := (hb13.cell (p := ⟨w.heap.size, 0, none⟩) hA_12).trans cA0_12
  clear cA0_12
  have hRw_13 := Nat.lt_of_lt_of_le hRw_12 hb13.size
  have cRw0_13 := (hb13.cell (p := ⟨w4.heap.size, 0, none⟩) hRw_12).trans cRw0_12
  clear cRw0_12
  have hX_13 := Nat.lt_of_lt_of_le hX_12 hb13.size
  have cX0_13 := (hb13.cell (p := ⟨w6.heap.size, 0, none⟩) hX_12).trans cX0_12
  clear cX0_12
  have hRg_13 := Nat.lt_of_lt_of_le hRg_12 hb13.size
  have cRg0_13 := (hb13.cell (p := ⟨w8.heap.size, 0, none⟩) hRg_12).trans cRg0_12
  clear cRg0_12
  go_wp2_with fail
  refine (markLy_any _ _ _ _ _ 1 _ og_13 (by omega) (by omega) (by omega)).mono ?_
  rintro e w14 ⟨rfl, og_14, hg14⟩
  have B14 := below_grown B13 B13.size (owns_mono og_13 B7.size) hg14
  have ow_14 := ow_13.kept hg14 (owns_apart ow_7 og_8)
  have hA_14 := Nat.lt_of_lt_of_le hA_13 hg14.size
  have cA0_14 := cell_far hg14 hA_13 (owns_far_old og_8 hA_7) cA0_13
  clear cA0_13
  have hRw_14 := Nat.lt_of_lt_of_le hRw_13 hg14.size
  have cRw0_14 := cell_far hg14 hRw_13 (owns_far_old og_8 hRw_7) cRw0_13
  clear cRw0_13
  have hX_14 := Nat.lt_of_lt_of_le hX_13 hg14.size
  have cX0_14 := cell_far hg14 hX_13 (owns_far_old og_8 hX_7) cX0_13
  clear cX0_13
  have hRg_14 := Nat.lt_of_lt_of_le hRg_13 hg14.size
  have cRg0_14 := cell_far hg14 hRg_13 (owns_far_new og_8 (by omega)) cRg0_13
  clear cRg0_13
  go_wp2_with fail
  refine (heldLy_any _ _ _ 1 _ (owns_rdN og_14) (by omega) (by omega) (by omega)).mono ?_
  rintro e w15 ⟨rfl, hb15⟩
  have B15 := B14.trans (hb15.mono B14.size)
  have ow_15 := owns_below ow_14 hb15
  have og_15 := owns_below og_14 hb15
  have hA_15 := Nat.lt_of_lt_of_le hA_14 hb15.size
  have cA0_15 := (hb15.cell (p := ⟨w.heap.size, 0, none⟩) hA_14).trans cA0_14
  clear cA0_14
  have hRw_15 := Nat.lt_of_lt_of_le hRw_14 hb15.size
  have cRw0_15 := (hb15.cell (p := ⟨w4.heap.size, 0, none⟩) hRw_14).trans cRw0_14
  clear cRw0_14
  have hX_15 := Nat.lt_of_lt_of_le hX_14 hb15.size
  have cX0_15 := (hb15.cell (p := ⟨w6.heap.size, 0, none⟩) hX_14).trans cX0_14
  clear cX0_14
  have hRg_15 := Nat.lt_of_lt_of_le hRg_14 hb15.size
  have cRg0_15 := (hb15.cell (p := ⟨w8.heap.size, 0, none⟩) hRg_14).trans cRg0_14
  clear cRg0_14
  go_wp2_with fail
  refine (toLayout_any ao n cap l _ HN.out (rd_below hr B15) h20).mono ?_
  rintro e w16 ⟨zp, zc, rfl, oz_16, hb16⟩
  have B16 := B15.trans (hb16.mono B15.size)
  have ow_16 := owns_below ow_15 hb16
  have og_16 := owns_below og_15 hb16
  have hA_16 := Nat.lt_of_lt_of_le hA_15 hb16.size
  have cA0_16 := (hb16.cell (p := ⟨w.heap.size, 0, none⟩) hA_15).trans cA0_15
  clear cA0_15
  have hRw_16 := Nat.lt_of_lt_of_le hRw_15 hb16.size
  have cRw0_16 := (hb16.cell (p := ⟨w4.heap.size, 0, none⟩) hRw_15).trans cRw0_15
  clear cRw0_15
  have hX_16 := Nat.lt_of_lt_of_le hX_15 hb16.size
  have cX0_16 := (hb16.cell (p := ⟨w6.heap.size, 0, none⟩) hX_15).trans cX0_15
  clear cX0_15
  have hRg_16 := Nat.lt_of_lt_of_le hRg_15 hb16.size
  have cRg0_16 := (hb16.cell (p := ⟨w8.heap.size, 0, none⟩) hRg_15).trans cRg0_15
  clear cRg0_15
  go_wp2_with fail
  refine (exLet_any zp n zc l u v _ hu hv HN.out (owns_rdN oz_16) hs h20).mono ?_
  rw [← HX.out, ← HC0.out]
  rintro e w17 ⟨hp, hc, rfl, oh_17, hb17⟩
  have B17 := B16.trans (hb17.mono B16.size)
  have ow_17 := owns_below ow_16 hb17
  have og_17 := owns_below og_16 hb17
  have oz_17 := owns_below oz_16 hb17
  have hA_17 := Nat.lt_of_lt_of_le hA_16 hb17.size
  have cA0_17 := (hb17.cell (p := ⟨w.heap.size, 0, none⟩) hA_16).trans cA0_16
  clear cA0_16
  have hRw_17 := Nat.lt_of_lt_of_le hRw_16 hb17.size
  have cRw0_17 := (hb17.cell (p := ⟨w4.heap.size, 0, none⟩) hRw_16).trans cRw0_16
  clear cRw0_16
  have hX_17 := Nat.lt_of_lt_of_le hX_16 hb17.size
  have cX0_17 := (hb17.cell (p := ⟨w6.heap.size, 0, none⟩) hX_16).trans cX0_16
  clear cX0_16
  have hRg_17 := Nat.lt_of_lt_of_le hRg_16 hb17.size
  have cRg0_17 := (hb17.cell (p := ⟨w8.heap.size, 0, none⟩) hRg_16).trans cRg0_16
  clear cRg0_16
  go_wp2_with fail
  obtain ⟨w18, hw18⟩ : ∃ w18, w18 = w17.alloc (.cells #[.slice hp xs.length hc] 28) := ⟨_, rfl⟩
  have hb18 : Below w17.heap.size w17 w18 := by
    rw [hw18]
    (repeat (first | with_reducible exact Below.refl _ _ | with_reducible assumption | refine Below.drew ?_ | refine below_drewN ?_ _ | (refine Below.alloc ?_ (by first | omega | (simp; done) | (simp; omega)) _) | (refine Below.setCell ?_ (by first | omega | (simp; done) | (simp; omega)) _) | (refine Below.trans ?_ (Below.mono (by assumption) (by first | omega | (simp; done) | (simp; omega))))))
  have cRh0_18 : w18.cell? ⟨w17.heap.size, 0, none⟩ = some (.slice hp xs.length hc) := by rw [hw18]; simp
  have hRh_18 : w17.heap.size < w18.heap.size := by rw [hw18]; simp <;> omega
  rw [← hw18]
  clear hw18
  have B18 := B17.trans (hb18.mono B17.size)
  have ow_18 := owns_below ow_17 hb18
  have og_18 := owns_below og_17 hb18
  have oz_18 := owns_below oz_17 hb18
  have oh_18 := owns_below oh_17 hb18
  have hA_18 := Nat.lt_of_lt_of_le hA_17 hb18.size
  have cA0_18 := (hb18.cell (p := ⟨w.heap.size, 0, none⟩) hA_17).trans cA0_17
  clear cA0_17
  have hRw_18 := Nat.lt_of_lt_of_le hRw_17 hb18.size
  have cRw0_18 := (hb18.cell (p := ⟨w4.heap.size, 0, none⟩) hRw_17).trans cRw0_17
  clear cRw0_17
  have hX_18 := Nat.lt_of_lt_of_le hX_17 hb18.size
  have cX0_18 := (hb18.cell (p := ⟨w6.heap.size, 0, none⟩) hX_17).trans cX0_17
  clear cX0_17
  have hRg_18 := Nat.lt_of_lt_of_le hRg_17 hb18.size
  have cRg0_18 := (hb18.cell (p := ⟨w8.heap.size, 0, none⟩) hRg_17).trans cRg0_17
  clear cRg0_17
  refine (eqLayout_any _ _ xs.length _ _ xs _ rfl (by omega) (owns_rdN oh_18) (owns_rdN ow_18)).mono ?_
  rintro e w19 ⟨rfl, hb19⟩
  have B19 := B18.trans (hb19.mono B18.size)
  have ow_19 := owns_below ow_18 hb19
  have og_19 := owns_below og_18 hb19
  have oh_19 := owns_below oh_18 hb19
  have hA_19 := Nat.lt_of_lt_of_le hA_18 hb19.size
  have cA0_19 := (hb19.cell (p := ⟨w.heap.size, 0, none⟩) hA_18).trans cA0_18
  clear cA0_18
  have hRw_19 := Nat.lt_of_lt_of_le hRw_18 hb19.size
  have cRw0_19 := (hb19.cell (p := ⟨w4.heap.size, 0, none⟩) hRw_18).trans cRw0_18
  clear cRw0_18
  have hX_19 := Nat.lt_of_lt_of_le hX_18 hb19.size
  have cX0_19 := (hb19.cell (p := ⟨w6.heap.size, 0, none⟩) hX_18).trans cX0_18
  clear cX0_18
  have hRg_19 := Nat.lt_of_lt_of_le hRg_18 hb19.size
  have cRg0_19 := (hb19.cell (p := ⟨w8.heap.size, 0, none⟩) hRg_18).trans cRg0_18
  clear cRg0_18
  have hRh_19 := Nat.lt_of_lt_of_le hRh_18 hb19.size
  have cRh0_19 := (hb19.cell (p := ⟨w17.heap.size, 0, none⟩) hRh_18).trans cRh0_18
  clear cRh0_18
  go_wp2_with fail
  refine (heldLy_any _ _ _ 1 _ (owns_rdN og_19) (by omega) (by omega) (by omega)).mono ?_
  rintro e w20 ⟨rfl, hb20⟩
  have B20 := B19.trans (hb20.mono B19.size)
  have ow_20 := owns_below ow_19 hb20
  have og_20 := owns_below og_19 hb20
  have oh_20 := owns_below oh_19 hb20
  have hA_20 := Nat.lt_of_lt_of_le hA_19 hb20.size
  have cA0_20 := (hb20.cell (p := ⟨w.heap.size, 0, none⟩) hA_19).trans cA0_19
  clear cA0_19
  have hRw_20 := Nat.lt_of_lt_of_le hRw_19 hb20.size
  have cRw0_20 := (hb20.cell (p := ⟨w4.heap.size, 0, none⟩) hRw_19).trans cRw0_19
  clear cRw0_19
  have hX_20 := Nat.lt_of_lt_of_le hX_19 hb20.size
  have cX0_20 := (hb20.cell (p := ⟨w6.heap.size, 0, none⟩) hX_19).trans cX0_19
  clear cX0_19
  have hRg_20 := Nat.lt_of_lt_of_le hRg_19 hb20.size
  have cRg0_20 := (hb20.cell (p := ⟨w8.heap.size, 0, none⟩) hRg_19).trans cRg0_19
  clear cRg0_19
  have hRh_20 := Nat.lt_of_lt_of_le hRh_19 hb20.size
  have cRh0_20 := (hb20.cell (p := ⟨w17.heap.size, 0, none⟩) hRh_19).trans cRh0_19
  clear cRh0_19
  go_wp2_with fail
  go_ret
  exact ⟨rfl, B20⟩
end Go.Proofs.Ytaaffcffelkcdaa
