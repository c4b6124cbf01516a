/-
  The law AddAbbr: the walk.
-/
import Derived.Test.YtkkfnmlomjlckaaAdd
import Derived.Test.YtkkfnmlomjlckaaApart
import Derived.Test.YtkkfnmlomjlckaaMarkAb
namespace Go.Proofs.Ytkkfnmlomjlckaa
open Go.RowKit Go.ChangeShapes Go.WideShapes Go.Maps
set_option linter.unusedVariables false
attribute [local go_sem ↓] Go.wp_at_zero Go.wp_at_succ

theorem owns_cap {w : World} {B : Nat} {E : TypeId} {size : Nat} {ao : Option Addr} {n cap m : Nat} {xs : List Value} (h : w.ownsRow B E size (.slice ao n cap) m xs) : n ≤ cap ∧ cap ≤ maxLen := by
  rcases owns_form h with ⟨hv, _, _⟩ | ⟨g, c, hv, _, _, hc, hm⟩
  · simp only [Value.slice.injEq] at hv
    obtain ⟨rfl, rfl, rfl⟩ := hv
    exact ⟨Nat.le_refl _, Nat.zero_le _⟩
  · simp only [Value.slice.injEq] at hv
    obtain ⟨rfl, rfl, rfl⟩ := hv
    exact ⟨hc, hm⟩
theorem owns_blt {w : World} {B : Nat} {E : TypeId} {size : Nat} {g n cap m : Nat} {xs : List Value} (h : w.ownsRow B E size (.slice (some ⟨g, 0, none⟩) n cap) m xs) : g < w.heap.size := (h.lt g rfl).2
set_option maxRecDepth 100000 in
set_option maxHeartbeats 4000000 in
theorem lawAddAbbr (w : World) (ao : Option Addr) (n cap : Nat) (l : List Ab) (ha : AbArg w ao n cap l) (xq yq : ByteArray) (hxq : xq.size ≤ maxLen) (hyq : yq.size ≤ maxLen) :
    Calls Try.prog 7 #[.slice ao n cap, .agg #[.string xq, .string yq]] w fun e w' => e = .returned (.bool true) ∧ Below w.heap.size w w' := by
  obtain ⟨hn, hm, hr, hs⟩ := ha
  have HN := hid hn
  clear hn
  have hlen := addL_len l (xq, yq)
  obtain ⟨xs, hxs⟩ : ∃ xs, xs = addL l (xq, yq) := ⟨_, rfl⟩
  rw [← hxs] at hlen
  have HX := hid hxs
  clear hxs
  obtain ⟨c0, hc0⟩ : ∃ c, c = addC l (xq, yq) := ⟨_, rfl⟩
  have HC0 := hid hc0
  clear hc0
  go_enter Try.func7, Try.ntmps7
  go_wp2_with fail
  obtain ⟨w1, hw1⟩ : ∃ w1, w1 = w.alloc (.cells #[.string xq, .string yq] 23) := ⟨_, rfl⟩
  have hb1 : Below w.heap.size w w1 := by
    rw [hw1]
    (repeat (first | with_reducible exact Below.refl _ _ | with_reducible assumption | refine Below.drew ?_ | refine below_drewN ?_ _ | (refine Below.alloc ?_ (by first | omega | (simp; done) | (simp; omega)) _) | (refine Below.setCell ?_ (by first | omega | (simp; done) | (simp; omega)) _) | (refine Below.trans ?_ (Below.mono (by assumption) (by first | omega | (simp; done) | (simp; omega))))))
  have cAq0_1 : w1.cell? ⟨w.heap.size, 0, none⟩ = some (.string xq) := by rw [hw1]; simp
  have cAq1_1 : w1.cell? ⟨w.heap.size, 1, none⟩ = some (.string yq) := by rw [hw1]; simp
  have hAq_1 : w.heap.size < w1.heap.size := by rw [hw1]; simp
  rw [← hw1]
  clear hw1
  have B1 := hb1
  refine (szAbbrS_any ao n cap l 1048576 _ (by omega) (by omega) HN.out hm (rd_below hr B1) hs).mono ?_
  rintro e w2 ⟨rfl, hb2⟩
  have B2 := B1.trans (hb2.mono B1.size)
  have hAq_2 := Nat.lt_of_lt_of_le hAq_1 hb2.size
  have cAq0_2 := (hb2.cell (p := ⟨w.heap.size, 0, none⟩) hAq_1).trans cAq0_1
  have cAq1_2 := (hb2.cell (p := ⟨w.heap.size, 1, none⟩) hAq_1).trans cAq1_1
  clear cAq0_1 cAq1_1
  have hle := szAllAb_le 1048576 n l (by omega) (by omega)
  by_cases hz : (szAllAb 1048576 n l) < 0
  · go_wp2_with fail
    go_ret
    exact ⟨rfl, B2⟩
  have h20 := szAllAb_len (by omega) hz
  go_wp2_with fail
  refine (szAbbr_any xq yq (szAllAb 1048576 n l) _ hxq hyq (by omega) (by omega)).mono ?_
  rintro e w3 ⟨rfl, hb3⟩
  have B3 := B2.trans (hb3.mono B2.size)
  have hAq_3 := Nat.lt_of_lt_of_le hAq_2 hb3.size
  have cAq0_3 := (hb3.cell (p := ⟨w.heap.size, 0, none⟩) hAq_2).trans cAq0_2
  have cAq1_3 := (hb3.cell (p := ⟨w.heap.size, 1, none⟩) hAq_2).trans cAq1_2
  clear cAq0_2 cAq1_2
  have hleq := szAb_bd xq yq (szAllAb 1048576 n l) (by omega)
  by_cases hzq : (szAb xq yq (szAllAb 1048576 n l)) < 0
  · go_wp2_with fail
    go_ret
    exact ⟨rfl, B3⟩
  go_wp2_with fail
  have sk3 : ∀ W, Below w3.heap.size w3 W → (Below w3.heap.size w3 W ∧ W.cell? ⟨w.heap.size, 0, none⟩ = some (.string xq) ∧ W.cell? ⟨w.heap.size, 1, none⟩ = some (.string yq)) := fun W hb => ⟨hb, (hb.cell (p := ⟨w.heap.size, 0, none⟩) hAq_3).trans cAq0_3, (hb.cell (p := ⟨w.heap.size, 1, none⟩) hAq_3).trans cAq1_3⟩
  go_region_held3 (fun W => Below w3.heap.size w3 W ∧ W.cell? ⟨w.heap.size, 0, none⟩ = some (.string xq) ∧ W.cell? ⟨w.heap.size, 1, none⟩ = some (.string yq)) (first | exact sk3 _ (Below.refl _ _).drew | exact sk3 _ hk4 | exact sk3 _ hk5 | exact sk3 _ hk6) (first | (go_at_call 23; refine (toAbbrS_some ao n cap l _ HN.out (rd_below hr B3.drew) h20).mono ?_; rintro e w4 ⟨ap, ac, rfl, oa_4, hd4⟩; have hb4 : Below w3.heap.size w3 w4 := ((Below.refl _ _).drew).trans (hd4.mono (Nat.le_refl _)); have B4 := B3.trans (hb4.mono B3.size); have hk4 : Below w3.heap.size w3 w4 := hb4; have hAq_4 := Nat.lt_of_lt_of_le hAq_3 hb4.size; have cAq0_4 := (hb4.cell (p := ⟨w.heap.size, 0, none⟩) hAq_3).trans cAq0_3; have cAq1_4 := (hb4.cell (p := ⟨w.heap.size, 1, none⟩) hAq_3).trans cAq1_3; clear cAq0_3 cAq1_3) | (go_at_call 16; refine (toAbbr_any _ _ _).mono ?_; rintro e w5 ⟨rfl, hb5⟩; have B5 := B4.trans (hb5.mono B4.size); have hk5 : Below w3.heap.size w3 w5 := hk4.trans (hb5.mono hk4.size); have oa_5 := owns_below oa_4 hb5; have hAq_5 := Nat.lt_of_lt_of_le hAq_4 hb5.size; have cAq0_5 := (hb5.cell (p := ⟨w.heap.size, 0, none⟩) hAq_4).trans cAq0_4; have cAq1_5 := (hb5.cell (p := ⟨w.heap.size, 1, none⟩) hAq_4).trans cAq1_4; clear cAq0_4 cAq1_4) | (go_at_call 28; refine (sAdd_any ap 0 n ac l xq yq _ HN.out (owns_rdN oa_5) (owns_blt oa_5) hs h20 (owns_cap oa_5).1 (owns_cap oa_5).2 hxq hyq).mono ?_; rw [← HX.out, ← HC0.out]; rintro e w6 ⟨wp, wc, rfl, ow_6, hb6⟩; have B6 := B5.trans (hb6.mono B5.size); have hk6 : Below w3.heap.size w3 w6 := hk5.trans (hb6.mono hk5.size); have oa_6 := owns_below oa_5 hb6; have hAq_6 := Nat.lt_of_lt_of_le hAq_5 hb6.size; have cAq0_6 := (hb6.cell (p := ⟨w.heap.size, 0, none⟩) hAq_5).trans cAq0_5; have cAq1_6 := (hb6.cell (p := ⟨w.heap.size, 1, none⟩) hAq_5).trans cAq1_5; clear cAq0_5 cAq1_5))
  go_wp2_with fail
  refine (toAbbrS_some ao n cap l _ HN.out (rd_below hr B6) h20).mono ?_
  rintro e w7 ⟨xp, xc, rfl, ox_7, hb7⟩
  have B7 := B6.trans (hb7.mono B6.size)
  have ow_7 := owns_below ow_6 hb7
  have hAq_7 := Nat.lt_of_lt_of_le hAq_6 hb7.size
  have cAq0_7 := (hb7.cell (p := ⟨w.heap.size, 0, none⟩) hAq_6).trans cAq0_6
  have cAq1_7 := (hb7.cell (p := ⟨w.heap.size, 1, none⟩) hAq_6).trans cAq1_6
  clear cAq0_6 cAq1_6
  go_wp2_with fail
  refine (toAbbr_any _ _ _).mono ?_
  rintro e w8 ⟨rfl, hb8⟩
  have B8 := B7.trans (hb8.mono B7.size)
  have ow_8 := owns_below ow_7 hb8
  have ox_8 := owns_below ox_7 hb8
  have hAq_8 := Nat.lt_of_lt_of_le hAq_7 hb8.size
  have cAq0_8 := (hb8.cell (p := ⟨w.heap.size, 0, none⟩) hAq_7).trans cAq0_7
  have cAq1_8 := (hb8.cell (p := ⟨w.heap.size, 1, none⟩) hAq_7).trans cAq1_7
  clear cAq0_7 cAq1_7
  go_wp2_with fail
  refine (add_any xp 0 n xc l xq yq _ HN.out (owns_rdN ox_8) (owns_blt ox_8) hs h20 (owns_cap ox_8).1 (owns_cap ox_8).2 hxq hyq).mono ?_
  rw [← HX.out, ← HC0.out]
  rintro e w9 ⟨gp, gc, rfl, og_9, hb9⟩
  have B9 := B8.trans (hb9.mono B8.size)
  have ow_9 := owns_below ow_8 hb9
  have ox_9 := owns_below ox_8 hb9
  have hAq_9 := Nat.lt_of_lt_of_le hAq_8 hb9.size
  have cAq0_9 := (hb9.cell (p := ⟨w.heap.size, 0, none⟩) hAq_8).trans cAq0_8
  have cAq1_9 := (hb9.cell (p := ⟨w.heap.size, 1, none⟩) hAq_8).trans cAq1_8
  clear cAq0_8 cAq1_8
  go_wp2_with fail
  refine (eqAbbrS_any _ _ xs _ _ _ _ rfl (by omega) (owns_rdN og_9) (owns_rdN ow_9)).mono ?_
  rintro e w10 ⟨rfl, hb10⟩
  have B10 := B9.trans (hb10.mono B9.size)
  have ow_10 := owns_below ow_9 hb10
  have ox_10 := owns_below ox_9 hb10
  have og_10 := owns_below og_9 hb10
  have hAq_10 := Nat.lt_of_lt_of_le hAq_9 hb10.size
  have cAq0_10 := (hb10.cell (p := ⟨w.heap.size, 0, none⟩) hAq_9).trans cAq0_9
  have cAq1_10 := (hb10.cell (p := ⟨w.heap.size, 1, none⟩) hAq_9).trans cAq1_9
  clear cAq0_9 cAq1_9
  go_wp2_with fail
  refine (toAbbrS_some ao n cap l _ HN.out (rd_below hr B10) h20).mono ?_
  rintro e w11 ⟨yp, yc, rfl, oy_11, hb11⟩
  have B11 := B10.trans (hb11.mono B10.size)
  have ow_11 := owns_below ow_10 hb11
  have ox_11 := owns_below ox_10 hb11
  have og_11 := owns_below og_10 hb11
  have hAq_11 := Nat.lt_of_lt_of_le hAq_10 hb11.size
  have cAq0_11 := (hb11.cell (p := ⟨w.heap.size, 0, none⟩) hAq_10).trans cAq0_10
  have cAq1_11 := (hb11.cell (p := ⟨w.heap.size, 1, none⟩) hAq_10).trans cAq1_10
  clear cAq0_10 cAq1_10
  go_wp2_with fail
  refine (eqAbbrS_any _ _ l _ _ _ _ HN.out (by omega) (owns_rdN ox_11) (owns_rdN oy_11)).mono ?_
  rintro e w12 ⟨rfl, hb12⟩
  have B12 := B11.trans (hb12.mono B11.size)
  have ow_12 := owns_below ow_11 hb12
  have ox_12 := owns_below ox_11 hb12
  have og_12 := owns_below og_11 hb12
  have hAq_12 := Nat.lt_of_lt_of_le hAq_11 hb12.size
  have cAq0_12 := (hb12.cell (p := ⟨w.heap.size, 0, none⟩) hAq_11).trans cAq0_11
  have cAq1_12 := (hb12.cell (p := ⟨w.heap.size, 1, none⟩) hAq_11).trans cAq1_11
  clear cAq0_11 cAq1_11
  go_wp2_with fail
  refine (markAb_any _ _ _ _ _ (1) _ ox_12 h20 (by omega) (by omega)).mono ?_
  rintro e w13 ⟨rfl, ox_13, hg13⟩
  have B13 := below_grown B12 B12.size (owns_mono ox_12 B6.size) hg13
  have ow_13 := ow_12.kept hg13 (owns_apart ow_6 ox_7)
  have og_13 := og_12.kept hg13 (owns_apart2 ox_8 og_9)
  have hAq_13 := Nat.lt_of_lt_of_le hAq_12 hg13.size
  have cAq0_13 := cell_far hg13 hAq_12 (owns_far_old ox_7 hAq_6) cAq0_12
  have cAq1_13 := cell_far hg13 hAq_12 (owns_far_old ox_7 hAq_6) cAq1_12
  clear cAq0_12 cAq1_12
  go_wp2_with fail
  refine (eqAbbrS_any _ _ xs _ _ _ _ rfl (by omega) (owns_rdN og_13) (owns_rdN ow_13)).mono ?_
  rintro e w14 ⟨rfl, hb14⟩
  have B14 := B13.trans (hb14.mono B13.size)
  have ow_14 := owns_below ow_13 hb14
  have og_14 := owns_below og_13 hb14
  have hAq_14 := Nat.lt_of_lt_of_le hAq_13 hb14.size
  have cAq0_14 := (hb14.cell (p := ⟨w.heap.size, 0, none⟩) hAq_13).trans cAq0_13
  have cAq1_14 := (hb14.cell (p := ⟨w.heap.size, 1, none⟩) hAq_13).trans cAq1_13
  clear cAq0_13 cAq1_13
  go_wp2_with fail
  refine (markAb_any _ _ _ _ _ 1 _ og_14 (by omega) (by omega) (by omega)).mono ?_
  rintro e w15 ⟨rfl, og_15, hg15⟩
  have B15 := below_grown B14 B14.size (owns_mono og_14 B8.size) hg15
  have ow_15 := ow_14.kept hg15 (owns_apart ow_8 og_9)
  have hAq_15 := Nat.lt_of_lt_of_le hAq_14 hg15.size
  have cAq0_15 := cell_far hg15 hAq_14 (owns_far_old og_9 hAq_8) cAq0_14
  have cAq1_15 := cell_far hg15 hAq_14 (owns_far_old og_9 hAq_8) cAq1_14
  clear cAq0_14 cAq1_14
  go_wp2_with fail
  refine (heldAb_any _ _ _ 1 _ (owns_rdN og_15) (by omega) (by omega) (by omega)).mono ?_
  rintro e w16 ⟨rfl, hb16⟩
  have B16 := B15.trans (hb16.mono B15.size)
  have ow_16 := owns_below ow_15 hb16
  have og_16 := owns_below og_15 hb16
  have hAq_16 := Nat.lt_of_lt_of_le hAq_15 hb16.size
  have cAq0_16 := (hb16.cell (p := ⟨w.heap.size, 0, none⟩) hAq_15).trans cAq0_15
  have cAq1_16 := (hb16.cell (p := ⟨w.heap.size, 1, none⟩) hAq_15).trans cAq1_15
  clear cAq0_15 cAq1_15
  go_wp2_with fail
  have sk16 : ∀ W, Below w16.heap.size w16 W → (Below w16.heap.size w16 W ∧ W.cell? ⟨w.heap.size, 0, none⟩ = some (.string xq) ∧ W.cell? ⟨w.heap.size, 1, none⟩ = some (.string yq)) := fun W hb => ⟨hb, (hb.cell (p := ⟨w.heap.size, 0, none⟩) hAq_16).trans cAq0_16, (hb.cell (p := ⟨w.heap.size, 1, none⟩) hAq_16).trans cAq1_16⟩
  go_region_held3 (fun W => Below w16.heap.size w16 W ∧ W.cell? ⟨w.heap.size, 0, none⟩ = some (.string xq) ∧ W.cell? ⟨w.heap.size, 1, none⟩ = some (.string yq)) (first | exact sk16 _ (Below.refl _ _).drew | exact sk16 _ hk17 | exact sk16 _ hk18 | exact sk16 _ hk19) (first | (go_at_call 23; refine (toAbbrS_some ao n cap l _ HN.out (rd_below hr B16.drew) h20).mono ?_; rintro e w17 ⟨zp, zc, rfl, oz_17, hd17⟩; have hb17 : Below w16.heap.size w16 w17 := ((Below.refl _ _).drew).trans (hd17.mono (Nat.le_refl _)); have B17 := B16.trans (hb17.mono B16.size); have hk17 : Below w16.heap.size w16 w17 := hb17; have ow_17 := owns_below ow_16 hb17; have og_17 := owns_below og_16 hb17; have hAq_17 := Nat.lt_of_lt_of_le hAq_16 hb17.size; have cAq0_17 := (hb17.cell (p := ⟨w.heap.size, 0, none⟩) hAq_16).trans cAq0_16; have cAq1_17 := (hb17.cell (p := ⟨w.heap.size, 1, none⟩) hAq_16).trans cAq1_16; clear cAq0_16 cAq1_16) | (go_at_call 16; refine (toAbbr_any _ _ _).mono ?_; rintro e w18 ⟨rfl, hb18⟩; have B18 := B17.trans (hb18.mono B17.size); have hk18 : Below w16.heap.size w16 w18 := hk17.trans (hb18.mono hk17.size); have ow_18 := owns_below ow_17 hb18; have og_18 := owns_below og_17 hb18; have oz_18 := owns_below oz_17 hb18; have hAq_18 := Nat.lt_of_lt_of_le hAq_17 hb18.size; have cAq0_18 := (hb18.cell (p := ⟨w.heap.size, 0, none⟩) hAq_17).trans cAq0_17; have cAq1_18 := (hb18.cell (p := ⟨w.heap.size, 1, none⟩) hAq_17).trans cAq1_17; clear cAq0_17 cAq1_17) | (go_at_call 29; refine (add_any zp 0 n zc l xq yq _ HN.out (owns_rdN oz_18) (owns_blt oz_18) hs h20 (owns_cap oz_18).1 (owns_cap oz_18).2 hxq hyq).mono ?_; rw [← HX.out, ← HC0.out]; rintro e w19 ⟨hp, hc, rfl, oh_19, hb19⟩; have B19 := B18.trans (hb19.mono B18.size); have hk19 : Below w16.heap.size w16 w19 := hk18.trans (hb19.mono hk18.size); have ow_19 := owns_below ow_18 hb19; have og_19 := owns_below og_18 hb19; have oz_19 := owns_below oz_18 hb19; have hAq_19 := Nat.lt_of_lt_of_le hAq_18 hb19.size; have cAq0_19 := (hb19.cell (p := ⟨w.heap.size, 0, none⟩) hAq_18).trans cAq0_18; have cAq1_19 := (hb19.cell (p := ⟨w.heap.size, 1, none⟩) hAq_18).trans cAq1_18; clear cAq0_18 cAq1_18))
  go_wp2_with fail
  refine (eqAbbrS_any _ _ xs _ _ _ _ rfl (by omega) (owns_rdN oh_19) (owns_rdN ow_19)).mono ?_
  rintro e w20 ⟨rfl, hb20⟩
  have B20 := B19.trans (hb20.mono B19.size)
  have ow_20 := owns_below ow_19 hb20
  have og_20 := owns_below og_19 hb20
  have oh_20 := owns_below oh_19 hb20
  have hAq_20 := Nat.lt_of_lt_of_le hAq_19 hb20.size
  have cAq0_20 := (hb20.cell (p := ⟨w.heap.size, 0, none⟩) hAq_19).trans cAq0_19
  have cAq1_20 := (hb20.cell (p := ⟨w.heap.size, 1, none⟩) hAq_19).trans cAq1_19
  clear cAq0_19 cAq1_19
  go_wp2_with fail
  refine (heldAb_any _ _ _ 1 _ (owns_rdN og_20) (by omega) (by omega) (by omega)).mono ?_
  rintro e w21 ⟨rfl, hb21⟩
  have B21 := B20.trans (hb21.mono B20.size)
  have ow_21 := owns_below ow_20 hb21
  have og_21 := owns_below og_20 hb21
  have oh_21 := owns_below oh_20 hb21
  have hAq_21 := Nat.lt_of_lt_of_le hAq_20 hb21.size
  have cAq0_21 := (hb21.cell (p := ⟨w.heap.size, 0, none⟩) hAq_20).trans cAq0_20
  have cAq1_21 := (hb21.cell (p := ⟨w.heap.size, 1, none⟩) hAq_20).trans cAq1_20
  clear cAq0_20 cAq1_20
  go_wp2_with fail
  go_ret
  exact ⟨rfl, B21⟩
end Go.Proofs.Ytkkfnmlomjlckaa
