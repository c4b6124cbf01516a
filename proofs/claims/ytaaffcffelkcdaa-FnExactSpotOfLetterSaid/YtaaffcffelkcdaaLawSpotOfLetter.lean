/-
  The law SpotOfLetter: the walk.
-/
import Derived.Test.YtaaffcffelkcdaaLayD
import Derived.Test.YtaaffcffelkcdaaApart
namespace Go.Proofs.Ytaaffcffelkcdaa
open Go.RowKit Go.ChangeShapes Go.WideShapes Go.Maps
set_option linter.unusedVariables false
attribute [local go_sem ↓] Go.wp_at_zero Go.wp_at_succ

set_option maxRecDepth 100000 in
set_option maxHeartbeats 4000000 in
theorem lawSpotOfLetter (w : World) (ao : Option Addr) (n cap : Nat) (l : List ByteArray) (ha : StArg w ao n cap l) (t : ByteArray) (ht : t.size ≤ maxLen) :
    Calls Try.prog 3 #[.agg #[.slice ao n cap], .string t] w fun e w' => e = .returned (.bool true) ∧ Below w.heap.size w w' := by
  obtain ⟨hn, hm, hr, hs⟩ := ha
  have HN := hid hn
  clear hn
  have ht' := ht
  unfold maxLen at ht'
  by_cases hbigt : (1048576 : Int) < (t.size : Int)
  · go_enter Try.func3, Try.ntmps3
    go_wp2_with fail
    go_ret
    refine ⟨rfl, ?_⟩
    (repeat (first | with_reducible exact Below.refl _ _ | with_reducible assumption | refine Below.drew ?_ | refine below_drewN ?_ _ | (refine Below.alloc ?_ (by first | omega | (simp; done) | (simp; omega)) _) | (refine Below.setCell ?_ (by first | omega | (simp; done) | (simp; omega)) _) | (refine Below.trans ?_ (Below.mono (by assumption) (by first | omega | (simp; done) | (simp; omega))))))
  go_enter Try.func3, Try.ntmps3
  go_wp2_with fail
  obtain ⟨w1, hw1⟩ : ∃ w1, w1 = w.alloc (.cells #[.slice ao n cap] 24) := ⟨_, rfl⟩
  have hb1 : Below w.heap.size w w1 := by
    rw [hw1]
    (repeat (first | with_reducible exact Below.refl _ _ | with_reducible assumption | refine Below.drew ?_ | refine below_drewN ?_ _ | (refine Below.alloc ?_ (by first | omega | (simp; done) | (simp; omega)) _) | (refine Below.setCell ?_ (by first | omega | (simp; done) | (simp; omega)) _) | (refine Below.trans ?_ (Below.mono (by assumption) (by first | omega | (simp; done) | (simp; omega))))))
  have cA0_1 : w1.cell? ⟨w.heap.size, 0, none⟩ = some (.slice ao n cap) := by rw [hw1]; simp
  have hA_1 : w.heap.size < w1.heap.size := by rw [hw1]; simp
  rw [← hw1]
  clear hw1
  have B1 := hb1
  refine (szLayout_any ao n cap l 1048576 _ (by omega) (by omega) HN.out hm (rd_below hr B1) hs).mono ?_
  rintro e w2 ⟨rfl, hb2⟩
  have B2 := B1.trans (hb2.mono B1.size)
  have hA_2 := Nat.lt_of_lt_of_le hA_1 hb2.size
  have cA0_2 := (hb2.cell (p := ⟨w.heap.size, 0, none⟩) hA_1).trans cA0_1
  clear cA0_1
  have hle := szLy_le (n := n) (l := l) (left := 1048576) (by omega) (by omega)
  by_cases hz : (szLy n l 1048576) < 0
  · go_wp2_with fail
    go_ret
    exact ⟨rfl, B2⟩
  have h20 := szLy_ok (by omega) hz
  go_wp2_with fail
  refine (toLayout_any ao n cap l _ HN.out (rd_below hr B2) h20).mono ?_
  rintro e w3 ⟨ap, ac, rfl, oa_3, hb3⟩
  have B3 := B2.trans (hb3.mono B2.size)
  have hA_3 := Nat.lt_of_lt_of_le hA_2 hb3.size
  have cA0_3 := (hb3.cell (p := ⟨w.heap.size, 0, none⟩) hA_2).trans cA0_2
  clear cA0_2
  go_wp2_with fail
  refine (sSpotOf_any ap n ac l t _ ht HN.out (owns_rdN oa_3) hs h20).mono ?_
  rintro e w4 ⟨rfl, hb4⟩
  have B4 := B3.trans (hb4.mono B3.size)
  have oa_4 := owns_below oa_3 hb4
  have hA_4 := Nat.lt_of_lt_of_le hA_3 hb4.size
  have cA0_4 := (hb4.cell (p := ⟨w.heap.size, 0, none⟩) hA_3).trans cA0_3
  clear cA0_3
  go_wp2_with fail
  refine (toLayout_any ao n cap l _ HN.out (rd_below hr B4) h20).mono ?_
  rintro e w5 ⟨xp, xc, rfl, ox_5, hb5⟩
  have B5 := B4.trans (hb5.mono B4.size)
  have hA_5 := Nat.lt_of_lt_of_le hA_4 hb5.size
  have cA0_5 := (hb5.cell (p := ⟨w.heap.size, 0, none⟩) hA_4).trans cA0_4
  clear cA0_4
  go_wp2_with fail
  obtain ⟨w6, hw6⟩ : ∃ w6, w6 = w5.alloc (.cells #[.slice xp n xc] 28) := ⟨_, rfl⟩
  have hb6 : Below w5.heap.size w5 w6 := by
    rw [hw6]
    (repeat (first | with_reducible exact Below.refl _ _ | with_reducible assumption | refine Below.drew ?_ | refine below_drewN ?_ _ | (refine Below.alloc ?_ (by first | omega | (simp; done) | (simp; omega)) _) | (refine Below.setCell ?_ (by first | omega | (simp; done) | (simp; omega)) _) | (refine Below.trans ?_ (Below.mono (by assumption) (by first | omega | (simp; done) | (simp; omega))))))
  have cX0_6 : w6.cell? ⟨w5.heap.size, 0, none⟩ = some (.slice xp n xc) := by rw [hw6]; simp
  have hX_6 : w5.heap.size < w6.heap.size := by rw [hw6]; simp
  rw [← hw6]
  clear hw6
  have B6 := B5.trans (hb6.mono B5.size)
  have ox_6 := owns_below ox_5 hb6
  have hA_6 := Nat.lt_of_lt_of_le hA_5 hb6.size
  have cA0_6 := (hb6.cell (p := ⟨w.heap.size, 0, none⟩) hA_5).trans cA0_5
  clear cA0_5
  refine (spotOf_any xp n xc l t _ ht HN.out (owns_rdN ox_6) hs h20).mono ?_
  rintro e w7 ⟨rfl, hb7⟩
  have B7 := B6.trans (hb7.mono B6.size)
  have ox_7 := owns_below ox_6 hb7
  have hA_7 := Nat.lt_of_lt_of_le hA_6 hb7.size
  have cA0_7 := (hb7.cell (p := ⟨w.heap.size, 0, none⟩) hA_6).trans cA0_6
  clear cA0_6
  have hX_7 := Nat.lt_of_lt_of_le hX_6 hb7.size
  have cX0_7 := (hb7.cell (p := ⟨w5.heap.size, 0, none⟩) hX_6).trans cX0_6
  clear cX0_6
  go_wp2_with fail
  have sk7 : ∀ W, Below w7.heap.size w7 W → (Below w7.heap.size w7 W ∧ W.cell? ⟨w5.heap.size, 0, none⟩ = some (.slice xp n xc) ∧ W.cell? ⟨w.heap.size, 0, none⟩ = some (.slice ao n cap)) := fun W hb => ⟨hb, (hb.cell (p := ⟨w5.heap.size, 0, none⟩) hX_7).trans cX0_7, (hb.cell (p := ⟨w.heap.size, 0, none⟩) hA_7).trans cA0_7⟩
  go_region_held3 (fun W => Below w7.heap.size w7 W ∧ W.cell? ⟨w5.heap.size, 0, none⟩ = some (.slice xp n xc) ∧ W.cell? ⟨w.heap.size, 0, none⟩ = some (.slice ao n cap)) (first | exact sk7 _ (Below.refl _ _).drew | exact sk7 _ hba | exact sk7 _ hb8) (first | (go_at_call 12; refine (toLayout_any ao n cap l _ HN.out (rd_below hr (B7.trans ((Below.refl w7.heap.size w7).drew.mono B7.size))) h20).mono ?_; rintro e wa ⟨yp, yc, rfl, oy, ha⟩; have hba : Below w7.heap.size w7 wa := ((Below.refl _ _).drew).trans (ha.mono (Nat.le_refl _))) | (go_at_call 14; refine (eqLayout_any xp yp n xc yc l _ HN.out h20 (owns_rdN (owns_below ox_7 hba)) (owns_rdN oy)).mono ?_; rintro e w8 ⟨rfl, hc⟩; have hb8 : Below w7.heap.size w7 w8 := hba.trans (hc.mono hba.size)))
  have B8 := B7.trans (hb8.mono B7.size)
  have ox_8 := owns_below ox_7 hb8
  have hA_8 := Nat.lt_of_lt_of_le hA_7 hb8.size
  have cA0_8 := (hb8.cell (p := ⟨w.heap.size, 0, none⟩) hA_7).trans cA0_7
  clear cA0_7
  have hX_8 := Nat.lt_of_lt_of_le hX_7 hb8.size
  have cX0_8 := (hb8.cell (p := ⟨w5.heap.size, 0, none⟩) hX_7).trans cX0_7
  clear cX0_7
  go_wp2_with fail
  go_ret
  exact ⟨rfl, B8⟩
end Go.Proofs.Ytaaffcffelkcdaa
