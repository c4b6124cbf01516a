/-
  The law ContradictionsOf: the walk.
-/
import Derived.Test.YthhpeanlpikjbaaFaceG
import Derived.Test.YthhpeanlpikjbaaFaceF
import Derived.Test.YthhpeanlpikjbaaApart
namespace Go.Proofs.Ythhpeanlpikjbaa
open Go.RowKit Go.ChangeShapes Go.WideShapes Go.Maps
set_option linter.unusedVariables false
attribute [local go_sem ↓] Go.wp_at_zero Go.wp_at_succ

set_option maxRecDepth 100000 in
set_option maxHeartbeats 4000000 in
theorem lawContradictionsOf (w : World) (x : ByteArray) (hx : x.size ≤ maxLen) (ao : Option Addr) (n cap : Nat) (l : List Se) (ha : SeArg w ao n cap l) (aop : Option Addr) (np capp : Nat) (lp : List Se) (hap : SeArg w aop np capp lp) :
    Calls Try.prog 7 #[.agg #[.string x, .slice ao n cap], .slice aop np capp] w fun e w' => e = .returned (.bool true) ∧ Below w.heap.size w w' := by
  obtain ⟨hn, hm, hr, hs⟩ := ha
  have HN := hid hn
  clear hn
  obtain ⟨hnp, hmp, hrp, hsp⟩ := hap
  have HNp := hid hnp
  clear hnp
  go_enter Try.func7, Try.ntmps7
  go_wp2_with fail
  obtain ⟨w1, hw1⟩ : ∃ w1, w1 = w.alloc (.cells #[.string x, .slice ao n cap] 38) := ⟨_, rfl⟩
  have hb1 : Below w.heap.size w w1 := by
    rw [hw1]
    (repeat (first | with_reducible exact Below.refl _ _ | with_reducible assumption | refine Below.drew ?_ | refine below_drewN ?_ _ | (refine Below.alloc ?_ (by first | omega | (simp; done) | (simp; omega)) _) | (refine Below.setCell ?_ (by first | omega | (simp; done) | (simp; omega)) _) | (refine Below.trans ?_ (Below.mono (by assumption) (by first | omega | (simp; done) | (simp; omega))))))
  have cA0_1 : w1.cell? ⟨w.heap.size, 0, none⟩ = some (.string x) := by rw [hw1]; simp
  have cA1_1 : w1.cell? ⟨w.heap.size, 1, none⟩ = some (.slice ao n cap) := by rw [hw1]; simp
  have hA_1 : w.heap.size < w1.heap.size := by rw [hw1]; simp
  rw [← hw1]
  clear hw1
  have B1 := hb1
  refine (szWriter_any x ao n cap l 1048576 _ hx (by omega) (by omega) HN.out hm (rd_below hr B1) hs).mono ?_
  rintro e w2 ⟨rfl, hb2⟩
  have B2 := B1.trans (hb2.mono B1.size)
  have hA_2 := Nat.lt_of_lt_of_le hA_1 hb2.size
  have cA0_2 := (hb2.cell (p := ⟨w.heap.size, 0, none⟩) hA_1).trans cA0_1
  have cA1_2 := (hb2.cell (p := ⟨w.heap.size, 1, none⟩) hA_1).trans cA1_1
  clear cA0_1 cA1_1
  have hle := szWr_le (x := x) (n := n) (l := l) (left := 1048576) (by omega) (by omega)
  by_cases hz : (szWr x n l 1048576) < 0
  · go_wp2_with fail
    go_ret
    exact ⟨rfl, B2⟩
  obtain ⟨h20, hx20⟩ := szWr_ok (by omega) hz
  go_wp2_with fail
  refine (szSeenS_any aop np capp lp (szWr x n l 1048576) _ (by omega) (by omega) HNp.out hmp (rd_below hrp B2) hsp).mono ?_
  rintro e w3 ⟨rfl, hb3⟩
  have B3 := B2.trans (hb3.mono B2.size)
  have hA_3 := Nat.lt_of_lt_of_le hA_2 hb3.size
  have cA0_3 := (hb3.cell (p := ⟨w.heap.size, 0, none⟩) hA_2).trans cA0_2
  have cA1_3 := (hb3.cell (p := ⟨w.heap.size, 1, none⟩) hA_2).trans cA1_2
  clear cA0_2 cA1_2
  have hlep := szAllSe_le (szWr x n l 1048576) np lp (by omega) (by omega)
  by_cases hzp : (szAllSe (szWr x n l 1048576) np lp) < 0
  · go_wp2_with fail
    go_ret
    exact ⟨rfl, B3⟩
  have h20p := szAllSe_len (by omega) hzp
  go_wp2_with fail
  refine (toWriter_any x ao n cap l _ HN.out (rd_below hr B3) h20).mono ?_
  rintro e w4 ⟨ap, ac, rfl, oa_4, hb4⟩
  have B4 := B3.trans (hb4.mono B3.size)
  have hA_4 := Nat.lt_of_lt_of_le hA_3 hb4.size
  have cA0_4 := (hb4.cell (p := ⟨w.heap.size, 0, none⟩) hA_3).trans cA0_3
  have cA1_4 := (hb4.cell (p := ⟨w.heap.size, 1, none⟩) hA_3).trans cA1_3
  clear cA0_3 cA1_3
  go_wp2_with fail
  refine (toSeenS_any aop np capp lp _ HNp.out (rd_below hrp B4) h20p).mono ?_
  rintro e w5 ⟨app, apc, rfl, oap_5, hb5⟩
  have B5 := B4.trans (hb5.mono B4.size)
  have oa_5 := owns_below oa_4 hb5
  have hA_5 := Nat.lt_of_lt_of_le hA_4 hb5.size
  have cA0_5 := (hb5.cell (p := ⟨w.heap.size, 0, none⟩) hA_4).trans cA0_4
  have cA1_5 := (hb5.cell (p := ⟨w.heap.size, 1, none⟩) hA_4).trans cA1_4
  clear cA0_4 cA1_4
  go_wp2_with fail
  refine (sContra_any x ap n ac l app np apc lp _ hx HN.out (owns_rdN oa_5) hs h20 HNp.out (owns_rdN oap_5) hsp h20p).mono ?_
  rintro e w6 ⟨rfl, hb6⟩
  have B6 := B5.trans (hb6.mono B5.size)
  have oa_6 := owns_below oa_5 hb6
  have oap_6 := owns_below oap_5 hb6
  have hA_6 := Nat.lt_of_lt_of_le hA_5 hb6.size
  have cA0_6 := (hb6.cell (p := ⟨w.heap.size, 0, none⟩) hA_5).trans cA0_5
  have cA1_6 := (hb6.cell (p := ⟨w.heap.size, 1, none⟩) hA_5).trans cA1_5
  clear cA0_5 cA1_5
  go_wp2_with fail
  refine (toWriter_any x ao n cap l _ HN.out (rd_below hr B6) h20).mono ?_
  rintro e w7 ⟨xp, xc, rfl, ox_7, hb7⟩
  have B7 := B6.trans (hb7.mono B6.size)
  have hA_7 := Nat.lt_of_lt_of_le hA_6 hb7.size
  have cA0_7 := (hb7.cell (p := ⟨w.heap.size, 0, none⟩) hA_6).trans cA0_6
  have cA1_7 := (hb7.cell (p := ⟨w.heap.size, 1, none⟩) hA_6).trans cA1_6
  clear cA0_6 cA1_6
  go_wp2_with fail
  obtain ⟨w8, hw8⟩ : ∃ w8, w8 = w7.alloc (.cells #[.string x, .slice xp n xc] 44) := ⟨_, rfl⟩
  have hb8 : Below w7.heap.size w7 w8 := by
    rw [hw8]
    (repeat (first | with_reducible exact Below.refl _ _ | with_reducible assumption | refine Below.drew ?_ | refine below_drewN ?_ _ | (refine Below.alloc ?_ (by first | omega | (simp; done) | (simp; omega)) _) | (refine Below.setCell ?_ (by first | omega | (simp; done) | (simp; omega)) _) | (refine Below.trans ?_ (Below.mono (by assumption) (by first | omega | (simp; done) | (simp; omega))))))
  have cX0_8 : w8.cell? ⟨w7.heap.size, 0, none⟩ = some (.string x) := by rw [hw8]; simp
  have cX1_8 : w8.cell? ⟨w7.heap.size, 1, none⟩ = some (.slice xp n xc) := by rw [hw8]; simp
  have hX_8 : w7.heap.size < w8.heap.size := by rw [hw8]; simp
  rw [← hw8]
  clear hw8
  have B8 := B7.trans (hb8.mono B7.size)
  have ox_8 := owns_below ox_7 hb8
  have hA_8 := Nat.lt_of_lt_of_le hA_7 hb8.size
  have cA0_8 := (hb8.cell (p := ⟨w.heap.size, 0, none⟩) hA_7).trans cA0_7
  have cA1_8 := (hb8.cell (p := ⟨w.heap.size, 1, none⟩) hA_7).trans cA1_7
  clear cA0_7 cA1_7
  refine (toSeenS_any aop np capp lp _ HNp.out (rd_below hrp B8) h20p).mono ?_
  rintro e w9 ⟨xpp, xpc, rfl, oxp_9, hb9⟩
  have B9 := B8.trans (hb9.mono B8.size)
  have ox_9 := owns_below ox_8 hb9
  have hA_9 := Nat.lt_of_lt_of_le hA_8 hb9.size
  have cA0_9 := (hb9.cell (p := ⟨w.heap.size, 0, none⟩) hA_8).trans cA0_8
  have cA1_9 := (hb9.cell (p := ⟨w.heap.size, 1, none⟩) hA_8).trans cA1_8
  clear cA0_8 cA1_8
  have hX_9 := Nat.lt_of_lt_of_le hX_8 hb9.size
  have cX0_9 := (hb9.cell (p := ⟨w7.heap.size, 0, none⟩) hX_8).trans cX0_8
  have cX1_9 := (hb9.cell (p := ⟨w7.heap.size, 1, none⟩) hX_8).trans cX1_8
  clear cX0_8 cX1_8
  go_wp2_with fail
  refine (contra_any x xp n xc l xpp np xpc lp _ hx HN.out (owns_rdN ox_9) hs h20 HNp.out (owns_rdN oxp_9) hsp h20p).mono ?_
  rintro e w10 ⟨rfl, hb10⟩
  have B10 := B9.trans (hb10.mono B9.size)
  have ox_10 := owns_below ox_9 hb10
  have oxp_10 := owns_below oxp_9 hb10
  have hA_10 := Nat.lt_of_lt_of_le hA_9 hb10.size
  have cA0_10 := (hb10.cell (p := ⟨w.heap.size, 0, none⟩) hA_9).trans cA0_9
  have cA1_10 := (hb10.cell (p := ⟨w.heap.size, 1, none⟩) hA_9).trans cA1_9
  clear cA0_9 cA1_9
  have hX_10 := Nat.lt_of_lt_of_le hX_9 hb10.size
  have cX0_10 := (hb10.cell (p := ⟨w7.heap.size, 0, none⟩) hX_9).trans cX0_9
  have cX1_10 := (hb10.cell (p := ⟨w7.heap.size, 1, none⟩) hX_9).trans cX1_9
  clear cX0_9 cX1_9
  go_wp2_with fail
  have sk10 : ∀ W, Below w10.heap.size w10 W → (Below w10.heap.size w10 W ∧ W.cell? ⟨w7.heap.size, 0, none⟩ = some (.string x) ∧ W.cell? ⟨w7.heap.size, 1, none⟩ = some (.slice xp n xc) ∧ W.cell? ⟨w.heap.size, 0, none⟩ = some (.string x) ∧ W.cell? ⟨w.heap.size, 1, none⟩ = some (.slice ao n cap)) := fun W hb => ⟨hb, (hb.cell (p := ⟨w7.heap.size, 0, none⟩) hX_10).trans cX0_10, (hb.cell (p := ⟨w7.heap.size, 1, none⟩) hX_10).trans cX1_10, (hb.cell (p := ⟨w.heap.size, 0, none⟩) hA_10).trans cA0_10, (hb.cell (p := ⟨w.heap.size, 1, none⟩) hA_10).trans cA1_10⟩
  go_region_held3 (fun W => Below w10.heap.size w10 W ∧ W.cell? ⟨w7.heap.size, 0, none⟩ = some (.string x) ∧ W.cell? ⟨w7.heap.size, 1, none⟩ = some (.slice xp n xc) ∧ W.cell? ⟨w.heap.size, 0, none⟩ = some (.string x) ∧ W.cell? ⟨w.heap.size, 1, none⟩ = some (.slice ao n cap)) (first | exact sk10 _ (Below.refl _ _).drew | exact sk10 _ hba | exact sk10 _ hb11) (first | (go_at_call 24; refine (toWriter_any x ao n cap l _ HN.out (rd_below hr (B10.trans ((Below.refl w10.heap.size w10).drew.mono B10.size))) h20).mono ?_; rintro e wa ⟨yp, yc, rfl, oy, ha⟩; have hba : Below w10.heap.size w10 wa := ((Below.refl _ _).drew).trans (ha.mono (Nat.le_refl _))) | (go_at_call 26; refine (eqWriter_any x xp yp n xc yc l _ HN.out h20 (owns_rdN (owns_below ox_10 hba)) (owns_rdN oy)).mono ?_; rintro e w11 ⟨rfl, hc⟩; have hb11 : Below w10.heap.size w10 w11 := hba.trans (hc.mono hba.size)))
  have B11 := B10.trans (hb11.mono B10.size)
  have ox_11 := owns_below ox_10 hb11
  have oxp_11 := owns_below oxp_10 hb11
  have hA_11 := Nat.lt_of_lt_of_le hA_10 hb11.size
  have cA0_11 := (hb11.cell (p := ⟨w.heap.size, 0, none⟩) hA_10).trans cA0_10
  have cA1_11 := (hb11.cell (p := ⟨w.heap.size, 1, none⟩) hA_10).trans cA1_10
  clear cA0_10 cA1_10
  have hX_11 := Nat.lt_of_lt_of_le hX_10 hb11.size
  have cX0_11 := (hb11.cell (p := ⟨w7.heap.size, 0, none⟩) hX_10).trans cX0_10
  have cX1_11 := (hb11.cell (p := ⟨w7.heap.size, 1, none⟩) hX_10).trans cX1_10
  clear cX0_10 cX1_10
  go_wp2_with fail
  refine (toSeenS_any aop np capp lp _ HNp.out (rd_below hrp B11) h20p).mono ?_
  rintro e w12 ⟨ypp, ypc, rfl, oyp_12, hb12⟩
  have B12 := B11.trans (hb12.mono B11.size)
  have ox_12 := owns_below ox_11 hb12
  have oxp_12 := owns_below oxp_11 hb12
  have hA_12 := Nat.lt_of_lt_of_le hA_11 hb12.size
  have cA0_12 := (hb12.cell (p := ⟨w.heap.size, 0, none⟩) hA_11).trans cA0_11
  have cA1_12 := (hb12.cell (p := ⟨w.heap.size, 1, none⟩) hA_11).trans cA1_11
  clear cA0_11 cA1_11
  have hX_12 := Nat.lt_of_lt_of_le hX_11 hb12.size
  have cX0_12 := (hb12.cell (p := ⟨w7.heap.size, 0, none⟩) hX_11).trans cX0_11
  have cX1_12 := (hb12.cell (p := ⟨w7.heap.size, 1, none⟩) hX_11).trans cX1_11
  clear cX0_11 cX1_11
  go_wp2_with fail
  refine (eqSeenS_any _ _ lp _ _ _ _ HNp.out (by omega) (owns_rdN oxp_12) (owns_rdN oyp_12)).mono ?_
  rintro e w13 ⟨rfl, hb13⟩
  have B13 := B12.trans (hb13.mono B12.size)
  have ox_13 := owns_below ox_12 hb13
  have oxp_13 := owns_below oxp_12 hb13
  have hA_13 := Nat.lt_of_lt_of_le hA_12 hb13.size
  have cA0_13 := (hb13.cell (p := ⟨w.heap.size, 0, none⟩) hA_12).trans cA0_12
  have cA1_13 := (hb13.cell (p := ⟨w.heap.size, 1, none⟩) hA_12).trans cA1_12
  clear cA0_12 cA1_12
  have hX_13 := Nat.lt_of_lt_of_le hX_12 hb13.size
  have cX0_13 := (hb13.cell (p := ⟨w7.heap.size, 0, none⟩) hX_12).trans cX0_12
  have cX1_13 := (hb13.cell (p := ⟨w7.heap.size, 1, none⟩) hX_12).trans cX1_12
  clear cX0_12 cX1_12
  go_wp2_with fail
  go_ret
  exact ⟨rfl, B13⟩
end Go.Proofs.Ythhpeanlpikjbaa
