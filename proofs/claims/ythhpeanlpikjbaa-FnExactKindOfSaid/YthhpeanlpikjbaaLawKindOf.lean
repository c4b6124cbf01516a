/-
  The law of the kind of a letter: the walk.
-/
import Derived.Test.YthhpeanlpikjbaaFaceF
namespace Go.Proofs.Ythhpeanlpikjbaa
open Go.RowKit Go.ChangeShapes Go.WideShapes
set_option linter.unusedVariables false
attribute [local go_sem ↓] Go.wp_at_zero Go.wp_at_succ

/-- what stays while a copy is held against another one: two boxes and two rows -/
theorem twoStep {w W W' : World} {A X : Nat} {x : ByteArray} {ao xo : Option Addr} {n cap xc : Nat} {L : List Value}
    (h : Below w.heap.size w W ∧ (A < W.heap.size ∧ W.cell? ⟨A, 0, none⟩ = some (.string x) ∧ W.cell? ⟨A, 1, none⟩ = some (.slice ao n cap) ∧ Rd W ao L) ∧ (X < W.heap.size ∧ W.cell? ⟨X, 0, none⟩ = some (.string x) ∧ W.cell? ⟨X, 1, none⟩ = some (.slice xo n xc) ∧ Rd W xo L))
    (hb : Below W.heap.size W W') : Below w.heap.size w W' ∧ (A < W'.heap.size ∧ W'.cell? ⟨A, 0, none⟩ = some (.string x) ∧ W'.cell? ⟨A, 1, none⟩ = some (.slice ao n cap) ∧ Rd W' ao L) ∧ (X < W'.heap.size ∧ W'.cell? ⟨X, 0, none⟩ = some (.string x) ∧ W'.cell? ⟨X, 1, none⟩ = some (.slice xo n xc) ∧ Rd W' xo L) := by
  obtain ⟨h0, ⟨h1, h2, h3, h4⟩, h5, h6, h7, h8⟩ := h
  exact ⟨h0.trans (hb.mono h0.size), ⟨Nat.lt_of_lt_of_le h1 hb.size, (hb.cell (p := ⟨A, 0, none⟩) h1).trans h2, (hb.cell (p := ⟨A, 1, none⟩) h1).trans h3, rd_below h4 hb⟩, Nat.lt_of_lt_of_le h5 hb.size, (hb.cell (p := ⟨X, 0, none⟩) h5).trans h6, (hb.cell (p := ⟨X, 1, none⟩) h5).trans h7, rd_below h8 hb⟩

set_option maxRecDepth 100000 in
set_option maxHeartbeats 4000000 in
theorem lawKindOf (w : World) (x : ByteArray) (hx : x.size ≤ maxLen) (ao : Option Addr) (n cap : Nat) (l : List Se) (ha : SeArg w ao n cap l) (t : ByteArray) (ht : t.size ≤ maxLen) :
    Calls Try.prog 5 #[.agg #[.string x, .slice ao n cap], .string t] w fun e w' => e = .returned (.bool true) ∧ Below w.heap.size w w' := by
  obtain ⟨hn, hm, hr, hs⟩ := ha
  have HN := hid hn
  clear hn
  have ht' := ht
  unfold maxLen at ht'
  by_cases hbig : (1048576 : Int) < (t.size : Int)
  · go_enter Try.func5, Try.ntmps5
    go_wp2_with fail
    go_ret
    refine ⟨rfl, ?_⟩
    (repeat (first | with_reducible exact Below.refl _ _ | with_reducible assumption | refine Below.drew ?_ | refine below_drewN ?_ _ | (refine Below.alloc ?_ (by first | omega | (simp; done) | (simp; omega)) _) | (refine Below.setCell ?_ (by first | omega | (simp; done) | (simp; omega)) _) | (refine Below.trans ?_ (Below.mono (by assumption) (by first | omega | (simp; done) | (simp; omega))))))
  go_enter Try.func5, Try.ntmps5
  go_wp2_with fail
  obtain ⟨w1, hw1⟩ : ∃ w1, w1 = w.alloc (.cells #[.string x, .slice ao n cap] 38) := ⟨_, rfl⟩
  have hb1 : Below w.heap.size w w1 := by rw [hw1]; exact (Below.refl _ _).alloc (Nat.le_refl _) _
  have cA0_1 : w1.cell? ⟨w.heap.size, 0, none⟩ = some (.string x) := by rw [hw1]; simp
  have cA1_1 : w1.cell? ⟨w.heap.size, 1, none⟩ = some (.slice ao n cap) := by rw [hw1]; simp
  have hA_1 : w.heap.size < w1.heap.size := by rw [hw1]; simp
  have B1 := hb1
  rw [← hw1]
  clear hw1
  refine (szWriter_any x ao n cap l 1048576 _ hx (by omega) (by omega) HN.out hm (rd_below hr B1) hs).mono ?_
  rintro e w2 ⟨rfl, hb2⟩
  have B2 := B1.trans (hb2.mono B1.size)
  have hA_2 := Nat.lt_of_lt_of_le hA_1 hb2.size
  have cA0_2 := (hb2.cell (p := ⟨w.heap.size, 0, none⟩) hA_1).trans cA0_1
  have cA1_2 := (hb2.cell (p := ⟨w.heap.size, 1, none⟩) hA_1).trans cA1_1
  by_cases hz : szWr x n l 1048576 < 0
  · go_wp2_with fail
    go_ret
    exact ⟨rfl, B2⟩
  obtain ⟨h20, hx20⟩ := szWr_ok (by omega) hz
  go_wp2_with fail
  refine (toWriter_any x ao n cap l _ HN.out (rd_below hr B2) h20).mono ?_
  rintro e w3 ⟨ap, ac, rfl, oa_3, hb3⟩
  have B3 := B2.trans (hb3.mono B2.size)
  have hA_3 := Nat.lt_of_lt_of_le hA_2 hb3.size
  have cA0_3 := (hb3.cell (p := ⟨w.heap.size, 0, none⟩) hA_2).trans cA0_2
  have cA1_3 := (hb3.cell (p := ⟨w.heap.size, 1, none⟩) hA_2).trans cA1_2
  go_wp2_with fail
  refine (sKindOf_any x ap n ac l t _ hx ht HN.out (owns_rdN oa_3) hs h20).mono ?_
  rintro e w4 ⟨rfl, hb4⟩
  have B4 := B3.trans (hb4.mono B3.size)
  have hA_4 := Nat.lt_of_lt_of_le hA_3 hb4.size
  have cA0_4 := (hb4.cell (p := ⟨w.heap.size, 0, none⟩) hA_3).trans cA0_3
  have cA1_4 := (hb4.cell (p := ⟨w.heap.size, 1, none⟩) hA_3).trans cA1_3
  go_wp2_with fail
  refine (toWriter_any x ao n cap l _ HN.out (rd_below hr B4) h20).mono ?_
  rintro e w5 ⟨xp, xc, rfl, ox_5, hb5⟩
  have B5 := B4.trans (hb5.mono B4.size)
  have hA_5 := Nat.lt_of_lt_of_le hA_4 hb5.size
  have cA0_5 := (hb5.cell (p := ⟨w.heap.size, 0, none⟩) hA_4).trans cA0_4
  have cA1_5 := (hb5.cell (p := ⟨w.heap.size, 1, none⟩) hA_4).trans cA1_4
  clear hb1 hb2 hb3 hb4 hb5 cA0_1 cA0_2 cA0_3 cA0_4 cA1_1 cA1_2 cA1_3 cA1_4
  go_wp2_with fail
  obtain ⟨w6, hw6⟩ : ∃ w6, w6 = w5.alloc (.cells #[.string x, .slice xp n xc] 44) := ⟨_, rfl⟩
  have hb6 : Below w5.heap.size w5 w6 := by rw [hw6]; exact (Below.refl _ _).alloc (Nat.le_refl _) _
  have cX0_6 : w6.cell? ⟨w5.heap.size, 0, none⟩ = some (.string x) := by rw [hw6]; simp
  have cX1_6 : w6.cell? ⟨w5.heap.size, 1, none⟩ = some (.slice xp n xc) := by rw [hw6]; simp
  have hX_6 : w5.heap.size < w6.heap.size := by rw [hw6]; simp
  rw [← hw6]
  clear hw6
  have B6 := B5.trans (hb6.mono B5.size)
  have hA_6 := Nat.lt_of_lt_of_le hA_5 hb6.size
  have cA0_6 := (hb6.cell (p := ⟨w.heap.size, 0, none⟩) hA_5).trans cA0_5
  have cA1_6 := (hb6.cell (p := ⟨w.heap.size, 1, none⟩) hA_5).trans cA1_5
  have ox_6 := owns_below ox_5 hb6
  clear cA0_5 cA1_5 hb6
  refine (kindOf_any x xp n xc l t _ hx ht HN.out (owns_rdN ox_6) hs h20).mono ?_
  rintro e w7 ⟨rfl, hb7⟩
  have hS := twoStep ⟨B6, ⟨hA_6, cA0_6, cA1_6, rd_below hr B6⟩, hX_6, cX0_6, cX1_6, owns_rdN ox_6⟩ hb7
  obtain ⟨B7, ⟨hA_7, cA0_7, cA1_7, r7⟩, hX_7, cX0_7, cX1_7, q7⟩ := hS
  have hSd := twoStep ⟨B7, ⟨hA_7, cA0_7, cA1_7, r7⟩, hX_7, cX0_7, cX1_7, q7⟩ (Below.refl _ _).drew
  clear hb7 cA0_6 cA1_6 cX0_6 cX1_6
  obtain ⟨v, hv⟩ : ∃ v, v = kindR x l t := ⟨_, rfl⟩
  rw [← hv]
  clear hv
  go_wp2_with fail
  go_region_held3 (fun W => Below w.heap.size w W ∧ (w.heap.size < W.heap.size ∧ W.cell? ⟨w.heap.size, 0, none⟩ = some (.string x) ∧ W.cell? ⟨w.heap.size, 1, none⟩ = some (.slice ao n cap) ∧ Rd W ao (ses l)) ∧ (w5.heap.size < W.heap.size ∧ W.cell? ⟨w5.heap.size, 0, none⟩ = some (.string x) ∧ W.cell? ⟨w5.heap.size, 1, none⟩ = some (.slice xp n xc) ∧ Rd W xp (ses l))) (first | with_reducible exact hSd | exact twoStep (by assumption) (by assumption)) (first | (go_at_call 24; refine (toWriter_any x ao n cap l _ HN.out hSd.2.1.2.2.2 h20).mono ?_; rintro e w8 ⟨yp, yc, rfl, oy_8, hb8⟩) | (go_at_call 26; refine (eqWriter_any x xp yp n xc yc l _ HN.out h20 (twoStep hSd hb8).2.2.2.2.2 (owns_rdN oy_8)).mono ?_; rintro e w9 ⟨rfl, hb9⟩))
  have hS9 := twoStep (twoStep hSd hb8) hb9
  go_wp2_with fail
  go_ret
  exact ⟨rfl, hS9.1⟩
end Go.Proofs.Ythhpeanlpikjbaa
