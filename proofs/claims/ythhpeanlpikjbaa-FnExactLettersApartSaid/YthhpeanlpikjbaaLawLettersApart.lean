/-
  The law LettersApart: the walk.
-/
import Derived.Test.YthhpeanlpikjbaaApt2
import Derived.Test.YthhpeanlpikjbaaMark
import Derived.Test.YthhpeanlpikjbaaMarkWr
import Derived.Test.YthhpeanlpikjbaaApart
namespace Go.Proofs.Ythhpeanlpikjbaa
open Go.RowKit Go.ChangeShapes Go.WideShapes Go.Maps
set_option linter.unusedVariables false
attribute [local go_sem ↓] Go.wp_at_zero Go.wp_at_succ

theorem calls_at {P : Program} {f : FuncId} {args args' : Array Value} {w : World} {Q : Ending → World → Prop} (h : args = args') (c : Calls P f args' w Q) : Calls P f args w Q := h ▸ c
set_option maxRecDepth 100000 in
set_option maxHeartbeats 4000000 in
theorem lawLettersApart (w : World) (x1 : ByteArray) (hx1 : x1.size ≤ maxLen) (ao1 : Option Addr) (n1 cap1 : Nat) (l1 : List Se) (ha1 : SeArg w ao1 n1 cap1 l1) (x2 : ByteArray) (hx2 : x2.size ≤ maxLen) (ao2 : Option Addr) (n2 cap2 : Nat) (l2 : List Se) (ha2 : SeArg w ao2 n2 cap2 l2) :
    Calls Try.prog 9 #[.agg #[.string x1, .slice ao1 n1 cap1], .agg #[.string x2, .slice ao2 n2 cap2]] w fun e w' => e = .returned (.bool true) ∧ Below w.heap.size w w' := by
  obtain ⟨hn1, hm1, hr1, hs1⟩ := ha1
  have HN1 := hid hn1
  clear hn1
  obtain ⟨hn2, hm2, hr2, hs2⟩ := ha2
  have HN2 := hid hn2
  clear hn2
  have hlen := aptL_len x1 l1 x2 l2
  rw [← strs_len] at hlen
  obtain ⟨xs, hxs⟩ : ∃ xs, xs = aptL x1 l1 x2 l2 := ⟨_, rfl⟩
  rw [← hxs] at hlen
  have HX := hid hxs
  clear hxs
  obtain ⟨c0, hc0⟩ : ∃ c, c = aptC x1 l1 x2 l2 := ⟨_, rfl⟩
  have HC0 := hid hc0
  clear hc0
  go_enter Try.func9, Try.ntmps9
  go_wp2_with fail
  obtain ⟨w1, hw1⟩ : ∃ w1, w1 = (w.alloc (.cells #[.string x1, .slice ao1 n1 cap1] 38)).alloc (.cells #[.string x2, .slice ao2 n2 cap2] 38) := ⟨_, rfl⟩
  have hb1 : Below w.heap.size w w1 := by
    rw [hw1]
    (repeat (first | with_reducible exact Below.refl _ _ | with_reducible assumption | refine Below.drew ?_ | refine below_drewN ?_ _ | (refine Below.alloc ?_ (by first | omega | (simp; done) | (simp; omega)) _) | (refine Below.setCell ?_ (by first | omega | (simp; done) | (simp; omega)) _) | (refine Below.trans ?_ (Below.mono (by assumption) (by first | omega | (simp; done) | (simp; omega))))))
  have cA10_1 : w1.cell? ⟨w.heap.size, 0, none⟩ = some (.string x1) := by rw [hw1]; simp
  have cA11_1 : w1.cell? ⟨w.heap.size, 1, none⟩ = some (.slice ao1 n1 cap1) := by rw [hw1]; simp
  have hA1_1 : w.heap.size < w1.heap.size := by rw [hw1]; simp <;> omega
  have cA20_1 : w1.cell? ⟨w.heap.size + 1, 0, none⟩ = some (.string x2) := by rw [hw1]; simp
  have cA21_1 : w1.cell? ⟨w.heap.size + 1, 1, none⟩ = some (.slice ao2 n2 cap2) := by rw [hw1]; simp
  have hA2_1 : w.heap.size + 1 < w1.heap.size := by rw [hw1]; simp <;> omega
  rw [← hw1]
  clear hw1
  have B1 := hb1
  refine (szWriter_any x1 ao1 n1 cap1 l1 1048576 _ hx1 (by omega) (by omega) HN1.out hm1 (rd_below hr1 B1) hs1).mono ?_
  rintro e w2 ⟨rfl, hb2⟩
  have B2 := B1.trans (hb2.mono B1.size)
  have hA1_2 := Nat.lt_of_lt_of_le hA1_1 hb2.size
  have cA10_2 := (hb2.cell (p := ⟨w.heap.size, 0, none⟩) hA1_1).trans cA10_1
  have cA11_2 := (hb2.cell (p := ⟨w.heap.size, 1, none⟩) hA1_1).trans cA11_1
  clear cA10_1 cA11_1
  have hA2_2 := Nat.lt_of_lt_of_le hA2_1 hb2.size
  have cA20_2 := (hb2.cell (p := ⟨w.heap.size + 1, 0, none⟩) hA2_1).trans cA20_1
  have cA21_2 := (hb2.cell (p := ⟨w.heap.size + 1, 1, none⟩) hA2_1).trans cA21_1
  clear cA20_1 cA21_1
  have hle1 := szWr_le (x := x1) (n := n1) (l := l1) (left := 1048576) (by omega) (by omega)
  by_cases hz1 : (szWr x1 n1 l1 1048576) < 0
  · go_wp2_with fail
    go_ret
    exact ⟨rfl, B2⟩
  obtain ⟨h201, hx201⟩ := szWr_ok (by omega) hz1
  go_wp2_with fail
  refine (szWriter_any x2 ao2 n2 cap2 l2 (szWr x1 n1 l1 1048576) _ hx2 (by omega) (by omega) HN2.out hm2 (rd_below hr2 B2) hs2).mono ?_
  rintro e w3 ⟨rfl, hb3⟩
  have B3 := B2.trans (hb3.mono B2.size)
  have hA1_3 := Nat.lt_of_lt_of_le hA1_2 hb3.size
  have cA10_3 := (hb3.cell (p := ⟨w.heap.size, 0, none⟩) hA1_2).trans cA10_2
  have cA11_3 := (hb3.cell (p := ⟨w.heap.size, 1, none⟩) hA1_2).trans cA11_2
  clear cA10_2 cA11_2
  have hA2_3 := Nat.lt_of_lt_of_le hA2_2 hb3.size
  have cA20_3 := (hb3.cell (p := ⟨w.heap.size + 1, 0, none⟩) hA2_2).trans cA20_2
  have cA21_3 := (hb3.cell (p := ⟨w.heap.size + 1, 1, none⟩) hA2_2).trans cA21_2
  clear cA20_2 cA21_2
  have hle2 := szWr_le (x := x2) (n := n2) (l := l2) (left := (szWr x1 n1 l1 1048576)) (by omega) (by omega)
  by_cases hz2 : (szWr x2 n2 l2 (szWr x1 n1 l1 1048576)) < 0
  · go_wp2_with fail
    go_ret
    exact ⟨rfl, B3⟩
  obtain ⟨h202, hx202⟩ := szWr_ok (by omega) hz2
  go_wp2_with fail
  have sk3 : ∀ W, Below w3.heap.size w3 W → (Below w3.heap.size w3 W ∧ W.cell? ⟨w.heap.size, 0, none⟩ = some (.string x1) ∧ W.cell? ⟨w.heap.size, 1, none⟩ = some (.slice ao1 n1 cap1) ∧ W.cell? ⟨w.heap.size + 1, 0, none⟩ = some (.string x2) ∧ W.cell? ⟨w.heap.size + 1, 1, none⟩ = some (.slice ao2 n2 cap2)) := fun W hb => ⟨hb, (hb.cell (p := ⟨w.heap.size, 0, none⟩) hA1_3).trans cA10_3, (hb.cell (p := ⟨w.heap.size, 1, none⟩) hA1_3).trans cA11_3, (hb.cell (p := ⟨w.heap.size + 1, 0, none⟩) hA2_3).trans cA20_3, (hb.cell (p := ⟨w.heap.size + 1, 1, none⟩) hA2_3).trans cA21_3⟩
  go_region_held3 (fun W => Below w3.heap.size w3 W ∧ W.cell? ⟨w.heap.size, 0, none⟩ = some (.string x1) ∧ W.cell? ⟨w.heap.size, 1, none⟩ = some (.slice ao1 n1 cap1) ∧ W.cell? ⟨w.heap.size + 1, 0, none⟩ = some (.string x2) ∧ W.cell? ⟨w.heap.size + 1, 1, none⟩ = some (.slice ao2 n2 cap2)) (first | exact sk3 _ (Below.refl _ _).drew | exact sk3 _ hk4 | exact sk3 _ hk5 | exact sk3 _ hk6) (first | (go_at_call 24; refine calls_at (args' := #[.agg #[.string x1, .slice ao1 n1 cap1]]) rfl ?_; refine (toWriter_any x1 ao1 n1 cap1 l1 _ HN1.out (rd_below hr1 B3.drew) h201).mono ?_; rintro e w4 ⟨a1p, a1c, rfl, oa1_4, hd4⟩; have hb4 : Below w3.heap.size w3 w4 := ((Below.refl _ _).drew).trans (hd4.mono (Nat.le_refl _)); have B4 := B3.trans (hb4.mono B3.size); have hk4 : Below w3.heap.size w3 w4 := hb4; have hA1_4 := Nat.lt_of_lt_of_le hA1_3 hb4.size; have cA10_4 := (hb4.cell (p := ⟨w.heap.size, 0, none⟩) hA1_3).trans cA10_3; have cA11_4 := (hb4.cell (p := ⟨w.heap.size, 1, none⟩) hA1_3).trans cA11_3; clear cA10_3 cA11_3; have hA2_4 := Nat.lt_of_lt_of_le hA2_3 hb4.size; have cA20_4 := (hb4.cell (p := ⟨w.heap.size + 1, 0, none⟩) hA2_3).trans cA20_3; have cA21_4 := (hb4.cell (p := ⟨w.heap.size + 1, 1, none⟩) hA2_3).trans cA21_3; clear cA20_3 cA21_3) | (go_at_call 24; refine calls_at (args' := #[.agg #[.string x2, .slice ao2 n2 cap2]]) rfl ?_; refine (toWriter_any x2 ao2 n2 cap2 l2 _ HN2.out (rd_below hr2 B4) h202).mono ?_; rintro e w5 ⟨a2p, a2c, rfl, oa2_5, hb5⟩; have B5 := B4.trans (hb5.mono B4.size); have hk5 : Below w3.heap.size w3 w5 := hk4.trans (hb5.mono hk4.size); have oa1_5 := owns_below oa1_4 hb5; have hA1_5 := Nat.lt_of_lt_of_le hA1_4 hb5.size; have cA10_5 := (hb5.cell (p := ⟨w.heap.size, 0, none⟩) hA1_4).trans cA10_4; have cA11_5 := (hb5.cell (p := ⟨w.heap.size, 1, none⟩) hA1_4).trans cA11_4; clear cA10_4 cA11_4; have hA2_5 := Nat.lt_of_lt_of_le hA2_4 hb5.size; have cA20_5 := (hb5.cell (p := ⟨w.heap.size + 1, 0, none⟩) hA2_4).trans cA20_4; have cA21_5 := (hb5.cell (p := ⟨w.heap.size + 1, 1, none⟩) hA2_4).trans cA21_4; clear cA20_4 cA21_4) | (go_at_call 39; refine (sLetApart_any x1 a1p n1 a1c l1 x2 a2p n2 a2c l2 _ hx1 HN1.out (owns_rdN oa1_5) hs1 h201 hx2 HN2.out (owns_rdN oa2_5) hs2 h202).mono ?_; rw [← HX.out, ← HC0.out]; rintro e w6 ⟨wp, wc, rfl, ow_6, hb6⟩; have B6 := B5.trans (hb6.mono B5.size); have hk6 : Below w3.heap.size w3 w6 := hk5.trans (hb6.mono hk5.size); have oa1_6 := owns_below oa1_5 hb6; have oa2_6 := owns_below oa2_5 hb6; have hA1_6 := Nat.lt_of_lt_of_le hA1_5 hb6.size; have cA10_6 := (hb6.cell (p := ⟨w.heap.size, 0, none⟩) hA1_5).trans cA10_5; have cA11_6 := (hb6.cell (p := ⟨w.heap.size, 1, none⟩) hA1_5).trans cA11_5; clear cA10_5 cA11_5; have hA2_6 := Nat.lt_of_lt_of_le hA2_5 hb6.size; have cA20_6 := (hb6.cell (p := ⟨w.heap.size + 1, 0, none⟩) hA2_5).trans cA20_5; have cA21_6 := (hb6.cell (p := ⟨w.heap.size + 1, 1, none⟩) hA2_5).trans cA21_5; clear cA20_5 cA21_5))
  go_wp2_with fail
  refine (toWriter_any x1 ao1 n1 cap1 l1 _ HN1.out (rd_below hr1 B6) h201).mono ?_
  rintro e w7 ⟨x1p, x1c, rfl, ox1_7, hb7⟩
  have B7 := B6.trans (hb7.mono B6.size)
  have ow_7 := owns_below ow_6 hb7
  have hA1_7 := Nat.lt_of_lt_of_le hA1_6 hb7.size
  have cA10_7 := (hb7.cell (p := ⟨w.heap.size, 0, none⟩) hA1_6).trans cA10_6
  have cA11_7 := (hb7.cell (p := ⟨w.heap.size, 1, none⟩) hA1_6).trans cA11_6
  clear cA10_6 cA11_6
  have hA2_7 := Nat.lt_of_lt_of_le hA2_6 hb7.size
  have cA20_7 := (hb7.cell (p := ⟨w.heap.size + 1, 0, none⟩) hA2_6).trans cA20_6
  have cA21_7 := (hb7.cell (p := ⟨w.heap.size + 1, 1, none⟩) hA2_6).trans cA21_6
  clear cA20_6 cA21_6
  go_wp2_with fail
  obtain ⟨w8, hw8⟩ : ∃ w8, w8 = w7.alloc (.cells #[.string x1, .slice x1p n1 x1c] 44) := ⟨_, rfl⟩
  have hb8 : Below w7.heap.size w7 w8 := by
    rw [hw8]
    (repeat (first | with_reducible exact Below.refl _ _ | with_reducible assumption | refine Below.drew ?_ | refine below_drewN ?_ _ | (refine Below.alloc ?_ (by first | omega | (simp; done) | (simp; omega)) _) | (refine Below.setCell ?_ (by first | omega | (simp; done) | (simp; omega)) _) | (refine Below.trans ?_ (Below.mono (by assumption) (by first | omega | (simp; done) | (simp; omega))))))
  have cX10_8 : w8.cell? ⟨w7.heap.size, 0, none⟩ = some (.string x1) := by rw [hw8]; simp
  have cX11_8 : w8.cell? ⟨w7.heap.size, 1, none⟩ = some (.slice x1p n1 x1c) := by rw [hw8]; simp
  have hX1_8 : w7.heap.size < w8.heap.size := by rw [hw8]; simp <;> omega
  rw [← hw8]
  clear hw8
  have B8 := B7.trans (hb8.mono B7.size)
  have ow_8 := owns_below ow_7 hb8
  have ox1_8 := owns_below ox1_7 hb8
  have hA1_8 := Nat.lt_of_lt_of_le hA1_7 hb8.size
  have cA10_8 := (hb8.cell (p := ⟨w.heap.size, 0, none⟩) hA1_7).trans cA10_7
  have cA11_8 := (hb8.cell (p := ⟨w.heap.size, 1, none⟩) hA1_7).trans cA11_7
  clear cA10_7 cA11_7
  have hA2_8 := Nat.lt_of_lt_of_le hA2_7 hb8.size
  have cA20_8 := (hb8.cell (p := ⟨w.heap.size + 1, 0, none⟩) hA2_7).trans cA20_7
  have cA21_8 := (hb8.cell (p := ⟨w.heap.size + 1, 1, none⟩) hA2_7).trans cA21_7
  clear cA20_7 cA21_7
  refine (toWriter_any x2 ao2 n2 cap2 l2 _ HN2.out (rd_below hr2 B8) h202).mono ?_
  rintro e w9 ⟨x2p, x2c, rfl, ox2_9, hb9⟩
  have B9 := B8.trans (hb9.mono B8.size)
  have ow_9 := owns_below ow_8 hb9
  have ox1_9 := owns_below ox1_8 hb9
  have hA1_9 := Nat.lt_of_lt_of_le hA1_8 hb9.size
  have cA10_9 := (hb9.cell (p := ⟨w.heap.size, 0, none⟩) hA1_8).trans cA10_8
  have cA11_9 := (hb9.cell (p := ⟨w.heap.size, 1, none⟩) hA1_8).trans cA11_8
  clear cA10_8 cA11_8
  have hA2_9 := Nat.lt_of_lt_of_le hA2_8 hb9.size
  have cA20_9 := (hb9.cell (p := ⟨w.heap.size + 1, 0, none⟩) hA2_8).trans cA20_8
  have cA21_9 := (hb9.cell (p := ⟨w.heap.size + 1, 1, none⟩) hA2_8).trans cA21_8
  clear cA20_8 cA21_8
  have hX1_9 := Nat.lt_of_lt_of_le hX1_8 hb9.size
  have cX10_9 := (hb9.cell (p := ⟨w7.heap.size, 0, none⟩) hX1_8).trans cX10_8
  have cX11_9 := (hb9.cell (p := ⟨w7.heap.size, 1, none⟩) hX1_8).trans cX11_8
  clear cX10_8 cX11_8
  go_wp2_with fail
  obtain ⟨w10, hw10⟩ : ∃ w10, w10 = w9.alloc (.cells #[.string x2, .slice x2p n2 x2c] 44) := ⟨_, rfl⟩
  have hb10 : Below w9.heap.size w9 w10 := by
    rw [hw10]
    (repeat (first | with_reducible exact Below.refl _ _ | with_reducible assumption | refine Below.drew ?_ | refine below_drewN ?_ _ | (refine Below.alloc ?_ (by first | omega | (simp; done) | (simp; omega)) _) | (refine Below.setCell ?_ (by first | omega | (simp; done) | (simp; omega)) _) | (refine Below.trans ?_ (Below.mono (by assumption) (by first | omega | (simp; done) | (simp; omega))))))
  have cX20_10 : w10.cell? ⟨w9.heap.size, 0, none⟩ = some (.string x2) := by rw [hw10]; simp
  have cX21_10 : w10.cell? ⟨w9.heap.size, 1, none⟩ = some (.slice x2p n2 x2c) := by rw [hw10]; simp
  have hX2_10 : w9.heap.size < w10.heap.size := by rw [hw10]; simp <;> omega
  rw [← hw10]
  clear hw10
  have B10 := B9.trans (hb10.mono B9.size)
  have ow_10 := owns_below ow_9 hb10
  have ox1_10 := owns_below ox1_9 hb10
  have ox2_10 := owns_below ox2_9 hb10
  have hA1_10 := Nat.lt_of_lt_of_le hA1_9 hb10.size
  have cA10_10 := (hb10.cell (p := ⟨w.heap.size, 0, none⟩) hA1_9).trans cA10_9
  have cA11_10 := (hb10.cell (p := ⟨w.heap.size, 1, none⟩) hA1_9).trans cA11_9
  clear cA10_9 cA11_9
  have hA2_10 := Nat.lt_of_lt_of_le hA2_9 hb10.size
  have cA20_10 := (hb10.cell (p := ⟨w.heap.size + 1, 0, none⟩) hA2_9).trans cA20_9
  have cA21_10 := (hb10.cell (p := ⟨w.heap.size + 1, 1, none⟩) hA2_9).trans cA21_9
  clear cA20_9 cA21_9
  have hX1_10 := Nat.lt_of_lt_of_le hX1_9 hb10.size
  have cX10_10 := (hb10.cell (p := ⟨w7.heap.size, 0, none⟩) hX1_9).trans cX10_9
  have cX11_10 := (hb10.cell (p := ⟨w7.heap.size, 1, none⟩) hX1_9).trans cX11_9
  clear cX10_9 cX11_9
  refine (letApart_any x1 x1p n1 x1c l1 x2 x2p n2 x2c l2 _ hx1 HN1.out (owns_rdN ox1_10) hs1 h201 hx2 HN2.out (owns_rdN ox2_10) hs2 h202).mono ?_
  rw [← HX.out, ← HC0.out]
  rintro e w11 ⟨gp, gc, rfl, og_11, hb11⟩
  have B11 := B10.trans (hb11.mono B10.size)
  have ow_11 := owns_below ow_10 hb11
  have ox1_11 := owns_below ox1_10 hb11
  have ox2_11 := owns_below ox2_10 hb11
  have hA1_11 := Nat.lt_of_lt_of_le hA1_10 hb11.size
  have cA10_11 := (hb11.cell (p := ⟨w.heap.size, 0, none⟩) hA1_10).trans cA10_10
  have cA11_11 := (hb11.cell (p := ⟨w.heap.size, 1, none⟩) hA1_10).trans cA11_10
  clear cA10_10 cA11_10
  have hA2_11 := Nat.lt_of_lt_of_le hA2_10 hb11.size
  have cA20_11 := (hb11.cell (p := ⟨w.heap.size + 1, 0, none⟩) hA2_10).trans cA20_10
  have cA21_11 := (hb11.cell (p := ⟨w.heap.size + 1, 1, none⟩) hA2_10).trans cA21_10
  clear cA20_10 cA21_10
  have hX1_11 := Nat.lt_of_lt_of_le hX1_10 hb11.size
  have cX10_11 := (hb11.cell (p := ⟨w7.heap.size, 0, none⟩) hX1_10).trans cX10_10
  have cX11_11 := (hb11.cell (p := ⟨w7.heap.size, 1, none⟩) hX1_10).trans cX11_10
  clear cX10_10 cX11_10
  have hX2_11 := Nat.lt_of_lt_of_le hX2_10 hb11.size
  have cX20_11 := (hb11.cell (p := ⟨w9.heap.size, 0, none⟩) hX2_10).trans cX20_10
  have cX21_11 := (hb11.cell (p := ⟨w9.heap.size, 1, none⟩) hX2_10).trans cX21_10
  clear cX20_10 cX21_10
  go_wp2_with fail
  refine (eqStringS_any _ _ xs _ _ _ _ (strs_len xs) (by omega) (owns_rdN og_11) (owns_rdN ow_11)).mono ?_
  rintro e w12 ⟨rfl, hb12⟩
  have B12 := B11.trans (hb12.mono B11.size)
  have ow_12 := owns_below ow_11 hb12
  have ox1_12 := owns_below ox1_11 hb12
  have ox2_12 := owns_below ox2_11 hb12
  have og_12 := owns_below og_11 hb12
  have hA1_12 := Nat.lt_of_lt_of_le hA1_11 hb12.size
  have cA10_12 := (hb12.cell (p := ⟨w.heap.size, 0, none⟩) hA1_11).trans cA10_11
  have cA11_12 := (hb12.cell (p := ⟨w.heap.size, 1, none⟩) hA1_11).trans cA11_11
  clear cA10_11 cA11_11
  have hA2_12 := Nat.lt_of_lt_of_le hA2_11 hb12.size
  have cA20_12 := (hb12.cell (p := ⟨w.heap.size + 1, 0, none⟩) hA2_11).trans cA20_11
  have cA21_12 := (hb12.cell (p := ⟨w.heap.size + 1, 1, none⟩) hA2_11).trans cA21_11
  clear cA20_11 cA21_11
  have hX1_12 := Nat.lt_of_lt_of_le hX1_11 hb12.size
  have cX10_12 := (hb12.cell (p := ⟨w7.heap.size, 0, none⟩) hX1_11).trans cX10_11
  have cX11_12 := (hb12.cell (p := ⟨w7.heap.size, 1, none⟩) hX1_11).trans cX11_11
  clear cX10_11 cX11_11
  have hX2_12 := Nat.lt_of_lt_of_le hX2_11 hb12.size
  have cX20_12 := (hb12.cell (p := ⟨w9.heap.size, 0, none⟩) hX2_11).trans cX20_11
  have cX21_12 := (hb12.cell (p := ⟨w9.heap.size, 1, none⟩) hX2_11).trans cX21_11
  clear cX20_11 cX21_11
  go_wp2_with fail
  have sk12 : ∀ W, Below w12.heap.size w12 W → (Below w12.heap.size w12 W ∧ W.cell? ⟨w7.heap.size, 0, none⟩ = some (.string x1) ∧ W.cell? ⟨w7.heap.size, 1, none⟩ = some (.slice x1p n1 x1c) ∧ W.cell? ⟨w.heap.size, 0, none⟩ = some (.string x1) ∧ W.cell? ⟨w.heap.size, 1, none⟩ = some (.slice ao1 n1 cap1)) := fun W hb => ⟨hb, (hb.cell (p := ⟨w7.heap.size, 0, none⟩) hX1_12).trans cX10_12, (hb.cell (p := ⟨w7.heap.size, 1, none⟩) hX1_12).trans cX11_12, (hb.cell (p := ⟨w.heap.size, 0, none⟩) hA1_12).trans cA10_12, (hb.cell (p := ⟨w.heap.size, 1, none⟩) hA1_12).trans cA11_12⟩
  go_region_held3 (fun W => Below w12.heap.size w12 W ∧ W.cell? ⟨w7.heap.size, 0, none⟩ = some (.string x1) ∧ W.cell? ⟨w7.heap.size, 1, none⟩ = some (.slice x1p n1 x1c) ∧ W.cell? ⟨w.heap.size, 0, none⟩ = some (.string x1) ∧ W.cell? ⟨w.heap.size, 1, none⟩ = some (.slice ao1 n1 cap1)) (first | exact sk12 _ (Below.refl _ _).drew | exact sk12 _ hba | exact sk12 _ hb13) (first | (go_at_call 24; refine (toWriter_any x1 ao1 n1 cap1 l1 _ HN1.out (rd_below hr1 (B12.trans ((Below.refl w12.heap.size w12).drew.mono B12.size))) h201).mono ?_; rintro e wa ⟨y1p, y1c, rfl, oy1, ha⟩; have hba : Below w12.heap.size w12 wa := ((Below.refl _ _).drew).trans (ha.mono (Nat.le_refl _))) | (go_at_call 26; refine (eqWriter_any x1 x1p y1p n1 x1c y1c l1 _ HN1.out h201 (owns_rdN (owns_below ox1_12 hba)) (owns_rdN oy1)).mono ?_; rintro e w13 ⟨rfl, hc⟩; have hb13 : Below w12.heap.size w12 w13 := hba.trans (hc.mono hba.size)))
  have B13 := B12.trans (hb13.mono B12.size)
  have ow_13 := owns_below ow_12 hb13
  have ox1_13 := owns_below ox1_12 hb13
  have ox2_13 := owns_below ox2_12 hb13
  have og_13 := owns_below og_12 hb13
  have hA1_13 := Nat.lt_of_lt_of_le hA1_12 hb13.size
  have cA10_13 := (hb13.cell (p := ⟨w.heap.size, 0, none⟩) hA1_12).trans cA10_12
  have cA11_13 := (hb13.cell (p := ⟨w.heap.size, 1, none⟩) hA1_12).trans cA11_12
  clear cA10_12 cA11_12
  have hA2_13 := Nat.lt_of_lt_of_le hA2_12 hb13.size
  have cA20_13 := (hb13.cell (p := ⟨w.heap.size + 1, 0, none⟩) hA2_12).trans cA20_12
  have cA21_13 := (hb13.cell (p := ⟨w.heap.size + 1, 1, none⟩) hA2_12).trans cA21_12
  clear cA20_12 cA21_12
  have hX1_13 := Nat.lt_of_lt_of_le hX1_12 hb13.size
  have cX10_13 := (hb13.cell (p := ⟨w7.heap.size, 0, none⟩) hX1_12).trans cX10_12
  have cX11_13 := (hb13.cell (p := ⟨w7.heap.size, 1, none⟩) hX1_12).trans cX11_12
  clear cX10_12 cX11_12
  have hX2_13 := Nat.lt_of_lt_of_le hX2_12 hb13.size
  have cX20_13 := (hb13.cell (p := ⟨w9.heap.size, 0, none⟩) hX2_12).trans cX20_12
  have cX21_13 := (hb13.cell (p := ⟨w9.heap.size, 1, none⟩) hX2_12).trans cX21_12
  clear cX20_12 cX21_12
  go_wp2_with fail
  have sk13 : ∀ W, Below w13.heap.size w13 W → (Below w13.heap.size w13 W ∧ W.cell? ⟨w9.heap.size, 0, none⟩ = some (.string x2) ∧ W.cell? ⟨w9.heap.size, 1, none⟩ = some (.slice x2p n2 x2c) ∧ W.cell? ⟨w.heap.size + 1, 0, none⟩ = some (.string x2) ∧ W.cell? ⟨w.heap.size + 1, 1, none⟩ = some (.slice ao2 n2 cap2)) := fun W hb => ⟨hb, (hb.cell (p := ⟨w9.heap.size, 0, none⟩) hX2_13).trans cX20_13, (hb.cell (p := ⟨w9.heap.size, 1, none⟩) hX2_13).trans cX21_13, (hb.cell (p := ⟨w.heap.size + 1, 0, none⟩) hA2_13).trans cA20_13, (hb.cell (p := ⟨w.heap.size + 1, 1, none⟩) hA2_13).trans cA21_13⟩
  go_region_held3 (fun W => Below w13.heap.size w13 W ∧ W.cell? ⟨w9.heap.size, 0, none⟩ = some (.string x2) ∧ W.cell? ⟨w9.heap.size, 1, none⟩ = some (.slice x2p n2 x2c) ∧ W.cell? ⟨w.heap.size + 1, 0, none⟩ = some (.string x2) ∧ W.cell? ⟨w.heap.size + 1, 1, none⟩ = some (.slice ao2 n2 cap2)) (first | exact sk13 _ (Below.refl _ _).drew | exact sk13 _ hba | exact sk13 _ hb14) (first | (go_at_call 24; refine (toWriter_any x2 ao2 n2 cap2 l2 _ HN2.out (rd_below hr2 (B13.trans ((Below.refl w13.heap.size w13).drew.mono B13.size))) h202).mono ?_; rintro e wa ⟨y2p, y2c, rfl, oy2, ha⟩; have hba : Below w13.heap.size w13 wa := ((Below.refl _ _).drew).trans (ha.mono (Nat.le_refl _))) | (go_at_call 26; refine (eqWriter_any x2 x2p y2p n2 x2c y2c l2 _ HN2.out h202 (owns_rdN (owns_below ox2_13 hba)) (owns_rdN oy2)).mono ?_; rintro e w14 ⟨rfl, hc⟩; have hb14 : Below w13.heap.size w13 w14 := hba.trans (hc.mono hba.size)))
  have B14 := B13.trans (hb14.mono B13.size)
  have ow_14 := owns_below ow_13 hb14
  have ox1_14 := owns_below ox1_13 hb14
  have ox2_14 := owns_below ox2_13 hb14
  have og_14 := owns_below og_13 hb14
  have hA1_14 := Nat.lt_of_lt_of_le hA1_13 hb14.size
  have cA10_14 := (hb14.cell (p := ⟨w.heap.size, 0, none⟩) hA1_13).trans cA10_13
  have cA11_14 := (hb14.cell (p := ⟨w.heap.size, 1, none⟩) hA1_13).trans cA11_13
  clear cA10_13 cA11_13
  have hA2_14 := Nat.lt_of_lt_of_le hA2_13 hb14.size
  have cA20_14 := (hb14.cell (p := ⟨w.heap.size + 1, 0, none⟩) hA2_13).trans cA20_13
  have cA21_14 := (hb14.cell (p := ⟨w.heap.size + 1, 1, none⟩) hA2_13).trans cA21_13
  clear cA20_13 cA21_13
  have hX1_14 := Nat.lt_of_lt_of_le hX1_13 hb14.size
  have cX10_14 := (hb14.cell (p := ⟨w7.heap.size, 0, none⟩) hX1_13).trans cX10_13
  have cX11_14 := (hb14.cell (p := ⟨w7.heap.size, 1, none⟩) hX1_13).trans cX11_13
  clear cX10_13 cX11_13
  have hX2_14 := Nat.lt_of_lt_of_le hX2_13 hb14.size
  have cX20_14 := (hb14.cell (p := ⟨w9.heap.size, 0, none⟩) hX2_13).trans cX20_13
  have cX21_14 := (hb14.cell (p := ⟨w9.heap.size, 1, none⟩) hX2_13).trans cX21_13
  clear cX20_13 cX21_13
  go_wp2_with fail
  refine (markWr_any _ x1 _ _ _ _ (1) _ ox1_14 h201 (by omega) (by omega)).mono ?_
  rintro e w15 ⟨rfl, ox1_15, hg15⟩
  have B15 := below_grown B14 B14.size (owns_mono ox1_14 B6.size) hg15
  have ow_15 := ow_14.kept hg15 (owns_apart ow_6 ox1_7)
  have ox2_15 := ox2_14.kept hg15 (owns_apart2 ox1_8 ox2_9)
  have og_15 := og_14.kept hg15 (owns_apart2 ox1_10 og_11)
  have hA1_15 := Nat.lt_of_lt_of_le hA1_14 hg15.size
  have cA10_15 := cell_far hg15 hA1_14 (owns_far_old ox1_7 hA1_6) cA10_14
  have cA11_15 := cell_far hg15 hA1_14 (owns_far_old ox1_7 hA1_6) cA11_14
  clear cA10_14 cA11_14
  have hA2_15 := Nat.lt_of_lt_of_le hA2_14 hg15.size
  have cA20_15 := cell_far hg15 hA2_14 (owns_far_old ox1_7 hA2_6) cA20_14
  have cA21_15 := cell_far hg15 hA2_14 (owns_far_old ox1_7 hA2_6) cA21_14
  clear cA20_14 cA21_14
  have hX1_15 := Nat.lt_of_lt_of_le hX1_14 hg15.size
  have cX10_15 := cell_far hg15 hX1_14 (owns_far_new ox1_7 (by omega)) cX10_14
  have cX11_15 := cell_far hg15 hX1_14 (owns_far_new ox1_7 (by omega)) cX11_14
  clear cX10_14 cX11_14
  have hX2_15 := Nat.lt_of_lt_of_le hX2_14 hg15.size
  have cX20_15 := cell_far hg15 hX2_14 (owns_far_new ox1_9 (by omega)) cX20_14
  have cX21_15 := cell_far hg15 hX2_14 (owns_far_new ox1_9 (by omega)) cX21_14
  clear cX20_14 cX21_14
  go_wp2_with fail
  refine (markWr_any _ x2 _ _ _ _ (1 + 2 * n1) _ ox2_15 h202 (by omega) (by omega)).mono ?_
  rintro e w16 ⟨rfl, ox2_16, hg16⟩
  have B16 := below_grown B15 B15.size (owns_mono ox2_15 B8.size) hg16
  have ow_16 := ow_15.kept hg16 (owns_apart ow_8 ox2_9)
  have og_16 := og_15.kept hg16 (owns_apart2 ox2_10 og_11)
  have hA1_16 := Nat.lt_of_lt_of_le hA1_15 hg16.size
  have cA10_16 := cell_far hg16 hA1_15 (owns_far_old ox2_9 hA1_8) cA10_15
  have cA11_16 := cell_far hg16 hA1_15 (owns_far_old ox2_9 hA1_8) cA11_15
  clear cA10_15 cA11_15
  have hA2_16 := Nat.lt_of_lt_of_le hA2_15 hg16.size
  have cA20_16 := cell_far hg16 hA2_15 (owns_far_old ox2_9 hA2_8) cA20_15
  have cA21_16 := cell_far hg16 hA2_15 (owns_far_old ox2_9 hA2_8) cA21_15
  clear cA20_15 cA21_15
  have hX1_16 := Nat.lt_of_lt_of_le hX1_15 hg16.size
  have cX10_16 := cell_far hg16 hX1_15 (owns_far_old ox2_9 hX1_8) cX10_15
  have cX11_16 := cell_far hg16 hX1_15 (owns_far_old ox2_9 hX1_8) cX11_15
  clear cX10_15 cX11_15
  have hX2_16 := Nat.lt_of_lt_of_le hX2_15 hg16.size
  have cX20_16 := cell_far hg16 hX2_15 (owns_far_new ox2_9 (by omega)) cX20_15
  have cX21_16 := cell_far hg16 hX2_15 (owns_far_new ox2_9 (by omega)) cX21_15
  clear cX20_15 cX21_15
  go_wp2_with fail
  refine (eqStringS_any _ _ xs _ _ _ _ (strs_len xs) (by omega) (owns_rdN og_16) (owns_rdN ow_16)).mono ?_
  rintro e w17 ⟨rfl, hb17⟩
  have B17 := B16.trans (hb17.mono B16.size)
  have ow_17 := owns_below ow_16 hb17
  have og_17 := owns_below og_16 hb17
  have hA1_17 := Nat.lt_of_lt_of_le hA1_16 hb17.size
  have cA10_17 := (hb17.cell (p := ⟨w.heap.size, 0, none⟩) hA1_16).trans cA10_16
  have cA11_17 := (hb17.cell (p := ⟨w.heap.size, 1, none⟩) hA1_16).trans cA11_16
  clear cA10_16 cA11_16
  have hA2_17 := Nat.lt_of_lt_of_le hA2_16 hb17.size
  have cA20_17 := (hb17.cell (p := ⟨w.heap.size + 1, 0, none⟩) hA2_16).trans cA20_16
  have cA21_17 := (hb17.cell (p := ⟨w.heap.size + 1, 1, none⟩) hA2_16).trans cA21_16
  clear cA20_16 cA21_16
  have hX1_17 := Nat.lt_of_lt_of_le hX1_16 hb17.size
  have cX10_17 := (hb17.cell (p := ⟨w7.heap.size, 0, none⟩) hX1_16).trans cX10_16
  have cX11_17 := (hb17.cell (p := ⟨w7.heap.size, 1, none⟩) hX1_16).trans cX11_16
  clear cX10_16 cX11_16
  have hX2_17 := Nat.lt_of_lt_of_le hX2_16 hb17.size
  have cX20_17 := (hb17.cell (p := ⟨w9.heap.size, 0, none⟩) hX2_16).trans cX20_16
  have cX21_17 := (hb17.cell (p := ⟨w9.heap.size, 1, none⟩) hX2_16).trans cX21_16
  clear cX20_16 cX21_16
  go_wp2_with fail
  refine (markSt_any _ _ _ _ _ 1 _ og_17 (by omega) (by omega) (by omega)).mono ?_
  rintro e w18 ⟨rfl, og_18, hg18⟩
  have B18 := below_grown B17 B17.size (owns_mono og_17 B10.size) hg18
  have ow_18 := ow_17.kept hg18 (owns_apart ow_10 og_11)
  have hA1_18 := Nat.lt_of_lt_of_le hA1_17 hg18.size
  have cA10_18 := cell_far hg18 hA1_17 (owns_far_old og_11 hA1_10) cA10_17
  have cA11_18 := cell_far hg18 hA1_17 (owns_far_old og_11 hA1_10) cA11_17
  clear cA10_17 cA11_17
  have hA2_18 := Nat.lt_of_lt_of_le hA2_17 hg18.size
  have cA20_18 := cell_far hg18 hA2_17 (owns_far_old og_11 hA2_10) cA20_17
  have cA21_18 := cell_far hg18 hA2_17 (owns_far_old og_11 hA2_10) cA21_17
  clear cA20_17 cA21_17
  have hX1_18 := Nat.lt_of_lt_of_le hX1_17 hg18.size
  have cX10_18 := cell_far hg18 hX1_17 (owns_far_old og_11 hX1_10) cX10_17
  have cX11_18 := cell_far hg18 hX1_17 (owns_far_old og_11 hX1_10) cX11_17
  clear cX10_17 cX11_17
  have hX2_18 := Nat.lt_of_lt_of_le hX2_17 hg18.size
  have cX20_18 := cell_far hg18 hX2_17 (owns_far_old og_11 hX2_10) cX20_17
  have cX21_18 := cell_far hg18 hX2_17 (owns_far_old og_11 hX2_10) cX21_17
  clear cX20_17 cX21_17
  go_wp2_with fail
  refine (heldSt_any _ _ _ 1 _ (owns_rdN og_18) (by omega) (by omega) (by omega)).mono ?_
  rintro e w19 ⟨rfl, hb19⟩
  have B19 := B18.trans (hb19.mono B18.size)
  have ow_19 := owns_below ow_18 hb19
  have og_19 := owns_below og_18 hb19
  have hA1_19 := Nat.lt_of_lt_of_le hA1_18 hb19.size
  have cA10_19 := (hb19.cell (p := ⟨w.heap.size, 0, none⟩) hA1_18).trans cA10_18
  have cA11_19 := (hb19.cell (p := ⟨w.heap.size, 1, none⟩) hA1_18).trans cA11_18
  clear cA10_18 cA11_18
  have hA2_19 := Nat.lt_of_lt_of_le hA2_18 hb19.size
  have cA20_19 := (hb19.cell (p := ⟨w.heap.size + 1, 0, none⟩) hA2_18).trans cA20_18
  have cA21_19 := (hb19.cell (p := ⟨w.heap.size + 1, 1, none⟩) hA2_18).trans cA21_18
  clear cA20_18 cA21_18
  have hX1_19 := Nat.lt_of_lt_of_le hX1_18 hb19.size
  have cX10_19 := (hb19.cell (p := ⟨w7.heap.size, 0, none⟩) hX1_18).trans cX10_18
  have cX11_19 := (hb19.cell (p := ⟨w7.heap.size, 1, none⟩) hX1_18).trans cX11_18
  clear cX10_18 cX11_18
  have hX2_19 := Nat.lt_of_lt_of_le hX2_18 hb19.size
  have cX20_19 := (hb19.cell (p := ⟨w9.heap.size, 0, none⟩) hX2_18).trans cX20_18
  have cX21_19 := (hb19.cell (p := ⟨w9.heap.size, 1, none⟩) hX2_18).trans cX21_18
  clear cX20_18 cX21_18
  go_wp2_with fail
  have sk19 : ∀ W, Below w19.heap.size w19 W → (Below w19.heap.size w19 W ∧ W.cell? ⟨w.heap.size, 0, none⟩ = some (.string x1) ∧ W.cell? ⟨w.heap.size, 1, none⟩ = some (.slice ao1 n1 cap1) ∧ W.cell? ⟨w.heap.size + 1, 0, none⟩ = some (.string x2) ∧ W.cell? ⟨w.heap.size + 1, 1, none⟩ = some (.slice ao2 n2 cap2) ∧ W.cell? ⟨w7.heap.size, 0, none⟩ = some (.string x1) ∧ W.cell? ⟨w7.heap.size, 1, none⟩ = some (.slice x1p n1 x1c) ∧ W.cell? ⟨w9.heap.size, 0, none⟩ = some (.string x2) ∧ W.cell? ⟨w9.heap.size, 1, none⟩ = some (.slice x2p n2 x2c)) := fun W hb => ⟨hb, (hb.cell (p := ⟨w.heap.size, 0, none⟩) hA1_19).trans cA10_19, (hb.cell (p := ⟨w.heap.size, 1, none⟩) hA1_19).trans cA11_19, (hb.cell (p := ⟨w.heap.size + 1, 0, none⟩) hA2_19).trans cA20_19, (hb.cell (p := ⟨w.heap.size + 1, 1, none⟩) hA2_19).trans cA21_19, (hb.cell (p := ⟨w7.heap.size, 0, none⟩) hX1_19).trans cX10_19, (hb.cell (p := ⟨w7.heap.size, 1, none⟩) hX1_19).trans cX11_19, (hb.cell (p := ⟨w9.heap.size, 0, none⟩) hX2_19).trans cX20_19, (hb.cell (p := ⟨w9.heap.size, 1, none⟩) hX2_19).trans cX21_19⟩
  go_region_held3 (fun W => Below w19.heap.size w19 W ∧ W.cell? ⟨w.heap.size, 0, none⟩ = some (.string x1) ∧ W.cell? ⟨w.heap.size, 1, none⟩ = some (.slice ao1 n1 cap1) ∧ W.cell? ⟨w.heap.size + 1, 0, none⟩ = some (.string x2) ∧ W.cell? ⟨w.heap.size + 1, 1, none⟩ = some (.slice ao2 n2 cap2) ∧ W.cell? ⟨w7.heap.size, 0, none⟩ = some (.string x1) ∧ W.cell? ⟨w7.heap.size, 1, none⟩ = some (.slice x1p n1 x1c) ∧ W.cell? ⟨w9.heap.size, 0, none⟩ = some (.string x2) ∧ W.cell? ⟨w9.heap.size, 1, none⟩ = some (.slice x2p n2 x2c)) (first | exact sk19 _ (Below.refl _ _).drew | exact sk19 _ hk20 | exact sk19 _ hk21 | exact sk19 _ hk22) (first | (go_at_call 24; refine calls_at (args' := #[.agg #[.string x1, .slice ao1 n1 cap1]]) rfl ?_; refine (toWriter_any x1 ao1 n1 cap1 l1 _ HN1.out (rd_below hr1 B19.drew) h201).mono ?_; rintro e w20 ⟨z1p, z1c, rfl, oz1_20, hd20⟩; have hb20 : Below w19.heap.size w19 w20 := ((Below.refl _ _).drew).trans (hd20.mono (Nat.le_refl _)); have B20 := B19.trans (hb20.mono B19.size); have hk20 : Below w19.heap.size w19 w20 := hb20; have ow_20 := owns_below ow_19 hb20; have og_20 := owns_below og_19 hb20; have hA1_20 := Nat.lt_of_lt_of_le hA1_19 hb20.size; have cA10_20 := (hb20.cell (p := ⟨w.heap.size, 0, none⟩) hA1_19).trans cA10_19; have cA11_20 := (hb20.cell (p := ⟨w.heap.size, 1, none⟩) hA1_19).trans cA11_19; clear cA10_19 cA11_19; have hA2_20 := Nat.lt_of_lt_of_le hA2_19 hb20.size; have cA20_20 := (hb20.cell (p := ⟨w.heap.size + 1, 0, none⟩) hA2_19).trans cA20_19; have cA21_20 := (hb20.cell (p := ⟨w.heap.size + 1, 1, none⟩) hA2_19).trans cA21_19; clear cA20_19 cA21_19; have hX1_20 := Nat.lt_of_lt_of_le hX1_19 hb20.size; have cX10_20 := (hb20.cell (p := ⟨w7.heap.size, 0, none⟩) hX1_19).trans cX10_19; have cX11_20 := (hb20.cell (p := ⟨w7.heap.size, 1, none⟩) hX1_19).trans cX11_19; clear cX10_19 cX11_19; have hX2_20 := Nat.lt_of_lt_of_le hX2_19 hb20.size; have cX20_20 := (hb20.cell (p := ⟨w9.heap.size, 0, none⟩) hX2_19).trans cX20_19; have cX21_20 := (hb20.cell (p := ⟨w9.heap.size, 1, none⟩) hX2_19).trans cX21_19; clear cX20_19 cX21_19) | (go_at_call 24; refine calls_at (args' := #[.agg #[.string x2, .slice ao2 n2 cap2]]) rfl ?_; refine (toWriter_any x2 ao2 n2 cap2 l2 _ HN2.out (rd_below hr2 B20) h202).mono ?_; rintro e w21 ⟨z2p, z2c, rfl, oz2_21, hb21⟩; have B21 := B20.trans (hb21.mono B20.size); have hk21 : Below w19.heap.size w19 w21 := hk20.trans (hb21.mono hk20.size); have ow_21 := owns_below ow_20 hb21; have og_21 := owns_below og_20 hb21; have oz1_21 := owns_below oz1_20 hb21; have hA1_21 := Nat.lt_of_lt_of_le hA1_20 hb21.size; have cA10_21 := (hb21.cell (p := ⟨w.heap.size, 0, none⟩) hA1_20).trans cA10_20; have cA11_21 := (hb21.cell (p := ⟨w.heap.size, 1, none⟩) hA1_20).trans cA11_20; clear cA10_20 cA11_20; have hA2_21 := Nat.lt_of_lt_of_le hA2_20 hb21.size; have cA20_21 := (hb21.cell (p := ⟨w.heap.size + 1, 0, none⟩) hA2_20).trans cA20_20; have cA21_21 := (hb21.cell (p := ⟨w.heap.size + 1, 1, none⟩) hA2_20).trans cA21_20; clear cA20_20 cA21_20; have hX1_21 := Nat.lt_of_lt_of_le hX1_20 hb21.size; have cX10_21 := (hb21.cell (p := ⟨w7.heap.size, 0, none⟩) hX1_20).trans cX10_20; have cX11_21 := (hb21.cell (p := ⟨w7.heap.size, 1, none⟩) hX1_20).trans cX11_20; clear cX10_20 cX11_20; have hX2_21 := Nat.lt_of_lt_of_le hX2_20 hb21.size; have cX20_21 := (hb21.cell (p := ⟨w9.heap.size, 0, none⟩) hX2_20).trans cX20_20; have cX21_21 := (hb21.cell (p := ⟨w9.heap.size, 1, none⟩) hX2_20).trans cX21_20; clear cX20_20 cX21_20) | (go_at_call 40; refine (letApart_any x1 z1p n1 z1c l1 x2 z2p n2 z2c l2 _ hx1 HN1.out (owns_rdN oz1_21) hs1 h201 hx2 HN2.out (owns_rdN oz2_21) hs2 h202).mono ?_; rw [← HX.out, ← HC0.out]; rintro e w22 ⟨hp, hc, rfl, oh_22, hb22⟩; have B22 := B21.trans (hb22.mono B21.size); have hk22 : Below w19.heap.size w19 w22 := hk21.trans (hb22.mono hk21.size); have ow_22 := owns_below ow_21 hb22; have og_22 := owns_below og_21 hb22; have oz1_22 := owns_below oz1_21 hb22; have oz2_22 := owns_below oz2_21 hb22; have hA1_22 := Nat.lt_of_lt_of_le hA1_21 hb22.size; have cA10_22 := (hb22.cell (p := ⟨w.heap.size, 0, none⟩) hA1_21).trans cA10_21; have cA11_22 := (hb22.cell (p := ⟨w.heap.size, 1, none⟩) hA1_21).trans cA11_21; clear cA10_21 cA11_21; have hA2_22 := Nat.lt_of_lt_of_le hA2_21 hb22.size; have cA20_22 := (hb22.cell (p := ⟨w.heap.size + 1, 0, none⟩) hA2_21).trans cA20_21; have cA21_22 := (hb22.cell (p := ⟨w.heap.size + 1, 1, none⟩) hA2_21).trans cA21_21; clear cA20_21 cA21_21; have hX1_22 := Nat.lt_of_lt_of_le hX1_21 hb22.size; have cX10_22 := (hb22.cell (p := ⟨w7.heap.size, 0, none⟩) hX1_21).trans cX10_21; have cX11_22 := (hb22.cell (p := ⟨w7.heap.size, 1, none⟩) hX1_21).trans cX11_21; clear cX10_21 cX11_21; have hX2_22 := Nat.lt_of_lt_of_le hX2_21 hb22.size; have cX20_22 := (hb22.cell (p := ⟨w9.heap.size, 0, none⟩) hX2_21).trans cX20_21; have cX21_22 := (hb22.cell (p := ⟨w9.heap.size, 1, none⟩) hX2_21).trans cX21_21; clear cX20_21 cX21_21))
  go_wp2_with fail
  refine (eqStringS_any _ _ xs _ _ _ _ (strs_len xs) (by omega) (owns_rdN oh_22) (owns_rdN ow_22)).mono ?_
  rintro e w23 ⟨rfl, hb23⟩
  have B23 := B22.trans (hb23.mono B22.size)
  have ow_23 := owns_below ow_22 hb23
  have og_23 := owns_below og_22 hb23
  have oh_23 := owns_below oh_22 hb23
  have hA1_23 := Nat.lt_of_lt_of_le hA1_22 hb23.size
  have cA10_23 := (hb23.cell (p := ⟨w.heap.size, 0, none⟩) hA1_22).trans cA10_22
  have cA11_23 := (hb23.cell (p := ⟨w.heap.size, 1, none⟩) hA1_22).trans cA11_22
  clear cA10_22 cA11_22
  have hA2_23 := Nat.lt_of_lt_of_le hA2_22 hb23.size
  have cA20_23 := (hb23.cell (p := ⟨w.heap.size + 1, 0, none⟩) hA2_22).trans cA20_22
  have cA21_23 := (hb23.cell (p := ⟨w.heap.size + 1, 1, none⟩) hA2_22).trans cA21_22
  clear cA20_22 cA21_22
  have hX1_23 := Nat.lt_of_lt_of_le hX1_22 hb23.size
  have cX10_23 := (hb23.cell (p := ⟨w7.heap.size, 0, none⟩) hX1_22).trans cX10_22
  have cX11_23 := (hb23.cell (p := ⟨w7.heap.size, 1, none⟩) hX1_22).trans cX11_22
  clear cX10_22 cX11_22
  have hX2_23 := Nat.lt_of_lt_of_le hX2_22 hb23.size
  have cX20_23 := (hb23.cell (p := ⟨w9.heap.size, 0, none⟩) hX2_22).trans cX20_22
  have cX21_23 := (hb23.cell (p := ⟨w9.heap.size, 1, none⟩) hX2_22).trans cX21_22
  clear cX20_22 cX21_22
  go_wp2_with fail
  refine (heldSt_any _ _ _ 1 _ (owns_rdN og_23) (by omega) (by omega) (by omega)).mono ?_
  rintro e w24 ⟨rfl, hb24⟩
  have B24 := B23.trans (hb24.mono B23.size)
  have ow_24 := owns_below ow_23 hb24
  have og_24 := owns_below og_23 hb24
  have oh_24 := owns_below oh_23 hb24
  have hA1_24 := Nat.lt_of_lt_of_le hA1_23 hb24.size
  have cA10_24 := (hb24.cell (p := ⟨w.heap.size, 0, none⟩) hA1_23).trans cA10_23
  have cA11_24 := (hb24.cell (p := ⟨w.heap.size, 1, none⟩) hA1_23).trans cA11_23
  clear cA10_23 cA11_23
  have hA2_24 := Nat.lt_of_lt_of_le hA2_23 hb24.size
  have cA20_24 := (hb24.cell (p := ⟨w.heap.size + 1, 0, none⟩) hA2_23).trans cA20_23
  have cA21_24 := (hb24.cell (p := ⟨w.heap.size + 1, 1, none⟩) hA2_23).trans cA21_23
  clear cA20_23 cA21_23
  have hX1_24 := Nat.lt_of_lt_of_le hX1_23 hb24.size
  have cX10_24 := (hb24.cell (p := ⟨w7.heap.size, 0, none⟩) hX1_23).trans cX10_23
  have cX11_24 := (hb24.cell (p := ⟨w7.heap.size, 1, none⟩) hX1_23).trans cX11_23
  clear cX10_23 cX11_23
  have hX2_24 := Nat.lt_of_lt_of_le hX2_23 hb24.size
  have cX20_24 := (hb24.cell (p := ⟨w9.heap.size, 0, none⟩) hX2_23).trans cX20_23
  have cX21_24 := (hb24.cell (p := ⟨w9.heap.size, 1, none⟩) hX2_23).trans cX21_23
  clear cX20_23 cX21_23
  go_wp2_with fail
  go_ret
  exact ⟨rfl, B24⟩
end Go.Proofs.Ythhpeanlpikjbaa
