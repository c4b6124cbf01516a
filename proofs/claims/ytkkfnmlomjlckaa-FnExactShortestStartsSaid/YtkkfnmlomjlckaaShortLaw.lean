/-
  The law of the shortest beginnings: the walk.
-/
import Derived.Test.YtkkfnmlomjlckaaShort
namespace Go.Proofs.Ytkkfnmlomjlckaa
open Go.RowKit Go.ChangeShapes Go.WideShapes Go.Maps
set_option linter.unusedVariables false
attribute [local go_sem ↓] Go.wp_at_zero Go.wp_at_succ

theorem owns_apart {w1 w2 : World} {B1 : Nat} {E1 E2 : TypeId} {z1 z2 : Nat} {v1 v2 : Value} {n1 n2 : Nat} {x1 x2 : List Value} (h1 : w1.ownsRow B1 E1 z1 v1 n1 x1) (h2 : w2.ownsRow w1.heap.size E2 z2 v2 n2 x2) : v1.ownBlock = none ∨ v1.ownBlock ≠ v2.ownBlock := by
  cases hv : v1.ownBlock with
  | none => exact .inl rfl
  | some k =>
    right
    intro he
    have a := (h1.lt k hv).2
    have b := (h2.lt k he.symm).1
    omega
theorem owns_apart2 {w1 w2 : World} {B1 : Nat} {E1 E2 : TypeId} {z1 z2 : Nat} {v1 v2 : Value} {n1 n2 : Nat} {x1 x2 : List Value} (h1 : w1.ownsRow B1 E1 z1 v1 n1 x1) (h2 : w2.ownsRow w1.heap.size E2 z2 v2 n2 x2) : v2.ownBlock = none ∨ v2.ownBlock ≠ v1.ownBlock := by
  cases hv : v2.ownBlock with
  | none => exact .inl rfl
  | some k =>
    right
    intro he
    have a := (h1.lt k he.symm).2
    have b := (h2.lt k hv).1
    omega

set_option maxRecDepth 100000 in
set_option maxHeartbeats 4000000 in
theorem lawShortestStarts (w : World) (ao : Option Addr) (n cap : Nat) (l : List ByteArray) (ha : StArg w ao n cap l) :
    Calls Try.prog 10 #[.slice ao n cap] w fun e w' => e = .returned (.bool true) ∧ Below w.heap.size w w' := by
  obtain ⟨hn, hm, hr, hs⟩ := ha
  have HN := hid hn
  clear hn
  have hlen := shorts_len l
  rw [← strs_len] at hlen
  obtain ⟨xs, hxs⟩ : ∃ xs, xs = shortsL l := ⟨_, rfl⟩
  obtain ⟨c, hc⟩ : ∃ c, c = shortsC l := ⟨_, rfl⟩
  rw [← hxs] at hlen
  have HX := hid hxs
  have HC := hid hc
  clear hxs hc
  go_enter Try.func10, Try.ntmps10
  go_wp2_with fail
  refine (szStringS_any ao n cap l 1048576 _ (by omega) (by omega) HN.out hm hr hs).mono ?_
  rintro e w1 ⟨rfl, B1⟩
  by_cases hz : szAllSt 1048576 n l < 0
  · go_wp2_with fail
    go_ret
    exact ⟨rfl, B1⟩
  have h20 := szAllSt_len (by omega) hz
  go_wp2_with fail
  refine (toStringS_any ao n cap l _ HN.out (rd_below hr B1) h20).mono ?_
  rintro e w2 ⟨bo, cap2, rfl, ho2, hb2⟩
  have B2 := B1.trans (hb2.mono B1.size)
  go_wp2_with fail
  refine (sShort_any bo n cap2 l _ HN.out (owns_rdN ho2) hs h20).mono ?_
  rw [← HX.out, ← HC.out]
  rintro e w3 ⟨co, cap3, rfl, ho3, hb3⟩
  have B3 := B2.trans (hb3.mono B2.size)
  go_wp2_with fail
  refine (toStringS_any ao n cap l _ HN.out (rd_below hr B3) h20).mono ?_
  rintro e w4 ⟨eo, cap4, rfl, ho4, hb4⟩
  have B4 := B3.trans (hb4.mono B3.size)
  go_wp2_with fail
  refine (short_any eo n cap4 l _ HN.out (owns_rdN ho4) hs h20).mono ?_
  rw [← HX.out, ← HC.out]
  rintro e w5 ⟨fo, cap5, rfl, ho5, hb5⟩
  have B5 := B4.trans (hb5.mono B4.size)
  have ho3_5 := owns_below (owns_below ho3 hb4) hb5
  have ho4_5 := owns_below ho4 hb5
  go_wp2_with fail
  refine (eqStringS_any _ _ xs _ _ _ _ (strs_len xs) (by omega) (owns_rd ho5) (owns_rd ho3_5)).mono ?_
  rintro e w6 ⟨rfl, hb6⟩
  have B6 := B5.trans (hb6.mono B5.size)
  go_wp2_with fail
  refine (toStringS_any ao n cap l _ HN.out (rd_below hr B6) h20).mono ?_
  rintro e w7 ⟨io, cap7, rfl, ho7, hb7⟩
  have B7 := B6.trans (hb7.mono B6.size)
  have ho4_7 := owns_below (owns_below ho4_5 hb6) hb7
  go_wp2_with fail
  refine (eqStringS_any eo io l n cap4 cap7 _ HN.out (by omega) (owns_rdN ho4_7) (owns_rdN ho7)).mono ?_
  rintro e w8 ⟨rfl, hb8⟩
  have B8 := B7.trans (hb8.mono B7.size)
  have ho4_8 := owns_below ho4_7 hb8
  have ho3_8 := owns_below (owns_below (owns_below ho3_5 hb6) hb7) hb8
  have ho5_8 := owns_below (owns_below (owns_below ho5 hb6) hb7) hb8
  go_wp2_with fail
  refine (markSt_any _ _ _ _ _ 1 _ ho4_8 h20 (by omega) (by omega)).mono ?_
  rintro e w9 ⟨rfl, ho9, hg9⟩
  have B9 := below_grown B8 B8.size (owns_mono ho4_8 B3.size) hg9
  have ho3_9 := ho3_8.kept hg9 (owns_apart ho3 ho4)
  have ho5_9 := ho5_8.kept hg9 (owns_apart2 ho4 ho5)
  go_wp2_with fail
  refine (eqStringS_any _ _ xs _ _ _ _ (strs_len xs) (by omega) (owns_rd ho5_9) (owns_rd ho3_9)).mono ?_
  rintro e w10 ⟨rfl, hb10⟩
  have B10 := B9.trans (hb10.mono B9.size)
  have ho3_10 := owns_below ho3_9 hb10
  have ho5_10 := owns_below ho5_9 hb10
  go_wp2_with fail
  refine (markSt_any _ _ _ _ _ 1 _ ho5_10 (by omega) (by omega) (by omega)).mono ?_
  rintro e w11 ⟨rfl, ho11, hg11⟩
  have B11 := below_grown B10 B10.size (owns_mono ho5_10 B4.size) hg11
  have ho3_11 := ho3_10.kept hg11 (owns_apart (owns_below ho3 hb4) ho5)
  go_wp2_with fail
  refine (heldSt_any _ _ _ 1 _ (owns_rd ho11) (by omega) (by omega) (by omega)).mono ?_
  rintro e w12 ⟨rfl, hb12⟩
  have B12 := B11.trans (hb12.mono B11.size)
  have ho11_12 := owns_below ho11 hb12
  have ho3_12 := owns_below ho3_11 hb12
  go_wp2_with fail
  refine (toStringS_any ao n cap l _ HN.out (rd_below hr B12) h20).mono ?_
  rintro e w13 ⟨jo, cap13, rfl, ho13, hb13⟩
  have B13 := B12.trans (hb13.mono B12.size)
  go_wp2_with fail
  refine (short_any jo n cap13 l _ HN.out (owns_rdN ho13) hs h20).mono ?_
  rw [← HX.out, ← HC.out]
  rintro e w14 ⟨ko, cap14, rfl, ho14, hb14⟩
  have B14 := B13.trans (hb14.mono B13.size)
  go_wp2_with fail
  refine (eqStringS_any _ _ xs _ _ _ _ (strs_len xs) (by omega) (owns_rd ho14) (owns_rd (owns_below (owns_below ho3_12 hb13) hb14))).mono ?_
  rintro e w15 ⟨rfl, hb15⟩
  have B15 := B14.trans (hb15.mono B14.size)
  go_wp2_with fail
  refine (heldSt_any _ _ _ 1 _ (owns_rd (owns_below (owns_below (owns_below ho11_12 hb13) hb14) hb15)) (by omega) (by omega) (by omega)).mono ?_
  rintro e w16 ⟨rfl, hb16⟩
  have B16 := B15.trans (hb16.mono B15.size)
  go_wp2_with fail
  go_ret
  exact ⟨rfl, B16⟩
end Go.Proofs.Ytkkfnmlomjlckaa
