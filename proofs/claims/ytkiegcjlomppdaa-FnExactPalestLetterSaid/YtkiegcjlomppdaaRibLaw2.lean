/-
  The laws of ribbons that answer rows, and the palest letter: the walks.
-/
import Derived.Test.YtkiegcjlomppdaaRibI
namespace Go.Proofs.Ytkiegcjlomppdaa
open Go.RowKit
set_option linter.unusedVariables false

theorem usesL_len (s i t n : Int) : (usesL s i t n).length ≤ 200 := by
  unfold usesL
  rcases code_cases s i t n with ⟨h0, h1, h2, a1, a2, a3, a4, a5, a6, a7, a8⟩ | ⟨h0, h1, h2⟩ | ⟨h0, h1⟩
  · rw [if_pos h0]; simp; omega
  · rw [if_neg (by omega)]; simp
  · rw [if_neg (by omega)]; simp
theorem shadesL_len (s i t n : Int) (x : ByteArray) : (shadesL s i t n x).length ≤ 100 := by
  unfold shadesL
  rcases text_cases s i t n x with ⟨h0, h1, h2, h3, a1, a2, a3, a4, a5, a6, a7, a8, a9, h4⟩ | ⟨h0, h1, h2, h3, h4⟩ | ⟨h0, h1, h2, h4⟩ | ⟨h0, h1, h4⟩
  · rw [if_pos h0, (shRun_bd s i t n x x.size (Nat.le_refl _)).2.2]; exact a9
  all_goals rw [if_neg (by omega)]; simp

theorem lawPalestLetter (s i t n : Int) (hn : -9223372036854775808 ≤ n ∧ n ≤ 9223372036854775807) (x : ByteArray) (hx : x.size ≤ maxLen) (l : Int) (hl : -9223372036854775808 ≤ l ∧ l ≤ 9223372036854775807) (w : World) :
    Calls Try.prog 11 #[.agg #[.int .i64 s, .int .i64 i, .int .i64 t], .int .i64 n, .string x, .int .i64 l] w fun e w' => e = .returned (.bool true) ∧ Below w.heap.size w w' := by
  by_cases h : (1048576 : Int) < (x.size : Int)
  all_goals
    go_enter Try.func11, Try.ntmps11
    go_wp2_with (first | (go_at_call 15; refine (toRibbon_any _ _ _ _).mono ?_; rintro e w' ⟨rfl, hb⟩; obtain ⟨hc, hf, hz⟩ := bcell hb; have hl : w.heap.size < w'.heap.size := Nat.lt_of_lt_of_le (by first | assumption | (simp; done) | (simp; omega)) hz) | (go_at_call 34; refine (sPalest_any _ _ _ _ _ _ _ hx).mono ?_; rintro e w' ⟨rfl, hb⟩; obtain ⟨hc, hf, hz⟩ := bcell hb; have hl : w.heap.size < w'.heap.size := Nat.lt_of_lt_of_le (by first | assumption | (simp; done) | (simp; omega)) hz) | (go_at_call 35; refine (palest_any _ _ _ _ _ _ _ hx).mono ?_; rintro e w' ⟨rfl, hb⟩; obtain ⟨hc, hf, hz⟩ := bcell hb; have hl : w.heap.size < w'.heap.size := Nat.lt_of_lt_of_le (by first | assumption | (simp; done) | (simp; omega)) hz))
    go_ret
    refine ⟨rfl, ?_⟩
    (repeat (first | with_reducible exact Below.refl _ _ | with_reducible assumption | refine Below.drew ?_ | refine below_drewN ?_ _ | (refine Below.alloc ?_ (by first | omega | (simp; done) | (simp; omega)) _) | (refine Below.setCell ?_ (by first | omega | (simp; done) | (simp; omega)) _) | (refine Below.trans ?_ (Below.mono (by assumption) (by first | omega | (simp; done) | (simp; omega))))))

/-- an elder row and a younger one lie in different blocks -/
theorem owns_apart {w1 w2 : World} {B1 : Nat} {E1 E2 : TypeId} {z1 z2 : Nat} {v1 v2 : Value} {n1 n2 : Nat} {x1 x2 : List Value} (h1 : w1.ownsRow B1 E1 z1 v1 n1 x1) (h2 : w2.ownsRow w1.heap.size E2 z2 v2 n2 x2) : v1.ownBlock = none ∨ v1.ownBlock ≠ v2.ownBlock := by
  cases hv : v1.ownBlock with
  | none => exact .inl rfl
  | some k =>
    right
    intro he
    have a := (h1.lt k hv).2
    have b := (h2.lt k he.symm).1
    omega

set_option maxHeartbeats 4000000 in
theorem lawUsesOf (s i t n : Int) (hn : -9223372036854775808 ≤ n ∧ n ≤ 9223372036854775807) (w : World) :
    Calls Try.prog 9 #[.agg #[.int .i64 s, .int .i64 i, .int .i64 t], .int .i64 n] w fun e w' => e = .returned (.bool true) ∧ Below w.heap.size w w' := by
  have hlen := usesL_len s i t n
  rw [← i64s_len] at hlen
  obtain ⟨xs, hxs⟩ : ∃ xs, xs = usesL s i t n := ⟨_, rfl⟩
  rw [← hxs] at hlen
  have HX := hid hxs
  clear hxs
  go_enter Try.func9, Try.ntmps9
  go_wp2_with (first | (go_at_call 15; refine (toRibbon_any _ _ _ _).mono ?_; rintro e w0 ⟨rfl, hb0⟩; have hB0 : Below (w.heap.size + 1) (w.alloc (.cells #[.int .i64 s, .int .i64 i, .int .i64 t] 23)) w0 := hb0.mono (by simp); obtain ⟨hc0, hc1, hc2, hl0⟩ := boxCells hB0))
  refine (sUses_any _ _ _ _ _).mono ?_
  rw [← HX.out]
  rintro e w1 ⟨ao, cap, rfl, ho1, hb1⟩
  have hB1 := boxBelow hB0 hb1
  obtain ⟨gc0, gc1, gc2, gl0⟩ := boxCells hB1
  clear hc0 hc1 hc2
  go_wp2_with (first | (go_at_call 15; refine (toRibbon_any _ _ _ _).mono ?_; rintro e w2 ⟨rfl, hb2⟩; have hB2 := boxBelow hB1 hb2; obtain ⟨hc0, hc1, hc2, hl2⟩ := boxCells hB2))
  refine (uses2_any _ _ _ _ _).mono ?_
  rw [← HX.out]
  rintro e w3 ⟨bo, cap2, rfl, ho3, hb3⟩
  have hB3 := boxBelow hB2 hb3
  clear hc0 hc1 hc2 gc0 gc1 gc2
  have ho1' := owns_below (owns_below ho1 hb2) hb3
  go_wp2_with fail
  refine (eqI64_any _ _ xs _ _ _ _ (i64s_len xs) (by omega) (owns_rd ho3) (owns_rd ho1')).mono ?_
  rintro e w4 ⟨rfl, hb4⟩
  have hB4 := boxBelow hB3 hb4
  have ho3' := owns_below ho3 hb4
  have ho1'' := owns_below ho1' hb4
  go_wp2_with fail
  refine (mark64_any _ _ _ _ _ 1 _ ho3' (by omega) (by omega) (by omega)).mono ?_
  rintro e w5 ⟨rfl, ho5, hg5⟩
  have hB5 := below_grown hB4 (by have := boxlt hB4; omega) (owns_mono ho3' (by have := boxlt hB2; omega)) hg5
  have ho1w := ho1''.kept hg5 (owns_apart (owns_below ho1 hb2) ho3)
  go_wp2_with fail
  refine (held64_any _ _ _ 1 _ (owns_rd ho5) (by omega) (by omega) (by omega)).mono ?_
  rintro e w6 ⟨rfl, rfl⟩
  obtain ⟨kc0, kc1, kc2, kl0⟩ := boxCells hB5
  go_wp2_with (first | (go_at_call 15; refine (toRibbon_any _ _ _ _).mono ?_; rintro e w7 ⟨rfl, hb7⟩; have hB7 := boxBelow hB5 hb7))
  refine (uses2_any _ _ _ _ _).mono ?_
  rw [← HX.out]
  rintro e w8 ⟨co, cap3, rfl, ho8, hb8⟩
  have hB8 := boxBelow hB7 hb8
  clear kc0 kc1 kc2
  go_wp2_with fail
  refine (eqI64_any _ _ xs _ _ _ _ (i64s_len xs) (by omega) (owns_rd ho8) (owns_rd (owns_below (owns_below ho1w hb7) hb8))).mono ?_
  rintro e w9 ⟨rfl, hb9⟩
  have hB9 := boxBelow hB8 hb9
  go_wp2_with fail
  refine (held64_any _ _ _ 1 _ (owns_rd (owns_below (owns_below (owns_below ho5 hb7) hb8) hb9)) (by omega) (by omega) (by omega)).mono ?_
  rintro e w10 ⟨rfl, rfl⟩
  go_wp2_with fail
  go_ret
  exact ⟨rfl, boxOut hB9⟩
set_option maxHeartbeats 4000000 in
theorem lawShadesOf (s i t n : Int) (hn : -9223372036854775808 ≤ n ∧ n ≤ 9223372036854775807) (x : ByteArray) (hx : x.size ≤ maxLen) (w : World) :
    Calls Try.prog 12 #[.agg #[.int .i64 s, .int .i64 i, .int .i64 t], .int .i64 n, .string x] w fun e w' => e = .returned (.bool true) ∧ Below w.heap.size w w' := by
  by_cases hbig : (1048576 : Int) < (x.size : Int)
  · go_enter Try.func12, Try.ntmps12
    go_wp2
    go_ret
    exact ⟨rfl, by (repeat (first | with_reducible exact Below.refl _ _ | with_reducible assumption | refine Below.drew ?_ | refine below_drewN ?_ _ | (refine Below.alloc ?_ (by first | omega | (simp; done) | (simp; omega)) _) | (refine Below.setCell ?_ (by first | omega | (simp; done) | (simp; omega)) _) | (refine Below.trans ?_ (Below.mono (by assumption) (by first | omega | (simp; done) | (simp; omega))))))⟩
  have hlen := shadesL_len s i t n x
  rw [← i64s_len] at hlen
  obtain ⟨xs, hxs⟩ : ∃ xs, xs = shadesL s i t n x := ⟨_, rfl⟩
  rw [← hxs] at hlen
  have HX := hid hxs
  clear hxs
  go_enter Try.func12, Try.ntmps12
  go_wp2_with (first | (go_at_call 15; refine (toRibbon_any _ _ _ _).mono ?_; rintro e w0 ⟨rfl, hb0⟩; have hB0 : Below (w.heap.size + 1) (w.alloc (.cells #[.int .i64 s, .int .i64 i, .int .i64 t] 23)) w0 := hb0.mono (by simp); obtain ⟨hc0, hc1, hc2, hl0⟩ := boxCells hB0))
  refine (sShadesOf_any _ _ _ _ _ _ hx).mono ?_
  rw [← HX.out]
  rintro e w1 ⟨ao, cap, rfl, ho1, hb1⟩
  have hB1 := boxBelow hB0 hb1
  obtain ⟨gc0, gc1, gc2, gl0⟩ := boxCells hB1
  clear hc0 hc1 hc2
  go_wp2_with (first | (go_at_call 15; refine (toRibbon_any _ _ _ _).mono ?_; rintro e w2 ⟨rfl, hb2⟩; have hB2 := boxBelow hB1 hb2; obtain ⟨hc0, hc1, hc2, hl2⟩ := boxCells hB2))
  refine (shadesOf_any _ _ _ _ _ _ hx).mono ?_
  rw [← HX.out]
  rintro e w3 ⟨bo, cap2, rfl, ho3, hb3⟩
  have hB3 := boxBelow hB2 hb3
  clear hc0 hc1 hc2 gc0 gc1 gc2
  have ho1' := owns_below (owns_below ho1 hb2) hb3
  go_wp2_with fail
  refine (eqI64_any _ _ xs _ _ _ _ (i64s_len xs) (by omega) (owns_rd ho3) (owns_rd ho1')).mono ?_
  rintro e w4 ⟨rfl, hb4⟩
  have hB4 := boxBelow hB3 hb4
  have ho3' := owns_below ho3 hb4
  have ho1'' := owns_below ho1' hb4
  go_wp2_with fail
  refine (mark64_any _ _ _ _ _ 1 _ ho3' (by omega) (by omega) (by omega)).mono ?_
  rintro e w5 ⟨rfl, ho5, hg5⟩
  have hB5 := below_grown hB4 (by have := boxlt hB4; omega) (owns_mono ho3' (by have := boxlt hB2; omega)) hg5
  have ho1w := ho1''.kept hg5 (owns_apart (owns_below ho1 hb2) ho3)
  go_wp2_with fail
  refine (held64_any _ _ _ 1 _ (owns_rd ho5) (by omega) (by omega) (by omega)).mono ?_
  rintro e w6 ⟨rfl, rfl⟩
  obtain ⟨kc0, kc1, kc2, kl0⟩ := boxCells hB5
  go_wp2_with (first | (go_at_call 15; refine (toRibbon_any _ _ _ _).mono ?_; rintro e w7 ⟨rfl, hb7⟩; have hB7 := boxBelow hB5 hb7))
  refine (shadesOf_any _ _ _ _ _ _ hx).mono ?_
  rw [← HX.out]
  rintro e w8 ⟨co, cap3, rfl, ho8, hb8⟩
  have hB8 := boxBelow hB7 hb8
  clear kc0 kc1 kc2
  go_wp2_with fail
  refine (eqI64_any _ _ xs _ _ _ _ (i64s_len xs) (by omega) (owns_rd ho8) (owns_rd (owns_below (owns_below ho1w hb7) hb8))).mono ?_
  rintro e w9 ⟨rfl, hb9⟩
  have hB9 := boxBelow hB8 hb9
  go_wp2_with fail
  refine (held64_any _ _ _ 1 _ (owns_rd (owns_below (owns_below (owns_below ho5 hb7) hb8) hb9)) (by omega) (by omega) (by omega)).mono ?_
  rintro e w10 ⟨rfl, rfl⟩
  go_wp2_with fail
  go_ret
  exact ⟨rfl, boxOut hB9⟩
end Go.Proofs.Ytkiegcjlomppdaa
