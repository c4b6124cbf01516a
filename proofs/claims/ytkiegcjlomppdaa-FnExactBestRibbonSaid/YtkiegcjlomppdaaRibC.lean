/-
  Walks of the ribbon functions that loop.
-/
import Derived.Test.YtkiegcjlomppdaaRibB
namespace Go.Proofs.Ytkiegcjlomppdaa
open Go.RowKit
attribute [local go_sem ↓] Go.wp_at_zero Go.wp_at_succ

set_option maxHeartbeats 1000000 in
theorem before_any (s i t p n : Int) (w : World) (h1 : 2 ≤ s) (h2 : s ≤ 200) (h3 : 0 ≤ n) (h4 : n ≤ 200000) (h5 : 0 ≤ p) (h6 : p < s) : Calls Try.prog 57 #[.agg #[.int .i64 s, .int .i64 i, .int .i64 t], .int .i64 n, .int .i64 p] w fun e w' => e = .returned (.int .i64 (usesI s p n)) ∧ Below w.heap.size w w' := by
  obtain ⟨hd1, hd2⟩ := div_bd s n h1 h3
  obtain ⟨hh1, hh2⟩ := head_le s n h1
  have hh0 := head_nn s n h1 h3
  have hu := hid (uses_head s p (n / (2 * (s - 1))) h1 h5 h6)
  rcases (show (0 < p ∧ p < s - 1) ∨ (¬ 0 < p ∧ p < s - 1) ∨ (0 < p ∧ ¬ p < s - 1) from by omega) with ⟨h8, h9⟩ | ⟨h8, h9⟩ | ⟨h8, h9⟩
  all_goals
    go_enter Try.func57, Try.ntmps57
    go_wp2_with fail
    go_loopw [9, 10] (fun u k wr => ∃ j : Int, u = .int .i64 (usesI s p j) ∧ k = .int .i64 j ∧ n / (2 * (s - 1)) * (2 * (s - 1)) ≤ j ∧ j ≤ n ∧ Below (w.heap.size + 1) (w.alloc (.cells #[.int .i64 s, .int .i64 i, .int .i64 t] 25)) wr) (fun _ k _ => (n - intOf k).toNat)
    case atStart =>
      exact ⟨_, by rw [hu.out]; first | rw [if_pos (by omega)] | rw [if_neg (by omega)], rfl, by omega, by omega, Below.refl _ _⟩
    case round =>
      obtain ⟨j, rfl, rfl, hj1, hj2, hB⟩ := hrel
      obtain ⟨hc0, hc1, hc2, hlt⟩ := boxCells hB
      obtain ⟨hu1, hu2⟩ := uses_bd s p j h1 (by omega)
      have hst := hid (uses_step s p j h1 h5 h6)
      by_cases hjn : j < n
      · by_cases he : spotI s j = p
        · have he2 : (spotI s j == p) = true := by simp [he]
          have He := hid he
          clear he
          go_wp2_with (go_at_call 47; refine (sSpot_any _ _ _ _ _ h1 h2 (by omega) (by omega)).mono ?_; rintro e w' ⟨rfl, hb⟩; obtain ⟨hc, hf, hz⟩ := bcell hb; have hl : w.heap.size < w'.heap.size := Nat.lt_of_lt_of_le (by first | assumption | (simp; done) | (simp; omega)) hz)
          go_roundw
          case rel => exact ⟨j + 1, by rw [hst.out, if_pos He.out], rfl, by omega, by omega, boxBelow hB hb⟩
          case measure => simp [intOf]; omega
        · have he2 : (spotI s j == p) = false := by simp [he]
          have He := hid he
          clear he
          go_wp2_with (go_at_call 47; refine (sSpot_any _ _ _ _ _ h1 h2 (by omega) (by omega)).mono ?_; rintro e w' ⟨rfl, hb⟩; obtain ⟨hc, hf, hz⟩ := bcell hb; have hl : w.heap.size < w'.heap.size := Nat.lt_of_lt_of_le (by first | assumption | (simp; done) | (simp; omega)) hz)
          go_roundw
          case rel => exact ⟨j + 1, by rw [hst.out, if_neg He.out, Int.add_zero], rfl, by omega, by omega, boxBelow hB hb⟩
          case measure => simp [intOf]; omega
      · obtain rfl : n = j := by omega
        go_wp2
        go_ret
        exact ⟨rfl, boxOut hB⟩

set_option maxHeartbeats 1000000 in
theorem until_any (s i t l : Int) (w : World) (h1 : 2 ≤ s) (h2 : s ≤ 200) (hi1 : 1 ≤ i) (hi2 : i ≤ 1000) (ht1 : 1 ≤ t) (ht2 : t ≤ 1000) : Calls Try.prog 56 #[.agg #[.int .i64 s, .int .i64 i, .int .i64 t], .int .i64 l] w fun e w' => e = .returned (.int .i64 (untilI s i t l)) ∧ Below w.heap.size w w' := by
  go_enter Try.func56, Try.ntmps56
  go_wp2_with fail
  go_loopw [5] (fun k wr => ∃ j : Int, k = .int .i64 j ∧ 0 ≤ j ∧ j ≤ 100001 ∧ UInv s i t l j ∧ Below (w.heap.size + 1) (w.alloc (.cells #[.int .i64 s, .int .i64 i, .int .i64 t] 25)) wr) (fun k _ => (100001 - intOf k).toNat)
  case atStart => exact ⟨0, rfl, by omega, by omega, uinv_zero _ _ _ _, Below.refl _ _⟩
  case round =>
    obtain ⟨j, rfl, hj1, hj2, hU, hB⟩ := hrel
    obtain ⟨hc0, hc1, hc2, hlt⟩ := boxCells hB
    by_cases hjn : j ≤ 100000
    · by_cases he : shadeI s i t j < l
      all_goals
        go_wp2_with (go_at_call 53; refine (shade_any _ _ _ _ _ h1 h2 hi1 hi2 ht1 ht2 (by omega) (by omega)).mono ?_; rintro e w' ⟨rfl, hb⟩; obtain ⟨hc, hf, hz⟩ := bcell hb; have hl : w.heap.size < w'.heap.size := Nat.lt_of_lt_of_le (by first | assumption | (simp; done) | (simp; omega)) hz)
      · go_ret
        exact ⟨ret_int (uinv_hit hj1 hjn he hU).symm, boxOut (boxBelow hB hb)⟩
      · go_roundw
        case rel => exact ⟨j + 1, rfl, by omega, by omega, uinv_next hj1 hjn (by omega) hU, boxBelow hB hb⟩
        case measure => simp [intOf]; omega
    · obtain rfl : j = 100001 := by omega
      go_wp2
      go_ret
      exact ⟨ret_int (uinv_full hU).symm, boxOut hB⟩
end Go.Proofs.Ytkiegcjlomppdaa
