/-
  Walks of the ribbon functions that divide: spots, uses, shades.
-/
import Derived.Test.YtkiegcjlomppdaaRibA
namespace Go.Proofs.Ytkiegcjlomppdaa
open Go.RowKit
attribute [local go_sem ↓] Go.wp_at_zero Go.wp_at_succ

theorem spot_any (s i t n : Int) (w : World) (h1 : 2 ≤ s) (h2 : s ≤ 200) (h3 : 0 ≤ n) (h4 : n ≤ 200000) : Calls Try.prog 49 #[.agg #[.int .i64 s, .int .i64 i, .int .i64 t], .int .i64 n] w fun e w' => e = .returned (.int .i64 (spotI s n)) ∧ Below w.heap.size w w' := by
  have hm := mod_bd s n h1
  obtain ⟨hm1, hm2⟩ := hm
  by_cases h : s ≤ n % (2 * (s - 1))
  all_goals
    go_enter Try.func49, Try.ntmps49
    go_wp2_with (go_at_call 66; refine (period_any _ _ _ _ h1 h2).mono ?_; rintro e w' ⟨rfl, hb⟩; obtain ⟨hc, hf, hz⟩ := bcell hb; have hl : w.heap.size < w'.heap.size := Nat.lt_of_lt_of_le (by first | assumption | (simp; done) | (simp; omega)) hz)
    go_ret
    refine ⟨ret_int (by unfold spotI; first | rw [if_pos h] | rw [if_neg (by omega)]), ?_⟩
    (repeat (first | with_reducible exact Below.refl _ _ | with_reducible assumption | refine Below.drew ?_ | refine below_drewN ?_ _ | (refine Below.alloc ?_ (by first | omega | (simp; done) | (simp; omega)) _) | (refine Below.setCell ?_ (by first | omega | (simp; done) | (simp; omega)) _) | (refine Below.trans ?_ (Below.mono (by assumption) (by first | omega | (simp; done) | (simp; omega))))))
theorem sSpot_any (s i t n : Int) (w : World) (h1 : 2 ≤ s) (h2 : s ≤ 200) (h3 : 0 ≤ n) (h4 : n ≤ 200000) : Calls Try.prog 47 #[.agg #[.int .i64 s, .int .i64 i, .int .i64 t], .int .i64 n] w fun e w' => e = .returned (.int .i64 (spotI s n)) ∧ Below w.heap.size w w' := by
  have hm := mod_bd s n h1
  obtain ⟨hm1, hm2⟩ := hm
  by_cases h : s ≤ n % (2 * (s - 1))
  all_goals
    go_enter Try.func47, Try.ntmps47
    go_wp2
    go_ret
    refine ⟨ret_int (by unfold spotI; first | rw [if_pos h] | rw [if_neg (by omega)]), ?_⟩
    (repeat (first | with_reducible exact Below.refl _ _ | with_reducible assumption | refine Below.drew ?_ | refine below_drewN ?_ _ | (refine Below.alloc ?_ (by first | omega | (simp; done) | (simp; omega)) _) | (refine Below.setCell ?_ (by first | omega | (simp; done) | (simp; omega)) _) | (refine Below.trans ?_ (Below.mono (by assumption) (by first | omega | (simp; done) | (simp; omega))))))

set_option maxHeartbeats 1000000 in
theorem uses_any (s i t p n : Int) (w : World) (h1 : 2 ≤ s) (h2 : s ≤ 200) (h3 : 0 ≤ n) (h4 : n ≤ 200000) (h5 : 0 ≤ p) (h6 : p < s) : Calls Try.prog 51 #[.agg #[.int .i64 s, .int .i64 i, .int .i64 t], .int .i64 p, .int .i64 n] w fun e w' => e = .returned (.int .i64 (usesI s p n)) ∧ Below w.heap.size w w' := by
  obtain ⟨hm1, hm2⟩ := mod_bd s n h1
  obtain ⟨hd1, hd2⟩ := div_bd s n h1 h3
  have e1 : IntKind.i64.wrap (n.tdiv (2 * (s - 1))) = n / (2 * (s - 1)) := by rw [Int.tdiv_eq_ediv_of_nonneg h3]; exact IntWalk.i64_in _ (by omega)
  have e2 : n.tmod (2 * (s - 1)) = n % (2 * (s - 1)) := Int.tmod_eq_emod_of_nonneg h3
  have e3 : ¬ 2 * (s - 1) = 0 := by omega
  cases h7 : endB s p <;> by_cases h8 : p < n % (2 * (s - 1)) <;> by_cases h9 : 2 * (s - 1) - p < n % (2 * (s - 1))
  all_goals
    go_enter Try.func51, Try.ntmps51
    go_wp2_with fail
    go_region_held3 (fun w' => Below (w.heap.size + 1) (w.alloc (.cells #[.int .i64 s, .int .i64 i, .int .i64 t] 25)) w' ∧ w'.cell? ⟨w.heap.size, 0, none⟩ = some (.int .i64 s) ∧ w'.cell? ⟨w.heap.size, 1, none⟩ = some (.int .i64 i) ∧ w'.cell? ⟨w.heap.size, 2, none⟩ = some (.int .i64 t)) (first | with_reducible exact ribKeep0 _ _ _ _ _ | with_reducible exact ribKeepD (by assumption) | with_reducible exact ribKeep (by assumption) (by assumption) | with_reducible assumption)
      (first | (go_at_call 66; refine (period_any _ _ _ _ h1 h2).mono ?_; rintro e w' ⟨rfl, hb⟩))
    obtain ⟨hB, hc0, hc1, hc2⟩ := ‹Below (w.heap.size + 1) _ _ ∧ _›
    have hz1 := boxlt hB
    go_wp2_with (first | (go_at_call 66; refine (period_any _ _ _ _ h1 h2).mono ?_; rintro e w' ⟨rfl, hb⟩; obtain ⟨hc, hf, hz⟩ := bcell hb; have hl : w.heap.size < w'.heap.size := Nat.lt_of_lt_of_le (by first | assumption | (simp; done) | (simp; omega)) hz) | (go_at_call 67; refine (isEnd_any _ _ _ _ _ h1 h2).mono ?_; rintro e w' ⟨rfl, hb⟩; obtain ⟨hc, hf, hz⟩ := bcell hb; have hl : w.heap.size < w'.heap.size := Nat.lt_of_lt_of_le (by first | assumption | (simp; done) | (simp; omega)) hz))
    all_goals
      go_ret
      refine ⟨ret_int (by clear e1 e2; unfold usesI; (repeat (first | rw [if_pos (by first | assumption | omega)] | rw [if_neg (by first | (simp [h7]; done) | omega)])); omega), ?_⟩
      (repeat (first | with_reducible exact Below.refl _ _ | with_reducible assumption | refine Below.drew ?_ | refine below_drewN ?_ _ | (refine Below.alloc ?_ (by first | omega | (simp; done) | (simp; omega)) _) | (refine Below.setCell ?_ (by first | omega | (simp; done) | (simp; omega)) _) | (refine Below.trans ?_ (Below.mono (by assumption) (by first | omega | (simp; done) | (simp; omega))))))

set_option maxHeartbeats 1000000 in
theorem shade_any (s i t n : Int) (w : World) (h1 : 2 ≤ s) (h2 : s ≤ 200) (hi1 : 1 ≤ i) (hi2 : i ≤ 1000) (ht1 : 1 ≤ t) (ht2 : t ≤ 1000) (h3 : 0 ≤ n) (h4 : n ≤ 200000) : Calls Try.prog 53 #[.agg #[.int .i64 s, .int .i64 i, .int .i64 t], .int .i64 n] w fun e w' => e = .returned (.int .i64 (shadeI s i t n)) ∧ Below w.heap.size w w' := by
  obtain ⟨hs1, hs2⟩ := spot_bd s n h1
  obtain ⟨hu1, hu2⟩ := uses_bd s (spotI s n) n h1 h3
  obtain ⟨hm1, hm2⟩ := mul_bd t (usesI s (spotI s n) n) ht1 ht2 hu1 (by omega)
  have e1 : IntKind.i64.wrap (t * usesI s (spotI s n) n) = t * usesI s (spotI s n) n := IntWalk.i64_in _ (by omega)
  have e2 : IntKind.i64.wrap (i - t * usesI s (spotI s n) n) = i - t * usesI s (spotI s n) n := IntWalk.i64_in _ (by omega)
  go_enter Try.func53, Try.ntmps53
  go_wp2_with fail
  go_region_held3 (fun w' => Below (w.heap.size + 1) (w.alloc (.cells #[.int .i64 s, .int .i64 i, .int .i64 t] 25)) w' ∧ w'.cell? ⟨w.heap.size, 0, none⟩ = some (.int .i64 s) ∧ w'.cell? ⟨w.heap.size, 1, none⟩ = some (.int .i64 i) ∧ w'.cell? ⟨w.heap.size, 2, none⟩ = some (.int .i64 t)) (first | with_reducible exact ribKeep0 _ _ _ _ _ | with_reducible exact ribKeepD (by assumption) | with_reducible exact ribKeep (by assumption) (by assumption) | with_reducible assumption)
    (first | (go_at_call 49; refine (spot_any _ _ _ _ _ h1 h2 h3 h4).mono ?_; rintro e w' ⟨rfl, hb⟩) | (go_at_call 51; refine (uses_any _ _ _ _ _ _ h1 h2 h3 h4 hs1 hs2).mono ?_; rintro e w' ⟨rfl, hb⟩))
  obtain ⟨hB, hc0, hc1, hc2⟩ := ‹Below (w.heap.size + 1) _ _ ∧ _›
  have hz1 := boxlt hB
  go_wp2
  all_goals
    go_ret
    refine ⟨ret_int (by clear e1 e2; unfold shadeI; omega), ?_⟩
    (repeat (first | with_reducible exact Below.refl _ _ | with_reducible assumption | refine Below.drew ?_ | refine below_drewN ?_ _ | (refine Below.alloc ?_ (by first | omega | (simp; done) | (simp; omega)) _) | (refine Below.setCell ?_ (by first | omega | (simp; done) | (simp; omega)) _) | (refine Below.trans ?_ (Below.mono (by assumption) (by first | omega | (simp; done) | (simp; omega))))))
end Go.Proofs.Ytkiegcjlomppdaa
