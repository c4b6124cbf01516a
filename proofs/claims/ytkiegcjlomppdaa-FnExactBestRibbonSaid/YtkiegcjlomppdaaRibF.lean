/-
  Walks of the ribbon functions that answer a number and a code: turns, shades, strokes, ribbons.
-/
import Derived.Test.YtkiegcjlomppdaaRibE
namespace Go.Proofs.Ytkiegcjlomppdaa
open Go.RowKit
set_option linter.unusedVariables false
attribute [local go_sem ↓] Go.wp_at_zero Go.wp_at_succ

theorem sTurns_any (s i t n : Int) (w : World) : Calls Try.prog 21 #[.agg #[.int .i64 s, .int .i64 i, .int .i64 t], .int .i64 n] w fun e w' => e = .returned (.tuple #[.int .i64 (turnsR s i t n).1, .int .i64 (turnsR s i t n).2]) ∧ Below w.heap.size w w' := by
  rcases code_cases s i t n with ⟨h0, h1, h2, a1, a2, a3, a4, a5, a6, a7, a8⟩ | ⟨h0, h1, h2⟩ | ⟨h0, h1⟩
  · have hm0 : 0 ≤ max 0 (n - 1) := by omega
    have hm1 : max 0 (n - 1) ≤ 100000 := by omega
    have e3 : ¬ s - 1 = 0 := by omega
    have e4 : IntKind.i64.wrap ((max 0 (n - 1)).tdiv (s - 1)) = max 0 (n - 1) / (s - 1) := IntWalk.i64_quo _ _ ⟨by omega, by omega, by omega⟩
    go_enter Try.func21, Try.ntmps21
    go_wp2_with (first | (go_at_call 46; refine (code_any _ _ _ _ _).mono ?_; rintro e w' ⟨rfl, hb⟩; obtain ⟨hc, hf, hz⟩ := bcell hb; have hl : w.heap.size < w'.heap.size := Nat.lt_of_lt_of_le (by first | assumption | (simp; done) | (simp; omega)) hz))
    go_quiet ((go_at_call 50; exact qs (max_any _ _ _)))
    go_wp2
    go_ret2
    refine ⟨by simp [turnsR, h0], ?_⟩
    (repeat (first | with_reducible exact Below.refl _ _ | with_reducible assumption | refine Below.drew ?_ | refine below_drewN ?_ _ | (refine Below.alloc ?_ (by first | omega | (simp; done) | (simp; omega)) _) | (refine Below.setCell ?_ (by first | omega | (simp; done) | (simp; omega)) _) | (refine Below.trans ?_ (Below.mono (by assumption) (by first | omega | (simp; done) | (simp; omega))))))
  all_goals
    go_enter Try.func21, Try.ntmps21
    go_wp2_with (go_at_call 46; refine (code_any _ _ _ _ _).mono ?_; rintro e w' ⟨rfl, hb⟩; obtain ⟨hc, hf, hz⟩ := bcell hb; have hl : w.heap.size < w'.heap.size := Nat.lt_of_lt_of_le (by first | assumption | (simp; done) | (simp; omega)) hz)
    go_ret2
    refine ⟨by simp [turnsR, h0], ?_⟩
    (repeat (first | with_reducible exact Below.refl _ _ | with_reducible assumption | refine Below.drew ?_ | refine below_drewN ?_ _ | (refine Below.alloc ?_ (by first | omega | (simp; done) | (simp; omega)) _) | (refine Below.setCell ?_ (by first | omega | (simp; done) | (simp; omega)) _) | (refine Below.trans ?_ (Below.mono (by assumption) (by first | omega | (simp; done) | (simp; omega))))))

set_option maxHeartbeats 1000000 in
theorem turns_any (s i t n : Int) (w : World) : Calls Try.prog 22 #[.agg #[.int .i64 s, .int .i64 i, .int .i64 t], .int .i64 n] w fun e w' => e = .returned (.tuple #[.int .i64 (turnsR s i t n).1, .int .i64 (turnsR s i t n).2]) ∧ Below w.heap.size w w' := by
  rcases code_cases s i t n with ⟨h0, h1, h2, a1, a2, a3, a4, a5, a6, a7, a8⟩ | ⟨h0, h1, h2⟩ | ⟨h0, h1⟩
  · obtain ⟨u1, u2⟩ := uses_bd s 0 n a1 a7
    obtain ⟨u3, u4⟩ := uses_bd s (s - 1) n a1 a7
    have HT := hid (turns_eq s n a1 a7)
    have e1 : IntKind.i64.wrap (usesI s 0 n + usesI s (s - 1) n) = usesI s 0 n + usesI s (s - 1) n := IntWalk.i64_in _ (by omega)
    have e2 : IntKind.i64.wrap (usesI s 0 n + usesI s (s - 1) n - 1) = usesI s 0 n + usesI s (s - 1) n - 1 := IntWalk.i64_in _ (by omega)
    have e3 : IntKind.i64.wrap (s - 1) = s - 1 := IntWalk.i64_in _ (by omega)
    go_enter Try.func22, Try.ntmps22
    go_wp2_with (first | (go_at_call 16; refine (valid_any _ _ _ _).mono ?_; rintro e w' ⟨rfl, hb⟩; obtain ⟨hc, hf, hz⟩ := bcell hb; have hl : w.heap.size < w'.heap.size := Nat.lt_of_lt_of_le (by first | assumption | (simp; done) | (simp; omega)) hz) | (go_at_call 48; refine (isUse_any _ _).mono ?_; rintro e w' ⟨rfl, rfl⟩))
    go_region_held3 (fun w' => Below (w.heap.size + 1) (w.alloc (.cells #[.int .i64 s, .int .i64 i, .int .i64 t] 25)) w' ∧ w'.cell? ⟨w.heap.size, 0, none⟩ = some (.int .i64 s) ∧ w'.cell? ⟨w.heap.size, 1, none⟩ = some (.int .i64 i) ∧ w'.cell? ⟨w.heap.size, 2, none⟩ = some (.int .i64 t)) (first | with_reducible exact ribKeep0 _ _ _ _ _ | with_reducible exact ribKeepD (by assumption) | with_reducible exact ribKeep (by assumption) (by assumption) | with_reducible assumption)
      (first | (go_at_call 51; refine (uses_any _ _ _ _ _ _ a1 a2 a7 (by omega) (by omega) (by omega)).mono ?_; rintro e w' ⟨rfl, hb⟩))
    obtain ⟨hB, hc0, hc1, hc2⟩ := ‹Below (w.heap.size + 1) _ _ ∧ _›
    go_wp2
    all_goals
      go_ret2
      refine ⟨by simp [turnsR, h0]; rw [← HT.out]; omega, boxOut hB⟩
  all_goals
    go_enter Try.func22, Try.ntmps22
    go_wp2_with (first | (go_at_call 16; refine (valid_any _ _ _ _).mono ?_; rintro e w' ⟨rfl, hb⟩; obtain ⟨hc, hf, hz⟩ := bcell hb; have hl : w.heap.size < w'.heap.size := Nat.lt_of_lt_of_le (by first | assumption | (simp; done) | (simp; omega)) hz) | (go_at_call 48; refine (isUse_any _ _).mono ?_; rintro e w' ⟨rfl, rfl⟩))
    go_ret2
    refine ⟨by simp [turnsR, h0], ?_⟩
    (repeat (first | with_reducible exact Below.refl _ _ | with_reducible assumption | refine Below.drew ?_ | refine below_drewN ?_ _ | (refine Below.alloc ?_ (by first | omega | (simp; done) | (simp; omega)) _) | (refine Below.setCell ?_ (by first | omega | (simp; done) | (simp; omega)) _) | (refine Below.trans ?_ (Below.mono (by assumption) (by first | omega | (simp; done) | (simp; omega))))))

set_option maxHeartbeats 1000000 in
theorem sShade_any (s i t n : Int) (w : World) (h1 : 2 ≤ s) (h2 : s ≤ 200) (hi1 : 1 ≤ i) (hi2 : i ≤ 1000) (ht1 : 1 ≤ t) (ht2 : t ≤ 1000) (h3 : 0 ≤ n) (h4 : n ≤ 200000) : Calls Try.prog 52 #[.agg #[.int .i64 s, .int .i64 i, .int .i64 t], .int .i64 n] w fun e w' => e = .returned (.int .i64 (shadeI s i t n)) ∧ Below w.heap.size w w' := by
  obtain ⟨hs1, hs2⟩ := spot_bd s n h1
  obtain ⟨hu1, hu2⟩ := uses_bd s (spotI s n) n h1 h3
  obtain ⟨hm1, hm2⟩ := mul_bd t (usesI s (spotI s n) n) ht1 ht2 hu1 (by omega)
  have e1 : IntKind.i64.wrap (t * usesI s (spotI s n) n) = t * usesI s (spotI s n) n := IntWalk.i64_in _ (by omega)
  have e2 : IntKind.i64.wrap (i - t * usesI s (spotI s n) n) = i - t * usesI s (spotI s n) n := IntWalk.i64_in _ (by omega)
  go_enter Try.func52, Try.ntmps52
  go_wp2_with fail
  go_region_held3 (fun w' => Below (w.heap.size + 1) (w.alloc (.cells #[.int .i64 s, .int .i64 i, .int .i64 t] 25)) w' ∧ w'.cell? ⟨w.heap.size, 0, none⟩ = some (.int .i64 s) ∧ w'.cell? ⟨w.heap.size, 1, none⟩ = some (.int .i64 i) ∧ w'.cell? ⟨w.heap.size, 2, none⟩ = some (.int .i64 t)) (first | with_reducible exact ribKeep0 _ _ _ _ _ | with_reducible exact ribKeepD (by assumption) | with_reducible exact ribKeep (by assumption) (by assumption) | with_reducible assumption)
    (first | (go_at_call 47; refine (sSpot_any _ _ _ _ _ h1 h2 h3 (by omega)).mono ?_; rintro e w' ⟨rfl, hb⟩) | (go_at_call 57; refine (before_any _ _ _ _ _ _ h1 h2 h3 h4 hs1 hs2).mono ?_; rintro e w' ⟨rfl, hb⟩) | (go_at_call 50; refine (max_any _ _ _).mono ?_; rintro e w' ⟨rfl, rfl⟩))
  obtain ⟨hB, hc0, hc1, hc2⟩ := ‹Below (w.heap.size + 1) _ _ ∧ _›
  have hz1 := boxlt hB
  go_wp2
  all_goals
    go_ret
    refine ⟨ret_int (by clear e1 e2; unfold shadeI; omega), ?_⟩
    (repeat (first | with_reducible exact Below.refl _ _ | with_reducible assumption | refine Below.drew ?_ | refine below_drewN ?_ _ | (refine Below.alloc ?_ (by first | omega | (simp; done) | (simp; omega)) _) | (refine Below.setCell ?_ (by first | omega | (simp; done) | (simp; omega)) _) | (refine Below.trans ?_ (Below.mono (by assumption) (by first | omega | (simp; done) | (simp; omega))))))

theorem sShadeAt_any (s i t n : Int) (w : World) : Calls Try.prog 23 #[.agg #[.int .i64 s, .int .i64 i, .int .i64 t], .int .i64 n] w fun e w' => e = .returned (.tuple #[.int .i64 (shadeR s i t n).1, .int .i64 (shadeR s i t n).2]) ∧ Below w.heap.size w w' := by
  rcases code_cases s i t n with ⟨h0, h1, h2, a1, a2, a3, a4, a5, a6, a7, a8⟩ | ⟨h0, h1, h2⟩ | ⟨h0, h1⟩
  all_goals
    go_enter Try.func23, Try.ntmps23
    go_wp2_with (first | (go_at_call 46; refine (code_any _ _ _ _ _).mono ?_; rintro e w' ⟨rfl, hb⟩; obtain ⟨hc, hf, hz⟩ := bcell hb; have hl : w.heap.size < w'.heap.size := Nat.lt_of_lt_of_le (by first | assumption | (simp; done) | (simp; omega)) hz) | (go_at_call 52; refine (sShade_any _ _ _ _ _ (by assumption) (by assumption) (by assumption) (by assumption) (by assumption) (by assumption) (by assumption) (by omega)).mono ?_; rintro e w' ⟨rfl, hb⟩; obtain ⟨hc, hf, hz⟩ := bcell hb; have hl : w.heap.size < w'.heap.size := Nat.lt_of_lt_of_le (by first | assumption | (simp; done) | (simp; omega)) hz))
    go_ret2
    refine ⟨by simp [shadeR, h0], ?_⟩
    (repeat (first | with_reducible exact Below.refl _ _ | with_reducible assumption | refine Below.drew ?_ | refine below_drewN ?_ _ | (refine Below.alloc ?_ (by first | omega | (simp; done) | (simp; omega)) _) | (refine Below.setCell ?_ (by first | omega | (simp; done) | (simp; omega)) _) | (refine Below.trans ?_ (Below.mono (by assumption) (by first | omega | (simp; done) | (simp; omega))))))
theorem shadeAt_any (s i t n : Int) (w : World) : Calls Try.prog 24 #[.agg #[.int .i64 s, .int .i64 i, .int .i64 t], .int .i64 n] w fun e w' => e = .returned (.tuple #[.int .i64 (shadeR s i t n).1, .int .i64 (shadeR s i t n).2]) ∧ Below w.heap.size w w' := by
  rcases code_cases s i t n with ⟨h0, h1, h2, a1, a2, a3, a4, a5, a6, a7, a8⟩ | ⟨h0, h1, h2⟩ | ⟨h0, h1⟩
  all_goals
    go_enter Try.func24, Try.ntmps24
    go_wp2_with (first | (go_at_call 16; refine (valid_any _ _ _ _).mono ?_; rintro e w' ⟨rfl, hb⟩; obtain ⟨hc, hf, hz⟩ := bcell hb; have hl : w.heap.size < w'.heap.size := Nat.lt_of_lt_of_le (by first | assumption | (simp; done) | (simp; omega)) hz) | (go_at_call 48; refine (isUse_any _ _).mono ?_; rintro e w' ⟨rfl, rfl⟩) | (go_at_call 53; refine (shade_any _ _ _ _ _ (by assumption) (by assumption) (by assumption) (by assumption) (by assumption) (by assumption) (by assumption) (by omega)).mono ?_; rintro e w' ⟨rfl, hb⟩; obtain ⟨hc, hf, hz⟩ := bcell hb; have hl : w.heap.size < w'.heap.size := Nat.lt_of_lt_of_le (by first | assumption | (simp; done) | (simp; omega)) hz))
    go_ret2
    refine ⟨by simp [shadeR, h0], ?_⟩
    (repeat (first | with_reducible exact Below.refl _ _ | with_reducible assumption | refine Below.drew ?_ | refine below_drewN ?_ _ | (refine Below.alloc ?_ (by first | omega | (simp; done) | (simp; omega)) _) | (refine Below.setCell ?_ (by first | omega | (simp; done) | (simp; omega)) _) | (refine Below.trans ?_ (Below.mono (by assumption) (by first | omega | (simp; done) | (simp; omega))))))

theorem nat_of (s : Int) (h : 2 ≤ s) : ∃ S : Nat, s = S := ⟨s.toNat, by omega⟩
theorem sStrokes_any (s i t l : Int) (w : World) : Calls Try.prog 25 #[.agg #[.int .i64 s, .int .i64 i, .int .i64 t], .int .i64 l] w fun e w' => e = .returned (.tuple #[.int .i64 (strokesR s i t l).1, .int .i64 (strokesR s i t l).2]) ∧ Below w.heap.size w w' := by
  rcases least_cases s i t l with ⟨h0, h1, h2, a1, a2, a3, a4, a5, a6, a7, a8⟩ | ⟨h0, h1, h2⟩ | ⟨h0, h1⟩
  · obtain ⟨S, rfl⟩ := nat_of s a1
    by_cases h3 : untilI S i t l ≤ 100000
    all_goals
      go_enter Try.func25, Try.ntmps25
      go_wp2_with (first | (go_at_call 54; refine (least_any _ _ _ _ _).mono ?_; rintro e w' ⟨rfl, hb⟩; obtain ⟨hc, hf, hz⟩ := bcell hb; have hl : w.heap.size < w'.heap.size := Nat.lt_of_lt_of_le (by first | assumption | (simp; done) | (simp; omega)) hz) | (go_at_call 55; refine (sUntil_any _ _ _ _ _ (by omega) (by omega) a3 a4 a5 a6).mono ?_; rintro e w' ⟨rfl, hb⟩; obtain ⟨hc, hf, hz⟩ := bcell hb; have hl : w.heap.size < w'.heap.size := Nat.lt_of_lt_of_le (by first | assumption | (simp; done) | (simp; omega)) hz))
      go_ret2
      refine ⟨by simp only [strokesR, h0, if_true]; split <;> simp <;> omega, ?_⟩
      (repeat (first | with_reducible exact Below.refl _ _ | with_reducible assumption | refine Below.drew ?_ | refine below_drewN ?_ _ | (refine Below.alloc ?_ (by first | omega | (simp; done) | (simp; omega)) _) | (refine Below.setCell ?_ (by first | omega | (simp; done) | (simp; omega)) _) | (refine Below.trans ?_ (Below.mono (by assumption) (by first | omega | (simp; done) | (simp; omega))))))
  all_goals
    go_enter Try.func25, Try.ntmps25
    go_wp2_with (go_at_call 54; refine (least_any _ _ _ _ _).mono ?_; rintro e w' ⟨rfl, hb⟩; obtain ⟨hc, hf, hz⟩ := bcell hb; have hl : w.heap.size < w'.heap.size := Nat.lt_of_lt_of_le (by first | assumption | (simp; done) | (simp; omega)) hz)
    go_ret2
    refine ⟨by simp [strokesR, h0], ?_⟩
    (repeat (first | with_reducible exact Below.refl _ _ | with_reducible assumption | refine Below.drew ?_ | refine below_drewN ?_ _ | (refine Below.alloc ?_ (by first | omega | (simp; done) | (simp; omega)) _) | (refine Below.setCell ?_ (by first | omega | (simp; done) | (simp; omega)) _) | (refine Below.trans ?_ (Below.mono (by assumption) (by first | omega | (simp; done) | (simp; omega))))))
theorem strokes_any (s i t l : Int) (w : World) : Calls Try.prog 26 #[.agg #[.int .i64 s, .int .i64 i, .int .i64 t], .int .i64 l] w fun e w' => e = .returned (.tuple #[.int .i64 (strokesR s i t l).1, .int .i64 (strokesR s i t l).2]) ∧ Below w.heap.size w w' := by
  rcases least_cases s i t l with ⟨h0, h1, h2, a1, a2, a3, a4, a5, a6, a7, a8⟩ | ⟨h0, h1, h2⟩ | ⟨h0, h1⟩
  · by_cases h3 : untilI s i t l ≤ 100000
    all_goals
      go_enter Try.func26, Try.ntmps26
      go_wp2_with (first | (go_at_call 16; refine (valid_any _ _ _ _).mono ?_; rintro e w' ⟨rfl, hb⟩; obtain ⟨hc, hf, hz⟩ := bcell hb; have hl : w.heap.size < w'.heap.size := Nat.lt_of_lt_of_le (by first | assumption | (simp; done) | (simp; omega)) hz) | (go_at_call 45; refine (between_any _ _ _ _).mono ?_; rintro e w' ⟨rfl, rfl⟩) | (go_at_call 56; refine (until_any _ _ _ _ _ a1 a2 a3 a4 a5 a6).mono ?_; rintro e w' ⟨rfl, hb⟩; obtain ⟨hc, hf, hz⟩ := bcell hb; have hl : w.heap.size < w'.heap.size := Nat.lt_of_lt_of_le (by first | assumption | (simp; done) | (simp; omega)) hz))
      go_ret2
      refine ⟨by simp only [strokesR, h0, if_true]; split <;> simp <;> omega, ?_⟩
      (repeat (first | with_reducible exact Below.refl _ _ | with_reducible assumption | refine Below.drew ?_ | refine below_drewN ?_ _ | (refine Below.alloc ?_ (by first | omega | (simp; done) | (simp; omega)) _) | (refine Below.setCell ?_ (by first | omega | (simp; done) | (simp; omega)) _) | (refine Below.trans ?_ (Below.mono (by assumption) (by first | omega | (simp; done) | (simp; omega))))))
  all_goals
    go_enter Try.func26, Try.ntmps26
    go_wp2_with (first | (go_at_call 16; refine (valid_any _ _ _ _).mono ?_; rintro e w' ⟨rfl, hb⟩; obtain ⟨hc, hf, hz⟩ := bcell hb; have hl : w.heap.size < w'.heap.size := Nat.lt_of_lt_of_le (by first | assumption | (simp; done) | (simp; omega)) hz) | (go_at_call 45; refine (between_any _ _ _ _).mono ?_; rintro e w' ⟨rfl, rfl⟩))
    go_ret2
    refine ⟨by simp [strokesR, h0], ?_⟩
    (repeat (first | with_reducible exact Below.refl _ _ | with_reducible assumption | refine Below.drew ?_ | refine below_drewN ?_ _ | (refine Below.alloc ?_ (by first | omega | (simp; done) | (simp; omega)) _) | (refine Below.setCell ?_ (by first | omega | (simp; done) | (simp; omega)) _) | (refine Below.trans ?_ (Below.mono (by assumption) (by first | omega | (simp; done) | (simp; omega))))))

theorem sMany_any (s i t n l : Int) (w : World) (a1 : 2 ≤ s) (a2 : s ≤ 200) (a3 : 1 ≤ i) (a4 : i ≤ 1000) (a5 : 1 ≤ t) (a6 : t ≤ 1000) (a7 : l ≤ i) (a8 : 0 ≤ n) (a9 : n ≤ 100000) : Calls Try.prog 58 #[.agg #[.int .i64 s, .int .i64 i, .int .i64 t], .int .i64 n, .int .i64 l] w fun e w' => e = .returned (.int .i64 (manyI s i t n l)) ∧ Below w.heap.size w w' := by
  obtain ⟨S, rfl⟩ := nat_of s a1
  have hp := until_pos S i t l a1 a7 a3
  obtain ⟨hb0, hb1⟩ := until_bd S i t l
  go_enter Try.func58, Try.ntmps58
  go_wp2_with (go_at_call 55; refine (sUntil_any _ _ _ _ _ (by omega) (by omega) a3 a4 a5 a6).mono ?_; rintro e w' ⟨rfl, hb⟩; obtain ⟨hc, hf, hz⟩ := bcell hb; have hl : w.heap.size < w'.heap.size := Nat.lt_of_lt_of_le (by first | assumption | (simp; done) | (simp; omega)) hz)
  go_ret
  refine ⟨rfl, ?_⟩
  (repeat (first | with_reducible exact Below.refl _ _ | with_reducible assumption | refine Below.drew ?_ | refine below_drewN ?_ _ | (refine Below.alloc ?_ (by first | omega | (simp; done) | (simp; omega)) _) | (refine Below.setCell ?_ (by first | omega | (simp; done) | (simp; omega)) _) | (refine Below.trans ?_ (Below.mono (by assumption) (by first | omega | (simp; done) | (simp; omega))))))
theorem needed_any (s i t n l : Int) (w : World) (a1 : 2 ≤ s) (a2 : s ≤ 200) (a3 : 1 ≤ i) (a4 : i ≤ 1000) (a5 : 1 ≤ t) (a6 : t ≤ 1000) (a7 : l ≤ i) (a8 : 0 ≤ n) (a9 : n ≤ 100000) : Calls Try.prog 59 #[.agg #[.int .i64 s, .int .i64 i, .int .i64 t], .int .i64 n, .int .i64 l] w fun e w' => e = .returned (.int .i64 (manyI s i t n l)) ∧ Below w.heap.size w w' := by
  have hp := until_pos s i t l a1 a7 a3
  obtain ⟨hb0, hb1⟩ := until_bd s i t l
  go_enter Try.func59, Try.ntmps59
  go_wp2_with (go_at_call 56; refine (until_any _ _ _ _ _ a1 a2 a3 a4 a5 a6).mono ?_; rintro e w' ⟨rfl, hb⟩; obtain ⟨hc, hf, hz⟩ := bcell hb; have hl : w.heap.size < w'.heap.size := Nat.lt_of_lt_of_le (by first | assumption | (simp; done) | (simp; omega)) hz)
  go_ret
  refine ⟨rfl, ?_⟩
  (repeat (first | with_reducible exact Below.refl _ _ | with_reducible assumption | refine Below.drew ?_ | refine below_drewN ?_ _ | (refine Below.alloc ?_ (by first | omega | (simp; done) | (simp; omega)) _) | (refine Below.setCell ?_ (by first | omega | (simp; done) | (simp; omega)) _) | (refine Below.trans ?_ (Below.mono (by assumption) (by first | omega | (simp; done) | (simp; omega))))))

theorem sRibbons_any (s i t n l : Int) (w : World) : Calls Try.prog 32 #[.agg #[.int .i64 s, .int .i64 i, .int .i64 t], .int .i64 n, .int .i64 l] w fun e w' => e = .returned (.tuple #[.int .i64 (ribbonsR s i t n l).1, .int .i64 (ribbonsR s i t n l).2]) ∧ Below w.heap.size w w' := by
  rcases least_cases s i t l with ⟨h0, h1, h2, a1, a2, a3, a4, a5, a6, a7, a8⟩ | ⟨h0, h1, h2⟩ | ⟨h0, h1⟩
  · rcases code_cases s i t n with ⟨g0, g1, g2, b1, b2, b3, b4, b5, b6, b7, b8⟩ | ⟨g0, g1, g2⟩ | ⟨g0, g1⟩
    rotate_right
    · rw [h1] at g1; cases g1
    all_goals
      go_enter Try.func32, Try.ntmps32
      go_wp2_with (first | (go_at_call 54; refine (least_any _ _ _ _ _).mono ?_; rintro e w' ⟨rfl, hb⟩; obtain ⟨hc, hf, hz⟩ := bcell hb; have hl : w.heap.size < w'.heap.size := Nat.lt_of_lt_of_le (by first | assumption | (simp; done) | (simp; omega)) hz) | (go_at_call 46; refine (code_any _ _ _ _ _).mono ?_; rintro e w' ⟨rfl, hb⟩; obtain ⟨hc, hf, hz⟩ := bcell hb; have hl : w.heap.size < w'.heap.size := Nat.lt_of_lt_of_le (by first | assumption | (simp; done) | (simp; omega)) hz) | (go_at_call 58; refine (sMany_any _ _ _ _ _ _ a1 a2 a3 a4 a5 a6 a8 b7 b8).mono ?_; rintro e w' ⟨rfl, hb⟩; obtain ⟨hc, hf, hz⟩ := bcell hb; have hl : w.heap.size < w'.heap.size := Nat.lt_of_lt_of_le (by first | assumption | (simp; done) | (simp; omega)) hz))
      go_ret2
      refine ⟨by simp [ribbonsR, h1, h2, g2], ?_⟩
      (repeat (first | with_reducible exact Below.refl _ _ | with_reducible assumption | refine Below.drew ?_ | refine below_drewN ?_ _ | (refine Below.alloc ?_ (by first | omega | (simp; done) | (simp; omega)) _) | (refine Below.setCell ?_ (by first | omega | (simp; done) | (simp; omega)) _) | (refine Below.trans ?_ (Below.mono (by assumption) (by first | omega | (simp; done) | (simp; omega))))))
  all_goals
    go_enter Try.func32, Try.ntmps32
    go_wp2_with (first | (go_at_call 54; refine (least_any _ _ _ _ _).mono ?_; rintro e w' ⟨rfl, hb⟩; obtain ⟨hc, hf, hz⟩ := bcell hb; have hl : w.heap.size < w'.heap.size := Nat.lt_of_lt_of_le (by first | assumption | (simp; done) | (simp; omega)) hz))
    go_ret2
    refine ⟨by simp [ribbonsR, *], ?_⟩
    (repeat (first | with_reducible exact Below.refl _ _ | with_reducible assumption | refine Below.drew ?_ | refine below_drewN ?_ _ | (refine Below.alloc ?_ (by first | omega | (simp; done) | (simp; omega)) _) | (refine Below.setCell ?_ (by first | omega | (simp; done) | (simp; omega)) _) | (refine Below.trans ?_ (Below.mono (by assumption) (by first | omega | (simp; done) | (simp; omega))))))
theorem ribbons_any (s i t n l : Int) (w : World) : Calls Try.prog 33 #[.agg #[.int .i64 s, .int .i64 i, .int .i64 t], .int .i64 n, .int .i64 l] w fun e w' => e = .returned (.tuple #[.int .i64 (ribbonsR s i t n l).1, .int .i64 (ribbonsR s i t n l).2]) ∧ Below w.heap.size w w' := by
  cases h1 : okB s i t <;> cases h2 : inB n 0 100000 <;> cases h3 : inB l 1 i
  case true.true.true =>
    obtain ⟨a1, a2, a3, a4, a5, a6⟩ := okB_true h1
    obtain ⟨b1, b2⟩ := inB_true h2
    obtain ⟨b3, b4⟩ := inB_true h3
    go_enter Try.func33, Try.ntmps33
    go_wp2_with (first | (go_at_call 16; refine (valid_any _ _ _ _).mono ?_; rintro e w' ⟨rfl, hb⟩; obtain ⟨hc, hf, hz⟩ := bcell hb; have hl : w.heap.size < w'.heap.size := Nat.lt_of_lt_of_le (by first | assumption | (simp; done) | (simp; omega)) hz) | (go_at_call 45; refine (between_any _ _ _ _).mono ?_; rintro e w' ⟨rfl, rfl⟩) | (go_at_call 48; refine (isUse_any _ _).mono ?_; rintro e w' ⟨rfl, rfl⟩) | (go_at_call 59; refine (needed_any _ _ _ _ _ _ a1 a2 a3 a4 a5 a6 b4 b1 b2).mono ?_; rintro e w' ⟨rfl, hb⟩; obtain ⟨hc, hf, hz⟩ := bcell hb; have hl : w.heap.size < w'.heap.size := Nat.lt_of_lt_of_le (by first | assumption | (simp; done) | (simp; omega)) hz))
    go_ret2
    refine ⟨by simp [ribbonsR, h1, h2, h3], ?_⟩
    (repeat (first | with_reducible exact Below.refl _ _ | with_reducible assumption | refine Below.drew ?_ | refine below_drewN ?_ _ | (refine Below.alloc ?_ (by first | omega | (simp; done) | (simp; omega)) _) | (refine Below.setCell ?_ (by first | omega | (simp; done) | (simp; omega)) _) | (refine Below.trans ?_ (Below.mono (by assumption) (by first | omega | (simp; done) | (simp; omega))))))
  all_goals
    go_enter Try.func33, Try.ntmps33
    go_wp2_with (first | (go_at_call 16; refine (valid_any _ _ _ _).mono ?_; rintro e w' ⟨rfl, hb⟩; obtain ⟨hc, hf, hz⟩ := bcell hb; have hl : w.heap.size < w'.heap.size := Nat.lt_of_lt_of_le (by first | assumption | (simp; done) | (simp; omega)) hz) | (go_at_call 45; refine (between_any _ _ _ _).mono ?_; rintro e w' ⟨rfl, rfl⟩) | (go_at_call 48; refine (isUse_any _ _).mono ?_; rintro e w' ⟨rfl, rfl⟩))
    go_ret2
    refine ⟨by simp [ribbonsR, h1, h2, h3], ?_⟩
    (repeat (first | with_reducible exact Below.refl _ _ | with_reducible assumption | refine Below.drew ?_ | refine below_drewN ?_ _ | (refine Below.alloc ?_ (by first | omega | (simp; done) | (simp; omega)) _) | (refine Below.setCell ?_ (by first | omega | (simp; done) | (simp; omega)) _) | (refine Below.trans ?_ (Below.mono (by assumption) (by first | omega | (simp; done) | (simp; omega))))))
end Go.Proofs.Ytkiegcjlomppdaa
