/-
  Walks of the ribbon functions that answer a number and a code.
-/
import Derived.Test.YtkiegcjlomppdaaRibD
namespace Go.Proofs.Ytkiegcjlomppdaa
open Go.RowKit
set_option linter.unusedVariables false
attribute [local go_sem ↓] Go.wp_at_zero Go.wp_at_succ

theorem code_any (s i t n : Int) (w : World) : Calls Try.prog 46 #[.agg #[.int .i64 s, .int .i64 i, .int .i64 t], .int .i64 n] w fun e w' => e = .returned (.int .i64 (codeR s i t n)) ∧ Below w.heap.size w w' := by
  cases h1 : okB s i t <;> cases h2 : inB n 0 100000
  all_goals
    go_enter Try.func46, Try.ntmps46
    go_wp2_with (first | (go_at_call 44; refine (l14Ok_any _ _ _ _).mono ?_; rintro e w' ⟨rfl, hb⟩; obtain ⟨hc, hf, hz⟩ := bcell hb; have hl : w.heap.size < w'.heap.size := Nat.lt_of_lt_of_le (by first | assumption | (simp; done) | (simp; omega)) hz) | (go_at_call 61; refine (in_any _ _ _ _).mono ?_; rintro e w' ⟨rfl, rfl⟩))
    go_ret
    refine ⟨ret_int (by simp [codeR, h1, h2]), ?_⟩
    (repeat (first | with_reducible exact Below.refl _ _ | with_reducible assumption | refine Below.drew ?_ | refine below_drewN ?_ _ | (refine Below.alloc ?_ (by first | omega | (simp; done) | (simp; omega)) _) | (refine Below.setCell ?_ (by first | omega | (simp; done) | (simp; omega)) _) | (refine Below.trans ?_ (Below.mono (by assumption) (by first | omega | (simp; done) | (simp; omega))))))
theorem least_any (s i t l : Int) (w : World) : Calls Try.prog 54 #[.agg #[.int .i64 s, .int .i64 i, .int .i64 t], .int .i64 l] w fun e w' => e = .returned (.int .i64 (leastR s i t l)) ∧ Below w.heap.size w w' := by
  cases h1 : okB s i t <;> cases h2 : inB l 1 i
  all_goals
    go_enter Try.func54, Try.ntmps54
    go_wp2_with (first | (go_at_call 44; refine (l14Ok_any _ _ _ _).mono ?_; rintro e w' ⟨rfl, hb⟩; obtain ⟨hc, hf, hz⟩ := bcell hb; have hl : w.heap.size < w'.heap.size := Nat.lt_of_lt_of_le (by first | assumption | (simp; done) | (simp; omega)) hz) | (go_at_call 61; refine (in_any _ _ _ _).mono ?_; rintro e w' ⟨rfl, rfl⟩))
    go_ret
    refine ⟨ret_int (by simp [leastR, h1, h2]), ?_⟩
    (repeat (first | with_reducible exact Below.refl _ _ | with_reducible assumption | refine Below.drew ?_ | refine below_drewN ?_ _ | (refine Below.alloc ?_ (by first | omega | (simp; done) | (simp; omega)) _) | (refine Below.setCell ?_ (by first | omega | (simp; done) | (simp; omega)) _) | (refine Below.trans ?_ (Below.mono (by assumption) (by first | omega | (simp; done) | (simp; omega))))))

/-- the code, by cases, and what the bounds give -/
theorem code_cases (s i t n : Int) : (codeR s i t n = 0 ∧ okB s i t = true ∧ inB n 0 100000 = true ∧ 2 ≤ s ∧ s ≤ 200 ∧ 1 ≤ i ∧ i ≤ 1000 ∧ 1 ≤ t ∧ t ≤ 1000 ∧ 0 ≤ n ∧ n ≤ 100000) ∨ (codeR s i t n = 2 ∧ okB s i t = true ∧ inB n 0 100000 = false) ∨ (codeR s i t n = 1 ∧ okB s i t = false) := by
  cases h1 : okB s i t
  · exact .inr (.inr ⟨by simp [codeR, h1], rfl⟩)
  · cases h2 : inB n 0 100000
    · exact .inr (.inl ⟨by simp [codeR, h1, h2], rfl, rfl⟩)
    · obtain ⟨a, b, c, d, e, f⟩ := okB_true h1
      obtain ⟨g, h⟩ := inB_true h2
      exact .inl ⟨by simp [codeR, h1, h2], rfl, rfl, a, b, c, d, e, f, g, h⟩
theorem least_cases (s i t l : Int) : (leastR s i t l = 0 ∧ okB s i t = true ∧ inB l 1 i = true ∧ 2 ≤ s ∧ s ≤ 200 ∧ 1 ≤ i ∧ i ≤ 1000 ∧ 1 ≤ t ∧ t ≤ 1000 ∧ 1 ≤ l ∧ l ≤ i) ∨ (leastR s i t l = 2 ∧ okB s i t = true ∧ inB l 1 i = false) ∨ (leastR s i t l = 1 ∧ okB s i t = false) := by
  cases h1 : okB s i t
  · exact .inr (.inr ⟨by simp [leastR, h1], rfl⟩)
  · cases h2 : inB l 1 i
    · exact .inr (.inl ⟨by simp [leastR, h1, h2], rfl, rfl⟩)
    · obtain ⟨a, b, c, d, e, f⟩ := okB_true h1
      obtain ⟨g, h⟩ := inB_true h2
      exact .inl ⟨by simp [leastR, h1, h2], rfl, rfl, a, b, c, d, e, f, g, h⟩

theorem sSpotAt_any (s i t n : Int) (w : World) : Calls Try.prog 19 #[.agg #[.int .i64 s, .int .i64 i, .int .i64 t], .int .i64 n] w fun e w' => e = .returned (.tuple #[.int .i64 (spotAtR s i t n).1, .int .i64 (spotAtR s i t n).2]) ∧ Below w.heap.size w w' := by
  rcases code_cases s i t n with ⟨h0, h1, h2, a1, a2, a3, a4, a5, a6, a7, a8⟩ | ⟨h0, h1, h2⟩ | ⟨h0, h1⟩
  all_goals
    go_enter Try.func19, Try.ntmps19
    go_wp2_with (first | (go_at_call 46; refine (code_any _ _ _ _ _).mono ?_; rintro e w' ⟨rfl, hb⟩; obtain ⟨hc, hf, hz⟩ := bcell hb; have hl : w.heap.size < w'.heap.size := Nat.lt_of_lt_of_le (by first | assumption | (simp; done) | (simp; omega)) hz) | (go_at_call 47; refine (sSpot_any _ _ _ _ _ (by assumption) (by assumption) (by assumption) (by omega)).mono ?_; rintro e w' ⟨rfl, hb⟩; obtain ⟨hc, hf, hz⟩ := bcell hb; have hl : w.heap.size < w'.heap.size := Nat.lt_of_lt_of_le (by first | assumption | (simp; done) | (simp; omega)) hz))
    go_ret2
    refine ⟨by simp [spotAtR, h0], ?_⟩
    (repeat (first | with_reducible exact Below.refl _ _ | with_reducible assumption | refine Below.drew ?_ | refine below_drewN ?_ _ | (refine Below.alloc ?_ (by first | omega | (simp; done) | (simp; omega)) _) | (refine Below.setCell ?_ (by first | omega | (simp; done) | (simp; omega)) _) | (refine Below.trans ?_ (Below.mono (by assumption) (by first | omega | (simp; done) | (simp; omega))))))
theorem spotAt_any (s i t n : Int) (w : World) : Calls Try.prog 20 #[.agg #[.int .i64 s, .int .i64 i, .int .i64 t], .int .i64 n] w fun e w' => e = .returned (.tuple #[.int .i64 (spotAtR s i t n).1, .int .i64 (spotAtR s i t n).2]) ∧ Below w.heap.size w w' := by
  rcases code_cases s i t n with ⟨h0, h1, h2, a1, a2, a3, a4, a5, a6, a7, a8⟩ | ⟨h0, h1, h2⟩ | ⟨h0, h1⟩
  all_goals
    go_enter Try.func20, Try.ntmps20
    go_wp2_with (first | (go_at_call 16; refine (valid_any _ _ _ _).mono ?_; rintro e w' ⟨rfl, hb⟩; obtain ⟨hc, hf, hz⟩ := bcell hb; have hl : w.heap.size < w'.heap.size := Nat.lt_of_lt_of_le (by first | assumption | (simp; done) | (simp; omega)) hz) | (go_at_call 48; refine (isUse_any _ _).mono ?_; rintro e w' ⟨rfl, rfl⟩) | (go_at_call 49; refine (spot_any _ _ _ _ _ (by assumption) (by assumption) (by assumption) (by omega)).mono ?_; rintro e w' ⟨rfl, hb⟩; obtain ⟨hc, hf, hz⟩ := bcell hb; have hl : w.heap.size < w'.heap.size := Nat.lt_of_lt_of_le (by first | assumption | (simp; done) | (simp; omega)) hz))
    go_ret2
    refine ⟨by simp [spotAtR, h0], ?_⟩
    (repeat (first | with_reducible exact Below.refl _ _ | with_reducible assumption | refine Below.drew ?_ | refine below_drewN ?_ _ | (refine Below.alloc ?_ (by first | omega | (simp; done) | (simp; omega)) _) | (refine Below.setCell ?_ (by first | omega | (simp; done) | (simp; omega)) _) | (refine Below.trans ?_ (Below.mono (by assumption) (by first | omega | (simp; done) | (simp; omega))))))
end Go.Proofs.Ytkiegcjlomppdaa
