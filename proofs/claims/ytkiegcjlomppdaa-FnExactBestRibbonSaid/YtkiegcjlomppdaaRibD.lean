/-
  The reference's search for the first stroke that is too pale: a walk over a row of counts.
-/
import Derived.Test.YtkiegcjlomppdaaRibC
namespace Go.Proofs.Ytkiegcjlomppdaa
open Go.RowKit
set_option linter.unusedVariables false
attribute [local go_sem ↓] Go.wp_at_zero Go.wp_at_succ

theorem Try.infoI64 : (Try.prog.info? 2).map (fun i => (i.zero, i.size, i.bytes)) = some (some (.int .i64 0), 1, 8) := by kernel_rfl

set_option maxHeartbeats 2000000 in
theorem sUntil_any (S : Nat) (i t l : Int) (w : World) (h1 : 2 ≤ S) (h2 : S ≤ 200) (hi1 : 1 ≤ i) (hi2 : i ≤ 1000) (ht1 : 1 ≤ t) (ht2 : t ≤ 1000) : Calls Try.prog 55 #[.agg #[.int .i64 S, .int .i64 i, .int .i64 t], .int .i64 l] w fun e w' => e = .returned (.int .i64 (untilI S i t l)) ∧ Below w.heap.size w w' := by
  obtain ⟨i0, hi, hz0, hz1, hz2⟩ := info_parts Try.infoI64
  go_enter Try.func55, Try.ntmps55
  go_wp2_with (at_make; refine wpList_make_full _ rfl _ _ 33 rfl (w.heap.size + 1) 2 i0 (.int .i64 0) 1 Try.underlying33 hi hz0 hz1 .i64 .i64 _ _ S rfl rfl rfl rfl (by rw [hz2]; omega) (by unfold maxLen; omega) (by simp) ?_; intro w1 hown hgrow)
  have hB0 : Below (w.heap.size + 1) (w.alloc (.cells #[.int .i64 S, .int .i64 i, .int .i64 t] 25)) w1 := (Below.refl _ _).grown hgrow (by simp) (by simp)
  have hown0 : w1.ownsRow (w.heap.size + 1) 2 1 (.slice (some ⟨w.heap.size + 1, 0, none⟩) S S) S (usesRow S 0) := by
    rw [usesRow_zero S h1, ← toList_madeCells_one]
    simpa [Value.cells] using hown
  clear hown hgrow hi hz0 hz1 hz2
  go_loopw [6] (fun k wr => ∃ j : Int, k = .int .i64 j ∧ 0 ≤ j ∧ j ≤ 100001 ∧ UInv S i t l j ∧ wr.ownsRow (w.heap.size + 1) 2 1 (.slice (some ⟨w.heap.size + 1, 0, none⟩) S S) S (usesRow S j) ∧ Below (w.heap.size + 1) (w.alloc (.cells #[.int .i64 S, .int .i64 i, .int .i64 t] 25)) wr) (fun k _ => (100001 - intOf k).toNat)
  case atStart => exact ⟨0, rfl, by omega, by omega, uinv_zero _ _ _ _, hown0, hB0⟩
  case round =>
    obtain ⟨j, rfl, hj1, hj2, hU, hown, hB⟩ := hrel
    obtain ⟨hc0, hc1, hc2, hlt⟩ := boxCells hB
    by_cases hjn : j ≤ 100000
    · obtain ⟨q, hq⟩ : ∃ q : Nat, spotI S j = q := ⟨(spotI S j).toNat, by have := spot_bd S j (by omega); omega⟩
      have hqS : q < S := by have := spot_bd S j (by omega); omega
      have Hq := hid hq
      clear hq
      obtain ⟨hu1, hu2⟩ := uses_bd S q j (by omega) hj1
      obtain ⟨hm1, hm2⟩ := mul_bd t (usesI S q j) ht1 ht2 hu1 (by omega)
      have e1 : IntKind.i64.wrap (t * usesI S q j) = t * usesI S q j := IntWalk.i64_in _ (by omega)
      have e2 : IntKind.i64.wrap (i - t * usesI S q j) = i - t * usesI S q j := IntWalk.i64_in _ (by omega)
      have hcq := (hown.cellAt q (by omega)).trans (usesRow_get S q j hqS)
      have hlt1 := (hown.lt _ rfl).2
      have hfq := hown.frozenAt q
      have hq0 : (0 : Int) ≤ (q : Int) := by omega
      have hqS' : (q : Int) < (S : Int) := by omega
      have hsh := hid (show shadeI S i t j = max 0 (i - t * usesI S q j) by unfold shadeI; rw [Hq.out]; omega)
      by_cases he : max 0 (i - t * usesI S q j) < l
      all_goals
        go_wp2_with (go_at_call 47; refine (sSpot_any _ _ _ _ _ (by omega) (by omega) (by omega) (by omega)).mono ?_; rw [Hq.out]; rintro e w' ⟨rfl, hb⟩; obtain ⟨hc, hf, hz⟩ := bcell hb; have hl : w.heap.size < w'.heap.size := Nat.lt_of_lt_of_le (by first | assumption | (simp; done) | (simp; omega)) hz)
        go_quiet ((go_at_call 50; exact qs (max_any _ _ _)))
        go_wp2
      · go_ret
        exact ⟨ret_int (uinv_hit hj1 hjn (by rw [hsh.out]; exact he) hU).symm, boxOut (below_drewN (boxBelow hB hb) _)⟩
      · go_roundw
        case rel => exact ⟨j + 1, rfl, by omega, by omega, uinv_next hj1 hjn (by rw [hsh.out]; omega) hU, (by rw [← usesRow_next S q j h1 hqS Hq.out]; exact (World.ownsRow.stored (owns_drewN (owns_below hown hb) _) q _).1), (below_drewN (boxBelow hB hb) _).setCell (by simp) _⟩
        case measure => simp [intOf]; omega
    · obtain rfl : j = 100001 := by omega
      go_wp2
      go_ret
      exact ⟨ret_int (uinv_full hU).symm, boxOut hB⟩
end Go.Proofs.Ytkiegcjlomppdaa
