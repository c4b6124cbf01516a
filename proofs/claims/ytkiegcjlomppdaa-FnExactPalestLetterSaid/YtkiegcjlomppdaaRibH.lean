/-
  Walks of the ribbon functions that answer rows of numbers.
-/
import Derived.Test.YtkiegcjlomppdaaRibG
import Derived.Test.YtkiegcjlomppdaaSl64
import Derived.Test.YtkiegcjlomppdaaMem2
namespace Go.Proofs.Ytkiegcjlomppdaa
open Go.RowKit
set_option linter.unusedVariables false

def usesL (s i t n : Int) : List Int := if codeR s i t n = 0 then (List.range s.toNat).map (fun p : Nat => usesI s p n) else []
theorem usesL_next (s n : Int) (j : Nat) : i64s ((List.range (j + 1)).map (fun p : Nat => usesI s p n)) = i64s ((List.range j).map (fun p : Nat => usesI s p n)) ++ [.int .i64 (usesI s j n)] := by
  simp [i64s, List.range_succ]
set_option maxHeartbeats 2000000 in
theorem sUses_any (s i t n : Int) (w : World) : Calls Try.prog 27 #[.agg #[.int .i64 s, .int .i64 i, .int .i64 t], .int .i64 n] w (RowRet w.heap.size 2 w (i64s (usesL s i t n)) (codeR s i t n)) := by
  obtain ⟨i0, hi, hz0, hz1, hz2⟩ := info_parts Try.infoInt64
  rcases code_cases s i t n with ⟨h0, h1, h2, a1, a2, a3, a4, a5, a6, a7, a8⟩ | ⟨h0, h1, h2⟩ | ⟨h0, h1⟩
  · obtain ⟨S, rfl⟩ := nat_of s a1
    go_enter Try.func27, Try.ntmps27
    go_wp2_with (first | (go_at_call 46; refine (code_any _ _ _ _ _).mono ?_; rintro e w' ⟨rfl, hb⟩; obtain ⟨hc, hf, hz⟩ := bcell hb; have hl : w.heap.size < w'.heap.size := Nat.lt_of_lt_of_le (by first | assumption | (simp; done) | (simp; omega)) hz))
    go_loopw [7, 8] (fun v k wr => ∃ j : Nat, j ≤ S ∧ k = .int .i64 j ∧ wr.ownsRow (w.heap.size + 1) 2 1 v j (i64s ((List.range j).map (fun p : Nat => usesI S p n))) ∧ Below (w.heap.size + 1) (w.alloc (.cells #[.int .i64 S, .int .i64 i, .int .i64 t] 25)) wr) (fun _ k _ => S - (intOf k).toNat)
    case atStart => exact ⟨0, Nat.zero_le _, rfl, World.ownsRow_made _ _ _ (by omega) (by unfold maxLen; omega) rfl, (hb.mono (by simp)).alloc (by omega) _⟩
    case round =>
      obtain ⟨j, hj, rfl, hown, hB⟩ := hrel
      obtain ⟨hc0, hc1, hc2, hlt⟩ := boxCells hB
      by_cases hjs : j < S
      · have hnx := hid (usesL_next S n j)
        go_wp2_with (first | (go_at_call 57; refine (before_any _ _ _ _ _ _ a1 a2 a7 (by omega) (by omega) (by omega)).mono ?_; rintro e w' ⟨rfl, hb⟩; obtain ⟨hc, hf, hz⟩ := bcell hb; have hl : w.heap.size < w'.heap.size := Nat.lt_of_lt_of_le (by first | assumption | (simp; done) | (simp; omega)) hz; have hown2 := owns_below hown hb) | (at_builtin; refine wpList_append_own _ rfl _ _ 33 rfl (w.heap.size + 1) 2 i0 (.int .i64 0) 1 8 Try.underlying33 hi hz0 hz1 hz2 rfl (by decide) _ _ _ rfl (hown2.alloc _) ⟨w'.heap.size, 0, none⟩ 1 1 [.int .i64 (usesI S j n)] rfl rfl (one_new _ _ _) (one_ok _ _) (by unfold maxLen; omega) (by omega) (by simp; omega) ?_; intro v' w2 hown3 hgrow3 _))
        go_roundw
        case rel => exact ⟨j + 1, by omega, by go_num, by rw [hnx.out]; exact hown3, below_grown ((boxBelow hB hb).alloc (by omega) _) (by simp; omega) (hown2.alloc _) hgrow3⟩
        case measure => simp [intOf]; omega
      · obtain rfl : j = S := by omega
        go_wp2
        go_ret2
        have hx : i64s (usesL j i t n) = i64s ((List.range j).map (fun p : Nat => usesI j p n)) := by simp [usesL, h0]
        rw [hx, h0]
        exact rowRet_mk (owns_mono hown (by omega)) (boxOut hB)
  all_goals
    go_enter Try.func27, Try.ntmps27
    go_wp2_with (go_at_call 46; refine (code_any _ _ _ _ _).mono ?_; rintro e w' ⟨rfl, hb⟩; obtain ⟨hc, hf, hz⟩ := bcell hb; have hl : w.heap.size < w'.heap.size := Nat.lt_of_lt_of_le (by first | assumption | (simp; done) | (simp; omega)) hz)
    go_ret2
    have hx : i64s (usesL s i t n) = [] := by simp [usesL, h0, i64s]
    rw [hx]
    exact ⟨none, 0, by simp [h0], World.ownsRow_nil _ _ _ _, by (repeat (first | with_reducible exact Below.refl _ _ | with_reducible assumption | refine Below.drew ?_ | refine below_drewN ?_ _ | (refine Below.alloc ?_ (by first | omega | (simp; done) | (simp; omega)) _) | (refine Below.setCell ?_ (by first | omega | (simp; done) | (simp; omega)) _) | (refine Below.trans ?_ (Below.mono (by assumption) (by first | omega | (simp; done) | (simp; omega))))))⟩
set_option maxHeartbeats 2000000 in
theorem uses2_any (s i t n : Int) (w : World) : Calls Try.prog 28 #[.agg #[.int .i64 s, .int .i64 i, .int .i64 t], .int .i64 n] w (RowRet w.heap.size 2 w (i64s (usesL s i t n)) (codeR s i t n)) := by
  obtain ⟨i0, hi, hz0, hz1, hz2⟩ := info_parts Try.infoInt64
  rcases code_cases s i t n with ⟨h0, h1, h2, a1, a2, a3, a4, a5, a6, a7, a8⟩ | ⟨h0, h1, h2⟩ | ⟨h0, h1⟩
  · obtain ⟨S, rfl⟩ := nat_of s a1
    go_enter Try.func28, Try.ntmps28
    go_wp2_with (first | (go_at_call 16; refine (valid_any _ _ _ _).mono ?_; rintro e w' ⟨rfl, hb⟩; obtain ⟨hc, hf, hz⟩ := bcell hb; have hl : w.heap.size < w'.heap.size := Nat.lt_of_lt_of_le (by first | assumption | (simp; done) | (simp; omega)) hz) | (go_at_call 48; refine (isUse_any _ _).mono ?_; rintro e w' ⟨rfl, rfl⟩))
    go_loopw [6, 7, 17] (fun v _ k wr => ∃ j : Nat, j ≤ S ∧ k = .int .i64 j ∧ wr.ownsRow (w.heap.size + 1) 2 1 v j (i64s ((List.range j).map (fun p : Nat => usesI S p n))) ∧ Below (w.heap.size + 1) (w.alloc (.cells #[.int .i64 S, .int .i64 i, .int .i64 t] 25)) wr) (fun _ _ k _ => S - (intOf k).toNat)
    case atStart => exact ⟨0, Nat.zero_le _, rfl, World.ownsRow_made _ _ _ (by omega) (by unfold maxLen; omega) rfl, (hb.mono (by simp)).alloc (by omega) _⟩
    case round =>
      obtain ⟨j, hj, rfl, hown, hB⟩ := hrel
      obtain ⟨hc0, hc1, hc2, hlt⟩ := boxCells hB
      by_cases hjs : j < S
      · have hnx := hid (usesL_next S n j)
        go_wp2_with (first | (go_at_call 51; refine (uses_any _ _ _ _ _ _ a1 a2 a7 (by omega) (by omega) (by omega)).mono ?_; rintro e w' ⟨rfl, hb⟩; obtain ⟨hc, hf, hz⟩ := bcell hb; have hl : w.heap.size < w'.heap.size := Nat.lt_of_lt_of_le (by first | assumption | (simp; done) | (simp; omega)) hz; have hown2 := owns_below hown hb) | (at_builtin; refine wpList_append_own _ rfl _ _ 33 rfl (w.heap.size + 1) 2 i0 (.int .i64 0) 1 8 Try.underlying33 hi hz0 hz1 hz2 rfl (by decide) _ _ _ rfl (hown2.alloc _) ⟨w'.heap.size, 0, none⟩ 1 1 [.int .i64 (usesI S j n)] rfl rfl (one_new _ _ _) (one_ok _ _) (by unfold maxLen; omega) (by omega) (by simp; omega) ?_; intro v' w2 hown3 hgrow3 _))
        go_roundw
        case rel => exact ⟨j + 1, by omega, by go_num, by rw [hnx.out]; exact hown3, below_grown ((boxBelow hB hb).alloc (by omega) _) (by simp; omega) (hown2.alloc _) hgrow3⟩
        case measure => simp [intOf]; omega
      · obtain rfl : j = S := by omega
        go_wp2
        go_ret2
        have hx : i64s (usesL j i t n) = i64s ((List.range j).map (fun p : Nat => usesI j p n)) := by simp [usesL, h0]
        rw [hx, h0]
        exact rowRet_mk (owns_mono hown (by omega)) (boxOut hB)
  all_goals
    go_enter Try.func28, Try.ntmps28
    go_wp2_with (first | (go_at_call 16; refine (valid_any _ _ _ _).mono ?_; rintro e w' ⟨rfl, hb⟩; obtain ⟨hc, hf, hz⟩ := bcell hb; have hl : w.heap.size < w'.heap.size := Nat.lt_of_lt_of_le (by first | assumption | (simp; done) | (simp; omega)) hz) | (go_at_call 48; refine (isUse_any _ _).mono ?_; rintro e w' ⟨rfl, rfl⟩))
    go_ret2
    have hx : i64s (usesL s i t n) = [] := by simp [usesL, h0, i64s]
    rw [hx]
    exact ⟨none, 0, by simp [h0], World.ownsRow_nil _ _ _ _, by (repeat (first | with_reducible exact Below.refl _ _ | with_reducible assumption | refine Below.drew ?_ | refine below_drewN ?_ _ | (refine Below.alloc ?_ (by first | omega | (simp; done) | (simp; omega)) _) | (refine Below.setCell ?_ (by first | omega | (simp; done) | (simp; omega)) _) | (refine Below.trans ?_ (Below.mono (by assumption) (by first | omega | (simp; done) | (simp; omega))))))⟩

/-- the shades of a text's letters: what is done, and the row so far -/
def shStep (s i t : Int) (a : Int × List Int) (c : UInt8) : Int × List Int := if (c.toNat : Int) = 32 then (a.1, a.2 ++ [0]) else (a.1 + 1, a.2 ++ [shadeI s i t a.1])
def shRun (s i t n : Int) (x : ByteArray) (k : Nat) : Int × List Int := (x.data.toList.take k).foldl (shStep s i t) (n, [])
theorem shRun_next {s i t n : Int} {x : ByteArray} {k : Nat} (h : k < x.size) : shRun s i t n x (k + 1) = shStep s i t (shRun s i t n x k) x[k] := by
  unfold shRun
  rw [take_snoc x k h, List.foldl_append]
  rfl
theorem shStep_blank {s i t : Int} {a : Int × List Int} {c : UInt8} (h : (c.toNat : Int) = 32) : shStep s i t a c = (a.1, a.2 ++ [0]) := by rw [shStep, if_pos h]
theorem shStep_ink {s i t : Int} {a : Int × List Int} {c : UInt8} (h : ¬ (c.toNat : Int) = 32) : shStep s i t a c = (a.1 + 1, a.2 ++ [shadeI s i t a.1]) := by rw [shStep, if_neg h]
theorem shRun_bd (s i t n : Int) (x : ByteArray) (k : Nat) (hk : k ≤ x.size) : n ≤ (shRun s i t n x k).1 ∧ (shRun s i t n x k).1 ≤ n + k ∧ (shRun s i t n x k).2.length = k := by
  induction k with
  | zero => simp [shRun]
  | succ k ih =>
    have := ih (by omega)
    rw [shRun_next (by omega), shStep]
    split
    · simp; omega
    · simp; omega
theorem i64s_snoc (xs : List Int) (y : Int) : i64s (xs ++ [y]) = i64s xs ++ [.int .i64 y] := by simp [i64s]

set_option maxHeartbeats 2000000 in
theorem sShades_any (s i t n : Int) (x : ByteArray) (w : World) (a1 : 2 ≤ s) (a2 : s ≤ 200) (a3 : 1 ≤ i) (a4 : i ≤ 1000) (a5 : 1 ≤ t) (a6 : t ≤ 1000) (a7 : 0 ≤ n) (a8 : n ≤ 100000) (hx : x.size ≤ 100) : Calls Try.prog 62 #[.agg #[.int .i64 s, .int .i64 i, .int .i64 t], .int .i64 n, .string x] w (RowRet1 w.heap.size 2 w (i64s (shRun s i t n x x.size).2)) := by
  obtain ⟨i0, hi, hz0, hz1, hz2⟩ := info_parts Try.infoInt64
  go_enter Try.func62, Try.ntmps62
  go_wp2
  go_loopw [1, 7, 8] (fun d v k wr => ∃ j : Nat, j ≤ x.size ∧ k = .int .i64 j ∧ d = .int .i64 (shRun s i t n x j).1 ∧ wr.ownsRow (w.heap.size + 1) 2 1 v j (i64s (shRun s i t n x j).2) ∧ Below (w.heap.size + 1) (w.alloc (.cells #[.int .i64 s, .int .i64 i, .int .i64 t] 25)) wr) (fun _ _ k _ => x.size - (intOf k).toNat)
  case atStart => exact ⟨0, Nat.zero_le _, rfl, rfl, owns_lit0 _ _ _ _ (by omega), (Below.refl _ _).alloc (by simp) _⟩
  case round =>
    obtain ⟨j, hj, rfl, rfl, hown, hB⟩ := hrel
    obtain ⟨hc0, hc1, hc2, hlt⟩ := boxCells hB
    obtain ⟨hd1, hd2, hd3⟩ := shRun_bd s i t n x j hj
    have Hd3 := hid hd3
    clear hd3
    by_cases hjs : j < x.size
    · have hn := hid (shRun_next (s := s) (i := i) (t := t) (n := n) hjs)
      cases hb32 : ((x[j].toNat : Int) == 32)
      · have hst := hid (hn.out.trans (shStep_ink (by simpa using hb32)))
        go_wp2_with (first | (go_at_call 52; refine (sShade_any _ _ _ _ _ a1 a2 a3 a4 a5 a6 (by omega) (by omega)).mono ?_; rintro e w' ⟨rfl, hb⟩; obtain ⟨hc, hf, hz⟩ := bcell hb; have hl : w.heap.size < w'.heap.size := Nat.lt_of_lt_of_le (by first | assumption | (simp; done) | (simp; omega)) hz; have hown2 := owns_below hown hb) | (at_builtin; refine wpList_append_own _ rfl _ _ 33 rfl (w.heap.size + 1) 2 i0 (.int .i64 0) 1 8 Try.underlying33 hi hz0 hz1 hz2 rfl (by decide) _ _ _ rfl (hown2.alloc _) ⟨w'.heap.size, 0, none⟩ 1 1 [.int .i64 (shadeI s i t (shRun s i t n x j).1)] rfl rfl (one_new _ _ _) (one_ok _ _) (by unfold maxLen; omega) (by omega) (by simp; omega) ?_; intro v' w2 hown3 hgrow3 _))
        go_roundw
        case rel => exact ⟨j + 1, by omega, by go_num, by rw [hst.out], by rw [hst.out, i64s_snoc]; exact hown3, below_grown ((boxBelow hB hb).alloc (by omega) _) (by simp; omega) (hown2.alloc _) hgrow3⟩
        case measure => simp [intOf]; omega
      · have hst := hid (hn.out.trans (shStep_blank (by simpa using hb32)))
        go_wp2_with (first | (at_builtin; refine wpList_append_own _ rfl _ _ 33 rfl (w.heap.size + 1) 2 i0 (.int .i64 0) 1 8 Try.underlying33 hi hz0 hz1 hz2 rfl (by decide) _ _ _ rfl (hown.alloc _) ⟨wr.heap.size, 0, none⟩ 1 1 [.int .i64 0] rfl rfl (one_new _ _ _) (one_ok _ _) (by unfold maxLen; omega) (by omega) (by simp; omega) ?_; intro v' w2 hown3 hgrow3 _))
        go_roundw
        case rel => exact ⟨j + 1, by omega, by go_num, by rw [hst.out], by rw [hst.out, i64s_snoc]; exact hown3, below_grown (hB.alloc (by omega) _) (by simp; omega) (hown.alloc _) hgrow3⟩
        case measure => simp [intOf]; omega
    · obtain rfl : j = x.size := by omega
      go_wp2
      go_ret
      exact rowRet1_mk (owns_mono hown (by omega)) (boxOut hB)
set_option maxHeartbeats 2000000 in
theorem shades_any (s i t n : Int) (x : ByteArray) (w : World) (a1 : 2 ≤ s) (a2 : s ≤ 200) (a3 : 1 ≤ i) (a4 : i ≤ 1000) (a5 : 1 ≤ t) (a6 : t ≤ 1000) (a7 : 0 ≤ n) (a8 : n ≤ 100000) (hx : x.size ≤ 100) : Calls Try.prog 64 #[.agg #[.int .i64 s, .int .i64 i, .int .i64 t], .int .i64 n, .string x] w (RowRet1 w.heap.size 2 w (i64s (shRun s i t n x x.size).2)) := by
  obtain ⟨i0, hi, hz0, hz1, hz2⟩ := info_parts Try.infoInt64
  go_enter Try.func64, Try.ntmps64
  go_wp2
  go_loopw [1, 7, 8, 12] (fun d v _ k wr => ∃ j : Nat, j ≤ x.size ∧ k = .int .i64 j ∧ d = .int .i64 (shRun s i t n x j).1 ∧ wr.ownsRow (w.heap.size + 1) 2 1 v j (i64s (shRun s i t n x j).2) ∧ Below (w.heap.size + 1) (w.alloc (.cells #[.int .i64 s, .int .i64 i, .int .i64 t] 25)) wr) (fun _ _ _ k _ => x.size - (intOf k).toNat)
  case atStart => exact ⟨0, Nat.zero_le _, rfl, rfl, owns_lit0 _ _ _ _ (by omega), (Below.refl _ _).alloc (by simp) _⟩
  case round =>
    obtain ⟨j, hj, rfl, rfl, hown, hB⟩ := hrel
    obtain ⟨hc0, hc1, hc2, hlt⟩ := boxCells hB
    obtain ⟨hd1, hd2, hd3⟩ := shRun_bd s i t n x j hj
    have Hd3 := hid hd3
    clear hd3
    by_cases hjs : j < x.size
    · have hn := hid (shRun_next (s := s) (i := i) (t := t) (n := n) hjs)
      cases hb32 : ((x[j].toNat : Int) == 32)
      · have hst := hid (hn.out.trans (shStep_ink (by simpa using hb32)))
        go_wp2_with (first | (go_at_call 53; refine (shade_any _ _ _ _ _ a1 a2 a3 a4 a5 a6 (by omega) (by omega)).mono ?_; rintro e w' ⟨rfl, hb⟩; obtain ⟨hc, hf, hz⟩ := bcell hb; have hl : w.heap.size < w'.heap.size := Nat.lt_of_lt_of_le (by first | assumption | (simp; done) | (simp; omega)) hz; have hown2 := owns_below hown hb) | (at_builtin; refine wpList_append_own _ rfl _ _ 33 rfl (w.heap.size + 1) 2 i0 (.int .i64 0) 1 8 Try.underlying33 hi hz0 hz1 hz2 rfl (by decide) _ _ _ rfl (hown2.alloc _) ⟨w'.heap.size, 0, none⟩ 1 1 [.int .i64 (shadeI s i t (shRun s i t n x j).1)] rfl rfl (one_new _ _ _) (one_ok _ _) (by unfold maxLen; omega) (by omega) (by simp; omega) ?_; intro v' w2 hown3 hgrow3 _))
        go_roundw
        case rel => exact ⟨j + 1, by omega, by go_num, by rw [hst.out], by rw [hst.out, i64s_snoc]; exact hown3, below_grown ((boxBelow hB hb).alloc (by omega) _) (by simp; omega) (hown2.alloc _) hgrow3⟩
        case measure => simp [intOf]; omega
      · have hst := hid (hn.out.trans (shStep_blank (by simpa using hb32)))
        go_wp2_with (first | (at_builtin; refine wpList_append_own _ rfl _ _ 33 rfl (w.heap.size + 1) 2 i0 (.int .i64 0) 1 8 Try.underlying33 hi hz0 hz1 hz2 rfl (by decide) _ _ _ rfl (hown.alloc _) ⟨wr.heap.size, 0, none⟩ 1 1 [.int .i64 0] rfl rfl (one_new _ _ _) (one_ok _ _) (by unfold maxLen; omega) (by omega) (by simp; omega) ?_; intro v' w2 hown3 hgrow3 _))
        go_roundw
        case rel => exact ⟨j + 1, by omega, by go_num, by rw [hst.out], by rw [hst.out, i64s_snoc]; exact hown3, below_grown (hB.alloc (by omega) _) (by simp; omega) (hown.alloc _) hgrow3⟩
        case measure => simp [intOf]; omega
    · obtain rfl : j = x.size := by omega
      go_wp2
      go_ret
      exact rowRet1_mk (owns_mono hown (by omega)) (boxOut hB)
end Go.Proofs.Ytkiegcjlomppdaa
