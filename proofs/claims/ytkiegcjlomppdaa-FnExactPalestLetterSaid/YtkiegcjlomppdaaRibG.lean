/-
  Walks of the ribbon functions that read a text.
-/
import Derived.Test.YtkiegcjlomppdaaRibF
import Derived.Test.YtkiegcjlomppdaaTextMath
namespace Go.Proofs.Ytkiegcjlomppdaa
open Go.RowKit
set_option linter.unusedVariables false

set_option maxHeartbeats 1000000 in
theorem sText_any (s : ByteArray) (most : Int) (w : World) (hs : s.size ≤ maxLen) : Calls Try.prog 68 #[.string s, .int .i64 most] w fun e w' => e = .returned (.bool (textB s 32 most)) ∧ w = w' := by
  unfold maxLen at hs
  go_enter Try.func68, Try.ntmps68
  go_wp2
  go_loop [5] (fun i => ∃ k : Nat, k ≤ s.size ∧ i = .int .i64 k ∧ UpTo (gb 32) s k) (fun i => s.size - (intOf i).toNat)
  case atStart => exact ⟨0, Nat.zero_le _, rfl, upto_zero _ _⟩
  case round =>
    obtain ⟨k, hk, rfl, hu⟩ := hrel
    by_cases hlt : k < s.size
    · by_cases h1 : ((s[k].toNat : Nat) : Int) < 32
      · go_wp2
        go_ret
        exact ⟨ret_bool (by simp [textB, upto_bad hlt (gb_lo h1)]), rfl⟩
      · by_cases h2 : (126 : Int) < ((s[k].toNat : Nat) : Int)
        · go_wp2
          go_ret
          exact ⟨ret_bool (by simp [textB, upto_bad hlt (gb_hi h2)]), rfl⟩
        · go_wp2
          go_round
          case rel => exact ⟨k + 1, by omega, by go_num, upto_next hlt (gb_true (by omega) (by omega)) hu⟩
          case measure => simp [intOf]; omega
    · obtain rfl : k = s.size := by omega
      go_wp2
      go_ret
      exact ⟨ret_bool (by simp [textB, upto_all hu]), rfl⟩
set_option maxHeartbeats 1000000 in
theorem isText_any (s : ByteArray) (lo most : Int) (w : World) (hs : s.size ≤ maxLen) (hlo : 0 ≤ lo) (hlo2 : lo ≤ 255) : Calls Try.prog 69 #[.string s, .int .u8 lo, .int .i64 most] w fun e w' => e = .returned (.bool (textB s lo most)) ∧ w = w' := by
  unfold maxLen at hs
  by_cases hm : most < (s.size : Int)
  · go_enter Try.func69, Try.ntmps69
    go_wp2
    go_ret
    exact ⟨ret_bool (by simp [textB]; omega), rfl⟩
  · have hm2 : (s.size : Int) ≤ most := by omega
    clear hm
    go_enter Try.func69, Try.ntmps69
    go_wp2
    go_loop [7, 14] (fun _ i => ∃ k : Nat, k ≤ s.size ∧ i = .int .i64 k ∧ UpTo (gb lo) s k) (fun _ i => s.size - (intOf i).toNat)
    case atStart => exact ⟨0, Nat.zero_le _, rfl, upto_zero _ _⟩
    case round =>
      obtain ⟨k, hk, rfl, hu⟩ := hrel
      by_cases hlt : k < s.size
      · by_cases h1 : ((s[k].toNat : Nat) : Int) < lo
        · go_wp2
          go_ret
          exact ⟨ret_bool (by simp [textB, upto_bad hlt (gb_lo h1)]), rfl⟩
        · by_cases h2 : (126 : Int) < ((s[k].toNat : Nat) : Int)
          · go_wp2
            go_ret
            exact ⟨ret_bool (by simp [textB, upto_bad hlt (gb_hi h2)]), rfl⟩
          · go_wp2
            go_round
            case rel => exact ⟨k + 1, by omega, by go_num, upto_next hlt (gb_true (by omega) (by omega)) hu⟩
            case measure => simp [intOf]; omega
      · obtain rfl : k = s.size := by omega
        go_wp2
        go_ret
        exact ⟨ret_bool (by simp [textB, upto_all hu, hm2]), rfl⟩

theorem col_bad {c : UInt8} (h1 : ((c.toNat : Int) != 98) = true) (h2 : ((c.toNat : Int) != 114) = true) (h3 : ((c.toNat : Int) != 32) = true) : colB c = false := by
  simp at h1 h2 h3
  simp [colB]; omega

set_option maxHeartbeats 2000000 in
theorem sColour_any (s : ByteArray) (w : World) (hs : s.size ≤ maxLen) : Calls Try.prog 17 #[.string s] w fun e w' => e = .returned (.tuple #[.int .i64 (colR s).1, .int .i64 (colR s).2]) ∧ w = w' := by
  unfold maxLen at hs
  go_enter Try.func17, Try.ntmps17
  go_wp2
  go_loop [4] (fun i => ∃ k : Nat, k ≤ s.size ∧ i = .int .i64 k ∧ UpTo colB s k) (fun i => s.size - (intOf i).toNat)
  case atStart => exact ⟨0, Nat.zero_le _, rfl, upto_zero _ _⟩
  case round =>
    obtain ⟨k, hk, rfl, hu⟩ := hrel
    by_cases hlt : k < s.size
    · cases h1 : ((s[k].toNat : Int) != 98) <;> cases h2 : ((s[k].toNat : Int) != 114) <;> cases h3 : ((s[k].toNat : Int) != 32)
      case true.true.true =>
        go_wp2
        go_ret2
        exact ⟨by simp [colR, upto_bad hlt (col_bad h1 h2 h3)], rfl⟩
      all_goals
        have hg := hid (show colB s[k] = true by simp at h1 h2 h3; simp [colB]; omega)
        go_wp2
        go_round
        case rel => exact ⟨k + 1, by omega, by go_num, upto_next hlt hg.out hu⟩
        case measure => simp [intOf]; omega
    · obtain rfl : k = s.size := by omega
      have ha := hid (upto_all hu)
      by_cases h10 : (1000 : Int) < (s.size : Int)
      · go_wp2
        go_ret2
        exact ⟨by simp only [colR, ha.out, if_true]; split <;> simp <;> omega, rfl⟩
      · have hsz := h10
        clear hu hk
        go_wp2
        go_loop [5, 6, 7] (fun n c i => ∃ k : Nat, k ≤ s.size ∧ i = .int .i64 k ∧ c = .int .u8 (colRuns s k).1 ∧ n = .int .i64 (colRuns s k).2) (fun _ _ i => s.size - (intOf i).toNat)
        case atStart => exact ⟨0, Nat.zero_le _, rfl, rfl, rfl⟩
        case round =>
          obtain ⟨k, hk, rfl, rfl, rfl⟩ := hrel
          obtain ⟨hb1, hb2⟩ := colRuns_bd s k
          by_cases hlt : k < s.size
          · have hn := hid (colRuns_next hlt)
            cases h1 : ((s[k].toNat : Int) != 32) <;> cases h2 : ((s[k].toNat : Int) != (colRuns s k).1)
            case true.true =>
              have hst := hid (hn.out.trans (colStep_new (by simpa using h1) (by simpa using h2)))
              go_wp2
              go_round
              case rel => exact ⟨k + 1, by omega, by go_num, by rw [hst.out], by rw [hst.out]⟩
              case measure => simp [intOf]; omega
            all_goals
              have hst := hid (hn.out.trans (colStep_same (by simp at h1 h2; omega)))
              go_wp2
              go_round
              case rel => exact ⟨k + 1, by omega, by go_num, by rw [hst.out], by rw [hst.out]⟩
              case measure => simp [intOf]; omega
          · obtain rfl : k = s.size := by omega
            go_wp2
            go_ret2
            exact ⟨by simp only [colR, ha.out, if_true]; split <;> simp <;> omega, rfl⟩
set_option maxHeartbeats 2000000 in
theorem colour_any (s : ByteArray) (w : World) (hs : s.size ≤ maxLen) : Calls Try.prog 18 #[.string s] w fun e w' => e = .returned (.tuple #[.int .i64 (colR s).1, .int .i64 (colR s).2]) ∧ w = w' := by
  unfold maxLen at hs
  go_enter Try.func18, Try.ntmps18
  go_wp2
  go_loop [4, 5, 12] (fun _ _ i => ∃ k : Nat, k ≤ s.size ∧ i = .int .i64 k ∧ UpTo colB s k) (fun _ _ i => s.size - (intOf i).toNat)
  case atStart => exact ⟨0, Nat.zero_le _, rfl, upto_zero _ _⟩
  case round =>
    obtain ⟨k, hk, rfl, hu⟩ := hrel
    by_cases hlt : k < s.size
    · cases h1 : ((s[k].toNat : Int) != 98) <;> cases h2 : ((s[k].toNat : Int) != 114) <;> cases h3 : ((s[k].toNat : Int) != 32)
      case true.true.true =>
        go_wp2
        go_ret2
        exact ⟨by simp [colR, upto_bad hlt (col_bad h1 h2 h3)], rfl⟩
      all_goals
        have hg := hid (show colB s[k] = true by simp at h1 h2 h3; simp [colB]; omega)
        go_wp2
        go_round
        case rel => exact ⟨k + 1, by omega, by go_num, upto_next hlt hg.out hu⟩
        case measure => simp [intOf]; omega
    · obtain rfl : k = s.size := by omega
      have ha := hid (upto_all hu)
      by_cases h10 : (1000 : Int) < (s.size : Int)
      · go_wp2
        go_ret2
        exact ⟨by simp only [colR, ha.out, if_true]; split <;> simp <;> omega, rfl⟩
      · have hsz := h10
        clear hu hk
        go_wp2
        go_loop [6, 7, 8, 9, 34] (fun c n _ _ i => ∃ k : Nat, k ≤ s.size ∧ i = .int .i64 k ∧ c = .int .u8 (colRuns s k).1 ∧ n = .int .i64 (colRuns s k).2) (fun _ _ _ _ i => s.size - (intOf i).toNat)
        case atStart => exact ⟨0, Nat.zero_le _, rfl, rfl, rfl⟩
        case round =>
          obtain ⟨k, hk, rfl, rfl, rfl⟩ := hrel
          obtain ⟨hb1, hb2⟩ := colRuns_bd s k
          by_cases hlt : k < s.size
          · have hn := hid (colRuns_next hlt)
            cases h1 : ((s[k].toNat : Int) != 32) <;> cases h2 : ((s[k].toNat : Int) != (colRuns s k).1)
            case true.true =>
              have hst := hid (hn.out.trans (colStep_new (by simpa using h1) (by simpa using h2)))
              go_wp2
              go_round
              case rel => exact ⟨k + 1, by omega, by go_num, by rw [hst.out], by rw [hst.out]⟩
              case measure => simp [intOf]; omega
            all_goals
              have hst := hid (hn.out.trans (colStep_same (by simp at h1 h2; omega)))
              go_wp2
              go_round
              case rel => exact ⟨k + 1, by omega, by go_num, by rw [hst.out], by rw [hst.out]⟩
              case measure => simp [intOf]; omega
          · obtain rfl : k = s.size := by omega
            go_wp2
            go_ret2
            exact ⟨by simp only [colR, ha.out, if_true]; split <;> simp <;> omega, rfl⟩
end Go.Proofs.Ytkiegcjlomppdaa
