/-
  Walks of the abbreviations' functions: words, one abbreviation.
-/
import Derived.Test.YtnjdoedhhpkjhaaMem
import Derived.Test.YtnjdoedhhpkjhaaMem2
import Derived.Test.YtnjdoedhhpkjhaaAbMath
namespace Go.Proofs.Ytnjdoedhhpkjhaa
open Go.RowKit
set_option linter.unusedVariables false

def inB (n lo hi : Int) : Bool := decide (lo ≤ n ∧ n ≤ hi)
theorem in_any (n lo hi : Int) (w : World) : Calls Try.prog 117 #[.int .i64 n, .int .i64 lo, .int .i64 hi] w fun e w' => e = .returned (.bool (inB n lo hi)) ∧ w = w' := by
  by_cases h1 : lo ≤ n <;> by_cases h2 : n ≤ hi
  all_goals
    go_enter Try.func117, Try.ntmps117
    go_wp2
    go_ret
    exact ⟨by simp [inB, h1, h2], rfl⟩
theorem small_any (c : UInt8) (w : World) : Calls Try.prog 116 #[.int .u8 c.toNat] w fun e w' => e = .returned (.bool (sm c)) ∧ w = w' := by
  by_cases h1 : (97 : Int) ≤ (c.toNat : Int) <;> by_cases h2 : (c.toNat : Int) ≤ 122
  all_goals
    go_enter Try.func116, Try.ntmps116
    go_wp2
    go_ret
    exact ⟨ret_bool (by simp [sm]; omega), rfl⟩

set_option maxHeartbeats 1000000 in
theorem sWord_any (s : ByteArray) (most : Int) (w : World) (hs : s.size ≤ maxLen) : Calls Try.prog 81 #[.string s, .int .i64 most] w fun e w' => e = .returned (.bool (wordB s most)) ∧ w = w' := by
  unfold maxLen at hs
  go_enter Try.func81, Try.ntmps81
  go_wp2
  go_loop [5] (fun i => ∃ k : Nat, k ≤ s.size ∧ i = .int .i64 k ∧ UpTo sm s k) (fun i => s.size - (intOf i).toNat)
  case atStart => exact ⟨0, Nat.zero_le _, rfl, upto_zero _ _⟩
  case round =>
    obtain ⟨k, hk, rfl, hu⟩ := hrel
    by_cases hlt : k < s.size
    · cases h1 : sm s[k]
      · have hb := hid (upto_bad hlt h1)
        go_wp2_with (go_at_call 116; refine (small_any _ _).mono ?_; rintro e w' ⟨rfl, rfl⟩)
        go_ret
        exact ⟨ret_bool (by simp [wordB, hb.out]), rfl⟩
      · have hb := hid (upto_next hlt h1 hu)
        go_wp2_with (go_at_call 116; refine (small_any _ _).mono ?_; rintro e w' ⟨rfl, rfl⟩)
        go_round
        case rel => exact ⟨k + 1, by omega, by go_num, hb.out⟩
        case measure => simp [intOf]; omega
    · obtain rfl : k = s.size := by omega
      have ha := hid (upto_all hu)
      go_wp2_with (go_at_call 117; refine (in_any _ _ _ _).mono ?_; rintro e w' ⟨rfl, rfl⟩)
      go_ret
      exact ⟨ret_bool (by simp [wordB, ha.out, inB]), rfl⟩
set_option maxHeartbeats 1000000 in
theorem smallWord_any (s : ByteArray) (w : World) (hs : s.size ≤ maxLen) : Calls Try.prog 84 #[.string s] w fun e w' => e = .returned (.bool (wordB s 30)) ∧ w = w' := by
  unfold maxLen at hs
  go_enter Try.func84, Try.ntmps84
  go_wp2
  go_loop [3, 6] (fun _ i => ∃ k : Nat, k ≤ s.size ∧ i = .int .i64 k ∧ UpTo sm s k) (fun _ i => s.size - (intOf i).toNat)
  case atStart => exact ⟨0, Nat.zero_le _, rfl, upto_zero _ _⟩
  case round =>
    obtain ⟨k, hk, rfl, hu⟩ := hrel
    by_cases hlt : k < s.size
    · by_cases h1 : ((s[k].toNat : Nat) : Int) < 97
      · have hb := hid (upto_bad hlt (sm_lo h1))
        go_wp2
        go_ret
        exact ⟨ret_bool (by simp [wordB, hb.out]), rfl⟩
      · by_cases h2 : (122 : Int) < ((s[k].toNat : Nat) : Int)
        · have hb := hid (upto_bad hlt (sm_hi h2))
          go_wp2
          go_ret
          exact ⟨ret_bool (by simp [wordB, hb.out]), rfl⟩
        · have hb := hid (upto_next hlt (sm_true (by omega) (by omega)) hu)
          go_wp2
          go_round
          case rel => exact ⟨k + 1, by omega, by go_num, hb.out⟩
          case measure => simp [intOf]; omega
    · obtain rfl : k = s.size := by omega
      have ha := hid (upto_all hu)
      by_cases h1 : (1 : Int) ≤ (s.size : Int) <;> by_cases h2 : (s.size : Int) ≤ 30
      all_goals
        go_wp2
        go_ret
        exact ⟨ret_bool (by simp [wordB, ha.out]; omega), rfl⟩

theorem sWord_b {b : Bool} (s : ByteArray) (most : Int) (w : World) (hs : s.size ≤ maxLen) (h : wordB s most = b) : Calls Try.prog 81 #[.string s, .int .i64 most] w fun e w' => e = .returned (.bool b) ∧ w = w' := by
  subst h; exact sWord_any s most w hs
set_option maxHeartbeats 1000000 in
theorem one_any (b o : Nat) (x y : ByteArray) (w : World) (hx : x.size ≤ maxLen) (hy : y.size ≤ maxLen) (h1 : w.cell? ⟨b, o, none⟩ = some (.string x)) (h2 : w.cell? ⟨b, o + 1, none⟩ = some (.string y)) :
    Calls Try.prog 79 #[.pointer (some ⟨b, o, none⟩)] w fun e w' => e = .returned (.bool (abOk x y)) ∧ Below w.heap.size w w' := by
  have hx' := hx
  have hy' := hy
  unfold maxLen at hx' hy'
  cases h3 : wordB x 8 <;> cases h4 : wordB y 30 <;> by_cases h5 : (x.size : Int) < (y.size : Int)
  all_goals
    go_enter Try.func79, Try.ntmps79
    go_wp2_with fail
    go_quiet ((go_at_call 81; first | with_reducible exact qs (sWord_b _ _ _ hx h3) | with_reducible exact qs (sWord_b _ _ _ hy h4)))
    go_wp2
    go_ret
    refine ⟨ret_bool (by simp [abOk, h3, h4]; try omega), ?_⟩
    (repeat (first | with_reducible exact Below.refl _ _ | with_reducible assumption | refine Below.drew ?_ | refine below_drewN ?_ _ | (refine Below.alloc ?_ (by first | omega | (simp; done) | (simp; omega)) _) | (refine Below.setCell ?_ (by first | omega | (simp; done) | (simp; omega)) _) | (refine Below.trans ?_ (Below.mono (by assumption) (by first | omega | (simp; done) | (simp; omega))))))
theorem smallWord_b {b : Bool} (s : ByteArray) (w : World) (hs : s.size ≤ maxLen) (h : wordB s 30 = b) : Calls Try.prog 84 #[.string s] w fun e w' => e = .returned (.bool b) ∧ w = w' := by
  subst h; exact smallWord_any s w hs
set_option maxHeartbeats 1000000 in
theorem validAbbr_any (x y : ByteArray) (w : World) (hx : x.size ≤ maxLen) (hy : y.size ≤ maxLen) :
    Calls Try.prog 82 #[.agg #[.string x, .string y]] w fun e w' => e = .returned (.bool (abOk x y)) ∧ Below w.heap.size w w' := by
  have hx' := hx
  have hy' := hy
  unfold maxLen at hx' hy'
  have h8 := hid (word_eight x)
  cases h3 : wordB x 30 <;> cases h4 : wordB y 30 <;> by_cases h5 : (x.size : Int) < (y.size : Int) <;> by_cases h6 : (x.size : Int) ≤ 8
  all_goals
    go_enter Try.func82, Try.ntmps82
    go_wp2_with (go_at_call 84; first | (with_reducible refine (smallWord_b _ _ hx h3).mono ?_; rintro e w' ⟨rfl, rfl⟩) | (with_reducible refine (smallWord_b _ _ hy h4).mono ?_; rintro e w' ⟨rfl, rfl⟩))
    go_ret
    refine ⟨ret_bool (by simp [abOk, h8.out, h3, h4]; try omega), ?_⟩
    (repeat (first | with_reducible exact Below.refl _ _ | with_reducible assumption | refine Below.drew ?_ | refine below_drewN ?_ _ | (refine Below.alloc ?_ (by first | omega | (simp; done) | (simp; omega)) _) | (refine Below.setCell ?_ (by first | omega | (simp; done) | (simp; omega)) _) | (refine Below.trans ?_ (Below.mono (by assumption) (by first | omega | (simp; done) | (simp; omega))))))

theorem toAbbr_any (x y : ByteArray) (w : World) : Calls Try.prog 34 #[.agg #[.string x, .string y]] w fun e w' => e = .returned (.agg #[.string x, .string y]) ∧ Below w.heap.size w w' := by
  go_enter Try.func34, Try.ntmps34
  go_wp2
  refine bodyPost_ret (v := .agg #[.string x, .string y]) (by simp [results, Try.results34, go_sem]) rfl ⟨rfl, ?_⟩
  (repeat (first | with_reducible exact Below.refl _ _ | with_reducible assumption | refine Below.drew ?_ | refine below_drewN ?_ _ | (refine Below.alloc ?_ (by first | omega | (simp; done) | (simp; omega)) _) | (refine Below.setCell ?_ (by first | omega | (simp; done) | (simp; omega)) _) | (refine Below.trans ?_ (Below.mono (by assumption) (by first | omega | (simp; done) | (simp; omega))))))
/-- what is left of a size -/
def szAb (x y : ByteArray) (left : Int) : Int := if left - x.size < 0 then -1 else if left - x.size - y.size < 0 then -1 else left - x.size - y.size
theorem szAbbr_any (x y : ByteArray) (left : Int) (w : World) (hx : x.size ≤ maxLen) (hy : y.size ≤ maxLen) (h1 : 0 ≤ left) (h2 : left ≤ 1048576) : Calls Try.prog 31 #[.agg #[.string x, .string y], .int .i64 left] w fun e w' => e = .returned (.int .i64 (szAb x y left)) ∧ Below w.heap.size w w' := by
  unfold maxLen at hx hy
  rcases (show left - x.size < 0 ∨ (0 ≤ left - x.size ∧ left - x.size - y.size < 0) ∨ (0 ≤ left - x.size ∧ 0 ≤ left - x.size - y.size) from by omega) with h3 | ⟨h3, h4⟩ | ⟨h3, h4⟩
  all_goals
    go_enter Try.func31, Try.ntmps31
    go_wp2
  all_goals
    go_ret
    refine ⟨ret_int (by unfold szAb; (repeat' split) <;> omega), ?_⟩
    (repeat (first | with_reducible exact Below.refl _ _ | with_reducible assumption | refine Below.drew ?_ | refine below_drewN ?_ _ | (refine Below.alloc ?_ (by first | omega | (simp; done) | (simp; omega)) _) | (refine Below.setCell ?_ (by first | omega | (simp; done) | (simp; omega)) _) | (refine Below.trans ?_ (Below.mono (by assumption) (by first | omega | (simp; done) | (simp; omega))))))

def abText (x y : ByteArray) : ByteArray := if abOk x y = true then x ++ ⟨#[61]⟩ ++ y else ⟨#[]⟩
theorem szAb_bd (x y : ByteArray) (left : Int) (h : 0 ≤ left) : szAb x y left ≤ left := by
  unfold szAb; (repeat' split) <;> omega
end Go.Proofs.Ytnjdoedhhpkjhaa
