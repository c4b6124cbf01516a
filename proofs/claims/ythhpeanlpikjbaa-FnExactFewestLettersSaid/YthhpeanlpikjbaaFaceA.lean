/-
  Walks: is a text a letter? is a page of letters valid? And its law.
-/
import Derived.Test.YthhpeanlpikjbaaSlSe
import Derived.Test.YthhpeanlpikjbaaPre
namespace Go.Proofs.Ythhpeanlpikjbaa
open Go.RowKit Go.ChangeShapes Go.WideShapes
set_option linter.unusedVariables false
attribute [local go_sem ↓] Go.wp_at_zero Go.wp_at_succ

def inB (n lo hi : Int) : Bool := decide (lo ≤ n ∧ n ≤ hi)
theorem inB_true {n lo hi : Int} (h : inB n lo hi = true) : lo ≤ n ∧ n ≤ hi := by simpa [inB] using h
theorem in_any (n lo hi : Int) (w : World) : Calls Try.prog 86 #[.int .i64 n, .int .i64 lo, .int .i64 hi] w fun e w' => e = .returned (.bool (inB n lo hi)) ∧ w = w' := by
  by_cases h1 : lo ≤ n <;> by_cases h2 : n ≤ hi
  all_goals
    go_enter Try.func86, Try.ntmps86
    go_wp2
    go_ret
    exact ⟨by simp [inB, h1, h2], rfl⟩
theorem between_any (n lo hi : Int) (w : World) : Calls Try.prog 53 #[.int .i64 n, .int .i64 lo, .int .i64 hi] w fun e w' => e = .returned (.bool (inB n lo hi)) ∧ w = w' := by
  by_cases h1 : lo ≤ n <;> by_cases h2 : n ≤ hi
  all_goals
    go_enter Try.func53, Try.ntmps53
    go_wp2
    go_ret
    exact ⟨by simp [inB, h1, h2], rfl⟩
theorem between_b {r : Bool} (n lo hi : Int) (w : World) (h : inB n lo hi = r) : Calls Try.prog 53 #[.int .i64 n, .int .i64 lo, .int .i64 hi] w fun e w' => e = .returned (.bool r) ∧ w = w' := by
  subst h; exact between_any n lo hi w
theorem kind_any (n : Int) (w : World) : Calls Try.prog 79 #[.int .i64 n] w fun e w' => e = .returned (.bool (inB n 1 6)) ∧ w = w' := by
  go_enter Try.func79, Try.ntmps79
  go_wp2_with (go_at_call 86; refine (in_any _ _ _ _).mono ?_; rintro e w' ⟨rfl, rfl⟩)
  go_ret
  exact ⟨rfl, rfl⟩
theorem kind_b {r : Bool} (n : Int) (w : World) (h : inB n 1 6 = r) : Calls Try.prog 79 #[.int .i64 n] w fun e w' => e = .returned (.bool r) ∧ w = w' := by
  subst h; exact kind_any n w

/-- is a text one sign? -/
def letB (x : ByteArray) : Bool := decide (x.size = 1) && textB x 33 1
theorem letB_one {x : ByteArray} (h : x.size = 1) : letB x = gb 33 (x[0]'(by omega)) := by
  have hlen : x.data.toList.length = 1 := by rw [Array.length_toList]; exact h
  obtain ⟨c, hc⟩ := List.length_eq_one_iff.1 hlen
  have he : x[0]'(by omega) = c := by
    have e : x.data.toList[0]'(by omega) = c := by simp only [hc, List.getElem_cons_zero]
    rw [← e, Array.getElem_toList]; rfl
  unfold letB textB
  rw [he, hc, h]
  simp
set_option maxHeartbeats 1000000 in
theorem isLet_any (x : ByteArray) (w : World) (hx : x.size ≤ maxLen) : Calls Try.prog 52 #[.string x] w fun e w' => e = .returned (.bool (letB x)) ∧ w = w' := by
  have hx' := hx
  unfold maxLen at hx'
  by_cases h1 : x.size = 1
  · have hl := hid (show letB x = textB x 33 1 by simp [letB, h1])
    have h2 : (x.size : Int) = 1 := by omega
    cases ht : textB x 33 1
    all_goals
      go_enter Try.func52, Try.ntmps52
      go_wp2_with (go_at_call 71; refine (isText_b _ _ _ _ hx (by omega) (by omega) ht).mono ?_; rintro e w' ⟨rfl, rfl⟩)
      go_ret
      exact ⟨ret_bool (by rw [hl.out, ht]), rfl⟩
  · have hl := hid (show letB x = false by simp [letB, h1])
    have h2 : ((x.size : Int) == 1) = false := by simp; omega
    go_enter Try.func52, Try.ntmps52
    go_wp2_with fail
    go_ret
    exact ⟨ret_bool hl.out.symm, rfl⟩
set_option maxHeartbeats 1000000 in
theorem sLet_any (x : ByteArray) (w : World) (hx : x.size ≤ maxLen) : Calls Try.prog 59 #[.string x] w fun e w' => e = .returned (.bool (letB x)) ∧ w = w' := by
  have hx' := hx
  unfold maxLen at hx'
  by_cases h1 : x.size = 1
  · have hl := hid (letB_one h1)
    have h2 : (x.size : Int) = 1 := by omega
    have h0 : 0 < x.size := by omega
    by_cases h3 : (33 : Int) ≤ ((x[0].toNat : Nat) : Int) <;> by_cases h4 : ((x[0].toNat : Nat) : Int) ≤ 126
    all_goals
      go_enter Try.func59, Try.ntmps59
      go_wp2_with fail
      go_ret
      exact ⟨ret_bool (by rw [hl.out]; simp [gb]; omega), rfl⟩
  · have hl := hid (show letB x = false by simp [letB, h1])
    have h2 : ((x.size : Int) == 1) = false := by simp; omega
    go_enter Try.func59, Try.ntmps59
    go_wp2_with fail
    go_ret
    exact ⟨ret_bool hl.out.symm, rfl⟩
end Go.Proofs.Ythhpeanlpikjbaa
