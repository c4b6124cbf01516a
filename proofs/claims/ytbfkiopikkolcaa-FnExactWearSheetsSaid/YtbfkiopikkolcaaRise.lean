/-
  Rising numbers within bounds: plain function and the walks of both sides.
-/
import Derived.Test.YtbfkiopikkolcaaNum
import Derived.Test.YtbfkiopikkolcaaOver
namespace Go.Proofs.Ytbfkiopikkolcaa
open Go.RowKit Go.ChangeShapes Go.WideShapes
set_option linter.unusedVariables false
attribute [local go_sem ↓] Go.wp_at_zero Go.wp_at_succ

def inB (n lo hi : Int) : Bool := decide (lo ≤ n ∧ n ≤ hi)
theorem in_any (n lo hi : Int) (w : World) : Calls Try.prog 59 #[.int .i64 n, .int .i64 lo, .int .i64 hi] w fun e w' => e = .returned (.bool (inB n lo hi)) ∧ w = w' := by
  by_cases h1 : lo ≤ n <;> by_cases h2 : n ≤ hi
  all_goals
    go_enter Try.func59, Try.ntmps59
    go_wp2
    go_ret
    exact ⟨ret_bool (by simp [inB, h1, h2] <;> omega), rfl⟩
theorem in_b {r : Bool} (n lo hi : Int) (w : World) (h : inB n lo hi = r) : Calls Try.prog 59 #[.int .i64 n, .int .i64 lo, .int .i64 hi] w fun e w' => e = .returned (.bool r) ∧ w = w' := by
  rw [← h]; exact in_any n lo hi w
theorem between_any (n lo hi : Int) (w : World) : Calls Try.prog 36 #[.int .i64 n, .int .i64 lo, .int .i64 hi] w fun e w' => e = .returned (.bool (inB n lo hi)) ∧ w = w' := by
  by_cases h1 : lo ≤ n <;> by_cases h2 : n ≤ hi
  all_goals
    go_enter Try.func36, Try.ntmps36
    go_wp2
    go_ret
    exact ⟨ret_bool (by simp [inB, h1, h2] <;> omega), rfl⟩
theorem between_b {r : Bool} (n lo hi : Int) (w : World) (h : inB n lo hi = r) : Calls Try.prog 36 #[.int .i64 n, .int .i64 lo, .int .i64 hi] w fun e w' => e = .returned (.bool r) ∧ w = w' := by
  rw [← h]; exact between_any n lo hi w
theorem inB_yes {n lo hi : Int} (h : lo ≤ n ∧ n ≤ hi) : inB n lo hi = true := decide_eq_true h
theorem inB_no {n lo hi : Int} (h : ¬ (lo ≤ n ∧ n ≤ hi)) : inB n lo hi = false := decide_eq_false h
theorem inB_of {n lo hi : Int} (h : inB n lo hi = true) : lo ≤ n ∧ n ≤ hi := of_decide_eq_true h
theorem rd_over {w : World} {x : Over w} {ao : Option Addr} {xs : List Value} (h : Rd w ao xs) : Rd (over w x) ao xs := rd_below h x.below

def badR (l : List Int) (lo hi : Int) (k : Nat) : Bool := if h : k < l.length then !(inB l[k] lo hi) || (decide (0 < k) && decide (l[k] ≤ l[k - 1]'(by omega))) else false
theorem badR_out {l : List Int} {lo hi : Int} {k : Nat} (h : k < l.length) (h2 : inB l[k] lo hi = false) : badR l lo hi k = true := by unfold badR; rw [dif_pos h, h2]; rfl
theorem badR_zero {l : List Int} {lo hi : Int} (h : 0 < l.length) (h2 : inB l[0] lo hi = true) : badR l lo hi 0 = false := by unfold badR; rw [dif_pos h, h2]; rfl
theorem badR_next {l : List Int} {lo hi : Int} {j : Nat} (h : j + 1 < l.length) (h2 : inB l[j + 1] lo hi = true) : badR l lo hi (j + 1) = decide (l[j + 1] ≤ l[j]) := by unfold badR; rw [dif_pos h, h2]; simp
def riseN (l : List Int) (lo hi : Int) : Bool := (firstAt (badR l lo hi) l.length).isNone
theorem riseN_hit {l : List Int} {lo hi : Int} {k : Nat} (h : k < l.length) (hN : NoneUpTo (badR l lo hi) k) (hk : badR l lo hi k = true) : riseN l lo hi = false := by unfold riseN; rw [first_hit hN hk h]; rfl
theorem riseN_all {l : List Int} {lo hi : Int} (hN : NoneUpTo (badR l lo hi) l.length) : riseN l lo hi = true := by unfold riseN; rw [first_none hN]; rfl

set_option maxHeartbeats 4000000 in
theorem sRise_any (ao : Option Addr) (n cap : Nat) (l : List Int) (lo hi : Int) (w : World) (hn : n = l.length) (hr : Rd w ao (i64s l)) (hm : n ≤ 1048576) :
    Calls Try.prog 66 #[.slice ao n cap, .int .i64 lo, .int .i64 hi] w fun e w' => e = .returned (.bool (riseN l lo hi)) ∧ (Below w.heap.size w w') := by
  have HN := hid hn
  have hrd := rd_i64 hr
  clear hn hr
  go_enter Try.func66, Try.ntmps66
  go_wp2
  go_loopw [7] (fun i wr => ∃ k : Nat, k ≤ n ∧ i = .int .i64 k ∧ Hid (NoneUpTo (badR l lo hi) k) ∧ Below w.heap.size w wr) (fun i _ => n - (intOf i).toNat)
  case atStart => exact ⟨0, Nat.zero_le _, rfl, hid (none_zero _), Below.refl _ _⟩
  case round =>
    obtain ⟨k, hk, rfl, hN, hB⟩ := hrel
    by_cases hlt : k < n
    · rcases hrd with hnil | ⟨b, o, rfl, hbl, hcell⟩
      · exact absurd (by rw [HN.out, hnil]; rfl : n = 0) (by omega)
      have hkl : k < l.length := by rw [← HN.out]; exact hlt
      have g1 := (hB.cell (p := ⟨b, o + k, none⟩) hbl).trans (hcell k hkl)
      have hk0 : (0 : Int) ≤ (k : Int) := by omega
      have hkn : (k : Int) < (n : Int) := by omega
      have hbw : b < wr.heap.size := Nat.lt_of_lt_of_le hbl hB.size
      cases e2 : inB l[k] lo hi
      · have hbad := hid (riseN_hit hkl hN.out (badR_out hkl e2))
        clear hcell
        generalize l[k] = z at *
        go_wp2_with fail
        refine wp_region_over (by kernel_rfl) (by kernel_rfl) (fun hov => ?_)
        repeat (go_big_quiet_step (((go_at_call 59; with_reducible exact overSame (in_b _ _ _ _ e2)))))
        refine wpQuiet_nil ?_
        intro w5 hb5
        clear hov
        go_wp2
        go_ret
        exact ⟨ret_bool hbad.out.symm, hB.trans (hb5.mono hB.size)⟩
      rcases Nat.eq_zero_or_pos k with hz0 | hpos
      · have hgood := hid (none_next hN.out (by subst hz0; exact badR_zero hkl e2))
        have hd : decide ((0 : Int) < (k : Int)) = false := by simp; omega
        have hdN : decide (0 < k) = false := by simp; omega
        clear hz0 hcell
        generalize l[k] = z at *
        go_wp2_with fail
        refine wp_region_over (by kernel_rfl) (by kernel_rfl) (fun hov => ?_)
        repeat (go_big_quiet_step (((go_at_call 59; with_reducible exact overSame (in_b _ _ _ _ e2)))))
        refine wpQuiet_nil ?_
        intro w5 hb5
        clear hov
        go_wp2
        go_roundw
        case rel => exact ⟨k + 1, by omega, by go_num, hid hgood.out, hB.trans (hb5.mono hB.size)⟩
        case measure => simp [intOf]; omega
      · obtain ⟨j, hj⟩ : ∃ j, k = j + 1 := ⟨k - 1, by omega⟩
        have hjl : j < l.length := by omega
        have hbj : badR l lo hi k = decide (l[k] ≤ l[j]) := by subst hj; exact badR_next hkl e2
        have g3 := (hB.cell (p := ⟨b, o + j, none⟩) hbl).trans (hcell j hjl)
        have hd : decide ((0 : Int) < (k : Int)) = true := by simp; omega
        have hdN : decide (0 < k) = true := by simp; omega
        have e4 : IntKind.i64.wrap ((k : Int) - 1) = (j : Int) := by rw [hj]; simp; exact IntWalk.i64_in _ (by omega)
        have e5 : (k : Int) - 1 = (j : Int) := by omega
        have e6 : IntKind.i64.wrap (j : Int) = (j : Int) := IntWalk.i64_in _ (by omega)
        have hj0 : (0 : Int) ≤ (j : Int) := by omega
        have hjn : (j : Int) < (n : Int) := by omega
        have HJ := hid hj
        clear hj
        by_cases hge : l[k] ≤ l[j]
        · have hbad := hid (riseN_hit hkl hN.out (hbj.trans (decide_eq_true hge)))
          clear hbj hcell
          generalize l[k] = z at *
          generalize l[j] = y at *
          go_wp2_with fail
          refine wp_region_over (by kernel_rfl) (by kernel_rfl) (fun hov => ?_)
          repeat (go_big_quiet_step (((go_at_call 59; with_reducible exact overSame (in_b _ _ _ _ e2)))))
          refine wpQuiet_nil ?_
          intro w5 hb5
          clear hov
          go_wp2
          go_ret
          exact ⟨ret_bool hbad.out.symm, hB.trans (hb5.mono hB.size)⟩
        · have hgood := hid (none_next hN.out (hbj.trans (decide_eq_false hge)))
          clear hbj hcell
          generalize l[k] = z at *
          generalize l[j] = y at *
          go_wp2_with fail
          refine wp_region_over (by kernel_rfl) (by kernel_rfl) (fun hov => ?_)
          repeat (go_big_quiet_step (((go_at_call 59; with_reducible exact overSame (in_b _ _ _ _ e2)))))
          refine wpQuiet_nil ?_
          intro w5 hb5
          clear hov
          go_wp2
          go_roundw
          case rel => exact ⟨k + 1, by omega, by go_num, hid hgood.out, hB.trans (hb5.mono hB.size)⟩
          case measure => simp [intOf]; omega
    · obtain rfl : k = n := by omega
      have hR := hid (riseN_all (l := l) (by rw [← HN.out]; exact hN.out))
      go_wp2
      go_ret
      exact ⟨ret_bool hR.out.symm, hB⟩
set_option maxHeartbeats 4000000 in
theorem areInd_any (ao : Option Addr) (n cap : Nat) (l : List Int) (m : Nat) (hmm : m ≤ 1048576) (w : World) (hn : n = l.length) (hr : Rd w ao (i64s l)) (hm : n ≤ 1048576) :
    Calls Try.prog 46 #[.slice ao n cap, .int .i64 m] w fun e w' => e = .returned (.bool (riseN l 0 ((m : Int) - 1))) ∧ w = w' := by
  have HN := hid hn
  have hrd := rd_i64 hr
  clear hn hr
  have ew : IntKind.i64.wrap ((m : Int) - 1) = (m : Int) - 1 := IntWalk.i64_in _ (by omega)
  go_enter Try.func46, Try.ntmps46
  go_wp2
  go_loopw [5, 6, 9] (fun _ _ i wr => ∃ k : Nat, k ≤ n ∧ i = .int .i64 k ∧ Hid (NoneUpTo (badR l 0 ((m : Int) - 1)) k) ∧ w = wr) (fun _ _ i _ => n - (intOf i).toNat)
  case atStart => exact ⟨0, Nat.zero_le _, rfl, hid (none_zero _), by trivial⟩
  case round =>
    obtain ⟨k, hk, rfl, hN, rfl⟩ := hrel
    by_cases hlt : k < n
    · rcases hrd with hnil | ⟨b, o, rfl, hbl, hcell⟩
      · exact absurd (by rw [HN.out, hnil]; rfl : n = 0) (by omega)
      have hkl : k < l.length := by rw [← HN.out]; exact hlt
      have g1 := hcell k hkl
      have hk0 : (0 : Int) ≤ (k : Int) := by omega
      have hkn : (k : Int) < (n : Int) := by omega
      cases e2 : inB l[k] 0 ((m : Int) - 1)
      · have hbad := hid (riseN_hit hkl hN.out (badR_out hkl e2))
        clear hcell
        generalize l[k] = z at *
        go_wp2_with (go_at_call 36; refine (between_b _ _ _ _ e2).mono ?_; rintro e w' ⟨rfl, rfl⟩)
        go_ret
        exact ⟨ret_bool hbad.out.symm, by trivial⟩
      rcases Nat.eq_zero_or_pos k with hz0 | hpos
      · have hgood := hid (none_next hN.out (by subst hz0; exact badR_zero hkl e2))
        have hd : decide ((0 : Int) < (k : Int)) = false := by simp; omega
        have hdN : decide (0 < k) = false := by simp; omega
        clear hz0 hcell
        generalize l[k] = z at *
        go_wp2_with (go_at_call 36; refine (between_b _ _ _ _ e2).mono ?_; rintro e w' ⟨rfl, rfl⟩)
        go_roundw
        case rel => exact ⟨k + 1, by omega, by go_num, hid hgood.out, by trivial⟩
        case measure => simp [intOf]; omega
      · obtain ⟨j, hj⟩ : ∃ j, k = j + 1 := ⟨k - 1, by omega⟩
        have hjl : j < l.length := by omega
        have hbj : badR l 0 ((m : Int) - 1) k = decide (l[k] ≤ l[j]) := by subst hj; exact badR_next hkl e2
        have g3 := hcell j hjl
        have hd : decide ((0 : Int) < (k : Int)) = true := by simp; omega
        have hdN : decide (0 < k) = true := by simp; omega
        have e4 : IntKind.i64.wrap ((k : Int) - 1) = (j : Int) := by rw [hj]; simp; exact IntWalk.i64_in _ (by omega)
        have e5 : (k : Int) - 1 = (j : Int) := by omega
        have e6 : IntKind.i64.wrap (j : Int) = (j : Int) := IntWalk.i64_in _ (by omega)
        have hj0 : (0 : Int) ≤ (j : Int) := by omega
        have hjn : (j : Int) < (n : Int) := by omega
        have HJ := hid hj
        clear hj
        by_cases hge : l[k] ≤ l[j]
        · have hbad := hid (riseN_hit hkl hN.out (hbj.trans (decide_eq_true hge)))
          clear hbj hcell
          generalize l[k] = z at *
          generalize l[j] = y at *
          go_wp2_with (go_at_call 36; refine (between_b _ _ _ _ e2).mono ?_; rintro e w' ⟨rfl, rfl⟩)
          go_ret
          exact ⟨ret_bool hbad.out.symm, by trivial⟩
        · have hgood := hid (none_next hN.out (hbj.trans (decide_eq_false hge)))
          clear hbj hcell
          generalize l[k] = z at *
          generalize l[j] = y at *
          go_wp2_with (go_at_call 36; refine (between_b _ _ _ _ e2).mono ?_; rintro e w' ⟨rfl, rfl⟩)
          go_roundw
          case rel => exact ⟨k + 1, by omega, by go_num, hid hgood.out, by trivial⟩
          case measure => simp [intOf]; omega
    · obtain rfl : k = n := by omega
      have hR := hid (riseN_all (l := l) (by rw [← HN.out]; exact hN.out))
      go_wp2
      go_ret
      exact ⟨ret_bool hR.out.symm, by trivial⟩
end Go.Proofs.Ytbfkiopikkolcaa
