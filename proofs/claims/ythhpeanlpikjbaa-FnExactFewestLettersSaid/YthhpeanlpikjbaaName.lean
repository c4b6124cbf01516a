/-
  Walks: is a text a name?
-/
import Derived.Test.YthhpeanlpikjbaaLess
import Derived.Test.YthhpeanlpikjbaaFind
namespace Go.Proofs.Ythhpeanlpikjbaa
open Go.RowKit
set_option linter.unusedVariables false
attribute [local go_sem ↓] Go.wp_at_zero Go.wp_at_succ

def smB (c : UInt8) : Bool := decide (97 ≤ (c.toNat : Int) ∧ (c.toNat : Int) ≤ 122)
def dgB (c : UInt8) : Bool := decide (48 ≤ (c.toNat : Int) ∧ (c.toNat : Int) ≤ 57)
/-- does byte k spoil a name? -/
def badN (s : ByteArray) (k : Nat) : Bool := if h : k < s.size then !(smB s[k]) && (decide (k = 0) || (!(decide ((s[k].toNat : Int) = 45)) && !(dgB s[k]))) else false
def nameB (s : ByteArray) : Bool := decide (1 ≤ s.size) && (decide (s.size ≤ 12) && (firstAt (badN s) s.size).isNone)
theorem badN_get {s : ByteArray} {k : Nat} (h : k < s.size) : badN s k = (!(smB s[k]) && (decide (k = 0) || (!(decide ((s[k].toNat : Int) = 45)) && !(dgB s[k])))) := by unfold badN; rw [dif_pos h]
theorem name_bad {s : ByteArray} {k : Nat} (h : k < s.size) (hN : NoneUpTo (badN s) k) (hb : badN s k = true) : nameB s = false := by
  unfold nameB; rw [first_hit hN hb h]; simp
theorem name_all {s : ByteArray} (hN : NoneUpTo (badN s) s.size) (h1 : 1 ≤ s.size) (h2 : s.size ≤ 12) : nameB s = true := by
  unfold nameB; rw [first_none hN, decide_eq_true h1, decide_eq_true h2]; rfl
theorem name_len {s : ByteArray} (h : ¬ (1 ≤ s.size ∧ s.size ≤ 12)) : nameB s = false := by
  unfold nameB
  by_cases h1 : 1 ≤ s.size
  · have h2 : decide (s.size ≤ 12) = false := decide_eq_false (by omega)
    rw [h2]; simp
  · have h2 : decide (1 ≤ s.size) = false := decide_eq_false h1
    rw [h2]; simp
theorem smB_true {c : UInt8} (h : smB c = true) : 97 ≤ (c.toNat : Int) ∧ (c.toNat : Int) ≤ 122 := by simpa [smB] using h
theorem smB_false {c : UInt8} (h : smB c = false) : (c.toNat : Int) < 97 ∨ 122 < (c.toNat : Int) := by
  have : ¬ (97 ≤ (c.toNat : Int) ∧ (c.toNat : Int) ≤ 122) := by simpa [smB] using h
  omega
theorem isDigit_any (c : UInt8) (w : World) : Calls Try.prog 87 #[.int .u8 (c.toNat : Int)] w fun e w' => e = .returned (.bool (dgB c)) ∧ w = w' := by
  by_cases h1 : 48 ≤ (c.toNat : Int) <;> by_cases h2 : (c.toNat : Int) ≤ 57
  all_goals
    go_enter Try.func87, Try.ntmps87
    go_wp2
    go_ret
    exact ⟨ret_bool (by simp [dgB, h1, h2]), rfl⟩
theorem isDigit_b {r : Bool} (c : UInt8) (w : World) (h : dgB c = r) : Calls Try.prog 87 #[.int .u8 (c.toNat : Int)] w fun e w' => e = .returned (.bool r) ∧ w = w' := by
  subst h; exact isDigit_any c w
theorem small_any (c : UInt8) (w : World) : Calls Try.prog 88 #[.int .u8 (c.toNat : Int)] w fun e w' => e = .returned (.bool (smB c)) ∧ w = w' := by
  by_cases h1 : 97 ≤ (c.toNat : Int) <;> by_cases h2 : (c.toNat : Int) ≤ 122
  all_goals
    go_enter Try.func88, Try.ntmps88
    go_wp2
    go_ret
    exact ⟨ret_bool (by simp [smB, h1, h2]), rfl⟩
theorem small_b {r : Bool} (c : UInt8) (w : World) (h : smB c = r) : Calls Try.prog 88 #[.int .u8 (c.toNat : Int)] w fun e w' => e = .returned (.bool r) ∧ w = w' := by
  subst h; exact small_any c w
theorem digit_any (c : UInt8) (w : World) : Calls Try.prog 89 #[.int .u8 (c.toNat : Int)] w fun e w' => e = .returned (.bool (dgB c)) ∧ w = w' := by
  by_cases h1 : 48 ≤ (c.toNat : Int) <;> by_cases h2 : (c.toNat : Int) ≤ 57
  all_goals
    go_enter Try.func89, Try.ntmps89
    go_wp2
    go_ret
    exact ⟨ret_bool (by simp [dgB, h1, h2]), rfl⟩
theorem digit_b {r : Bool} (c : UInt8) (w : World) (h : dgB c = r) : Calls Try.prog 89 #[.int .u8 (c.toNat : Int)] w fun e w' => e = .returned (.bool r) ∧ w = w' := by
  subst h; exact digit_any c w
set_option maxHeartbeats 2000000 in
theorem isName_any (s : ByteArray) (w : World) (hs : s.size ≤ maxLen) : Calls Try.prog 80 #[.string s] w fun e w' => e = .returned (.bool (nameB s)) ∧ w = w' := by
  unfold maxLen at hs
  by_cases h0 : s.size = 0
  · have hb := hid (name_len (s := s) (by omega))
    have h1 : ((s.size : Int) == 0) = true := eqI_true (by omega)
    clear h0
    go_enter Try.func80, Try.ntmps80
    go_wp2
    go_ret
    exact ⟨ret_bool hb.out.symm, rfl⟩
  have h1 : ((s.size : Int) == 0) = false := eqI_false (by omega)
  by_cases h12 : (12 : Int) < (s.size : Int)
  · have hb := hid (name_len (s := s) (by omega))
    clear h0
    go_enter Try.func80, Try.ntmps80
    go_wp2
    go_ret
    exact ⟨ret_bool hb.out.symm, rfl⟩
  have hall := hid (fun h => name_all (s := s) h (by omega) (by omega))
  clear h0
  go_enter Try.func80, Try.ntmps80
  go_wp2
  go_loop [3, 4, 15] (fun _ _ i => ∃ k : Nat, k ≤ s.size ∧ i = .int .i64 k ∧ NoneUpTo (badN s) k) (fun _ _ i => s.size - (intOf i).toNat)
  case atStart => exact ⟨0, Nat.zero_le _, rfl, none_zero _⟩
  case round =>
    obtain ⟨k, hk, rfl, hN⟩ := hrel
    by_cases hlt : k < s.size
    · have hbg := hid (badN_get hlt)
      cases hsm : smB s[k]
      · have hcs := smB_false hsm
        by_cases hk0 : k = 0
        · have hbad := hid (name_bad hlt hN (by rw [hbg.out, hsm]; simp [hk0]))
          have hkz : ((k : Int) == 0) = true := eqI_true (by omega)
          clear hk0
          rcases hcs with hcs | hcs
          · go_wp2
            go_ret
            exact ⟨ret_bool hbad.out.symm, rfl⟩
          · have hcs2 : 97 ≤ ((s[k].toNat : Nat) : Int) := by omega
            have hcs3 : decide (((s[k].toNat : Nat) : Int) ≤ 122) = false := by simp; omega
            go_wp2
            go_ret
            exact ⟨ret_bool hbad.out.symm, rfl⟩
        · have hkz : ((k : Int) == 0) = false := eqI_false (by omega)
          have hkd : decide (k = 0) = false := by simpa using hk0
          have HKD := hid hkd
          clear hkd hk0
          by_cases h45 : ((s[k].toNat : Nat) : Int) = 45
          · have hgood := hid (none_next hN (by rw [hbg.out, hsm, HKD.out, decide_eq_true h45]; rfl))
            have h45b : (((s[k].toNat : Nat) : Int) != 45) = false := by simp [h45]
            have hlo : ((s[k].toNat : Nat) : Int) < 97 := by omega
            clear h45 hcs
            go_wp2
            go_round
            case rel => exact ⟨k + 1, by omega, by go_num, hgood.out⟩
            case measure => simp [intOf]; omega
          · have h45b : (((s[k].toNat : Nat) : Int) != 45) = true := by simpa using h45
            have h45d : decide (((s[k].toNat : Nat) : Int) = 45) = false := by simpa using h45
            have H45 := hid h45d
            clear h45 h45d
            cases hdg : dgB s[k]
            · have hbad := hid (name_bad hlt hN (by rw [hbg.out, hsm, HKD.out, H45.out, hdg]; rfl))
              rcases hcs with hcs | hcs
              · go_wp2_with (go_at_call 87; refine (isDigit_b _ _ hdg).mono ?_; rintro e w' ⟨rfl, rfl⟩)
                go_ret
                exact ⟨ret_bool hbad.out.symm, rfl⟩
              · have hcs2 : 97 ≤ ((s[k].toNat : Nat) : Int) := by omega
                have hcs3 : decide (((s[k].toNat : Nat) : Int) ≤ 122) = false := by simp; omega
                go_wp2_with (go_at_call 87; refine (isDigit_b _ _ hdg).mono ?_; rintro e w' ⟨rfl, rfl⟩)
                go_ret
                exact ⟨ret_bool hbad.out.symm, rfl⟩
            · have hgood := hid (none_next hN (by rw [hbg.out, hsm, HKD.out, H45.out, hdg]; rfl))
              rcases hcs with hcs | hcs
              · go_wp2_with (go_at_call 87; refine (isDigit_b _ _ hdg).mono ?_; rintro e w' ⟨rfl, rfl⟩)
                go_round
                case rel => exact ⟨k + 1, by omega, by go_num, hgood.out⟩
                case measure => simp [intOf]; omega
              · have hcs2 : 97 ≤ ((s[k].toNat : Nat) : Int) := by omega
                have hcs3 : decide (((s[k].toNat : Nat) : Int) ≤ 122) = false := by simp; omega
                go_wp2_with (go_at_call 87; refine (isDigit_b _ _ hdg).mono ?_; rintro e w' ⟨rfl, rfl⟩)
                go_round
                case rel => exact ⟨k + 1, by omega, by go_num, hgood.out⟩
                case measure => simp [intOf]; omega
      · have hgood := hid (none_next hN (by rw [hbg.out, hsm]; rfl))
        obtain ⟨hc1, hc2⟩ := smB_true hsm
        go_wp2
        go_round
        case rel => exact ⟨k + 1, by omega, by go_num, hgood.out⟩
        case measure => simp [intOf]; omega
    · obtain rfl : k = s.size := by omega
      go_wp2
      go_ret
      exact ⟨ret_bool (hall.out hN).symm, rfl⟩
theorem isName_b {r : Bool} (s : ByteArray) (w : World) (hs : s.size ≤ maxLen) (h : nameB s = r) : Calls Try.prog 80 #[.string s] w fun e w' => e = .returned (.bool r) ∧ w = w' := by
  subst h; exact isName_any s w hs
set_option maxHeartbeats 2000000 in
theorem sName_any (s : ByteArray) (w : World) (hs : s.size ≤ maxLen) : Calls Try.prog 82 #[.string s] w fun e w' => e = .returned (.bool (nameB s)) ∧ w = w' := by
  unfold maxLen at hs
  by_cases h0 : s.size = 0
  · have hb := hid (name_len (s := s) (by omega))
    have h1 : s.toList = [] := by
      rw [ByteArray.toList_eq]
      exact List.eq_nil_of_length_eq_zero (by rw [Array.length_toList]; exact h0)
    clear h0
    go_enter Try.func82, Try.ntmps82
    go_wp2
    go_ret
    exact ⟨ret_bool hb.out.symm, rfl⟩
  have h1 : (s.toList == []) = false := by
    rw [ByteArray.toList_eq]
    cases h : s.data.toList with
    | nil => exfalso; apply h0; show s.data.size = 0; rw [← Array.length_toList, h]; rfl
    | cons a b => rfl
  by_cases h12 : (12 : Int) < (s.size : Int)
  · have hb := hid (name_len (s := s) (by omega))
    clear h0
    go_enter Try.func82, Try.ntmps82
    go_wp2
    go_ret
    exact ⟨ret_bool hb.out.symm, rfl⟩
  have hall := hid (fun h => name_all (s := s) h (by omega) (by omega))
  have hp0 : 0 < s.size := by omega
  clear h0
  cases hs0 : smB s[0]
  · have hb := hid (name_bad hp0 (none_zero _) (by rw [badN_get hp0, hs0]; simp))
    go_enter Try.func82, Try.ntmps82
    go_wp2_with (go_at_call 88; refine (small_b _ _ hs0).mono ?_; rintro e w' ⟨rfl, rfl⟩)
    go_ret
    exact ⟨ret_bool hb.out.symm, rfl⟩
  have HS0 := hid hs0
  go_enter Try.func82, Try.ntmps82
  go_wp2_with (go_at_call 88; refine (small_b _ _ hs0).mono ?_; rintro e w' ⟨rfl, rfl⟩)
  clear hs0
  go_loop [3] (fun i => ∃ k : Nat, k ≤ s.size ∧ i = .int .i64 k ∧ NoneUpTo (badN s) k) (fun i => s.size - (intOf i).toNat)
  case atStart => exact ⟨0, Nat.zero_le _, rfl, none_zero _⟩
  case round =>
    obtain ⟨k, hk, rfl, hN⟩ := hrel
    by_cases hlt : k < s.size
    · have hbg := hid (badN_get hlt)
      cases hsm : smB s[k]
      · have hk0 : decide (k = 0) = false := by
          simp only [decide_eq_false_iff_not]
          intro e; subst e; rw [HS0.out] at hsm; cases hsm
        have HK0 := hid hk0
        clear hk0
        cases hdg : dgB s[k]
        · by_cases h45 : ((s[k].toNat : Nat) : Int) = 45
          · have hgood := hid (none_next hN (by rw [hbg.out, hsm, HK0.out, decide_eq_true h45]; rfl))
            have h45b : (((s[k].toNat : Nat) : Int) != 45) = false := by simp [h45]
            clear h45
            go_wp2_with (first | (go_at_call 88; refine (small_b _ _ hsm).mono ?_; rintro e w' ⟨rfl, rfl⟩) | (go_at_call 89; refine (digit_b _ _ hdg).mono ?_; rintro e w' ⟨rfl, rfl⟩))
            go_round
            case rel => exact ⟨k + 1, by omega, by go_num, hgood.out⟩
            case measure => simp [intOf]; omega
          · have hbad := hid (name_bad hlt hN (by rw [hbg.out, hsm, HK0.out, decide_eq_false h45, hdg]; rfl))
            have h45b : (((s[k].toNat : Nat) : Int) != 45) = true := by simpa using h45
            clear h45
            go_wp2_with (first | (go_at_call 88; refine (small_b _ _ hsm).mono ?_; rintro e w' ⟨rfl, rfl⟩) | (go_at_call 89; refine (digit_b _ _ hdg).mono ?_; rintro e w' ⟨rfl, rfl⟩))
            go_ret
            exact ⟨ret_bool hbad.out.symm, rfl⟩
        · have hgood := hid (none_next hN (by rw [hbg.out, hsm, HK0.out, hdg]; simp))
          go_wp2_with (first | (go_at_call 88; refine (small_b _ _ hsm).mono ?_; rintro e w' ⟨rfl, rfl⟩) | (go_at_call 89; refine (digit_b _ _ hdg).mono ?_; rintro e w' ⟨rfl, rfl⟩))
          go_round
          case rel => exact ⟨k + 1, by omega, by go_num, hgood.out⟩
          case measure => simp [intOf]; omega
      · have hgood := hid (none_next hN (by rw [hbg.out, hsm]; rfl))
        go_wp2_with (go_at_call 88; refine (small_b _ _ hsm).mono ?_; rintro e w' ⟨rfl, rfl⟩)
        go_round
        case rel => exact ⟨k + 1, by omega, by go_num, hgood.out⟩
        case measure => simp [intOf]; omega
    · obtain rfl : k = s.size := by omega
      go_wp2
      go_ret
      exact ⟨ret_bool (hall.out hN).symm, rfl⟩
theorem sName_b {r : Bool} (s : ByteArray) (w : World) (hs : s.size ≤ maxLen) (h : nameB s = r) : Calls Try.prog 82 #[.string s] w fun e w' => e = .returned (.bool r) ∧ w = w' := by
  subst h; exact sName_any s w hs
end Go.Proofs.Ythhpeanlpikjbaa
