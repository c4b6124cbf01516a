/-
  Sheets: the test of a list, walks of both sides.
-/
import Derived.Test.YtbfkiopikkolcaaRise
import Derived.Test.YtbfkiopikkolcaaEvMath
namespace Go.Proofs.Ytbfkiopikkolcaa
open Go.RowKit Go.ChangeShapes Go.WideShapes
set_option linter.unusedVariables false
attribute [local go_sem ↓] Go.wp_at_zero Go.wp_at_succ

def badE (l : List Int) (k : Nat) : Bool := if h : k < l.length then !(inB l[k] 0 100000) else false
theorem badE_get {l : List Int} {k : Nat} (h : k < l.length) : badE l k = !(inB l[k] 0 100000) := by unfold badE; rw [dif_pos h]
def wornB (l : List Int) : Bool := (firstAt (badE l) l.length).isNone && decide (l.length ≤ 12)
theorem wornB_hit {l : List Int} {k : Nat} (h : k < l.length) (hN : NoneUpTo (badE l) k) (hk : badE l k = true) : wornB l = false := by unfold wornB; rw [first_hit hN hk h]; rfl
theorem wornB_all {l : List Int} (hN : NoneUpTo (badE l) l.length) : wornB l = decide (l.length ≤ 12) := by unfold wornB; rw [first_none hN]; rfl

set_option maxHeartbeats 4000000 in
theorem sWorn_any (ao : Option Addr) (n cap : Nat) (l : List Int) (w : World) (hn : n = l.length) (hr : Rd w ao (i64s l)) (hm : n ≤ 1048576) :
    Calls Try.prog 55 #[.slice ao n cap] w fun e w' => e = .returned (.bool (wornB l)) ∧ Below w.heap.size w w' := by
  have HN := hid hn
  have hrd := rd_i64 hr
  clear hn hr
  go_enter Try.func55, Try.ntmps55
  go_wp2
  go_loopw [3] (fun i wr => ∃ k : Nat, k ≤ n ∧ i = .int .i64 k ∧ Hid (NoneUpTo (badE l) k) ∧ Below w.heap.size w wr) (fun i _ => n - (intOf i).toNat)
  case atStart => exact ⟨0, Nat.zero_le _, rfl, hid (none_zero _), Below.refl _ _⟩
  case round =>
    obtain ⟨k, hk, rfl, hN, hB⟩ := hrel
    by_cases hlt : k < n
    · rcases hrd with hnil | ⟨b, o, rfl, hbl, hcell⟩
      · exact absurd (by rw [HN.out, hnil]; rfl : n = 0) (by omega)
      have hkl : k < l.length := by rw [← HN.out]; exact hlt
      have g1 := (hB.cell (p := ⟨b, o + k, none⟩) hbl).trans (hcell k hkl)
      have hk0 : (0 : Int) ≤ (k : Int) := by omega
      have hkn : (k : Int) < (n : Int) := by omega
      have hbw : b < wr.heap.size := Nat.lt_of_lt_of_le hbl hB.size
      have hget := hid (badE_get hkl)
      have hhit := hid (fun hb => wornB_hit hkl hN.out hb)
      clear hcell
      obtain ⟨z, hz⟩ : ∃ z, z = l[k] := ⟨_, rfl⟩
      rw [← hz] at g1 hget
      clear hz hkl
      cases e2 : inB z 0 100000
      · have hbad := hid (hhit.out (by rw [hget.out, e2]; rfl))
        clear hget hhit
        go_wp2_with (go_at_call 59; refine (in_b _ _ _ _ e2).mono ?_; rintro e w' ⟨rfl, rfl⟩)
        go_wp2
        go_ret
        exact ⟨ret_bool hbad.out.symm, hB⟩
      · have hgood := hid (none_next hN.out (show badE l k = false by rw [hget.out, e2]; rfl))
        clear hget hhit
        go_wp2_with (go_at_call 59; refine (in_b _ _ _ _ e2).mono ?_; rintro e w' ⟨rfl, rfl⟩)
        go_wp2
        go_roundw
        case rel => exact ⟨k + 1, by omega, by go_num, hgood, hB⟩
        case measure => simp [intOf]; omega
    · obtain rfl : k = n := by omega
      have hR := hid (wornB_all (by rw [← HN.out]; exact hN.out))
      rw [← HN.out] at hR
      by_cases h12 : k ≤ 12
      · have hd : decide ((k : Int) ≤ 12) = true := decide_eq_true (by omega)
        have hR2 := hid (hR.out.trans (decide_eq_true h12))
        clear hR
        go_wp2
        go_ret
        exact ⟨ret_bool hR2.out.symm, hB⟩
      · have hd : decide ((k : Int) ≤ 12) = false := decide_eq_false (by omega)
        have hR2 := hid (hR.out.trans (decide_eq_false h12))
        clear hR
        go_wp2
        go_ret
        exact ⟨ret_bool hR2.out.symm, hB⟩

set_option maxHeartbeats 4000000 in
theorem worn_any (ao : Option Addr) (n cap : Nat) (l : List Int) (w : World) (hn : n = l.length) (hr : Rd w ao (i64s l)) (hm : n ≤ 1048576) :
    Calls Try.prog 57 #[.slice ao n cap] w fun e w' => e = .returned (.bool (wornB l)) ∧ Below w.heap.size w w' := by
  have HN := hid hn
  have hrd := rd_i64 hr
  clear hn hr
  go_enter Try.func57, Try.ntmps57
  go_wp2
  go_loopw [4, 7] (fun _ i wr => ∃ k : Nat, k ≤ n ∧ i = .int .i64 k ∧ Hid (NoneUpTo (badE l) k) ∧ Below w.heap.size w wr) (fun _ i _ => n - (intOf i).toNat)
  case atStart => exact ⟨0, Nat.zero_le _, rfl, hid (none_zero _), Below.refl _ _⟩
  case round =>
    obtain ⟨k, hk, rfl, hN, hB⟩ := hrel
    by_cases hlt : k < n
    · rcases hrd with hnil | ⟨b, o, rfl, hbl, hcell⟩
      · exact absurd (by rw [HN.out, hnil]; rfl : n = 0) (by omega)
      have hkl : k < l.length := by rw [← HN.out]; exact hlt
      have g1 := (hB.cell (p := ⟨b, o + k, none⟩) hbl).trans (hcell k hkl)
      have hk0 : (0 : Int) ≤ (k : Int) := by omega
      have hkn : (k : Int) < (n : Int) := by omega
      have hbw : b < wr.heap.size := Nat.lt_of_lt_of_le hbl hB.size
      have hget := hid (badE_get hkl)
      have hhit := hid (fun hb => wornB_hit hkl hN.out hb)
      clear hcell
      obtain ⟨z, hz⟩ : ∃ z, z = l[k] := ⟨_, rfl⟩
      rw [← hz] at g1 hget
      clear hz hkl
      cases e2 : inB z 0 100000
      · have hbad := hid (hhit.out (by rw [hget.out, e2]; rfl))
        clear hget hhit
        go_wp2_with (go_at_call 36; refine (between_b _ _ _ _ e2).mono ?_; rintro e w' ⟨rfl, rfl⟩)
        go_wp2
        go_ret
        exact ⟨ret_bool hbad.out.symm, hB⟩
      · have hgood := hid (none_next hN.out (show badE l k = false by rw [hget.out, e2]; rfl))
        clear hget hhit
        go_wp2_with (go_at_call 36; refine (between_b _ _ _ _ e2).mono ?_; rintro e w' ⟨rfl, rfl⟩)
        go_wp2
        go_roundw
        case rel => exact ⟨k + 1, by omega, by go_num, hgood, hB⟩
        case measure => simp [intOf]; omega
    · obtain rfl : k = n := by omega
      have hR := hid (wornB_all (by rw [← HN.out]; exact hN.out))
      rw [← HN.out] at hR
      by_cases h12 : k ≤ 12
      · have hd : decide ((k : Int) ≤ 12) = true := decide_eq_true (by omega)
        have hR2 := hid (hR.out.trans (decide_eq_true h12))
        clear hR
        go_wp2
        go_ret
        exact ⟨ret_bool hR2.out.symm, hB⟩
      · have hd : decide ((k : Int) ≤ 12) = false := decide_eq_false (by omega)
        have hR2 := hid (hR.out.trans (decide_eq_false h12))
        clear hR
        go_wp2
        go_ret
        exact ⟨ret_bool hR2.out.symm, hB⟩
end Go.Proofs.Ytbfkiopikkolcaa
