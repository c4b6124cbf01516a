/-
  Walks: is a page of letters valid?
-/
import Derived.Test.YthhpeanlpikjbaaFaceA
namespace Go.Proofs.Ythhpeanlpikjbaa
open Go.RowKit Go.ChangeShapes Go.WideShapes
set_option linter.unusedVariables false
attribute [local go_sem ↓] Go.wp_at_zero Go.wp_at_succ

theorem isLet_b {r : Bool} (x : ByteArray) (w : World) (hx : x.size ≤ maxLen) (h : letB x = r) : Calls Try.prog 52 #[.string x] w fun e w' => e = .returned (.bool r) ∧ w = w' := by
  subst h; exact isLet_any x w hx
theorem sLet_b {r : Bool} (x : ByteArray) (w : World) (hx : x.size ≤ maxLen) (h : letB x = r) : Calls Try.prog 59 #[.string x] w fun e w' => e = .returned (.bool r) ∧ w = w' := by
  subst h; exact sLet_any x w hx
def badS (l : List Se) (k : Nat) : Bool := if h : k < l.length then !(letB l[k].1) || !(inB l[k].2 0 6) else false
theorem badS_get {l : List Se} {k : Nat} (h : k < l.length) : badS l k = (!(letB l[k].1) || !(inB l[k].2 0 6)) := by unfold badS; rw [dif_pos h]
def pageOk (l : List Se) : Bool := (firstAt (badS l) l.length).isNone && decide (l.length ≤ 60)
theorem pageOk_bad {l : List Se} {k : Nat} (h : k < l.length) (hN : NoneUpTo (badS l) k) (hb : badS l k = true) : pageOk l = false := by
  unfold pageOk; rw [first_hit hN hb h]; rfl
theorem pageOk_all {l : List Se} (hN : NoneUpTo (badS l) l.length) : pageOk l = decide (l.length ≤ 60) := by
  unfold pageOk; rw [first_none hN]; simp
set_option maxRecDepth 10000 in
set_option maxHeartbeats 4000000 in
theorem page_any (ao : Option Addr) (n cap : Nat) (l : List Se) (w : World) (hn : n = l.length) (hr : Rd w ao (ses l)) (hs : seSmall l) (hm : n ≤ 1048576) :
    Calls Try.prog 15 #[.slice ao n cap] w fun e w' => e = .returned (.bool (pageOk l)) ∧ Below w.heap.size w w' := by
  have HN := hid hn
  have hrd := rd_se hr
  clear hn hr
  go_enter Try.func15, Try.ntmps15
  go_wp2_with fail
  go_loopw [4, 7] (fun _ i wr => ∃ k : Nat, k ≤ n ∧ i = .int .i64 k ∧ NoneUpTo (badS l) k ∧ Below w.heap.size w wr) (fun _ i _ => n - (intOf i).toNat)
  case atStart => exact ⟨0, Nat.zero_le _, rfl, none_zero _, Below.refl _ _⟩
  case round =>
    obtain ⟨k, hk, rfl, hN, hB⟩ := hrel
    have hz := hB.size
    by_cases hlt : k < n
    · rcases hrd with hnil | ⟨b, o, rfl, hbl, hcell⟩
      · exact absurd (by rw [HN.out, hnil]; rfl : n = 0) (by omega)
      have hkl : k < l.length := by rw [← HN.out]; exact hlt
      obtain ⟨h1, h2⟩ := hcell k hkl
      have hs1 := seSmall_get hs k hkl
      have g1 := (hB.cell (p := ⟨b, o + k * 2, none⟩) hbl).trans h1
      have g2 := (hB.cell (p := ⟨b, o + k * 2 + 1, none⟩) hbl).trans h2
      clear h1 h2 hcell
      have hk0 : (0 : Int) ≤ (k : Int) := by omega
      have hkn : (k : Int) < (n : Int) := by omega
      have hbg := hid (badS_get hkl)
      obtain ⟨x, hx⟩ : ∃ x, x = l[k] := ⟨_, rfl⟩
      rw [← hx] at g1 g2 hs1 hbg
      clear hx
      cases e1 : letB x.1 <;> cases e2 : inB x.2 0 6
      case true.true =>
        have hgood := hid (none_next hN (by rw [hbg.out, e1, e2]; rfl))
        go_wp2_with (first | (go_at_call 52; refine (isLet_b _ _ hs1 e1).mono ?_; rintro e w' ⟨rfl, rfl⟩) | (go_at_call 53; refine (between_b _ _ _ _ e2).mono ?_; rintro e w' ⟨rfl, rfl⟩))
        go_roundw
        case rel => exact ⟨k + 1, by omega, by go_num, hgood.out, by (repeat (first | with_reducible exact Below.refl _ _ | with_reducible assumption | refine Below.drew ?_ | refine below_drewN ?_ _ | (refine Below.alloc ?_ (by first | omega | (simp; done) | (simp; omega)) _) | (refine Below.setCell ?_ (by first | omega | (simp; done) | (simp; omega)) _) | (refine Below.trans ?_ (Below.mono (by assumption) (by first | omega | (simp; done) | (simp; omega))))))⟩
        case measure => simp [intOf]; omega
      all_goals
        have hbad := hid (pageOk_bad hkl hN (by rw [hbg.out, e1, e2]; rfl))
        go_wp2_with (first | (go_at_call 52; refine (isLet_b _ _ hs1 e1).mono ?_; rintro e w' ⟨rfl, rfl⟩) | (go_at_call 53; refine (between_b _ _ _ _ e2).mono ?_; rintro e w' ⟨rfl, rfl⟩))
        go_ret
        exact ⟨ret_bool hbad.out.symm, by (repeat (first | with_reducible exact Below.refl _ _ | with_reducible assumption | refine Below.drew ?_ | refine below_drewN ?_ _ | (refine Below.alloc ?_ (by first | omega | (simp; done) | (simp; omega)) _) | (refine Below.setCell ?_ (by first | omega | (simp; done) | (simp; omega)) _) | (refine Below.trans ?_ (Below.mono (by assumption) (by first | omega | (simp; done) | (simp; omega))))))⟩
    · obtain rfl : k = n := by omega
      have ha := hid (show pageOk l = decide (l.length ≤ 60) by rw [HN.out] at hN; exact pageOk_all hN)
      by_cases h30 : (k : Int) ≤ 60
      all_goals
        go_wp2
        go_ret
        exact ⟨ret_bool (by rw [ha.out, ← HN.out]; simp; omega), hB⟩
set_option maxRecDepth 10000 in
set_option maxHeartbeats 4000000 in
theorem sPage_any (ao : Option Addr) (n cap : Nat) (l : List Se) (w : World) (hn : n = l.length) (hr : Rd w ao (ses l)) (hs : seSmall l) (hm : n ≤ 1048576) :
    Calls Try.prog 50 #[.slice ao n cap] w fun e w' => e = .returned (.bool (pageOk l)) ∧ Below w.heap.size w w' := by
  have HN := hid hn
  have hrd := rd_se hr
  clear hn hr
  go_enter Try.func50, Try.ntmps50
  go_wp2_with fail
  go_loopw [3] (fun i wr => ∃ k : Nat, k ≤ n ∧ i = .int .i64 k ∧ NoneUpTo (badS l) k ∧ Below w.heap.size w wr) (fun i _ => n - (intOf i).toNat)
  case atStart => exact ⟨0, Nat.zero_le _, rfl, none_zero _, Below.refl _ _⟩
  case round =>
    obtain ⟨k, hk, rfl, hN, hB⟩ := hrel
    have hz := hB.size
    by_cases hlt : k < n
    · rcases hrd with hnil | ⟨b, o, rfl, hbl, hcell⟩
      · exact absurd (by rw [HN.out, hnil]; rfl : n = 0) (by omega)
      have hkl : k < l.length := by rw [← HN.out]; exact hlt
      obtain ⟨h1, h2⟩ := hcell k hkl
      have hs1 := seSmall_get hs k hkl
      have g1 := (hB.cell (p := ⟨b, o + k * 2, none⟩) hbl).trans h1
      have g2 := (hB.cell (p := ⟨b, o + k * 2 + 1, none⟩) hbl).trans h2
      clear h1 h2 hcell
      have hk0 : (0 : Int) ≤ (k : Int) := by omega
      have hkn : (k : Int) < (n : Int) := by omega
      have hbg := hid (badS_get hkl)
      obtain ⟨x, hx⟩ : ∃ x, x = l[k] := ⟨_, rfl⟩
      rw [← hx] at g1 g2 hs1 hbg
      clear hx
      have h06 : inB x.2 0 6 = (decide (x.2 = 0) || inB x.2 1 6) := by rw [Bool.eq_iff_iff]; simp [inB]; omega
      rw [h06] at hbg
      clear h06
      cases e1 : letB x.1
      · have hbad := hid (pageOk_bad hkl hN (by rw [hbg.out, e1]; rfl))
        go_wp2_with (first | (go_at_call 59; refine (sLet_b _ _ hs1 e1).mono ?_; rintro e w' ⟨rfl, rfl⟩))
        go_ret
        exact ⟨ret_bool hbad.out.symm, by (repeat (first | with_reducible exact Below.refl _ _ | with_reducible assumption | refine Below.drew ?_ | refine below_drewN ?_ _ | (refine Below.alloc ?_ (by first | omega | (simp; done) | (simp; omega)) _) | (refine Below.setCell ?_ (by first | omega | (simp; done) | (simp; omega)) _) | (refine Below.trans ?_ (Below.mono (by assumption) (by first | omega | (simp; done) | (simp; omega))))))⟩
      by_cases e0 : x.2 = 0
      · have hgood := hid (none_next hN (by rw [hbg.out, e1, e0]; rfl))
        have e3 : (x.2 != 0) = false := by simp [e0]
        clear e0
        go_wp2_with (first | (go_at_call 59; refine (sLet_b _ _ hs1 e1).mono ?_; rintro e w' ⟨rfl, rfl⟩))
        go_roundw
        case rel => exact ⟨k + 1, by omega, by go_num, hgood.out, by (repeat (first | with_reducible exact Below.refl _ _ | with_reducible assumption | refine Below.drew ?_ | refine below_drewN ?_ _ | (refine Below.alloc ?_ (by first | omega | (simp; done) | (simp; omega)) _) | (refine Below.setCell ?_ (by first | omega | (simp; done) | (simp; omega)) _) | (refine Below.trans ?_ (Below.mono (by assumption) (by first | omega | (simp; done) | (simp; omega))))))⟩
        case measure => simp [intOf]; omega
      have e3 : (x.2 != 0) = true := by simpa using e0
      cases e2 : inB x.2 1 6
      · have hbad := hid (pageOk_bad hkl hN (by rw [hbg.out, e1, e2]; simp [e0]))
        clear e0
        go_wp2_with (first | (go_at_call 59; refine (sLet_b _ _ hs1 e1).mono ?_; rintro e w' ⟨rfl, rfl⟩) | (go_at_call 79; refine (kind_b _ _ e2).mono ?_; rintro e w' ⟨rfl, rfl⟩))
        go_ret
        exact ⟨ret_bool hbad.out.symm, by (repeat (first | with_reducible exact Below.refl _ _ | with_reducible assumption | refine Below.drew ?_ | refine below_drewN ?_ _ | (refine Below.alloc ?_ (by first | omega | (simp; done) | (simp; omega)) _) | (refine Below.setCell ?_ (by first | omega | (simp; done) | (simp; omega)) _) | (refine Below.trans ?_ (Below.mono (by assumption) (by first | omega | (simp; done) | (simp; omega))))))⟩
      · have hgood := hid (none_next hN (by rw [hbg.out, e1, e2]; simp))
        clear e0
        go_wp2_with (first | (go_at_call 59; refine (sLet_b _ _ hs1 e1).mono ?_; rintro e w' ⟨rfl, rfl⟩) | (go_at_call 79; refine (kind_b _ _ e2).mono ?_; rintro e w' ⟨rfl, rfl⟩))
        go_roundw
        case rel => exact ⟨k + 1, by omega, by go_num, hgood.out, by (repeat (first | with_reducible exact Below.refl _ _ | with_reducible assumption | refine Below.drew ?_ | refine below_drewN ?_ _ | (refine Below.alloc ?_ (by first | omega | (simp; done) | (simp; omega)) _) | (refine Below.setCell ?_ (by first | omega | (simp; done) | (simp; omega)) _) | (refine Below.trans ?_ (Below.mono (by assumption) (by first | omega | (simp; done) | (simp; omega))))))⟩
        case measure => simp [intOf]; omega
    · obtain rfl : k = n := by omega
      have ha := hid (show pageOk l = decide (l.length ≤ 60) by rw [HN.out] at hN; exact pageOk_all hN)
      by_cases h30 : (k : Int) ≤ 60
      all_goals
        go_wp2
        go_ret
        exact ⟨ret_bool (by rw [ha.out, ← HN.out]; simp; omega), hB⟩
end Go.Proofs.Ythhpeanlpikjbaa
