/-
  Lists of numbers: the same, holds, rises: plain functions and the walks of both sides.
-/
import Derived.Test.YtbfkiopikkolcaaTo64
import Derived.Test.YtbfkiopikkolcaaFind
import Derived.Test.YtbfkiopikkolcaaLess
namespace Go.Proofs.Ytbfkiopikkolcaa
open Go.RowKit Go.ChangeShapes Go.WideShapes
set_option linter.unusedVariables false
attribute [local go_sem ↓] Go.wp_at_zero Go.wp_at_succ

theorem rd_drewN {w : World} {ao : Option Addr} {xs : List Value} (h : Rd w ao xs) (m : Nat) : Rd (w.drewN m) ao xs := h
def difN (a b : List Int) (k : Nat) : Bool := if h : k < a.length ∧ k < b.length then (a[k] != b[k]) else false
theorem difN_get {a b : List Int} {k : Nat} (h1 : k < a.length) (h2 : k < b.length) : difN a b k = (a[k] != b[k]) := by unfold difN; rw [dif_pos ⟨h1, h2⟩]
def sameN (a b : List Int) : Bool := decide (a.length = b.length) && (firstAt (difN a b) a.length).isNone
theorem sameN_len {a b : List Int} (h : ¬ a.length = b.length) : sameN a b = false := by unfold sameN; rw [decide_eq_false h]; rfl
theorem sameN_hit {a b : List Int} {k : Nat} (h : k < a.length) (hN : NoneUpTo (difN a b) k) (hk : difN a b k = true) : sameN a b = false := by unfold sameN; rw [first_hit hN hk h]; simp
theorem sameN_all {a b : List Int} (h : a.length = b.length) (hN : NoneUpTo (difN a b) a.length) : sameN a b = true := by unfold sameN; rw [decide_eq_true h, first_none hN]; rfl
def isN (l : List Int) (q : Int) (k : Nat) : Bool := if h : k < l.length then (l[k] == q) else false
theorem isN_get {l : List Int} {q : Int} {k : Nat} (h : k < l.length) : isN l q k = (l[k] == q) := by unfold isN; rw [dif_pos h]
def hasN (l : List Int) (q : Int) : Bool := (firstAt (isN l q) l.length).isSome
theorem hasN_hit {l : List Int} {q : Int} {k : Nat} (h : k < l.length) (hN : NoneUpTo (isN l q) k) (hk : isN l q k = true) : hasN l q = true := by unfold hasN; rw [first_hit hN hk h]; rfl
theorem hasN_none {l : List Int} {q : Int} (hN : NoneUpTo (isN l q) l.length) : hasN l q = false := by unfold hasN; rw [first_none hN]; rfl
set_option maxHeartbeats 2000000 in
theorem sSame_any (ao : Option Addr) (n cap : Nat) (a : List Int) (bo : Option Addr) (n2 cap2 : Nat) (b : List Int) (w : World) (hn : n = a.length) (hr : Rd w ao (i64s a)) (hn2 : n2 = b.length) (hr2 : Rd w bo (i64s b)) (hm : n ≤ 1048576) (hm2 : n2 ≤ 1048576) :
    Calls Try.prog 39 #[.slice ao n cap, .slice bo n2 cap2] w fun e w' => e = .returned (.bool (sameN a b)) ∧ Below w.heap.size w w' := by
  have HN := hid hn
  have HN2 := hid hn2
  have hrd := rd_i64 hr
  have hrd2 := rd_i64 hr2
  clear hn hn2 hr hr2
  by_cases hnn : n = n2
  case neg =>
    have hR := hid (sameN_len (a := a) (b := b) (by rw [← HN.out, ← HN2.out]; exact hnn))
    have e1 : ((n : Int) != (n2 : Int)) = true := neI_true (by omega)
    clear hnn
    go_enter Try.func39, Try.ntmps39
    go_wp2
    go_ret
    exact ⟨ret_bool hR.out.symm, Below.refl _ _⟩
  subst hnn
  have hLL := hid (show a.length = b.length by rw [← HN.out, ← HN2.out])
  have e1 : ((n : Int) != (n : Int)) = false := neI_false rfl
  go_enter Try.func39, Try.ntmps39
  go_wp2
  go_loopw [5] (fun i wr => ∃ k : Nat, k ≤ n ∧ i = .int .i64 k ∧ Hid (NoneUpTo (difN a b) k) ∧ Below w.heap.size w wr) (fun i _ => n - (intOf i).toNat)
  case atStart => exact ⟨0, Nat.zero_le _, rfl, hid (none_zero _), Below.refl _ _⟩
  case round =>
    obtain ⟨k, hk, rfl, hNo, hB⟩ := hrel
    by_cases hlt : k < n
    · rcases hrd with hnil | ⟨g, o, rfl, hbl, hcell⟩
      · exact absurd (by rw [HN.out, hnil]; rfl : n = 0) (by omega)
      rcases hrd2 with hnil | ⟨g2, o2, rfl, hbl2, hcell2⟩
      · exact absurd (by rw [HN2.out, hnil]; rfl : n = 0) (by omega)
      have hka : k < a.length := by rw [← HN.out]; exact hlt
      have hkb : k < b.length := by rw [← HN2.out]; exact hlt
      have g1 := (hB.cell (p := ⟨g, o + k, none⟩) hbl).trans (hcell k hka)
      have g2c := (hB.cell (p := ⟨g2, o2 + k, none⟩) hbl2).trans (hcell2 k hkb)
      have hdf := hid (difN_get hka hkb)
      have hht := hid (fun hN hq => sameN_hit (b := b) hka hN hq)
      obtain ⟨x, hx⟩ : ∃ x, x = a[k] := ⟨_, rfl⟩
      obtain ⟨y, hy⟩ : ∃ y, y = b[k] := ⟨_, rfl⟩
      rw [← hx] at g1 hdf
      rw [← hy] at g2c hdf
      clear hx hy hcell hcell2 hka hkb
      have hk0 : (0 : Int) ≤ (k : Int) := by omega
      have hkn : (k : Int) < (n : Int) := by omega
      by_cases heq : x = y
      · have e2 := neI_false heq
        have hd := hid (hdf.out.trans e2)
        clear heq
        go_wp2_with fail
        go_quiet (fail)
        go_wp2
        go_roundw
        case rel => exact ⟨k + 1, by omega, by go_num, hid (none_next hNo.out hd.out), below_drewN hB _⟩
        case measure => simp [intOf]; omega
      · have e2 := neI_true heq
        have hR := hid (hht.out hNo.out (hdf.out.trans e2))
        clear heq
        go_wp2_with fail
        go_quiet (fail)
        go_wp2
        go_ret
        exact ⟨ret_bool hR.out.symm, below_drewN hB _⟩
    · obtain rfl : k = n := by omega
      have hR := hid (sameN_all hLL.out (by rw [← HN.out]; exact hNo.out))
      go_wp2
      go_ret
      exact ⟨ret_bool hR.out.symm, hB⟩
set_option maxHeartbeats 2000000 in
theorem sameNum_any (ao : Option Addr) (n cap : Nat) (a : List Int) (bo : Option Addr) (n2 cap2 : Nat) (b : List Int) (w : World) (hn : n = a.length) (hr : Rd w ao (i64s a)) (hn2 : n2 = b.length) (hr2 : Rd w bo (i64s b)) (hm : n ≤ 1048576) (hm2 : n2 ≤ 1048576) :
    Calls Try.prog 41 #[.slice ao n cap, .slice bo n2 cap2] w fun e w' => e = .returned (.bool (sameN a b)) ∧ Below w.heap.size w w' := by
  have HN := hid hn
  have HN2 := hid hn2
  have hrd := rd_i64 hr
  have hrd2 := rd_i64 hr2
  clear hn hn2 hr hr2
  by_cases hnn : n = n2
  case neg =>
    have hR := hid (sameN_len (a := a) (b := b) (by rw [← HN.out, ← HN2.out]; exact hnn))
    have e1 : ((n : Int) != (n2 : Int)) = true := neI_true (by omega)
    clear hnn
    go_enter Try.func41, Try.ntmps41
    go_wp2
    go_ret
    exact ⟨ret_bool hR.out.symm, Below.refl _ _⟩
  subst hnn
  have hLL := hid (show a.length = b.length by rw [← HN.out, ← HN2.out])
  have e1 : ((n : Int) != (n : Int)) = false := neI_false rfl
  go_enter Try.func41, Try.ntmps41
  go_wp2
  go_loopw [5, 13] (fun _ i wr => ∃ k : Nat, k ≤ n ∧ i = .int .i64 k ∧ Hid (NoneUpTo (difN a b) k) ∧ Below w.heap.size w wr) (fun _ i _ => n - (intOf i).toNat)
  case atStart => exact ⟨0, Nat.zero_le _, rfl, hid (none_zero _), Below.refl _ _⟩
  case round =>
    obtain ⟨k, hk, rfl, hNo, hB⟩ := hrel
    by_cases hlt : k < n
    · rcases hrd with hnil | ⟨g, o, rfl, hbl, hcell⟩
      · exact absurd (by rw [HN.out, hnil]; rfl : n = 0) (by omega)
      rcases hrd2 with hnil | ⟨g2, o2, rfl, hbl2, hcell2⟩
      · exact absurd (by rw [HN2.out, hnil]; rfl : n = 0) (by omega)
      have hka : k < a.length := by rw [← HN.out]; exact hlt
      have hkb : k < b.length := by rw [← HN2.out]; exact hlt
      have g1 := (hB.cell (p := ⟨g, o + k, none⟩) hbl).trans (hcell k hka)
      have g2c := (hB.cell (p := ⟨g2, o2 + k, none⟩) hbl2).trans (hcell2 k hkb)
      have hdf := hid (difN_get hka hkb)
      have hht := hid (fun hN hq => sameN_hit (b := b) hka hN hq)
      obtain ⟨x, hx⟩ : ∃ x, x = a[k] := ⟨_, rfl⟩
      obtain ⟨y, hy⟩ : ∃ y, y = b[k] := ⟨_, rfl⟩
      rw [← hx] at g1 hdf
      rw [← hy] at g2c hdf
      clear hx hy hcell hcell2 hka hkb
      have hk0 : (0 : Int) ≤ (k : Int) := by omega
      have hkn : (k : Int) < (n : Int) := by omega
      by_cases heq : x = y
      · have e2 := neI_false heq
        have hd := hid (hdf.out.trans e2)
        clear heq
        go_wp2_with fail
        go_quiet (fail)
        go_wp2
        go_roundw
        case rel => exact ⟨k + 1, by omega, by go_num, hid (none_next hNo.out hd.out), below_drewN hB _⟩
        case measure => simp [intOf]; omega
      · have e2 := neI_true heq
        have hR := hid (hht.out hNo.out (hdf.out.trans e2))
        clear heq
        go_wp2_with fail
        go_quiet (fail)
        go_wp2
        go_ret
        exact ⟨ret_bool hR.out.symm, below_drewN hB _⟩
    · obtain rfl : k = n := by omega
      have hR := hid (sameN_all hLL.out (by rw [← HN.out]; exact hNo.out))
      go_wp2
      go_ret
      exact ⟨ret_bool hR.out.symm, hB⟩
set_option maxHeartbeats 2000000 in
theorem sHas_any (ao : Option Addr) (n cap : Nat) (l : List Int) (q : Int) (w : World) (hn : n = l.length) (hr : Rd w ao (i64s l)) (hm : n ≤ 1048576) :
    Calls Try.prog 67 #[.slice ao n cap, .int .i64 q] w fun e w' => e = .returned (.bool (hasN l q)) ∧ w = w' := by
  have HN := hid hn
  have hrd := rd_i64 hr
  clear hn hr
  go_enter Try.func67, Try.ntmps67
  go_wp2
  go_loopw [5] (fun i wr => ∃ k : Nat, k ≤ n ∧ i = .int .i64 k ∧ Hid (NoneUpTo (isN l q) k) ∧ w = wr) (fun i _ => n - (intOf i).toNat)
  case atStart => exact ⟨0, Nat.zero_le _, rfl, hid (none_zero _), rfl⟩
  case round =>
    obtain ⟨k, hk, rfl, hNo, rfl⟩ := hrel
    by_cases hlt : k < n
    · rcases hrd with hnil | ⟨g, o, rfl, hbl, hcell⟩
      · exact absurd (by rw [HN.out, hnil]; rfl : n = 0) (by omega)
      have hka : k < l.length := by rw [← HN.out]; exact hlt
      have g1 := hcell k hka
      have hdf := hid (isN_get (q := q) hka)
      have hht := hid (fun hN hq => hasN_hit (q := q) hka hN hq)
      obtain ⟨x, hx⟩ : ∃ x, x = l[k] := ⟨_, rfl⟩
      rw [← hx] at g1 hdf
      clear hx hcell hka
      have hk0 : (0 : Int) ≤ (k : Int) := by omega
      have hkn : (k : Int) < (n : Int) := by omega
      by_cases heq : x = q
      · have e2 := eqI_true heq
        have hR := hid (hht.out hNo.out (hdf.out.trans e2))
        clear heq
        go_wp2
        go_ret
        exact ⟨ret_bool hR.out.symm, rfl⟩
      · have e2 := eqI_false heq
        have hd := hid (hdf.out.trans e2)
        clear heq
        go_wp2
        go_roundw
        case rel => exact ⟨k + 1, by omega, by go_num, hid (none_next hNo.out hd.out), by trivial⟩
        case measure => simp [intOf]; omega
    · obtain rfl : k = n := by omega
      have hR := hid (hasN_none (by rw [← HN.out]; exact hNo.out))
      go_wp2
      go_ret
      exact ⟨ret_bool hR.out.symm, rfl⟩
theorem sHas_b {r : Bool} (ao : Option Addr) (n cap : Nat) (l : List Int) (q : Int) (w : World) (hn : n = l.length) (hr : Rd w ao (i64s l)) (hm : n ≤ 1048576) (h : hasN l q = r) :
    Calls Try.prog 67 #[.slice ao n cap, .int .i64 q] w fun e w' => e = .returned (.bool r) ∧ w = w' := by rw [← h]; exact sHas_any ao n cap l q w hn hr hm
set_option maxHeartbeats 2000000 in
theorem contains_any (ao : Option Addr) (n cap : Nat) (l : List Int) (q : Int) (w : World) (hn : n = l.length) (hr : Rd w ao (i64s l)) (hm : n ≤ 1048576) :
    Calls Try.prog 47 #[.slice ao n cap, .int .i64 q] w fun e w' => e = .returned (.bool (hasN l q)) ∧ w = w' := by
  have HN := hid hn
  have hrd := rd_i64 hr
  clear hn hr
  go_enter Try.func47, Try.ntmps47
  go_wp2
  go_loopw [6, 9] (fun _ i wr => ∃ k : Nat, k ≤ n ∧ i = .int .i64 k ∧ Hid (NoneUpTo (isN l q) k) ∧ w = wr) (fun _ i _ => n - (intOf i).toNat)
  case atStart => exact ⟨0, Nat.zero_le _, rfl, hid (none_zero _), rfl⟩
  case round =>
    obtain ⟨k, hk, rfl, hNo, rfl⟩ := hrel
    by_cases hlt : k < n
    · rcases hrd with hnil | ⟨g, o, rfl, hbl, hcell⟩
      · exact absurd (by rw [HN.out, hnil]; rfl : n = 0) (by omega)
      have hka : k < l.length := by rw [← HN.out]; exact hlt
      have g1 := hcell k hka
      have hdf := hid (isN_get (q := q) hka)
      have hht := hid (fun hN hq => hasN_hit (q := q) hka hN hq)
      obtain ⟨x, hx⟩ : ∃ x, x = l[k] := ⟨_, rfl⟩
      rw [← hx] at g1 hdf
      clear hx hcell hka
      have hk0 : (0 : Int) ≤ (k : Int) := by omega
      have hkn : (k : Int) < (n : Int) := by omega
      by_cases heq : x = q
      · have e2 := eqI_true heq
        have hR := hid (hht.out hNo.out (hdf.out.trans e2))
        clear heq
        go_wp2
        go_ret
        exact ⟨ret_bool hR.out.symm, rfl⟩
      · have e2 := eqI_false heq
        have hd := hid (hdf.out.trans e2)
        clear heq
        go_wp2
        go_roundw
        case rel => exact ⟨k + 1, by omega, by go_num, hid (none_next hNo.out hd.out), by trivial⟩
        case measure => simp [intOf]; omega
    · obtain rfl : k = n := by omega
      have hR := hid (hasN_none (by rw [← HN.out]; exact hNo.out))
      go_wp2
      go_ret
      exact ⟨ret_bool hR.out.symm, rfl⟩
theorem contains_b {r : Bool} (ao : Option Addr) (n cap : Nat) (l : List Int) (q : Int) (w : World) (hn : n = l.length) (hr : Rd w ao (i64s l)) (hm : n ≤ 1048576) (h : hasN l q = r) :
    Calls Try.prog 47 #[.slice ao n cap, .int .i64 q] w fun e w' => e = .returned (.bool r) ∧ w = w' := by rw [← h]; exact contains_any ao n cap l q w hn hr hm
end Go.Proofs.Ytbfkiopikkolcaa
