/-
  Walks: does a text begin with another one? are words different ones?
-/
import Derived.Test.YtkkfnmlomjlckaaSlS
import Derived.Test.YtkkfnmlomjlckaaMap
import Derived.Test.YtkkfnmlomjlckaaAbA
import Derived.Test.YtkkfnmlomjlckaaFind
namespace Go.Proofs.Ytkkfnmlomjlckaa
open Go.RowKit Go.ChangeShapes Go.WideShapes
set_option linter.unusedVariables false
attribute [local go_sem ↓] Go.wp_at_zero Go.wp_at_succ

def preB (x s : ByteArray) : Bool := decide (s.size ≤ x.size) && ((x.extract 0 s.size).toList == s.toList)
theorem preB_eq {x s : ByteArray} (h : s.size ≤ x.size) : preB x s = ((x.extract 0 s.size).toList == s.toList) := by simp [preB, h]
theorem preB_no {x s : ByteArray} (h : ¬ s.size ≤ x.size) : preB x s = false := by simp [preB, h]
theorem stlPre_any (x s : ByteArray) (w : World) (hx : x.size ≤ maxLen) (hs : s.size ≤ maxLen) : Calls Try.prog 73 #[.string x, .string s] w fun e w' => e = .returned (.bool (preB x s)) ∧ w = w' := by
  unfold maxLen at hx hs
  by_cases h : s.size ≤ x.size
  · have h1 : (s.size : Int) ≤ (x.size : Int) := by omega
    have h2 := hid (preB_eq h)
    go_enter Try.func73, Try.ntmps73
    go_wp2
    go_ret
    exact ⟨ret_bool h2.out.symm, rfl⟩
  · have h1 : ¬ (s.size : Int) ≤ (x.size : Int) := by omega
    have h2 := hid (preB_no h)
    go_enter Try.func73, Try.ntmps73
    go_wp2
    go_ret
    exact ⟨ret_bool h2.out.symm, rfl⟩
theorem hasPre_any (x s : ByteArray) (w : World) (hx : x.size ≤ maxLen) (hs : s.size ≤ maxLen) : Calls Try.prog 64 #[.string x, .string s] w fun e w' => e = .returned (.bool (preB x s)) ∧ w = w' := by
  go_enter Try.func64, Try.ntmps64
  go_wp2_with (go_at_call 73; refine (stlPre_any _ _ _ hx hs).mono ?_; rintro e w' ⟨rfl, rfl⟩)
  go_ret
  exact ⟨rfl, rfl⟩
theorem starts_any (x s : ByteArray) (w : World) (hx : x.size ≤ maxLen) (hs : s.size ≤ maxLen) : Calls Try.prog 60 #[.string x, .string s] w fun e w' => e = .returned (.bool (preB x s)) ∧ w = w' := by
  unfold maxLen at hx hs
  by_cases h : s.size ≤ x.size
  · have h1 : (s.size : Int) ≤ (x.size : Int) := by omega
    have h2 := hid (preB_eq h)
    go_enter Try.func60, Try.ntmps60
    go_wp2
    go_ret
    exact ⟨ret_bool h2.out.symm, rfl⟩
  · have h1 : ¬ (s.size : Int) ≤ (x.size : Int) := by omega
    have h2 := hid (preB_no h)
    go_enter Try.func60, Try.ntmps60
    go_wp2
    go_ret
    exact ⟨ret_bool h2.out.symm, rfl⟩

/-- is something wrong with word k? -/
def badW (l : List ByteArray) (k : Nat) : Bool := if h : k < l.length then !(wordB l[k] 30) || isIn (l.take k) l[k] else false
def wordsOk (l : List ByteArray) : Bool := (firstAt (badW l) l.length).isNone && decide (l.length ≤ 30)
theorem badW_word {l : List ByteArray} {k : Nat} (h : k < l.length) (hw : wordB l[k] 30 = false) : badW l k = true := by
  unfold badW; rw [dif_pos h, hw]; rfl
theorem badW_in {l : List ByteArray} {k : Nat} (h : k < l.length) (hw : wordB l[k] 30 = true) : badW l k = isIn (l.take k) l[k] := by
  unfold badW; rw [dif_pos h, hw]; rfl
theorem wordsOk_bad {l : List ByteArray} {k : Nat} (h : k < l.length) (hN : NoneUpTo (badW l) k) (hb : badW l k = true) : wordsOk l = false := by
  unfold wordsOk; rw [first_hit hN hb h]; rfl
theorem wordsOk_all {l : List ByteArray} (hN : NoneUpTo (badW l) l.length) : wordsOk l = decide (l.length ≤ 30) := by
  unfold wordsOk; rw [first_none hN]; simp
theorem isIn_zero (l : List ByteArray) (x : ByteArray) : isIn (l.take 0) x = false := by simp [isIn]
theorem isIn_next {l : List ByteArray} {k : Nat} (h : k < l.length) (x : ByteArray) : isIn (l.take (k + 1)) x = (isIn (l.take k) x || (l[k].toList == x.toList)) := by
  rw [List.take_succ_eq_append_getElem h, isIn_snoc]
theorem isIn_more {l : List ByteArray} {j k : Nat} (h : j < k) (hk : k ≤ l.length) {x : ByteArray} (hx : (l[j]'(by omega)).toList == x.toList) : isIn (l.take k) x = true := by
  unfold isIn
  rw [List.any_eq_true]
  exact ⟨l[j]'(by omega), by rw [List.mem_take_iff_getElem]; exact ⟨j, by omega, rfl⟩, hx⟩
theorem markD_next {l : List ByteArray} {k : Nat} (h : k < l.length) : markD (l.take (k + 1)) = (markD (l.take k)).put (.string l[k].data.toList) (.lit (.bool true)) := by
  rw [List.take_succ_eq_append_getElem h, markD_snoc]

set_option maxHeartbeats 4000000 in
theorem sList_any (ao : Option Addr) (n cap : Nat) (l : List ByteArray) (w : World) (hn : n = l.length) (hr : Rd w ao (strs l)) (hs : ∀ x ∈ l, x.size ≤ maxLen) (hm : n ≤ 1048576) :
    Calls Try.prog 58 #[.slice ao n cap] w fun e w' => e = .returned (.bool (wordsOk l)) ∧ Below w.heap.size w w' := by
  have HN := hid hn
  have hrd := rd_str hr
  clear hn hr
  go_enter Try.func58, Try.ntmps58
  go_wp2_with fail
  go_loopw [3] (fun i wr => ∃ k : Nat, k ≤ n ∧ i = .int .i64 k ∧ NoneUpTo (badW l) k ∧ Below w.heap.size w wr) (fun i _ => n - (intOf i).toNat)
  case atStart => exact ⟨0, Nat.zero_le _, rfl, none_zero _, Below.refl _ _⟩
  case round =>
    obtain ⟨k, hk, rfl, hN, hB⟩ := hrel
    by_cases hlt : k < n
    · rcases hrd with hnil | ⟨b, o, rfl, hbl, hcell⟩
      · exact absurd (by rw [HN.out, hnil]; rfl : n = 0) (by omega)
      · have hkl : k < l.length := by rw [← HN.out]; exact hlt
        have g1 := (hB.cell (p := ⟨b, o + k, none⟩) hbl).trans (hcell k hkl)
        have hs1 := hs _ (List.getElem_mem hkl)
        have hk0 : (0 : Int) ≤ (k : Int) := by omega
        have hkn : (k : Int) < (n : Int) := by omega
        have hbw := Nat.lt_of_lt_of_le hbl hB.size
        cases hok : wordB l[k] 30
        · have hbad := hid (wordsOk_bad hkl hN (badW_word hkl hok))
          obtain ⟨x, hx⟩ : ∃ x, x = l[k] := ⟨_, rfl⟩
          rw [← hx] at g1 hs1 hok
          clear hx
          go_wp2_with (go_at_call 59; refine (sWord_b _ _ _ hs1 hok).mono ?_; rintro e w' ⟨rfl, rfl⟩)
          go_ret
          exact ⟨ret_bool hbad.out.symm, hB⟩
        · have hin := badW_in hkl hok
          obtain ⟨x, hx⟩ : ∃ x, x = l[k] := ⟨_, rfl⟩
          rw [← hx] at g1 hs1 hok hin
          have Hx := hid hx
          clear hx
          have Hin := hid hin
          clear hin
          go_wp2_with (go_at_call 59; refine (sWord_b _ _ _ hs1 hok).mono ?_; rintro e w' ⟨rfl, rfl⟩)
          go_loopw [4] (fun i wr2 => ∃ j : Nat, j ≤ k ∧ i = .int .i64 j ∧ isIn (l.take j) x = false ∧ Below wr.heap.size wr wr2) (fun i _ => k - (intOf i).toNat)
          case atStart => exact ⟨0, Nat.zero_le _, rfl, isIn_zero _ _, Below.refl _ _⟩
          case round =>
            obtain ⟨j, hj, rfl, hI, hB2⟩ := hrel
            by_cases hjk : j < k
            · have hjl : j < l.length := by omega
              have g2 := (hB2.cell (p := ⟨b, o + k, none⟩) hbw).trans g1
              have g3 := ((hB2.cell (p := ⟨b, o + j, none⟩) hbw).trans (hB.cell (p := ⟨b, o + j, none⟩) hbl)).trans (hcell j hjl)
              have hbw2 := Nat.lt_of_lt_of_le hbw hB2.size
              have hj0 : (0 : Int) ≤ (j : Int) := by omega
              have hjn : (j : Int) < (n : Int) := by omega
              have hjk1 : (j : Int) < (k : Int) := by omega
              have hnx := hid (isIn_next hjl x)
              obtain ⟨y, hy⟩ : ∃ y, y = l[j] := ⟨_, rfl⟩
              rw [← hy] at g3 hnx
              have hmo2 := hid (show (y.toList == x.toList) = true → isIn (l.take k) x = true from fun h => isIn_more (j := j) hjk (by omega) (by rw [← hy]; exact h))
              clear hy
              cases he : (y.toList == x.toList)
              · go_wp2_with fail
                refine wp_region_over (by kernel_rfl) (by kernel_rfl) (fun hov => ?_)
                repeat (go_big_quiet_step ((fail)))
                refine wpQuiet_nil ?_
                intro w5 hb5
                clear hov
                go_wp2
                go_roundw
                case rel => exact ⟨j + 1, by omega, by go_num, by rw [hnx.out, hI, he]; rfl, hB2.trans (hb5.mono hB2.size)⟩
                case measure => simp [intOf]; omega
              · go_wp2_with fail
                refine wp_region_over (by kernel_rfl) (by kernel_rfl) (fun hov => ?_)
                repeat (go_big_quiet_step ((fail)))
                refine wpQuiet_nil ?_
                intro w5 hb5
                clear hov
                go_wp2
                go_ret
                exact ⟨ret_bool (wordsOk_bad hkl hN (by rw [Hin.out]; exact hmo2.out he)).symm, (hB.trans (hB2.mono hB.size)).trans (hb5.mono (Nat.le_trans hB.size hB2.size))⟩
            · obtain rfl : j = k := by omega
              go_wp2
              go_roundw
              case rel => exact ⟨j + 1, by omega, by go_num, none_next hN (by rw [Hin.out]; exact hI), hB.trans (hB2.mono hB.size)⟩
              case measure => simp [intOf]; omega
    · obtain rfl : k = n := by omega
      have ha := hid (show wordsOk l = decide (l.length ≤ 30) by rw [HN.out] at hN; exact wordsOk_all hN)
      by_cases h30 : (k : Int) ≤ 30
      all_goals
        go_wp2
        go_ret
        exact ⟨ret_bool (by rw [ha.out, ← HN.out]; simp; omega), hB⟩
end Go.Proofs.Ytkkfnmlomjlckaa
