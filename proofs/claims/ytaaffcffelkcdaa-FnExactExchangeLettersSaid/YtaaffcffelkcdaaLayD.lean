/-
  Walks: the row and the column of a letter.
-/
import Derived.Test.YtaaffcffelkcdaaLayC
namespace Go.Proofs.Ytaaffcffelkcdaa
open Go.RowKit Go.ChangeShapes Go.WideShapes
set_option linter.unusedVariables false
attribute [local go_sem ↓] Go.wp_at_zero Go.wp_at_succ

theorem sg_size {x : ByteArray} (h : sgB x = true) : x.size = 1 := by
  simp only [sgB, Bool.and_eq_true, decide_eq_true_eq] at h; exact h.1
set_option maxHeartbeats 1000000 in
theorem isLet_any (x : ByteArray) (w : World) (hx : x.size ≤ maxLen) : Calls Try.prog 41 #[.string x] w fun e w' => e = .returned (.bool (sgB x)) ∧ w = w' := by
  have hx' := hx
  unfold maxLen at hx'
  by_cases h1 : x.size = 1
  · have hl := hid (show sgB x = textB x 33 1 by simp [sgB, h1])
    have h2 : (x.size : Int) = 1 := by omega
    cases ht : textB x 33 1
    all_goals
      go_enter Try.func41, Try.ntmps41
      go_wp2_with (go_at_call 50; refine (isText_b _ _ _ _ hx (by omega) (by omega) ht).mono ?_; rintro e w' ⟨rfl, rfl⟩)
      go_ret
      exact ⟨ret_bool (by rw [hl.out, ht]), rfl⟩
  · have hl := hid (show sgB x = false by simp [sgB, h1])
    have h2 : ((x.size : Int) == 1) = false := by simp; omega
    go_enter Try.func41, Try.ntmps41
    go_wp2_with fail
    go_ret
    exact ⟨ret_bool hl.out.symm, rfl⟩
theorem isLet_b {r : Bool} (x : ByteArray) (w : World) (hx : x.size ≤ maxLen) (h : sgB x = r) : Calls Try.prog 41 #[.string x] w fun e w' => e = .returned (.bool r) ∧ w = w' := by
  subst h; exact isLet_any x w hx

def headB (s : ByteArray) : UInt8 := if h : 0 < s.size then s[0] else 0
theorem headB_get {s : ByteArray} (h : 0 < s.size) : headB s = s[0] := by unfold headB; rw [dif_pos h]
def spR (rows : List ByteArray) (s : ByteArray) : Int × Int × Int :=
  if layOk rows = true then (if sgB s = true then (match spotOf rows (headB s) with | some (r, c) => ((r : Int), (c : Int), 0) | none => (0, 0, 3)) else (0, 0, 2)) else (0, 0, 1)
theorem spR_bad {rows : List ByteArray} {s : ByteArray} (h : layOk rows = false) : spR rows s = (0, 0, 1) := by simp [spR, h]
theorem spR_let {rows : List ByteArray} {s : ByteArray} (h : layOk rows = true) (h2 : sgB s = false) : spR rows s = (0, 0, 2) := by simp [spR, h, h2]
theorem spR_none {rows : List ByteArray} {s : ByteArray} (h : layOk rows = true) (h2 : sgB s = true) (h3 : spotOf rows (headB s) = none) : spR rows s = (0, 0, 3) := by simp [spR, h, h2, h3]
theorem spR_some {rows : List ByteArray} {s : ByteArray} {r c : Nat} (h : layOk rows = true) (h2 : sgB s = true) (h3 : spotOf rows (headB s) = some (r, c)) : spR rows s = ((r : Int), (c : Int), 0) := by simp [spR, h, h2, h3]

set_option maxRecDepth 100000 in
set_option maxHeartbeats 4000000 in
theorem sSpotOf_any (ao : Option Addr) (n cap : Nat) (rows : List ByteArray) (s : ByteArray) (w : World) (hs2 : s.size ≤ maxLen) (hn : n = rows.length) (hr : Rd w ao (strs rows)) (hs : ∀ x ∈ rows, x.size ≤ maxLen) (hm : n ≤ 1048576) :
    Calls Try.prog 11 #[.agg #[.slice ao n cap], .string s] w fun e w' => e = .returned (.tuple #[.int .i64 (spR rows s).1, .int .i64 (spR rows s).2.1, .int .i64 (spR rows s).2.2]) ∧ Below w.heap.size w w' := by
  have HN := hid hn
  clear hn
  have hB0 : Below w.heap.size w (w.alloc (.cells #[.slice ao n cap] 28)) := (Below.refl _ _).alloc (Nat.le_refl _) _
  have hr0 := rd_below hr hB0
  have hwa := lyAt_new w ao n cap 28
  cases h1 : layOk rows
  · have hR := hid (spR_bad (s := s) h1)
    go_enter Try.func11, Try.ntmps11
    go_wp2_with (go_at_call 36; refine (sLay_any _ _ ao n cap rows _ hwa HN.out hr0 hs hm).mono ?_; rw [h1]; rintro e w1 ⟨rfl, hb1⟩)
    go_ret3
    exact ⟨by simp [hR.out], hB0.trans (hb1.mono (by simp))⟩
  cases h2 : sgB s
  · have hR := hid (spR_let h1 h2)
    go_enter Try.func11, Try.ntmps11
    go_wp2_with (first | (go_at_call 36; refine (sLay_any _ _ ao n cap rows _ hwa HN.out hr0 hs hm).mono ?_; rw [h1]; rintro e w1 ⟨rfl, hb1⟩) | (go_at_call 37; refine (sLetter_b _ _ hs2 h2).mono ?_; rintro e w' ⟨rfl, rfl⟩))
    go_ret3
    exact ⟨by simp [hR.out], hB0.trans (hb1.mono (by simp))⟩
  have hsz := sg_size h2
  have h0 : 0 < s.size := by omega
  have hz0 : (0 : Int) < (s.size : Int) := by omega
  have hhd := headB_get h0
  cases hsp : spotOf rows (headB s) with
  | none =>
    have hR := hid (spR_none h1 h2 hsp)
    rw [hhd] at hsp
    have HSP := hid hsp
    clear hsp hsz hhd
    go_enter Try.func11, Try.ntmps11
    go_wp2_with (first | (go_at_call 36; refine (sLay_any _ _ ao n cap rows _ hwa HN.out hr0 hs hm).mono ?_; rw [h1]; rintro e w1 ⟨rfl, hb1⟩; obtain ⟨q0, q1⟩ := hwa.below hb1 (by simp) hb1.size) | (go_at_call 37; refine (sLetter_b _ _ hs2 h2).mono ?_; rintro e w' ⟨rfl, rfl⟩))
    go_quiet ((go_at_call 38; exact qs (sAt_none _ n cap rows s[0] _ HN.out (rd_drewN (rd_below hr0 hb1) _) hs hm HSP.out)))
    go_wp2
    go_ret3
    exact ⟨by simp [hR.out], below_drewN (hB0.trans (hb1.mono (by simp))) _⟩
  | some rc =>
    obtain ⟨r, c⟩ := rc
    have hR := hid (spR_some h1 h2 hsp)
    rw [hhd] at hsp
    have HSP := hid hsp
    have hr00 : (0 : Int) ≤ (r : Int) := by omega
    clear hsp hsz hhd
    go_enter Try.func11, Try.ntmps11
    go_wp2_with (first | (go_at_call 36; refine (sLay_any _ _ ao n cap rows _ hwa HN.out hr0 hs hm).mono ?_; rw [h1]; rintro e w1 ⟨rfl, hb1⟩; obtain ⟨q0, q1⟩ := hwa.below hb1 (by simp) hb1.size) | (go_at_call 37; refine (sLetter_b _ _ hs2 h2).mono ?_; rintro e w' ⟨rfl, rfl⟩))
    go_quiet ((go_at_call 38; exact qs (sAt_some _ n cap rows s[0] _ HN.out (rd_drewN (rd_below hr0 hb1) _) hs hm HSP.out)))
    go_wp2
    go_ret3
    exact ⟨by simp [hR.out], below_drewN (hB0.trans (hb1.mono (by simp))) _⟩
set_option maxRecDepth 100000 in
set_option maxHeartbeats 4000000 in
theorem spotOf_any (ao : Option Addr) (n cap : Nat) (rows : List ByteArray) (s : ByteArray) (w : World) (hs2 : s.size ≤ maxLen) (hn : n = rows.length) (hr : Rd w ao (strs rows)) (hs : ∀ x ∈ rows, x.size ≤ maxLen) (hm : n ≤ 1048576) :
    Calls Try.prog 13 #[.agg #[.slice ao n cap], .string s] w fun e w' => e = .returned (.tuple #[.int .i64 (spR rows s).1, .int .i64 (spR rows s).2.1, .int .i64 (spR rows s).2.2]) ∧ Below w.heap.size w w' := by
  have HN := hid hn
  clear hn
  have hB0 : Below w.heap.size w (w.alloc (.cells #[.slice ao n cap] 28)) := (Below.refl _ _).alloc (Nat.le_refl _) _
  have hr0 := rd_below hr hB0
  have hwa := lyAt_new w ao n cap 28
  cases h1 : layOk rows
  · have hR := hid (spR_bad (s := s) h1)
    go_enter Try.func13, Try.ntmps13
    go_wp2_with (go_at_call 40; refine (lay_any ao n cap rows _ HN.out hr0 hs hm).mono ?_; rw [h1]; rintro e w1 ⟨rfl, hb1⟩)
    go_ret3
    exact ⟨by simp [hR.out], hB0.trans (hb1.mono (by simp))⟩
  cases h2 : sgB s
  · have hR := hid (spR_let h1 h2)
    go_enter Try.func13, Try.ntmps13
    go_wp2_with (first | (go_at_call 40; refine (lay_any ao n cap rows _ HN.out hr0 hs hm).mono ?_; rw [h1]; rintro e w1 ⟨rfl, hb1⟩) | (go_at_call 41; refine (isLet_b _ _ hs2 h2).mono ?_; rintro e w' ⟨rfl, rfl⟩))
    go_ret3
    exact ⟨by simp [hR.out], hB0.trans (hb1.mono (by simp))⟩
  have hsz := sg_size h2
  have h0 : 0 < s.size := by omega
  have hz0 : (0 : Int) < (s.size : Int) := by omega
  have hhd := headB_get h0
  cases hsp : spotOf rows (headB s) with
  | none =>
    have hR := hid (spR_none h1 h2 hsp)
    rw [hhd] at hsp
    have HSP := hid hsp
    clear hsp hsz hhd
    go_enter Try.func13, Try.ntmps13
    go_wp2_with (first | (go_at_call 40; refine (lay_any ao n cap rows _ HN.out hr0 hs hm).mono ?_; rw [h1]; rintro e w1 ⟨rfl, hb1⟩; obtain ⟨q0, q1⟩ := hwa.below hb1 (by simp) hb1.size; have hr1 := rd_below hr0 hb1) | (go_at_call 41; refine (isLet_b _ _ hs2 h2).mono ?_; rintro e w' ⟨rfl, rfl⟩))
    refine wp_region_over (by kernel_rfl) (by kernel_rfl) (fun hov => ?_)
    repeat (go_big_quiet_step (((go_at_call 42; exact overCall (spot_no _ n cap rows s[0] _ HN.out (rd_over hr1) hs hm HSP.out)))))
    refine wpQuiet_nil ?_
    intro w5 hb5
    clear hov
    obtain ⟨hc5, hf5, hz5⟩ := bcell hb5
    go_wp2
    go_ret3
    exact ⟨by simp [hR.out], hB0.trans ((hb1.trans (hb5.mono hb1.size)).mono (by simp))⟩
  | some rc =>
    obtain ⟨r, c⟩ := rc
    have hR := hid (spR_some h1 h2 hsp)
    rw [hhd] at hsp
    have HSP := hid hsp
    clear hsp hsz hhd
    go_enter Try.func13, Try.ntmps13
    go_wp2_with (first | (go_at_call 40; refine (lay_any ao n cap rows _ HN.out hr0 hs hm).mono ?_; rw [h1]; rintro e w1 ⟨rfl, hb1⟩; obtain ⟨q0, q1⟩ := hwa.below hb1 (by simp) hb1.size; have hr1 := rd_below hr0 hb1) | (go_at_call 41; refine (isLet_b _ _ hs2 h2).mono ?_; rintro e w' ⟨rfl, rfl⟩))
    refine wp_region_over (by kernel_rfl) (by kernel_rfl) (fun hov => ?_)
    repeat (go_big_quiet_step (((go_at_call 42; exact overCall (spot_yes _ n cap rows s[0] _ HN.out (rd_over hr1) hs hm HSP.out)))))
    refine wpQuiet_nil ?_
    intro w5 hb5
    clear hov
    obtain ⟨hc5, hf5, hz5⟩ := bcell hb5
    go_wp2
    go_ret3
    exact ⟨by simp [hR.out], hB0.trans ((hb1.trans (hb5.mono hb1.size)).mono (by simp))⟩
end Go.Proofs.Ytaaffcffelkcdaa
