/-
  Sheets: EvenSheets, walks of both sides.
-/
import Derived.Test.YtbfkiopikkolcaaEvC
namespace Go.Proofs.Ytbfkiopikkolcaa
open Go.RowKit Go.ChangeShapes Go.WideShapes
set_option linter.unusedVariables false
attribute [local go_sem ↓] Go.wp_at_zero Go.wp_at_succ

def evR (l : List Int) : List Int := if wornB l then evI (gI l) l.length else []
def evC (l : List Int) : Int := if wornB l then 0 else 2
theorem ev_no {l : List Int} (h : wornB l = false) : evR l = [] ∧ evC l = 2 := by unfold evR evC; rw [h]; exact ⟨rfl, rfl⟩
theorem ev_yes {l : List Int} (h : wornB l = true) : evR l = evI (gI l) l.length ∧ evC l = 0 := by unfold evR evC; rw [h]; exact ⟨rfl, rfl⟩
theorem worn_len {l : List Int} (h : wornB l = true) : l.length ≤ 12 := by unfold wornB at h; simp at h; exact h.2
theorem evR_len (l : List Int) : (evR l).length ≤ 12 := by
  cases h : wornB l
  · rw [(ev_no h).1]; simp
  · rw [(ev_yes h).1, evI_len]; exact worn_len h

set_option maxRecDepth 100000 in
set_option maxHeartbeats 4000000 in
theorem sEvenSh_any (ao : Option Addr) (n cap : Nat) (l : List Int) (w : World) (hn : n = l.length) (hr : Rd w ao (i64s l)) (hm : n ≤ 1048576) :
    Calls Try.prog 26 #[.slice ao n cap] w (RowRet w.heap.size 2 w (i64s (evR l)) (evC l)) := by
  have HN := hid hn
  clear hn
  cases hw : wornB l
  · have hR := hid (ev_no hw)
    go_enter Try.func26, Try.ntmps26
    go_wp2_with (go_at_call 55; refine (sWorn_any ao n cap l _ HN.out hr hm).mono ?_; rw [hw]; rintro e w1 ⟨rfl, hb1⟩)
    go_ret2
    rw [hR.out.1, hR.out.2]
    exact ⟨none, 0, by simp [i64s], World.ownsRow_nil _ _ _ _, hb1⟩
  · have hR := hid (ev_yes hw)
    have h12 : n ≤ 12 := by rw [HN.out]; exact worn_len hw
    have HW := hid hw
    clear hw
    go_enter Try.func26, Try.ntmps26
    go_wp2_with (first | (go_at_call 55; refine (sWorn_any ao n cap l _ HN.out hr hm).mono ?_; rw [HW.out]; rintro e w1 ⟨rfl, hb1⟩; have hr1 := rd_below hr hb1) | (go_at_call 56; refine (sEven_any ao n cap l _ HN.out hr1 h12).mono ?_; rintro e w2 ⟨ao2, c2, rfl, hown2, hb2⟩))
    go_ret2
    rw [hR.out.1, hR.out.2, ← HN.out]
    exact ⟨ao2, c2, rfl, owns_mono hown2 hb1.size, hb1.trans (hb2.mono hb1.size)⟩

set_option maxRecDepth 100000 in
set_option maxHeartbeats 4000000 in
theorem evenSh_any (ao : Option Addr) (n cap : Nat) (l : List Int) (w : World) (hn : n = l.length) (hr : Rd w ao (i64s l)) (hm : n ≤ 1048576) :
    Calls Try.prog 27 #[.slice ao n cap] w (RowRet w.heap.size 2 w (i64s (evR l)) (evC l)) := by
  have HN := hid hn
  clear hn
  cases hw : wornB l
  · have hR := hid (ev_no hw)
    go_enter Try.func27, Try.ntmps27
    go_wp2_with (go_at_call 57; refine (worn_any ao n cap l _ HN.out hr hm).mono ?_; rw [hw]; rintro e w1 ⟨rfl, hb1⟩)
    go_ret2
    rw [hR.out.1, hR.out.2]
    exact ⟨none, 0, by simp [i64s], World.ownsRow_nil _ _ _ _, hb1⟩
  · have hR := hid (ev_yes hw)
    have h12 : n ≤ 12 := by rw [HN.out]; exact worn_len hw
    have HW := hid hw
    clear hw
    go_enter Try.func27, Try.ntmps27
    go_wp2_with (first | (go_at_call 57; refine (worn_any ao n cap l _ HN.out hr hm).mono ?_; rw [HW.out]; rintro e w1 ⟨rfl, hb1⟩; have hr1 := rd_below hr hb1) | (go_at_call 58; refine (evenly_any ao n cap l _ HN.out hr1 h12).mono ?_; rintro e w2 ⟨ao2, c2, rfl, hown2, hb2⟩))
    go_ret2
    rw [hR.out.1, hR.out.2, ← HN.out]
    exact ⟨ao2, c2, rfl, owns_mono hown2 hb1.size, hb1.trans (hb2.mono hb1.size)⟩
end Go.Proofs.Ytbfkiopikkolcaa
