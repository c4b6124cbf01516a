/-
  The law of codes: the walk.
-/
import Derived.Test.YtojbblbjobbcaaaCodeA
namespace Go.Proofs.Ytojbblbjobbcaaa
open Go.RowKit Go.ChangeShapes Go.WideShapes Go.Maps
set_option linter.unusedVariables false
attribute [local go_sem ↓] Go.wp_at_zero Go.wp_at_succ

theorem owns_cap {w : World} {B : Nat} {E : TypeId} {size : Nat} {ao : Option Addr} {n cap m : Nat} {xs : List Value} (h : w.ownsRow B E size (.slice ao n cap) m xs) : n ≤ cap ∧ cap ≤ maxLen := by
  rcases owns_form h with ⟨hv, _, _⟩ | ⟨g, c, hv, _, _, hc, hm⟩
  · simp only [Value.slice.injEq] at hv
    obtain ⟨rfl, rfl, rfl⟩ := hv
    exact ⟨Nat.le_refl _, Nat.zero_le _⟩
  · simp only [Value.slice.injEq] at hv
    obtain ⟨rfl, rfl, rfl⟩ := hv
    exact ⟨hc, hm⟩
theorem sValidCode_any (ao : Option Addr) (n cap : Nat) (l : List ByteArray) (w : World) (hn : n = l.length) (hr : Rd w ao (strs l)) (hs : ∀ x ∈ l, x.size ≤ maxLen) (hm : n ≤ 1048576) (hcap : n ≤ cap) (hcm : cap ≤ maxLen) :
    Calls Try.prog 13 #[.slice ao n cap] w fun e w' => e = .returned (.bool (codeOk l)) ∧ Below w.heap.size w w' := by
  have HN := hid hn
  clear hn
  go_enter Try.func13, Try.ntmps13
  go_wp2_with fail
  refine (sCode_any ao n cap l _ HN.out hr hs hm hcap hcm).mono ?_
  rintro e w1 ⟨rfl, hb1⟩
  go_wp2_with fail
  go_ret
  exact ⟨rfl, hb1⟩

set_option maxHeartbeats 2000000 in
theorem lawValidCode (w : World) (ao : Option Addr) (n cap : Nat) (l : List ByteArray) (ha : StArg w ao n cap l) :
    Calls Try.prog 3 #[.slice ao n cap] w fun e w' => e = .returned (.bool true) ∧ Below w.heap.size w w' := by
  obtain ⟨hn, hm, hr, hs⟩ := ha
  have HN := hid hn
  clear hn
  go_enter Try.func3, Try.ntmps3
  go_wp2_with fail
  refine (szStringS_any ao n cap l 1048576 _ (by omega) (by omega) HN.out hm hr hs).mono ?_
  rintro e w1 ⟨rfl, hb1⟩
  by_cases hz : szAllSt 1048576 n l < 0
  · go_wp2_with fail
    go_ret
    exact ⟨rfl, hb1⟩
  have h20 := szAllSt_len (by omega) hz
  have hr1 := rd_below hr hb1
  go_wp2_with fail
  refine (toStringS_any ao n cap l _ HN.out hr1 h20).mono ?_
  rintro e w2 ⟨bo, cap2, rfl, ho2, hb2⟩
  have hr2 := rd_below hr1 hb2
  go_wp2_with fail
  refine (sValidCode_any bo n cap2 l _ HN.out (owns_rdN ho2) hs h20 (owns_cap ho2).1 (owns_cap ho2).2).mono ?_
  rintro e w3 ⟨rfl, hb3⟩
  have hr3 := rd_below hr2 hb3
  go_wp2_with fail
  refine (toStringS_any ao n cap l _ HN.out hr3 h20).mono ?_
  rintro e w4 ⟨co, cap4, rfl, ho4, hb4⟩
  have hr4 := rd_below hr3 hb4
  go_wp2_with fail
  refine (code_any co n cap4 l _ HN.out (owns_rdN ho4) hs h20).mono ?_
  rintro e w5 ⟨rfl, hb5⟩
  have hr5 := rd_below hr4 hb5
  have hx5 := rd_below (owns_rdN ho4) hb5
  go_wp2_with fail
  refine (toStringS_any ao n cap l _ HN.out hr5 h20).mono ?_
  rintro e w6 ⟨eo, cap6, rfl, ho6, hb6⟩
  go_wp2_with fail
  refine (eqStringS_any co eo l n cap4 cap6 _ HN.out (by omega) (rd_below hx5 hb6) (owns_rdN ho6)).mono ?_
  rintro e w7 ⟨rfl, hb7⟩
  go_wp2_with fail
  go_ret
  have z1 := hb1.size; have z2 := hb2.size; have z3 := hb3.size; have z4 := hb4.size; have z5 := hb5.size; have z6 := hb6.size
  refine ⟨rfl, ?_⟩
  (repeat (first | with_reducible exact Below.refl _ _ | with_reducible assumption | refine Below.drew ?_ | refine below_drewN ?_ _ | (refine Below.alloc ?_ (by first | omega | (simp; done) | (simp; omega)) _) | (refine Below.setCell ?_ (by first | omega | (simp; done) | (simp; omega)) _) | (refine Below.trans ?_ (Below.mono (by assumption) (by first | omega | (simp; done) | (simp; omega))))))
end Go.Proofs.Ytojbblbjobbcaaa
