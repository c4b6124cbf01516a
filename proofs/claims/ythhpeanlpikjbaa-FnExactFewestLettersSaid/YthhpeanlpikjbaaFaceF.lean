/-
  Walks of the laws' helpers over one machine: sizes, copy, equal.
-/
import Derived.Test.YthhpeanlpikjbaaFaceE
import Derived.Test.YthhpeanlpikjbaaOpenIn
namespace Go.Proofs.Ythhpeanlpikjbaa
open Go.RowKit Go.ChangeShapes Go.WideShapes
set_option linter.unusedVariables false
attribute [local go_sem ↓] Go.wp_at_zero Go.wp_at_succ

def szWr (x : ByteArray) (n : Nat) (l : List Se) (left : Int) : Int := if left - x.size < 0 then -1 else (if szAllSe (left - x.size) n l < 0 then -1 else szAllSe (left - x.size) n l)
theorem szWr_le {x : ByteArray} {n : Nat} {l : List Se} {left : Int} (h : 0 ≤ left) (h1 : left ≤ 1048576) : szWr x n l left ≤ left := by
  unfold szWr
  split
  · omega
  · split
    · omega
    · unfold szAllSe
      split
      · omega
      · have := szSes_le l (left - x.size - n) (by omega); omega
theorem szWr_ok {x : ByteArray} {n : Nat} {l : List Se} {left : Int} (h1 : left ≤ 1048576) (h : ¬ szWr x n l left < 0) : n ≤ 1048576 ∧ x.size ≤ 1048576 := by
  unfold szWr at h
  split at h
  · omega
  · split at h
    · omega
    · rename_i h2 h3
      exact ⟨szAllSe_len (by omega) h3, by omega⟩
set_option maxHeartbeats 2000000 in
theorem szWriter_any (x : ByteArray) (ao : Option Addr) (n cap : Nat) (l : List Se) (left : Int) (w : World) (hx : x.size ≤ maxLen) (h1 : 0 ≤ left) (h2 : left ≤ 1048576) (hn : n = l.length) (hm : n ≤ maxLen) (hr : Rd w ao (ses l)) (hs : seSmall l) :
    Calls Try.prog 22 #[.agg #[.string x, .slice ao n cap], .int .i64 left] w fun e w' => e = .returned (.int .i64 (szWr x n l left)) ∧ Below w.heap.size w w' := by
  have hx' := hx
  unfold maxLen at hx'
  have HN := hid hn
  clear hn
  have hB0 : Below w.heap.size w (w.alloc (.cells #[.string x, .slice ao n cap] 38)) := (Below.refl _ _).alloc (Nat.le_refl _) _
  have hr0 := rd_below hr hB0
  by_cases h3 : left - x.size < 0
  · have hR := hid (show szWr x n l left = -1 by unfold szWr; rw [if_pos h3])
    go_enter Try.func22, Try.ntmps22
    go_wp2_with fail
    go_ret
    exact ⟨ret_int hR.out.symm, hB0⟩
  by_cases h4 : szAllSe (left - x.size) n l < 0
  · have hR := hid (show szWr x n l left = -1 by unfold szWr; rw [if_neg h3, if_pos h4])
    go_enter Try.func22, Try.ntmps22
    go_wp2_with (go_at_call 57; refine (szFaultS_any ao n cap l _ _ (by omega) (by omega) HN.out hm hr0 hs).mono ?_; rintro e w1 ⟨rfl, hb1⟩)
    go_ret
    exact ⟨ret_int hR.out.symm, hB0.trans (hb1.mono (by simp))⟩
  · have hR := hid (show szWr x n l left = szAllSe (left - x.size) n l by unfold szWr; rw [if_neg h3, if_neg h4])
    go_enter Try.func22, Try.ntmps22
    go_wp2_with (go_at_call 57; refine (szFaultS_any ao n cap l _ _ (by omega) (by omega) HN.out hm hr0 hs).mono ?_; rintro e w1 ⟨rfl, hb1⟩)
    go_ret
    exact ⟨ret_int hR.out.symm, hB0.trans (hb1.mono (by simp))⟩

/-- a copy of a machine -/
def WrRet (B : Nat) (w : World) (x : ByteArray) (n : Nat) (l : List Se) (e : Ending) (w' : World) : Prop :=
  ∃ bo cap, e = .returned (.agg #[.string x, .slice bo n cap]) ∧ w'.ownsRow B 109 2 (.slice bo n cap) n (ses l) ∧ Below B w w'
set_option maxHeartbeats 2000000 in
theorem toWriter_any (x : ByteArray) (ao : Option Addr) (n cap : Nat) (l : List Se) (w : World) (hn : n = l.length) (hr : Rd w ao (ses l)) (hm : n ≤ 1048576) :
    Calls Try.prog 24 #[.agg #[.string x, .slice ao n cap]] w (WrRet w.heap.size w x n l) := by
  have HN := hid hn
  clear hn
  go_enter Try.func24, Try.ntmps24
  go_wp2_with fail
  refine (toFaultS_any ao n cap l _ HN.out (rd_below hr (by (repeat (first | with_reducible exact Below.refl _ _ | with_reducible assumption | refine Below.drew ?_ | refine below_drewN ?_ _ | (refine Below.alloc ?_ (by first | omega | (simp; done) | (simp; omega)) _) | (refine Below.setCell ?_ (by first | omega | (simp; done) | (simp; omega)) _) | (refine Below.trans ?_ (Below.mono (by assumption) (by first | omega | (simp; done) | (simp; omega)))))))) hm).mono ?_
  rintro e w1 ⟨bo, cap2, rfl, ho, hb⟩
  obtain ⟨hc, hf, hz⟩ := bcell hb
  have hl1 : w.heap.size + 2 < w1.heap.size := Nat.lt_of_lt_of_le (by simp) hz
  go_wp2_with fail
  refine bodyPost_ret (v := .agg #[.string x, .slice bo n cap2]) (by simp [results, Try.results24, go_sem, hc]) rfl ⟨bo, cap2, rfl, ?_, ?_⟩
  · exact owns_mono (ownsRow_setCell_below (ownsRow_setCell_below (ownsRow_setCell_below ho (by simp) _) (by simp) _) (by simp) _) (by simp; omega)
  · have hz0 : w.heap.size ≤ w.heap.size + 1 := by omega
    refine Below.setCell (Below.setCell (Below.setCell ?_ (by simp; omega) _) (by simp) _) (by simp) _
    (repeat (first | with_reducible exact Below.refl _ _ | with_reducible assumption | refine Below.drew ?_ | refine below_drewN ?_ _ | (refine Below.alloc ?_ (by first | omega | (simp; done) | (simp; omega)) _) | (refine Below.setCell ?_ (by first | omega | (simp; done) | (simp; omega)) _) | (refine Below.trans ?_ (Below.mono (by assumption) (by first | omega | (simp; done) | (simp; omega))))))

set_option maxHeartbeats 2000000 in
theorem eqWriter_any (x : ByteArray) (ao bo : Option Addr) (n cap cap2 : Nat) (l : List Se) (w : World) (hn : n = l.length) (hm : n ≤ 1048576) (ha : Rd w ao (ses l)) (hb : Rd w bo (ses l)) :
    Calls Try.prog 26 #[.agg #[.string x, .slice ao n cap], .agg #[.string x, .slice bo n cap2]] w fun e w' => e = .returned (.bool true) ∧ Below w.heap.size w w' := by
  have HN := hid hn
  clear hn
  go_enter Try.func26, Try.ntmps26
  go_wp2_with (go_at_call 63; refine (eqFaultS_any ao bo l n cap cap2 _ HN.out (by omega) (rd_below ha (by (repeat (first | with_reducible exact Below.refl _ _ | with_reducible assumption | refine Below.drew ?_ | refine below_drewN ?_ _ | (refine Below.alloc ?_ (by first | omega | (simp; done) | (simp; omega)) _) | (refine Below.setCell ?_ (by first | omega | (simp; done) | (simp; omega)) _) | (refine Below.trans ?_ (Below.mono (by assumption) (by first | omega | (simp; done) | (simp; omega)))))))) (rd_below hb (by (repeat (first | with_reducible exact Below.refl _ _ | with_reducible assumption | refine Below.drew ?_ | refine below_drewN ?_ _ | (refine Below.alloc ?_ (by first | omega | (simp; done) | (simp; omega)) _) | (refine Below.setCell ?_ (by first | omega | (simp; done) | (simp; omega)) _) | (refine Below.trans ?_ (Below.mono (by assumption) (by first | omega | (simp; done) | (simp; omega))))))))).mono ?_; rintro e w1 ⟨rfl, hb1⟩)
  go_ret
  refine ⟨rfl, ?_⟩
  (repeat (first | with_reducible exact Below.refl _ _ | with_reducible assumption | refine Below.drew ?_ | refine below_drewN ?_ _ | (refine Below.alloc ?_ (by first | omega | (simp; done) | (simp; omega)) _) | (refine Below.setCell ?_ (by first | omega | (simp; done) | (simp; omega)) _) | (refine Below.trans ?_ (Below.mono (by assumption) (by first | omega | (simp; done) | (simp; omega))))))
theorem Try.cellsTfL : Try.prog.cellsOf 111 = 2 := by kernel_rfl
set_option maxRecDepth 100000 in
/-- the faults of a machine that came in -/
theorem openTfC {H : Type} {enc : TypeId × Value → H} {W : World} {base : Nat} {spare : Nat → Bool} {held : Bool} {fuel : Nat} {cs : List Value} {x : DataW H × List MemPlace}
    (h : DataW.trod enc Try.prog W base spare held fuel 36 cs = some x) :
    ∃ (ao : Option Addr) (n cap : Nat) (l : List Se), cs = [.slice ao n cap] ∧ SeArg W ao n cap l :=
  openFlatC (f := seF) (good := fun y => y.1.size ≤ maxLen) seF_len (by omega) Try.underlying36 Try.cellsTfL (elem_si Try.underlying111 Try.underlying9 Try.underlying2 Try.cellsStr Try.cellsI64 rfl rfl rfl rfl Try.cellsTfL) h
end Go.Proofs.Ythhpeanlpikjbaa
