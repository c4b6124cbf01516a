/-
  Walks of the laws' helpers over a layout: sizes, copy, equal, marks.
-/
import Derived.Test.YtaaffcffelkcdaaSlS
import Derived.Test.YtaaffcffelkcdaaOpenIn
import Derived.Test.YtaaffcffelkcdaaMark
import Derived.Test.YtaaffcffelkcdaaPre
import Derived.Test.YtaaffcffelkcdaaLess
namespace Go.Proofs.Ytaaffcffelkcdaa
open Go.RowKit Go.ChangeShapes Go.WideShapes
set_option linter.unusedVariables false
attribute [local go_sem ↓] Go.wp_at_zero Go.wp_at_succ

def szLy (n : Nat) (l : List ByteArray) (left : Int) : Int := if szAllSt left n l < 0 then -1 else szAllSt left n l
theorem szLy_le {n : Nat} {l : List ByteArray} {left : Int} (h : 0 ≤ left) (h1 : left ≤ 1048576) : szLy n l left ≤ left := by
  unfold szLy
  split
  · omega
  · unfold szAllSt
    split
    · omega
    · have := (szStrs_le l (left - n) (by omega)).1; omega
theorem szLy_ok {n : Nat} {l : List ByteArray} {left : Int} (h1 : left ≤ 1048576) (h : ¬ szLy n l left < 0) : n ≤ 1048576 := by
  unfold szLy at h
  split at h
  · omega
  · rename_i h2; exact szAllSt_len h1 h2
set_option maxHeartbeats 2000000 in
theorem szLayout_any (ao : Option Addr) (n cap : Nat) (l : List ByteArray) (left : Int) (w : World) (h1 : 0 ≤ left) (h2 : left ≤ 1048576) (hn : n = l.length) (hm : n ≤ maxLen) (hr : Rd w ao (strs l)) (hs : ∀ x ∈ l, x.size ≤ maxLen) :
    Calls Try.prog 10 #[.agg #[.slice ao n cap], .int .i64 left] w fun e w' => e = .returned (.int .i64 (szLy n l left)) ∧ Below w.heap.size w w' := by
  have HN := hid hn
  clear hn
  have hB0 : Below w.heap.size w (w.alloc (.cells #[.slice ao n cap] 24)) := (Below.refl _ _).alloc (Nat.le_refl _) _
  have hr0 := rd_below hr hB0
  by_cases h4 : szAllSt left n l < 0
  · have hR := hid (show szLy n l left = -1 by unfold szLy; rw [if_pos h4])
    go_enter Try.func10, Try.ntmps10
    go_wp2_with (go_at_call 35; refine (szStringS_any ao n cap l _ _ (by omega) (by omega) HN.out hm hr0 hs).mono ?_; rintro e w1 ⟨rfl, hb1⟩)
    go_ret
    exact ⟨ret_int hR.out.symm, hB0.trans (hb1.mono (by simp))⟩
  · have hR := hid (show szLy n l left = szAllSt left n l by unfold szLy; rw [if_neg h4])
    go_enter Try.func10, Try.ntmps10
    go_wp2_with (go_at_call 35; refine (szStringS_any ao n cap l _ _ (by omega) (by omega) HN.out hm hr0 hs).mono ?_; rintro e w1 ⟨rfl, hb1⟩)
    go_ret
    exact ⟨ret_int hR.out.symm, hB0.trans (hb1.mono (by simp))⟩

/-- a copy of a layout -/
def LyRet (B : Nat) (w : World) (n : Nat) (l : List ByteArray) (e : Ending) (w' : World) : Prop :=
  ∃ bo cap, e = .returned (.agg #[.slice bo n cap]) ∧ w'.ownsRow B 9 1 (.slice bo n cap) n (strs l) ∧ Below B w w'
set_option maxHeartbeats 2000000 in
theorem toLayout_any (ao : Option Addr) (n cap : Nat) (l : List ByteArray) (w : World) (hn : n = l.length) (hr : Rd w ao (strs l)) (hm : n ≤ 1048576) :
    Calls Try.prog 12 #[.agg #[.slice ao n cap]] w (LyRet w.heap.size w n l) := by
  have HN := hid hn
  clear hn
  go_enter Try.func12, Try.ntmps12
  go_wp2_with fail
  refine (toStringS_any ao n cap l _ HN.out (rd_below hr (by (repeat (first | with_reducible exact Below.refl _ _ | with_reducible assumption | refine Below.drew ?_ | refine below_drewN ?_ _ | (refine Below.alloc ?_ (by first | omega | (simp; done) | (simp; omega)) _) | (refine Below.setCell ?_ (by first | omega | (simp; done) | (simp; omega)) _) | (refine Below.trans ?_ (Below.mono (by assumption) (by first | omega | (simp; done) | (simp; omega)))))))) hm).mono ?_
  rintro e w1 ⟨bo, cap2, rfl, ho, hb⟩
  obtain ⟨hc, hf, hz⟩ := bcell hb
  have hl1 : w.heap.size + 2 < w1.heap.size := Nat.lt_of_lt_of_le (by simp) hz
  go_wp2_with fail
  refine bodyPost_ret (v := .agg #[.slice bo n cap2]) (by simp [results, Try.results12, go_sem, hc]) rfl ⟨bo, cap2, rfl, ?_, ?_⟩
  · exact owns_mono (ownsRow_setCell_below (ownsRow_setCell_below ho (by simp) _) (by simp) _) (by simp; omega)
  · have hz0 : w.heap.size ≤ w.heap.size + 1 := by omega
    refine Below.setCell (Below.setCell ?_ (by simp; omega) _) (by simp) _
    (repeat (first | with_reducible exact Below.refl _ _ | with_reducible assumption | refine Below.drew ?_ | refine below_drewN ?_ _ | (refine Below.alloc ?_ (by first | omega | (simp; done) | (simp; omega)) _) | (refine Below.setCell ?_ (by first | omega | (simp; done) | (simp; omega)) _) | (refine Below.trans ?_ (Below.mono (by assumption) (by first | omega | (simp; done) | (simp; omega))))))
set_option maxHeartbeats 2000000 in
theorem eqLayout_any (ao bo : Option Addr) (n cap cap2 : Nat) (l : List ByteArray) (w : World) (hn : n = l.length) (hm : n ≤ 1048576) (ha : Rd w ao (strs l)) (hb : Rd w bo (strs l)) :
    Calls Try.prog 14 #[.agg #[.slice ao n cap], .agg #[.slice bo n cap2]] w fun e w' => e = .returned (.bool true) ∧ Below w.heap.size w w' := by
  have HN := hid hn
  clear hn
  go_enter Try.func14, Try.ntmps14
  go_wp2_with (go_at_call 32; refine (eqStringS_any ao bo l n cap cap2 _ HN.out (by omega) (rd_below ha (by (repeat (first | with_reducible exact Below.refl _ _ | with_reducible assumption | refine Below.drew ?_ | refine below_drewN ?_ _ | (refine Below.alloc ?_ (by first | omega | (simp; done) | (simp; omega)) _) | (refine Below.setCell ?_ (by first | omega | (simp; done) | (simp; omega)) _) | (refine Below.trans ?_ (Below.mono (by assumption) (by first | omega | (simp; done) | (simp; omega)))))))) (rd_below hb (by (repeat (first | with_reducible exact Below.refl _ _ | with_reducible assumption | refine Below.drew ?_ | refine below_drewN ?_ _ | (refine Below.alloc ?_ (by first | omega | (simp; done) | (simp; omega)) _) | (refine Below.setCell ?_ (by first | omega | (simp; done) | (simp; omega)) _) | (refine Below.trans ?_ (Below.mono (by assumption) (by first | omega | (simp; done) | (simp; omega))))))))).mono ?_; rintro e w1 ⟨rfl, hb1⟩)
  go_ret
  refine ⟨rfl, ?_⟩
  (repeat (first | with_reducible exact Below.refl _ _ | with_reducible assumption | refine Below.drew ?_ | refine below_drewN ?_ _ | (refine Below.alloc ?_ (by first | omega | (simp; done) | (simp; omega)) _) | (refine Below.setCell ?_ (by first | omega | (simp; done) | (simp; omega)) _) | (refine Below.trans ?_ (Below.mono (by assumption) (by first | omega | (simp; done) | (simp; omega))))))
set_option maxHeartbeats 1000000 in
theorem markLy_any (B : Nat) (ao : Option Addr) (n cap : Nat) (xs : List Value) (k0 : Nat) (w : World) (hown : w.ownsRow B 9 1 (.slice ao n cap) n xs) (hm : n ≤ 1048576) (hk0 : 1 ≤ k0) (hk1 : k0 ≤ 536870912) :
    Calls Try.prog 22 #[.agg #[.slice ao n cap], .int .i64 k0] w fun e w' => e = .returned (.int .i64 ((k0 + n : Nat) : Int)) ∧ w'.ownsRow B 9 1 (.slice ao n cap) n (strs (marksT k0 n)) ∧ w.grownBy w' (Value.slice ao n cap).ownBlock := by
  go_enter Try.func22, Try.ntmps22
  go_wp2_with fail
  refine (markSt_any B ao n cap xs k0 _ (hown.alloc _) hm hk0 hk1).mono ?_
  rintro e w1 ⟨rfl, ho, hg⟩
  go_wp2_with fail
  go_ret
  exact ⟨rfl, ho, grownBy_tr (World.grownBy_alloc w _ _) hg⟩
set_option maxHeartbeats 1000000 in
theorem heldLy_any (ao : Option Addr) (n cap : Nat) (k0 : Nat) (w : World) (hr : Rd w ao (strs (marksT k0 n))) (hm : n ≤ 1048576) (hk0 : 1 ≤ k0) (hk1 : k0 ≤ 536870912) :
    Calls Try.prog 27 #[.agg #[.slice ao n cap], .int .i64 k0] w fun e w' => e = .returned (.int .i64 ((k0 + n : Nat) : Int)) ∧ Below w.heap.size w w' := by
  have hk : (0 : Int) ≤ ((k0 + n : Nat) : Int) := by omega
  go_enter Try.func27, Try.ntmps27
  go_wp2_with fail
  refine (heldSt_any ao n cap k0 _ (rd_below hr (by (repeat (first | with_reducible exact Below.refl _ _ | with_reducible assumption | refine Below.drew ?_ | refine below_drewN ?_ _ | (refine Below.alloc ?_ (by first | omega | (simp; done) | (simp; omega)) _) | (refine Below.setCell ?_ (by first | omega | (simp; done) | (simp; omega)) _) | (refine Below.trans ?_ (Below.mono (by assumption) (by first | omega | (simp; done) | (simp; omega)))))))) hm hk0 hk1).mono ?_
  rintro e w1 ⟨rfl, hb1⟩
  go_wp2_with fail
  go_ret
  refine ⟨rfl, ?_⟩
  (repeat (first | with_reducible exact Below.refl _ _ | with_reducible assumption | refine Below.drew ?_ | refine below_drewN ?_ _ | (refine Below.alloc ?_ (by first | omega | (simp; done) | (simp; omega)) _) | (refine Below.setCell ?_ (by first | omega | (simp; done) | (simp; omega)) _) | (refine Below.trans ?_ (Below.mono (by assumption) (by first | omega | (simp; done) | (simp; omega))))))
theorem Try.cellsStrL : Try.prog.cellsOf 9 = 1 := by kernel_rfl
/-- a layout that came in -/
theorem openLy {H : Type} {enc : TypeId × Value → H} {W : World} {base : Nat} {spare : Nat → Bool} {held : Bool} {r : Reach} {b0 : Nat} {v : Value} {d : DataW H} {p : List MemPlace}
    (hv : Value.okWide Try.prog W r b0 24 v) (h : DataW.Trod enc Try.prog W base spare held 24 v d p) :
    ∃ (ao : Option Addr) (n cap : Nat) (l : List ByteArray), v = .agg #[.slice ao n cap] ∧ StArg W ao n cap l := by
  obtain ⟨cs, rfl, hsz⟩ := okWide_struct Try.underlying24 hv
  obtain ⟨fuel, hf⟩ := h
  obtain ⟨xs, n, _, _, hl, hlen, hx⟩ := DataW.trod_struct Try.underlying24 hf
  have h0 := hx 0 _ rfl
  have hone : Try.prog.cellsOf 22 = 1 := by kernel_rfl
  have hcl : Try.prog.cellsOf 24 = 1 := by kernel_rfl
  have hcs : cs.size = 1 := hsz.trans hcl
  obtain ⟨c, rfl⟩ : ∃ c, cs = #[c] := by
    obtain ⟨l⟩ := cs
    obtain ⟨c, rfl⟩ := List.length_eq_one_iff.1 hcs
    exact ⟨c, rfl⟩
  match xs, hlen with
  | [y], _ =>
    simp at h0
    have h1 : DataW.trod enc Try.prog W base spare held n 22 [c] = some y := by simpa [hone, Value.cells] using h0
    obtain ⟨ao, n1, cap, l, he, q1, q2, q3, q4⟩ := openFlatC (sz := 1) (f := fun x => [Value.string x]) (good := fun y => y.size ≤ maxLen) (fun _ => rfl) (by omega) Try.underlying22 Try.cellsStrL (elem_s Try.underlying9) h1
    simp only [List.cons.injEq, and_true] at he
    subst he
    exact ⟨ao, n1, cap, l, rfl, q1, q2, by rw [strs_flat]; exact q3, q4⟩
end Go.Proofs.Ytaaffcffelkcdaa
