/-
  The law of pages of letters: the walk.
-/
import Derived.Test.YthhpeanlpikjbaaFaceB
namespace Go.Proofs.Ythhpeanlpikjbaa
open Go.RowKit Go.ChangeShapes Go.WideShapes
set_option linter.unusedVariables false
attribute [local go_sem ↓] Go.wp_at_zero Go.wp_at_succ
section
variable {H : Type} {enc : TypeId × Value → H} {P : Program} {w : World} {base : Nat} {spare : Nat → Bool} {held : Bool}
/-- an element of a text and a number -/
theorem elem_si {t s q : TypeId} {f0 f1 : Field} (ht : P.underlying t = some (.struct #[f0, f1])) (hs : P.underlying s = some .string) (hq : P.underlying q = some (.int .i64)) (hc : P.cellsOf s = 1) (hc2 : P.cellsOf q = 1) (k0 : f0.type = s) (k1 : f1.type = q) (o0 : f0.offset = 0) (o1 : f1.offset = 1) (hct : P.cellsOf t = 2)
    (n : Nat) (cs : List Value) (x : DataW H × List MemPlace) (h : DataW.trod enc P w base spare held n t cs = some x) : ∃ y : ByteArray × Int, cs = [.string y.1, .int .i64 y.2] ∧ y.1.size ≤ maxLen := by
  obtain ⟨y0, y1, m, _, hl, h0, h1⟩ := trod_struct2 ht h
  rw [hct] at hl
  match cs, hl with
  | [c0, c1], _ =>
    rw [k0, o0, hc] at h0
    rw [k1, o1, hc2] at h1
    obtain ⟨s0, e0, _, w0⟩ := DataW.trod_string hs h0
    obtain ⟨s1, e1, _, w1⟩ := DataW.trod_int hq h1
    simp at e0 e1
    subst e0; subst e1
    exact ⟨(s0, s1), rfl, w0⟩
end

theorem sValidSeen_any (ao : Option Addr) (n cap : Nat) (l : List Se) (w : World) (hn : n = l.length) (hr : Rd w ao (ses l)) (hs : seSmall l) (hm : n ≤ 1048576) :
    Calls Try.prog 13 #[.slice ao n cap] w fun e w' => e = .returned (.bool (pageOk l)) ∧ Below w.heap.size w w' := by
  have HN := hid hn
  clear hn
  go_enter Try.func13, Try.ntmps13
  go_wp2_with fail
  refine (sPage_any ao n cap l _ HN.out hr hs hm).mono ?_
  rintro e w1 ⟨rfl, hb1⟩
  go_wp2_with fail
  go_ret
  exact ⟨rfl, hb1⟩

/-- a slice of letters seen that came in -/
def SeArg (w : World) (ao : Option Addr) (n cap : Nat) (l : List Se) : Prop := n = l.length ∧ n ≤ maxLen ∧ Rd w ao (ses l) ∧ seSmall l

theorem Try.cellsSeL : Try.prog.cellsOf 71 = 2 := by kernel_rfl
theorem Try.cellsStr : Try.prog.cellsOf 9 = 1 := by kernel_rfl
theorem Try.cellsI64 : Try.prog.cellsOf 2 = 1 := by kernel_rfl
set_option maxRecDepth 100000 in
theorem openSe {H : Type} {enc : TypeId × Value → H} {W : World} {base : Nat} {spare : Nat → Bool} {held : Bool} {r : Reach} {b0 : Nat} {v : Value} {d : DataW H} {p : List MemPlace}
    (hv : Value.okWide Try.prog W r b0 22 v) (h : DataW.Trod enc Try.prog W base spare held 22 v d p) :
    ∃ (ao : Option Addr) (n cap : Nat) (l : List Se), v = .slice ao n cap ∧ SeArg W ao n cap l :=
  openFlat (f := seF) (good := fun y => y.1.size ≤ maxLen) seF_len (by omega) Try.underlying22 Try.cellsSeL (elem_si Try.underlying71 Try.underlying9 Try.underlying2 Try.cellsStr Try.cellsI64 rfl rfl rfl rfl Try.cellsSeL) hv h

set_option maxHeartbeats 1000000 in
theorem lawValidSeen (w : World) (ao : Option Addr) (n cap : Nat) (l : List Se) (ha : SeArg w ao n cap l) :
    Calls Try.prog 3 #[.slice ao n cap] w fun e w' => e = .returned (.bool true) ∧ Below w.heap.size w w' := by
  obtain ⟨hn, hm, hr, hs⟩ := ha
  have HN := hid hn
  clear hn
  go_enter Try.func3, Try.ntmps3
  go_wp2_with fail
  refine (szSeenS_any ao n cap l 1048576 _ (by omega) (by omega) HN.out hm hr hs).mono ?_
  rintro e w1 ⟨rfl, hb1⟩
  by_cases hz : szAllSe 1048576 n l < 0
  · go_wp2_with fail
    go_ret
    exact ⟨rfl, hb1⟩
  · have h20 := szAllSe_len (by omega) hz
    have hr1 := rd_below hr hb1
    go_wp2_with fail
    refine (toSeenS_any ao n cap l _ HN.out hr1 h20).mono ?_
    rintro e w2 ⟨bo, cap2, rfl, ho2, hb2⟩
    have hr2 := rd_below hr1 hb2
    go_wp2_with fail
    refine (sValidSeen_any bo n cap2 l _ HN.out (owns_rdN ho2) hs h20).mono ?_
    rintro e w3 ⟨rfl, hb3⟩
    have hr3 := rd_below hr2 hb3
    go_wp2_with fail
    refine (toSeenS_any ao n cap l _ HN.out hr3 h20).mono ?_
    rintro e w4 ⟨co, cap4, rfl, ho4, hb4⟩
    have hr4 := rd_below hr3 hb4
    go_wp2_with fail
    refine (page_any co n cap4 l _ HN.out (owns_rdN ho4) hs h20).mono ?_
    rintro e w5 ⟨rfl, hb5⟩
    have hr5 := rd_below hr4 hb5
    have hx5 := rd_below (owns_rdN ho4) hb5
    go_wp2_with fail
    refine (toSeenS_any ao n cap l _ HN.out hr5 h20).mono ?_
    rintro e w6 ⟨eo, cap6, rfl, ho6, hb6⟩
    go_wp2_with fail
    refine (eqSeenS_any co eo l n cap4 cap6 _ HN.out (by omega) (rd_below hx5 hb6) (owns_rdN ho6)).mono ?_
    rintro e w7 ⟨rfl, hb7⟩
    go_wp2_with fail
    go_ret
    have z1 := hb1.size; have z2 := hb2.size; have z3 := hb3.size; have z4 := hb4.size; have z5 := hb5.size; have z6 := hb6.size
    refine ⟨rfl, ?_⟩
    (repeat (first | with_reducible exact Below.refl _ _ | with_reducible assumption | refine Below.drew ?_ | refine below_drewN ?_ _ | (refine Below.alloc ?_ (by first | omega | (simp; done) | (simp; omega)) _) | (refine Below.setCell ?_ (by first | omega | (simp; done) | (simp; omega)) _) | (refine Below.trans ?_ (Below.mono (by assumption) (by first | omega | (simp; done) | (simp; omega))))))

end Go.Proofs.Ythhpeanlpikjbaa
