/-
  The laws of dictionaries that answer a bool: the walks.
-/
import Derived.Test.YtnjdoedhhpkjhaaAbC
import Derived.Test.YtnjdoedhhpkjhaaOpen
namespace Go.Proofs.Ytnjdoedhhpkjhaa
open Go.RowKit Go.ChangeShapes Go.WideShapes
set_option linter.unusedVariables false
attribute [local go_sem ↓] Go.wp_at_zero Go.wp_at_succ

/-- a slice of abbreviations that came in -/
def AbArg (w : World) (ao : Option Addr) (n cap : Nat) (l : List Ab) : Prop := n = l.length ∧ n ≤ maxLen ∧ Rd w ao (abs l) ∧ abSmall l

theorem Try.cellsAbL : Try.prog.cellsOf 55 = 2 := by kernel_rfl
theorem Try.cellsStr : Try.prog.cellsOf 9 = 1 := by kernel_rfl
set_option maxRecDepth 100000 in
theorem openAb {H : Type} {enc : TypeId × Value → H} {W : World} {base : Nat} {spare : Nat → Bool} {held : Bool} {r : Reach} {b0 : Nat} {v : Value} {d : DataW H} {p : List MemPlace}
    (hv : Value.okWide Try.prog W r b0 22 v) (h : DataW.Trod enc Try.prog W base spare held 22 v d p) :
    ∃ (ao : Option Addr) (n cap : Nat) (l : List Ab), v = .slice ao n cap ∧ AbArg W ao n cap l :=
  openFlat (f := abF) (good := fun y => y.1.size ≤ maxLen ∧ y.2.size ≤ maxLen) abF_len (by omega) Try.underlying22 Try.cellsAbL (elem_ss Try.underlying55 Try.underlying9 Try.cellsStr rfl rfl rfl rfl Try.cellsAbL) hv h

/-- the same dictionary? -/
def sameB (l m : List Ab) (k : Nat) : Bool := if h : k < l.length ∧ k < m.length then !(l[k].1.toList == m[k].1.toList && l[k].2.toList == m[k].2.toList) else true
def sameL (l m : List Ab) : Bool := decide (l.length = m.length) && (firstAt (sameB l m) l.length).isNone
theorem sameL_len {l m : List Ab} (h : ¬ l.length = m.length) : sameL l m = false := by simp [sameL, h]
theorem sameL_hit {l m : List Ab} {k : Nat} (h : k < l.length) (hN : NoneUpTo (sameB l m) k) (hb : sameB l m k = true) : sameL l m = false := by
  unfold sameL; rw [first_hit hN hb h]; simp
theorem sameL_all {l m : List Ab} (h : l.length = m.length) (hN : NoneUpTo (sameB l m) l.length) : sameL l m = true := by
  unfold sameL; rw [first_none hN]; simp [h]
theorem sameB_get {l m : List Ab} {k : Nat} (h1 : k < l.length) (h2 : k < m.length) : sameB l m k = !(l[k].1.toList == m[k].1.toList && l[k].2.toList == m[k].2.toList) := by
  unfold sameB; rw [dif_pos ⟨h1, h2⟩]

end Go.Proofs.Ytnjdoedhhpkjhaa
