/-
  Walks: is a page of letters valid?
-/
import Derived.Test.YtnjdoedhhpkjhaaFaceA
namespace Go.Proofs.Ytnjdoedhhpkjhaa
open Go.RowKit Go.ChangeShapes Go.WideShapes
set_option linter.unusedVariables false
attribute [local go_sem ↓] Go.wp_at_zero Go.wp_at_succ

theorem isLet_b {r : Bool} (x : ByteArray) (w : World) (hx : x.size ≤ maxLen) (h : letB x = r) : Calls Try.prog 105 #[.string x] w fun e w' => e = .returned (.bool r) ∧ w = w' := by
  subst h; exact isLet_any x w hx
theorem sLet_b {r : Bool} (x : ByteArray) (w : World) (hx : x.size ≤ maxLen) (h : letB x = r) : Calls Try.prog 100 #[.string x] w fun e w' => e = .returned (.bool r) ∧ w = w' := by
  subst h; exact sLet_any x w hx
def badS (l : List Se) (k : Nat) : Bool := if h : k < l.length then !(letB l[k].1) || !(inB l[k].2 0 6) else false
theorem badS_get {l : List Se} {k : Nat} (h : k < l.length) : badS l k = (!(letB l[k].1) || !(inB l[k].2 0 6)) := by unfold badS; rw [dif_pos h]
def pageOk (l : List Se) : Bool := (firstAt (badS l) l.length).isNone && decide (l.length ≤ 60)
theorem pageOk_bad {l : List Se} {k : Nat} (h : k < l.length) (hN : NoneUpTo (badS l) k) (hb : badS l k = true) : pageOk l = false := by
  unfold pageOk; rw [first_hit hN hb h]; rfl
theorem pageOk_all {l : List Se} (hN : NoneUpTo (badS l) l.length) : pageOk l = decide (l.length ≤ 60) := by
  unfold pageOk; rw [first_none hN]; simp
end Go.Proofs.Ytnjdoedhhpkjhaa
