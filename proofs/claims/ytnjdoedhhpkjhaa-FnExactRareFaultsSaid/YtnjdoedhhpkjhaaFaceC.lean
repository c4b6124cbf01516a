/-
  The law of pages of letters: the walk.
-/
import Derived.Test.YtnjdoedhhpkjhaaFaceB
namespace Go.Proofs.Ytnjdoedhhpkjhaa
open Go.RowKit Go.ChangeShapes Go.WideShapes
set_option linter.unusedVariables false
attribute [local go_sem ↓] Go.wp_at_zero Go.wp_at_succ
section
variable {H : Type} {enc : TypeId × Value → H} {P : Program} {w : World} {base : Nat} {spare : Nat → Bool} {held : Bool}
/-- an element of a text and a number -/
theorem elem_si {t s q : TypeId} {f0 f1 : Field} (ht : P.underlying t = some (.struct #[f0, f1])) (hs : P.underlying s = some .string) (hq : P.underlying q = some (.int .i64)) (hc : P.cellsOf s = 1) (hc2 : P.cellsOf q = 1) (k0 : f0.type = s) (k1 : f1.type = q) (o0 : f0.offset = 0) (o1 : f1.offset = 1) (hct : P.cellsOf t = 2)
    (n : Nat) (cs : List Value) (x : DataW H × List MemPlace) (h : DataW.trod enc P w base spare held n t cs = some x) : ∃ y : ByteArray × Int, cs = [.string y.1, .int .i64 y.2] ∧ y.1.size ≤ maxLen := by
  obtain ⟨y0, y1, m, _, hl, h0, h1⟩ := trod_struct2 ht h
  rw [hct] at hl
  match cs, hl with
  | [c0, c1], _ =>
    rw [k0, o0, hc] at h0
    rw [k1, o1, hc2] at h1
    obtain ⟨s0, e0, _, w0⟩ := DataW.trod_string hs h0
    obtain ⟨s1, e1, _, w1⟩ := DataW.trod_int hq h1
    simp at e0 e1
    subst e0; subst e1
    exact ⟨(s0, s1), rfl, w0⟩
end


/-- a slice of letters seen that came in -/
def SeArg (w : World) (ao : Option Addr) (n cap : Nat) (l : List Se) : Prop := n = l.length ∧ n ≤ maxLen ∧ Rd w ao (ses l) ∧ seSmall l

theorem Try.cellsStr : Try.prog.cellsOf 9 = 1 := by kernel_rfl
theorem Try.cellsI64 : Try.prog.cellsOf 2 = 1 := by kernel_rfl


end Go.Proofs.Ytnjdoedhhpkjhaa
