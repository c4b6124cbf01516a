/-
  Walks of the laws' helpers over slices of texts: sizes, copy, equal, mark, held.
-/
import Derived.Test.YtbfkiopikkolcaaSlStr
import Derived.Test.YtbfkiopikkolcaaOver
import Derived.Test.YtbfkiopikkolcaaOpen
namespace Go.Proofs.Ytbfkiopikkolcaa
open Go.RowKit Go.ChangeShapes Go.WideShapes
set_option linter.unusedVariables false
attribute [local go_sem ↓] Go.wp_at_zero Go.wp_at_succ

theorem rd_str {w : World} {ao : Option Addr} {l : List ByteArray} (h : Rd w ao (strs l)) : l = [] ∨ ∃ b o, ao = some ⟨b, o, none⟩ ∧ b < w.heap.size ∧ ∀ j (hj : j < l.length), w.cell? ⟨b, o + j, none⟩ = some (.string l[j]) := by
  rcases h with h | ⟨b, o, h1, h2, h3⟩
  · left
    have := congrArg List.length h
    rw [strs_len] at this
    exact List.eq_nil_of_length_eq_zero (by simpa using this)
  · right
    exact ⟨b, o, h1, h2, fun j hj => by rw [h3 j (by rw [strs_len]; exact hj), strs_get]⟩
theorem grown_of_below {w w' : World} {row : Option Nat} (h : Below w.heap.size w w') : w.grownBy w' row := ⟨h.os, h.tape, h.output, h.size, fun i hi _ => h.block i hi⟩
theorem grownBy_tr {a b c : World} {row : Option Nat} (h : a.grownBy b row) (k : b.grownBy c row) : a.grownBy c row :=
  ⟨k.os.trans h.os, k.tape.trans h.tape, k.output.trans h.output, Nat.le_trans h.size k.size, fun i hi hne => (k.block i (Nat.lt_of_lt_of_le hi h.size) hne).trans (h.block i hi hne)⟩

/-- a slice of texts that came in -/
def StArg (w : World) (ao : Option Addr) (n cap : Nat) (l : List ByteArray) : Prop := n = l.length ∧ n ≤ maxLen ∧ Rd w ao (strs l) ∧ ∀ x ∈ l, x.size ≤ maxLen
theorem Try.cellsStr1 : Try.prog.cellsOf 9 = 1 := by kernel_rfl
theorem strs_flat (l : List ByteArray) : strs l = flat (fun x => [Value.string x]) l := by
  induction l with
  | nil => rfl
  | cons x l ih =>
    have e : flat (fun x => [Value.string x]) (x :: l) = [Value.string x] ++ flat (fun x => [Value.string x]) l := by simp [flat]
    rw [e, ← ih]; rfl
/-- what is left of a size behind some texts -/
def szStrs (left : Int) : List ByteArray → Int
  | [] => left
  | x :: r => if left - x.size < 0 then -1 else szStrs (left - x.size) r
def szAllSt (left : Int) (n : Nat) (l : List ByteArray) : Int := if left - (n : Int) < 0 then -1 else szStrs (left - n) l
theorem szAllSt_big {lf : Int} {n : Nat} {l : List ByteArray} (h : lf - (n : Int) < 0) : szAllSt lf n l = -1 := by rw [szAllSt, if_pos h]
theorem szAllSt_small {lf : Int} {n : Nat} {l : List ByteArray} (h : ¬ lf - (n : Int) < 0) : szAllSt lf n l = szStrs (lf - n) l := by rw [szAllSt, if_neg h]
theorem szAllSt_len {lf : Int} {n : Nat} {l : List ByteArray} (h1 : lf ≤ 1048576) (h : ¬ szAllSt lf n l < 0) : n ≤ 1048576 := by
  by_cases hb : lf - (n : Int) < 0
  · rw [szAllSt_big hb] at h; omega
  · omega
theorem szStrs_le (l : List ByteArray) : ∀ lf : Int, 0 ≤ lf → szStrs lf l ≤ lf ∧ (0 ≤ szStrs lf l → ∀ x ∈ l, (x.size : Int) ≤ lf) := by
  induction l with
  | nil => intro lf _; simp [szStrs]
  | cons x r ih =>
    intro lf h
    rw [szStrs]
    split
    · exact ⟨by omega, fun h => by omega⟩
    · obtain ⟨a, b⟩ := ih (lf - x.size) (by omega)
      refine ⟨by omega, fun h y hy => ?_⟩
      rcases List.mem_cons.1 hy with rfl | hy
      · omega
      · have := b h y hy; omega
theorem szAllSt_le (lf : Int) (n : Nat) (l : List ByteArray) (h : 0 ≤ lf) (h1 : lf ≤ 1048576) : szAllSt lf n l ≤ 1048576 := by
  unfold szAllSt
  split
  · omega
  · have := (szStrs_le l (lf - n) (by omega)).1; omega
theorem szAllSt_each {lf : Int} {n : Nat} {l : List ByteArray} (h : 0 ≤ lf) (h1 : lf ≤ 1048576) (hz : ¬ szAllSt lf n l < 0) : ∀ x ∈ l, x.size ≤ 1048576 := by
  by_cases hb : lf - (n : Int) < 0
  · rw [szAllSt_big hb] at hz; omega
  · rw [szAllSt_small hb] at hz
    intro x hx
    have := (szStrs_le l (lf - n) (by omega)).2 (by omega) x hx
    omega


theorem fillS_set (l : List ByteArray) (j : Nat) (x : ByteArray) (hj : j < l.length) : (strs l).set j (.string x) = strs (l.set j x) := by simp [strs]
end Go.Proofs.Ytbfkiopikkolcaa
