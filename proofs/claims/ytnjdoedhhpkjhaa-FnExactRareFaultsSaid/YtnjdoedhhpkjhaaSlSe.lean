/-
  Walks of the laws' helpers over slices of letters seen: sizes, copy, equal.
-/
import Derived.Test.YtnjdoedhhpkjhaaFlat
import Derived.Test.YtnjdoedhhpkjhaaOver
import Derived.Test.YtnjdoedhhpkjhaaOpen
import Derived.Deep.Slices
namespace Go.Proofs.Ytnjdoedhhpkjhaa
open Go.RowKit Go.ChangeShapes Go.WideShapes
set_option linter.unusedVariables false
attribute [local go_sem ↓] Go.wp_at_zero Go.wp_at_succ

/-- what is left of a size -/
def szSe (x : ByteArray) (left : Int) : Int := if left - x.size < 0 then -1 else left - x.size
theorem szSe_bd (x : ByteArray) (left : Int) (h : 0 ≤ left) : szSe x left ≤ left := by
  unfold szSe; split <;> omega

abbrev Se := ByteArray × Int
def seF (x : Se) : List Value := [.string x.1, .int .i64 x.2]
def ses (l : List Se) : List Value := flat seF l
theorem seF_len (x : Se) : (seF x).length = 2 := rfl
theorem ses_len (l : List Se) : (ses l).length = l.length * 2 := flat_len seF_len l
def seSmall (l : List Se) : Prop := ∀ x ∈ l, x.1.size ≤ maxLen
theorem seSmall_get {l : List Se} (h : seSmall l) (j : Nat) (hj : j < l.length) : l[j].1.size ≤ maxLen := h _ (List.getElem_mem hj)
theorem ses_get0 (l : List Se) (j : Nat) (hj : j < l.length) : (ses l)[j * 2]? = some (.string l[j].1) := by
  have := flat_get seF_len l j 0 hj (by omega)
  unfold ses
  simpa [seF] using this
theorem ses_get1 (l : List Se) (j : Nat) (hj : j < l.length) : (ses l)[j * 2 + 1]? = some (.int .i64 l[j].2) := by
  have := flat_get seF_len l j 1 hj (by omega)
  unfold ses
  simpa [seF] using this
theorem ses_set (l : List Se) (j : Nat) (x : Se) (hj : j < l.length) : ((ses l).set (j * 2) (.string x.1)).set (j * 2 + 1) (.int .i64 x.2) = ses (l.set j x) := by
  apply flat_ext (n := l.length) (sz := 2)
  · simp [ses_len]
  · simp [ses_len]
  · intro k i hk hi
    have hr := flat_get seF_len (l.set j x) k i (by simpa using hk) hi
    have hl := flat_get seF_len l k i hk hi
    unfold ses at *
    rw [hr]
    have hle : (flat seF l).length = l.length * 2 := flat_len seF_len l
    have hjk := flat_lt (sz := 2) (i := 1) hj (by omega)
    by_cases e : j = k
    · subst e
      rcases (show i = 0 ∨ i = 1 by omega) with rfl | rfl
      · rw [List.getElem?_set_ne (by omega), Nat.add_zero, List.getElem?_set_self (by omega)]
        simp [seF]
      · rw [List.getElem?_set_self (by simp; omega)]
        simp [seF]
    · rw [List.getElem?_set_ne (by omega), List.getElem?_set_ne (by omega), hl]
      simp [List.getElem_set_ne e]

/-- what a slice of letters seen reads -/
theorem rd_se {w : World} {ao : Option Addr} {l : List Se} (h : Rd w ao (ses l)) : l = [] ∨ ∃ b o, ao = some ⟨b, o, none⟩ ∧ b < w.heap.size ∧ ∀ j (hj : j < l.length), w.cell? ⟨b, o + j * 2, none⟩ = some (.string l[j].1) ∧ w.cell? ⟨b, o + j * 2 + 1, none⟩ = some (.int .i64 l[j].2) := by
  rcases h with h | ⟨b, o, h1, h2, h3⟩
  · left
    have := congrArg List.length h
    rw [ses_len] at this
    exact List.eq_nil_of_length_eq_zero (by simp at this; omega)
  · right
    refine ⟨b, o, h1, h2, fun j hj => ⟨?_, ?_⟩⟩
    · have hlt : j * 2 < (ses l).length := by rw [ses_len]; omega
      rw [h3 (j * 2) hlt, ← List.getElem?_eq_getElem hlt, ses_get0 l j hj]
    · have hlt : j * 2 + 1 < (ses l).length := by rw [ses_len]; omega
      rw [Nat.add_assoc, h3 (j * 2 + 1) hlt, ← List.getElem?_eq_getElem hlt, ses_get1 l j hj]


/-- what is left of a size behind some letters seen -/
def szSes (left : Int) : List Se → Int
  | [] => left
  | x :: r => if szSe x.1 left < 0 then -1 else szSes (szSe x.1 left) r



def szAllSe (left : Int) (n : Nat) (l : List Se) : Int := if left - (n : Int) < 0 then -1 else szSes (left - n) l
theorem szAllSe_big {lf : Int} {n : Nat} {l : List Se} (h : lf - (n : Int) < 0) : szAllSe lf n l = -1 := by rw [szAllSe, if_pos h]
theorem szAllSe_small {lf : Int} {n : Nat} {l : List Se} (h : ¬ lf - (n : Int) < 0) : szAllSe lf n l = szSes (lf - n) l := by rw [szAllSe, if_neg h]
theorem szAllSe_len {lf : Int} {n : Nat} {l : List Se} (h1 : lf ≤ 1048576) (h : ¬ szAllSe lf n l < 0) : n ≤ 1048576 := by
  by_cases hb : lf - (n : Int) < 0
  · rw [szAllSe_big hb] at h; omega
  · omega
theorem szSes_le (l : List Se) : ∀ lf : Int, 0 ≤ lf → szSes lf l ≤ lf := by
  induction l with
  | nil => intro lf _; simp [szSes]
  | cons x r ih =>
    intro lf h
    rw [szSes]
    have := szSe_bd x.1 lf h
    split
    · omega
    · have := ih _ (show 0 ≤ szSe x.1 lf by omega); omega
theorem szAllSe_le (lf : Int) (n : Nat) (l : List Se) (h : 0 ≤ lf) (h1 : lf ≤ 1048576 := by omega) : szAllSe lf n l ≤ 1048576 := by
  unfold szAllSe
  split
  · omega
  · have := szSes_le l (lf - n) (by omega); omega
end Go.Proofs.Ytnjdoedhhpkjhaa
