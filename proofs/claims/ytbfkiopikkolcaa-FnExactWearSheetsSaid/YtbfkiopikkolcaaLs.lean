/-
  Lessons: what a list of lessons reads (a struct with a slice of its own), how it is opened.
-/
import Derived.Test.YtbfkiopikkolcaaTo64
import Derived.Test.YtbfkiopikkolcaaFlat
import Derived.Test.YtbfkiopikkolcaaOpenIn
import Derived.Lib.SmallJoins
namespace Go.Proofs.Ytbfkiopikkolcaa
open Go.RowKit Go.ChangeShapes Go.WideShapes
set_option linter.unusedVariables false

structure Ls where
  nm : ByteArray
  lt : ByteArray
  ao : Option Addr
  cap : Nat
  nd : List Int
  hr : Int
instance : Inhabited Ls := ⟨⟨ByteArray.empty, ByteArray.empty, none, 0, [], 0⟩⟩
abbrev LsD := ByteArray × ByteArray × List Int × Int
/-- what a lesson says, without the place of its needs -/
def Ls.d (x : Ls) : LsD := (x.nm, x.lt, x.nd, x.hr)
def lsF (x : Ls) : List Value := [.string x.nm, .string x.lt, .slice x.ao x.nd.length x.cap, .int .i64 x.hr]
def lss (l : List Ls) : List Value := flat lsF l
theorem lsF_len (x : Ls) : (lsF x).length = 4 := rfl
theorem lss_len (l : List Ls) : (lss l).length = l.length * 4 := flat_len lsF_len l
theorem lss_get0 (l : List Ls) (j : Nat) (hj : j < l.length) : (lss l)[j * 4]? = some (.string l[j].nm) := by
  have := flat_get lsF_len l j 0 hj (by omega)
  unfold lss
  simpa [lsF] using this
theorem lss_get1 (l : List Ls) (j : Nat) (hj : j < l.length) : (lss l)[j * 4 + 1]? = some (.string l[j].lt) := by
  have := flat_get lsF_len l j 1 hj (by omega)
  unfold lss
  simpa [lsF] using this
theorem lss_get2 (l : List Ls) (j : Nat) (hj : j < l.length) : (lss l)[j * 4 + 2]? = some (.slice l[j].ao l[j].nd.length l[j].cap) := by
  have := flat_get lsF_len l j 2 hj (by omega)
  unfold lss
  simpa [lsF] using this
theorem lss_get3 (l : List Ls) (j : Nat) (hj : j < l.length) : (lss l)[j * 4 + 3]? = some (.int .i64 l[j].hr) := by
  have := flat_get lsF_len l j 3 hj (by omega)
  unfold lss
  simpa [lsF] using this
theorem lss_set (l : List Ls) (j : Nat) (x : Ls) (hj : j < l.length) :
    ((((lss l).set (j * 4) (.string x.nm)).set (j * 4 + 1) (.string x.lt)).set (j * 4 + 2) (.slice x.ao x.nd.length x.cap)).set (j * 4 + 3) (.int .i64 x.hr) = lss (l.set j x) := by
  apply flat_ext (n := l.length) (sz := 4)
  · simp [lss_len]
  · simp [lss_len]
  · intro k i hk hi
    have hr := flat_get lsF_len (l.set j x) k i (by simpa using hk) hi
    have hl := flat_get lsF_len l k i hk hi
    unfold lss at *
    rw [hr]
    have hle : (flat lsF l).length = l.length * 4 := flat_len lsF_len l
    have hjk := flat_lt (sz := 4) (i := 3) hj (by omega)
    by_cases e : j = k
    · subst e
      rcases (show i = 0 ∨ i = 1 ∨ i = 2 ∨ i = 3 by omega) with rfl | rfl | rfl | rfl
      · rw [List.getElem?_set_ne (by omega), List.getElem?_set_ne (by omega), List.getElem?_set_ne (by omega), Nat.add_zero, List.getElem?_set_self (by omega)]
        simp [lsF]
      · rw [List.getElem?_set_ne (by omega), List.getElem?_set_ne (by omega), List.getElem?_set_self (by simp; omega)]
        simp [lsF]
      · rw [List.getElem?_set_ne (by omega), List.getElem?_set_self (by simp; omega)]
        simp [lsF]
      · rw [List.getElem?_set_self (by simp; omega)]
        simp [lsF]
    · rw [List.getElem?_set_ne (by omega), List.getElem?_set_ne (by omega), List.getElem?_set_ne (by omega), List.getElem?_set_ne (by omega), hl]
      simp [List.getElem_set_ne e]
/-- the four cells of a lesson -/
structure LsCells (w : World) (b o : Nat) (x : Ls) : Prop where
  c0 : w.cell? ⟨b, o, none⟩ = some (.string x.nm)
  c1 : w.cell? ⟨b, o + 1, none⟩ = some (.string x.lt)
  c2 : w.cell? ⟨b, o + 2, none⟩ = some (.slice x.ao x.nd.length x.cap)
  c3 : w.cell? ⟨b, o + 3, none⟩ = some (.int .i64 x.hr)
theorem LsCells.below {w w' : World} {B b o : Nat} {x : Ls} (h : LsCells w b o x) (hb : Below B w w') (hB : b < B) : LsCells w' b o x :=
  ⟨(hb.cell (p := ⟨b, o, none⟩) hB).trans h.c0, (hb.cell (p := ⟨b, o + 1, none⟩) hB).trans h.c1, (hb.cell (p := ⟨b, o + 2, none⟩) hB).trans h.c2, (hb.cell (p := ⟨b, o + 3, none⟩) hB).trans h.c3⟩
theorem rd_ls {w : World} {ao : Option Addr} {l : List Ls} (h : Rd w ao (lss l)) : l = [] ∨ ∃ b o, ao = some ⟨b, o, none⟩ ∧ b < w.heap.size ∧ ∀ j (hj : j < l.length), LsCells w b (o + j * 4) l[j] := by
  rcases h with h | ⟨b, o, h1, h2, h3⟩
  · left
    have := congrArg List.length h
    rw [lss_len] at this
    exact List.eq_nil_of_length_eq_zero (by simp at this; omega)
  · right
    refine ⟨b, o, h1, h2, fun j hj => ⟨?_, ?_, ?_, ?_⟩⟩
    · have hlt : j * 4 < (lss l).length := by rw [lss_len]; omega
      rw [h3 (j * 4) hlt, ← List.getElem?_eq_getElem hlt, lss_get0 l j hj]
    · have hlt : j * 4 + 1 < (lss l).length := by rw [lss_len]; omega
      rw [Nat.add_assoc, h3 (j * 4 + 1) hlt, ← List.getElem?_eq_getElem hlt, lss_get1 l j hj]
    · have hlt : j * 4 + 2 < (lss l).length := by rw [lss_len]; omega
      rw [Nat.add_assoc, h3 (j * 4 + 2) hlt, ← List.getElem?_eq_getElem hlt, lss_get2 l j hj]
    · have hlt : j * 4 + 3 < (lss l).length := by rw [lss_len]; omega
      rw [Nat.add_assoc, h3 (j * 4 + 3) hlt, ← List.getElem?_eq_getElem hlt, lss_get3 l j hj]
/-- what is known of a lesson that can be read -/
structure LsGood (w : World) (y : Ls) : Prop where
  n1 : y.nm.size ≤ maxLen
  n2 : y.lt.size ≤ maxLen
  n3 : y.nd.length ≤ maxLen
  rd : Rd w y.ao (i64s y.nd)
theorem LsGood.below {w w' : World} {y : Ls} (h : LsGood w y) (hb : Below w.heap.size w w') : LsGood w' y := ⟨h.n1, h.n2, h.n3, rd_below h.rd hb⟩
/-- a slice of lessons that can be read -/
def LsArg (w : World) (ao : Option Addr) (n cap : Nat) (l : List Ls) : Prop := n = l.length ∧ n ≤ maxLen ∧ Rd w ao (lss l) ∧ ∀ y ∈ l, LsGood w y
theorem LsArg.below {w w' : World} {ao : Option Addr} {n cap : Nat} {l : List Ls} (h : LsArg w ao n cap l) (hb : Below w.heap.size w w') : LsArg w' ao n cap l :=
  ⟨h.1, h.2.1, rd_below h.2.2.1 hb, fun y hy => (h.2.2.2 y hy).below hb⟩
theorem LsArg.drewN {w : World} {ao : Option Addr} {n cap : Nat} {l : List Ls} (h : LsArg w ao n cap l) (m : Nat) : LsArg (w.drewN m) ao n cap l := ⟨h.1, h.2.1, h.2.2.1, fun y hy => ⟨(h.2.2.2 y hy).n1, (h.2.2.2 y hy).n2, (h.2.2.2 y hy).n3, (h.2.2.2 y hy).rd⟩⟩
theorem Try.cellsLs : Try.prog.cellsOf 57 = 4 := by kernel_rfl
theorem Try.cellsI64S : Try.prog.cellsOf 37 = 1 := by kernel_rfl
theorem Try.cellsStr4 : Try.prog.cellsOf 9 = 1 := by kernel_rfl
section
variable {H : Type} {enc : TypeId × Value → H} {W : World} {base : Nat} {spare : Nat → Bool} {held : Bool}
theorem elem_ls (n : Nat) (cs : List Value) (x : DataW H × List MemPlace) (h : DataW.trod enc Try.prog W base spare held n 57 cs = some x) : ∃ y : Ls, cs = lsF y ∧ LsGood W y := by
  obtain ⟨y0, y1, y2, y3, m, _, hl, h0, h1, h2, h3⟩ := Joins.trod_struct4 Try.underlying57 h
  rw [Try.cellsLs] at hl
  match cs, hl with
  | [c0, c1, c2, c3], _ =>
    simp only [Try.cellsStr4, Try.cellsI64S, Try.cellsI1, List.drop_succ_cons, List.drop_zero, List.take_succ_cons, List.take_zero] at h0 h1 h2 h3
    obtain ⟨s0, e0, _, w0⟩ := DataW.trod_string Try.underlying9 h0
    obtain ⟨s1, e1, _, w1⟩ := DataW.trod_string Try.underlying9 h1
    obtain ⟨i3, e3, _, w3⟩ := DataW.trod_int Try.underlying2 h3
    obtain ⟨ao, n1, cap, l, he, q1, q2, q3, q4⟩ := openFlatC (sz := 1) (f := fun x => [Value.int .i64 x]) (good := fun y => -9223372036854775808 ≤ y ∧ y ≤ 9223372036854775807) (fun _ => rfl) (by omega) Try.underlying37 Try.cellsI1 (elem_i Try.underlying2) h2
    simp at e0 e1 e3 he
    subst e0; subst e1; subst e3; subst he; subst q1
    exact ⟨⟨s0, s1, ao, cap, l, i3⟩, rfl, w0, w1, q2, by rw [i64s_flat]; exact q3⟩
theorem openLs {r : Reach} {b0 : Nat} {v : Value} {d : DataW H} {p : List MemPlace}
    (hv : Value.okWide Try.prog W r b0 29 v) (h : DataW.Trod enc Try.prog W base spare held 29 v d p) :
    ∃ (ao : Option Addr) (n cap : Nat) (l : List Ls), v = .slice ao n cap ∧ LsArg W ao n cap l :=
  openFlat (sz := 4) (f := lsF) (good := fun y => LsGood W y) lsF_len (by omega) Try.underlying29 Try.cellsLs elem_ls hv h
end
end Go.Proofs.Ytbfkiopikkolcaa
