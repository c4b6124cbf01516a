/-
  A slice that came in, whatever its elements' type: what its cells hold, out of its reading as data.
-/
import Derived.Test.YtnjdoedhhpkjhaaFlat
import Derived.Deep.Slices
import Derived.OpenShut
namespace Go.Proofs.Ytnjdoedhhpkjhaa
open Go.RowKit Go.ChangeShapes Go.WideShapes
set_option linter.unusedVariables false

section
variable {H : Type} {enc : TypeId × Value → H} {P : Program} {w : World} {base : Nat} {spare : Nat → Bool} {held : Bool}

theorem add_lit (b o j : Nat) : (⟨b, o, none⟩ : Addr).add j = ⟨b, o + j, none⟩ := by
  unfold Addr.add; split <;> simp_all

theorem openFlat {α : Type} [Inhabited α] {f : α → List Value} {good : α → Prop} {sz : Nat} (hf : ∀ y, (f y).length = sz) (hsz : 0 < sz) {t e : TypeId} (ht : P.underlying t = some (.slice e)) (hc : P.cellsOf e = sz)
    (hE : ∀ n cs x, DataW.trod enc P w base spare held n e cs = some x → ∃ y, cs = f y ∧ good y) {r : Reach} {b0 : Nat} {v : Value} {d : DataW H} {p : List MemPlace}
    (hv : Value.okWide P w r b0 t v) (h : DataW.Trod enc P w base spare held t v d p) :
    ∃ (ao : Option Addr) (n cap : Nat) (l : List α), v = .slice ao n cap ∧ (n = l.length ∧ n ≤ maxLen ∧ Rd w ao (flat f l) ∧ ∀ y ∈ l, good y) := by
  obtain ⟨a0, len, cap, rfl⟩ := okWide_slice ht hv
  obtain ⟨fuel, hfu⟩ := h
  rcases Go.Deep.open_slice ht hfu with ⟨hcs, _⟩ | ⟨a, len', cap', m, n, D, Pl, hcs, _, hl, hm, hmm, _, hx⟩
  · simp [Value.cells] at hcs
    obtain ⟨rfl, rfl, rfl⟩ := hcs
    exact ⟨none, 0, 0, [], rfl, rfl, Nat.zero_le _, .inl rfl, fun y hy => by simp at hy⟩
  · simp [Value.cells] at hcs
    obtain ⟨rfl, rfl, rfl⟩ := hcs
    rw [hc] at hx
    have hlm : len ≤ m := by rw [hmm]; split <;> omega
    have key : ∀ i, i < len → ∃ y : α, (∀ j, j < sz → w.cell? (a.add (i * sz + j)) = (f y)[j]?) ∧ good y := by
      intro i hi
      obtain ⟨cs', h1, h2⟩ := hx i (by omega)
      obtain ⟨y, rfl, hg⟩ := hE _ _ _ h2
      obtain ⟨_, _, h3⟩ := World.cells?_some h1
      exact ⟨y, fun j hj => by rw [← h3 j hj, Go.Deep.add_add], hg⟩
    obtain ⟨g, hg⟩ := Go.Deep.choose_lt key
    refine ⟨some a, len, cap, (List.range len).map g, rfl, by simp, by omega, ?_, ?_⟩
    · by_cases h0 : len = 0
      · subst h0
        exact .inl rfl
      · right
        have hc0 : ∃ u, w.cell? a = some u := by
          have h1 := (hg 0 (by omega)).1 0 hsz
          have e0 : a.add (0 * sz + 0) = a := by simp [Addr.add]
          rw [e0, List.getElem?_eq_getElem (by rw [hf]; exact hsz)] at h1
          exact ⟨_, h1⟩
        obtain ⟨u, hu⟩ := hc0
        obtain ⟨b, o, spot⟩ := a
        have hspot : spot = none := World.cell?_spot hu
        subst hspot
        refine ⟨b, o, rfl, World.block_lt_of_cell? w _ hu, fun t ht => ?_⟩
        rw [flat_len hf] at ht
        simp at ht
        have hi : t / sz < len := (Nat.div_lt_iff_lt_mul hsz).2 ht
        have hj : t % sz < sz := Nat.mod_lt _ hsz
        have e1 : t / sz * sz + t % sz = t := by rw [Nat.mul_comm]; exact Nat.div_add_mod t sz
        have h1 := (hg (t / sz) hi).1 (t % sz) hj
        rw [e1, add_lit] at h1
        rw [h1, ← List.getElem?_eq_getElem]
        have h2 := flat_get hf ((List.range len).map g) (t / sz) (t % sz) (by simpa using hi) hj
        rw [e1] at h2
        rw [h2]
        simp
    · intro y hy
      obtain ⟨i, hi, rfl⟩ := List.mem_map.1 hy
      exact (hg i (by simpa using hi)).2

/-- an element of two texts -/
theorem elem_ss {t s : TypeId} {f0 f1 : Field} (ht : P.underlying t = some (.struct #[f0, f1])) (hs : P.underlying s = some .string) (hc : P.cellsOf s = 1) (k0 : f0.type = s) (k1 : f1.type = s) (o0 : f0.offset = 0) (o1 : f1.offset = 1) (hct : P.cellsOf t = 2)
    (n : Nat) (cs : List Value) (x : DataW H × List MemPlace) (h : DataW.trod enc P w base spare held n t cs = some x) : ∃ y : ByteArray × ByteArray, cs = [.string y.1, .string y.2] ∧ (y.1.size ≤ maxLen ∧ y.2.size ≤ maxLen) := by
  obtain ⟨y0, y1, m, _, hl, h0, h1⟩ := trod_struct2 ht h
  rw [hct] at hl
  match cs, hl with
  | [c0, c1], _ =>
    rw [k0, o0, hc] at h0
    rw [k1, o1, hc] at h1
    obtain ⟨s0, e0, _, w0⟩ := DataW.trod_string hs h0
    obtain ⟨s1, e1, _, w1⟩ := DataW.trod_string hs h1
    simp at e0 e1
    subst e0; subst e1
    exact ⟨(s0, s1), rfl, w0, w1⟩
/-- an element that is a text -/
theorem elem_s {s : TypeId} (hs : P.underlying s = some .string)
    (n : Nat) (cs : List Value) (x : DataW H × List MemPlace) (h : DataW.trod enc P w base spare held n s cs = some x) : ∃ y : ByteArray, cs = [.string y] ∧ y.size ≤ maxLen := by
  obtain ⟨s0, e0, _, w0⟩ := DataW.trod_string hs h
  exact ⟨s0, e0, w0⟩
/-- an element that is an integer -/
theorem elem_i {s : TypeId} (hs : P.underlying s = some (.int .i64))
    (n : Nat) (cs : List Value) (x : DataW H × List MemPlace) (h : DataW.trod enc P w base spare held n s cs = some x) : ∃ y : Int, cs = [.int .i64 y] ∧ (-9223372036854775808 ≤ y ∧ y ≤ 9223372036854775807) := by
  obtain ⟨s0, e0, _, w0⟩ := DataW.trod_int hs h
  exact ⟨s0, e0, IntWalkB.b64 w0⟩
end
instance : Inhabited ByteArray := ⟨ByteArray.empty⟩
end Go.Proofs.Ytnjdoedhhpkjhaa
