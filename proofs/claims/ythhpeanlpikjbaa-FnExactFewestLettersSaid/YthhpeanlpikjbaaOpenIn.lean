/-
  A slice that lies in a cell of what came in: what its cells hold.
-/
import Derived.Test.YthhpeanlpikjbaaOpen
namespace Go.Proofs.Ythhpeanlpikjbaa
open Go.RowKit Go.ChangeShapes Go.WideShapes
set_option linter.unusedVariables false

section
variable {H : Type} {enc : TypeId × Value → H} {P : Program} {w : World} {base : Nat} {spare : Nat → Bool} {held : Bool}

theorem openFlatC {α : Type} [Inhabited α] {f : α → List Value} {good : α → Prop} {sz : Nat} (hf : ∀ y, (f y).length = sz) (hsz : 0 < sz) {t e : TypeId} (ht : P.underlying t = some (.slice e)) (hc : P.cellsOf e = sz)
    (hE : ∀ n cs x, DataW.trod enc P w base spare held n e cs = some x → ∃ y, cs = f y ∧ good y) {fuel : Nat} {cs : List Value} {x : DataW H × List MemPlace}
    (h : DataW.trod enc P w base spare held fuel t cs = some x) :
    ∃ (ao : Option Addr) (n cap : Nat) (l : List α), cs = [.slice ao n cap] ∧ (n = l.length ∧ n ≤ maxLen ∧ Rd w ao (flat f l) ∧ ∀ y ∈ l, good y) := by
  rcases Go.Deep.open_slice ht h with ⟨hcs, _⟩ | ⟨a, len, cap, m, n, D, Pl, hcs, _, hl, hm, hmm, _, hx⟩
  · subst hcs
    exact ⟨none, 0, 0, [], rfl, rfl, Nat.zero_le _, .inl rfl, fun y hy => by simp at hy⟩
  · subst hcs
    rw [hc] at hx
    have hlm : len ≤ m := by rw [hmm]; split <;> omega
    have key : ∀ i, i < len → ∃ y : α, (∀ j, j < sz → w.cell? (a.add (i * sz + j)) = (f y)[j]?) ∧ good y := by
      intro i hi
      obtain ⟨cs', h1, h2⟩ := hx i (by omega)
      obtain ⟨y, rfl, hg⟩ := hE _ _ _ h2
      obtain ⟨_, _, h3⟩ := World.cells?_some h1
      exact ⟨y, fun j hj => by rw [← h3 j hj, Go.Deep.add_add], hg⟩
    obtain ⟨g, hg⟩ := Go.Deep.choose_lt key
    refine ⟨some a, len, cap, (List.range len).map g, rfl, by simp, by omega, ?_, ?_⟩
    · by_cases h0 : len = 0
      · subst h0
        exact .inl rfl
      · right
        have hc0 : ∃ u, w.cell? a = some u := by
          have h1 := (hg 0 (by omega)).1 0 hsz
          have e0 : a.add (0 * sz + 0) = a := by simp [Addr.add]
          rw [e0, List.getElem?_eq_getElem (by rw [hf]; exact hsz)] at h1
          exact ⟨_, h1⟩
        obtain ⟨u, hu⟩ := hc0
        obtain ⟨b, o, spot⟩ := a
        have hspot : spot = none := World.cell?_spot hu
        subst hspot
        refine ⟨b, o, rfl, World.block_lt_of_cell? w _ hu, fun t ht => ?_⟩
        rw [flat_len hf] at ht
        simp at ht
        have hi : t / sz < len := (Nat.div_lt_iff_lt_mul hsz).2 ht
        have hj : t % sz < sz := Nat.mod_lt _ hsz
        have e1 : t / sz * sz + t % sz = t := by rw [Nat.mul_comm]; exact Nat.div_add_mod t sz
        have h1 := (hg (t / sz) hi).1 (t % sz) hj
        rw [e1, add_lit] at h1
        rw [h1, ← List.getElem?_eq_getElem]
        have h2 := flat_get hf ((List.range len).map g) (t / sz) (t % sz) (by simpa using hi) hj
        rw [e1] at h2
        rw [h2]
        simp
    · intro y hy
      obtain ⟨i, hi, rfl⟩ := List.mem_map.1 hy
      exact (hg i (by simpa using hi)).2

end
end Go.Proofs.Ythhpeanlpikjbaa
