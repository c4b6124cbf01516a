/-
  More small facts on rows: results that are slices, one cell more.
-/
import Derived.Test.YtnjdoedhhpkjhaaMem
namespace Go.Proofs.Ytnjdoedhhpkjhaa
open Go.RowKit
set_option linter.unusedVariables false

theorem rowRet_mk {B : Nat} {E : TypeId} {w w' : World} {xs : List Value} {c : Int} {v : Value} {n : Nat} (ho : w'.ownsRow B E 1 v n xs) (hb : Below B w w') : RowRet B E w xs c (.returned (.tuple #[v, .int .i64 c])) w' := by
  have hl : xs.length = n := owns_len ho
  rcases owns_form ho with ⟨rfl, rfl, rfl⟩ | ⟨g, cap, rfl, _⟩
  · exact ⟨none, 0, rfl, ho, hb⟩
  · subst hl
    exact ⟨_, cap, rfl, ho, hb⟩
theorem rowRet1_mk {B : Nat} {E : TypeId} {w w' : World} {xs : List Value} {v : Value} {n : Nat} (ho : w'.ownsRow B E 1 v n xs) (hb : Below B w w') : RowRet1 B E w xs (.returned v) w' := by
  have hl : xs.length = n := owns_len ho
  rcases owns_form ho with ⟨rfl, rfl, rfl⟩ | ⟨g, cap, rfl, _⟩
  · exact ⟨none, 0, rfl, ho, hb⟩
  · subst hl
    exact ⟨_, cap, rfl, ho, hb⟩
/-- one cell more, laid in a new block of its own -/
theorem one_new (w : World) (x : Value) (t : TypeId) : ∀ j u, [x][j]? = some u → (w.alloc (.cells #[x] t)).cell? ((⟨w.heap.size, 0, none⟩ : Addr).add j) = some u := by
  intro j u hj
  match j, hj with
  | 0, hj =>
    simp at hj
    subst hj
    simp [Addr.add]
  | n + 1, hj => simp at hj
theorem one_ok (k : IntKind) (x : Int) : ∀ u ∈ [Value.int k x], u.oneCell' = true := by
  intro u hu; simp at hu; subst hu; rfl
theorem one_okS (x : ByteArray) : ∀ u ∈ [Value.string x], u.oneCell' = true := by
  intro u hu; simp at hu; subst hu; rfl
/-- an empty slice literal, laid behind one block -/
theorem owns_lit0 (w : World) (o : Obj) (E : TypeId) (B : Nat) (hB : B ≤ w.heap.size + 1) : ((w.alloc o).alloc (.cells #[] E)).ownsRow B E 1 (.slice (some ⟨w.heap.size + 1, 0, none⟩) 0 0) 0 [] := by
  have h := World.ownsRow_made (e := E) (size := 1) (base := B) (w.alloc o) #[] 0 (by simp; omega) (by unfold maxLen; omega) rfl
  simpa using h
end Go.Proofs.Ytnjdoedhhpkjhaa
