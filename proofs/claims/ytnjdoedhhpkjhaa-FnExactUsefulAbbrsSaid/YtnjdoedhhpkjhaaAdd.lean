/-
  One abbreviation more: both walks.
-/
import Derived.Test.YtnjdoedhhpkjhaaAddMath
import Derived.Test.YtnjdoedhhpkjhaaAbD
import Derived.Test.YtnjdoedhhpkjhaaSlAbS
import Derived.Test.YtnjdoedhhpkjhaaSlS
namespace Go.Proofs.Ytnjdoedhhpkjhaa
open Go.RowKit Go.ChangeShapes Go.WideShapes Go.Maps
set_option linter.unusedVariables false
attribute [local go_sem ↓] Go.wp_at_zero Go.wp_at_succ

theorem flatRet_mk {B : Nat} {E : TypeId} {sz : Nat} {w w' : World} {xs : List Value} {c : Int} {v : Value} {n : Nat} (ho : w'.ownsRow B E sz v n xs) (hb : Below B w w') : FlatRet B E sz n w xs c (.returned (.tuple #[v, .int .i64 c])) w' := by
  rcases owns_form ho with ⟨rfl, rfl, rfl⟩ | ⟨g, cap, rfl, _⟩
  · exact ⟨none, 0, rfl, ho, hb⟩
  · exact ⟨_, cap, rfl, ho, hb⟩
theorem add_cells (l : List Ab) (x y : ByteArray) (k : Nat) : abs (l.take k) ++ [.string x, .string y] ++ abs (l.drop k) = abs (l.take k ++ [(x, y)] ++ l.drop k) := by
  rw [abs_app, abs_app]; rfl
theorem src_tail {W : World} {b o k n cap : Nat} {l : List Ab} (h : ∀ t (ht : t < (abs l).length), W.cell? ⟨b, o + t, none⟩ = some (abs l)[t]) (hn : n = l.length) (hk : k ≤ n) (hc : n ≤ cap) : SrcOk W 2 (.slice (if cap = k then some ⟨b, o, none⟩ else some ⟨b, o + k * 2, none⟩) (n - k) (cap - k)) (n - k) (abs (l.drop k)) := by
  split
  · obtain rfl : k = n := by omega
    exact src_none hn
  · exact src_drop h hn hk
theorem src_end {W : World} {b o k cap c : Nat} {l : List Ab} (hn : k = l.length) : SrcOk W 2 (.slice (if cap = k then some ⟨b, o, none⟩ else some ⟨b, o + k * 2, none⟩) 0 c) 0 (abs (l.drop k)) := by
  have e : l.drop k = [] := List.drop_eq_nil_of_le (by omega)
  rw [e]
  split
  · exact .inr ⟨_, _, rfl, rfl, fun j u hu => by simp [abs, flat] at hu, abs_one _⟩
  · exact .inr ⟨_, _, rfl, rfl, fun j u hu => by simp [abs, flat] at hu, abs_one _⟩
theorem src_nil {W : World} {a : Addr} {c k : Nat} {l : List Ab} (hn : k = l.length) : SrcOk W 2 (.slice (some a) 0 c) 0 (abs (l.drop k)) := by
  have e : l.drop k = [] := List.drop_eq_nil_of_le (by omega)
  rw [e]
  exact .inr ⟨_, _, rfl, rfl, fun j u hu => by simp [abs, flat] at hu, abs_one _⟩
theorem src_full {W : World} {b o n c : Nat} {l : List Ab} (h : ∀ t (ht : t < (abs l).length), W.cell? ⟨b, o + t, none⟩ = some (abs l)[t]) (hn : n = l.length) : SrcOk W 2 (.slice (some ⟨b, o, none⟩) n c) n (abs (l.drop 0)) := by
  have := src_take (k := n) (c := c) h (by omega)
  rw [List.take_of_length_le (by omega)] at this
  exact this
theorem cells_over {w2 W : World} {b o : Nat} {L : List Value} (h : ∀ t (ht : t < L.length), w2.cell? ⟨b, o + t, none⟩ = some L[t]) (hb : Below w2.heap.size w2 W) (hbl : b < w2.heap.size) : ∀ t (ht : t < L.length), W.cell? ⟨b, o + t, none⟩ = some L[t] :=
  fun t ht => (hb.cell (p := ⟨b, o + t, none⟩) hbl).trans (h t ht)
theorem rd_of {w : World} {b o : Nat} {L : List Value} (h : ∀ t (ht : t < L.length), w.cell? ⟨b, o + t, none⟩ = some L[t]) (hb : b < w.heap.size) : Rd w (some ⟨b, o, none⟩) L := .inr ⟨b, o, rfl, hb, h⟩
theorem src_two (w : World) (x y : ByteArray) (t : TypeId) : SrcOk (w.alloc (.cells #[.string x, .string y] t)) 2 (.slice (some ⟨w.heap.size, 0, none⟩) 1 1) 1 [.string x, .string y] := by
  refine .inr ⟨_, _, rfl, rfl, fun j u hu => ?_, ?_⟩
  · match j, hu with
    | 0, hu => simp at hu; subst hu; simp [Addr.add]
    | 1, hu => simp at hu; subst hu; simp [Addr.add]
    | n + 2, hu => simp at hu
  · intro u hu; simp at hu; rcases hu with rfl | rfl <;> rfl
theorem add_step {W : World} {H : Nat} {w2 : World} {x y : ByteArray} (hB : Below w2.heap.size w2 W) (hH : H < w2.heap.size) (q0 : w2.cell? ⟨H, 0, none⟩ = some (.string x)) (q1 : w2.cell? ⟨H, 1, none⟩ = some (.string y)) :
    Below w2.heap.size w2 W ∧ W.cell? ⟨H, 0, none⟩ = some (.string x) ∧ W.cell? ⟨H, 1, none⟩ = some (.string y) :=
  ⟨hB, (hB.cell (p := ⟨H, 0, none⟩) hH).trans q0, (hB.cell (p := ⟨H, 1, none⟩) hH).trans q1⟩

def shortI (l : List Ab) (s : ByteArray) : Int := match firstAt (sameS l s) l.length with | some k => (k : Int) | none => -1
theorem short_hit {l : List Ab} {s : ByteArray} {k : Nat} (h : k < l.length) (hN : NoneUpTo (sameS l s) k) (he : sameS l s k = true) : shortI l s = k := by
  unfold shortI; rw [first_hit hN he h]
theorem short_none {l : List Ab} {s : ByteArray} (hN : NoneUpTo (sameS l s) l.length) : shortI l s = -1 := by
  unfold shortI; rw [first_none hN]
theorem short_has (l : List Ab) (s : ByteArray) : (hasS l s = false ∧ shortI l s = -1) ∨ (hasS l s = true ∧ ∃ j : Nat, shortI l s = (j : Int) ∧ j < l.length) := by
  unfold hasS shortI
  cases hf : firstAt (sameS l s) l.length with
  | none => exact .inl ⟨rfl, rfl⟩
  | some k =>
    refine .inr ⟨rfl, k, rfl, ?_⟩
    unfold firstAt at hf
    have := List.mem_of_find?_eq_some hf
    simpa using this
end Go.Proofs.Ytnjdoedhhpkjhaa
