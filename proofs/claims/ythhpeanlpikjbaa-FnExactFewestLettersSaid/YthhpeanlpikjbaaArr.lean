/-
  A variable of 256 marks: made, read, written.
-/
import Derived.Test.YthhpeanlpikjbaaLetMath
import Derived.Deep.WholeRow
namespace Go.Proofs.Ythhpeanlpikjbaa
open Go.RowKit
set_option linter.unusedVariables false

def zb256 : Array Value := Array.replicate 256 (.bool false)
theorem zb_size : zb256.size = 256 := by simp [zb256]
theorem zb_one : zb256.all (·.oneCell') = true := by kernel_rfl
theorem Try.info256 : (Try.prog.info? 88).map (fun i => (i.zero, i.size)) = some (some (.agg zb256), 256) := by kernel_rfl
theorem zero256 (w : World) : (zeroValue 88).run Try.prog w = .ok (.agg zb256) w := (zero_of_info Try.info256).1 w
theorem store256 (w : World) : (storeCells ⟨w.heap.size, 0, none⟩ zb256.toList 0).run Try.prog (w.alloc (.cells zb256 88)) = .ok () (w.alloc (.cells zb256 88)) :=
  run_storeCells_new w _ zb256 zb256 (by rw [(zero_of_info Try.info256).2, zb_size]) rfl zb_one
theorem store256a (w : World) (o : Obj) : (storeCells ⟨w.heap.size + 1, 0, none⟩ zb256.toList 0).run Try.prog ((w.alloc o).alloc (.cells zb256 88)) = .ok () ((w.alloc o).alloc (.cells zb256 88)) := by
  have h := store256 (w.alloc o)
  have e : (w.alloc o).heap.size = w.heap.size + 1 := by simp
  rwa [e] at h
def bools (ms : List Bool) : List Value := ms.map Value.bool
theorem bools_len (ms : List Bool) : (bools ms).length = ms.length := by simp [bools]
theorem bools_set (ms : List Bool) (i : Nat) (b : Bool) : (bools ms).set i (.bool b) = bools (ms.set i b) := by simp [bools]
theorem zb_list : zb256.toList = bools (List.replicate 256 false) := by
  unfold zb256 bools
  rw [Array.toList_replicate, List.map_replicate]
/-- block g holds the marks -/
def HoldsM (w : World) (B g : Nat) (ms : List Bool) : Prop := ms.length = 256 ∧ w.ownsRow B 88 256 (.slice (some ⟨g, 0, none⟩) 1 1) 1 (bools ms)
theorem holds_new (w : World) (B : Nat) (hB : B ≤ w.heap.size) : HoldsM (w.alloc (.cells zb256 88)) B w.heap.size (List.replicate 256 false) := by
  refine ⟨noMarks_len, ?_⟩
  have h := World.ownsRow_lit (e := 88) (size := 256) (base := B) w zb256 1 hB (by unfold maxLen; omega) (by rw [zb_size])
  rw [zb_list] at h
  exact h
theorem HoldsM.below {w w' : World} {B g : Nat} {ms : List Bool} (h : HoldsM w B g ms) (hb : Below w.heap.size w w') : HoldsM w' B g ms := by
  refine ⟨h.1, ?_⟩
  obtain ⟨h1, h2⟩ := h.2
  refine ⟨h1, ?_⟩
  rcases h2 with h2 | ⟨g, cap, cur, hv, hg, hh, r⟩
  · exact Or.inl h2
  · exact Or.inr ⟨g, cap, cur, hv, hg, by rw [hb.block g (Array.getElem?_eq_some_iff.1 hh).1]; exact hh, r⟩
theorem HoldsM.lt {w : World} {B g : Nat} {ms : List Bool} (h : HoldsM w B g ms) : B ≤ g ∧ g < w.heap.size := h.2.lt g rfl
theorem HoldsM.cell {w : World} {B g : Nat} {ms : List Bool} (h : HoldsM w B g ms) {j : Nat} (hj : j < 256) : w.cell? ⟨g, j, none⟩ = some (.bool (marked ms j)) := by
  rw [h.2.cellAt j (by omega)]
  have hl : j < ms.length := by rw [h.1]; exact hj
  unfold bools marked
  rw [List.getElem?_map, List.getElem?_eq_getElem hl, List.getD, List.getElem?_eq_getElem hl]
  rfl
theorem HoldsM.frozen {w : World} {B g : Nat} {ms : List Bool} (h : HoldsM w B g ms) (j : Nat) : w.frozen? ⟨g, j, none⟩ = false := h.2.frozenAt j
theorem HoldsM.store {w : World} {B g : Nat} {ms : List Bool} (h : HoldsM w B g ms) (j : Nat) (b : Bool) : HoldsM (w.setCell ⟨g, j, none⟩ (.bool b)) B g (ms.set j b) := by
  refine ⟨by rw [List.length_set]; exact h.1, ?_⟩
  rw [← bools_set]
  exact (h.2.stored j _).1
theorem HoldsM.drew {w : World} {B g : Nat} {ms : List Bool} (h : HoldsM w B g ms) (n : Nat) : HoldsM (w.drewN n) B g ms := h
end Go.Proofs.Ythhpeanlpikjbaa
