/-
  The abbreviations by what they save: the comparison, and the call of the library's stable sort.
-/
import Derived.Test.YtnjdoedhhpkjhaaUaA
import Derived.Test.YtnjdoedhhpkjhaaSl64
namespace Go.Proofs.Ytnjdoedhhpkjhaa
open Go.Shelf Go.RowKit Go.Lib Go.Sort
set_option linter.unusedVariables false

theorem grown_cell {w w' : World} {g k c b : Nat} (h : w.grownBy w' (Value.slice (some ⟨g, 0, none⟩) k c).ownBlock) (hb : b < w.heap.size) (hne : g ≠ b) : w'.cell? ⟨b, 0, none⟩ = w.cell? ⟨b, 0, none⟩ :=
  World.cell?_of_block (h.block b hb (by simp [Value.ownBlock]; omega))
theorem grown_frozen {w w' : World} {g k c b : Nat} (h : w.grownBy w' (Value.slice (some ⟨g, 0, none⟩) k c).ownBlock) (hb : b < w.heap.size) (hne : g ≠ b) : w'.frozen? ⟨b, 0, none⟩ = w.frozen? ⟨b, 0, none⟩ :=
  World.frozen?_of_block (h.block b hb (by simp [Value.ownBlock]; omega))

section
variable {α : Type} [Inhabited α]
theorem grownBy_sorted (enc : α → Value) (w : World) (k g : Nat) (d : Array α) (os : Array Obj) : w.grownBy (grow (putRow enc (Sort.ahead w k) g 0 d) os) (some g) := by
  refine ⟨rfl, rfl, rfl, ?_, ?_⟩
  · rw [size_grow, size_putRow, heap_ahead]; omega
  · intro q hq hne
    rw [heap_grow_old _ _ (by rw [size_putRow, heap_ahead]; exact hq)]
    show ((Sort.ahead w k).heap.modify g (onCells (putCells enc 0 d)))[q]? = w.heap[q]?
    rw [Array.getElem?_modify, if_neg (fun e => hne (by rw [e]))]; rfl
theorem owns_sorted (enc : α → Value) {w : World} {B : Nat} {E : TypeId} {g n cap : Nat} {xs : List Value} (h : w.ownsRow B E 1 (.slice (some ⟨g, 0, none⟩) n cap) n xs) (k : Nat) (d : Array α) (os : Array Obj) (hd : d.size = n) :
    (grow (putRow enc (Sort.ahead w k) g 0 d) os).ownsRow B E 1 (.slice (some ⟨g, 0, none⟩) n cap) n (d.toList.map enc) := by
  have hlt := (h.lt g rfl).2
  refine ⟨by simp [hd], .inr ?_⟩
  rcases h.2 with ⟨hv, _⟩ | ⟨g', cap', cur, hv, hb, hg, h1, h2, h3, h4⟩
  · cases hv
  cases hv
  refine ⟨g, cap, putCells enc 0 d cur, rfl, hb, ?_, h1, h2, ?_, ?_⟩
  · rw [heap_grow_old _ _ (by rw [size_putRow, heap_ahead]; exact hlt)]
    show ((Sort.ahead w k).heap.modify g (onCells (putCells enc 0 d)))[g]? = _
    rw [Array.getElem?_modify, if_pos rfl, heap_ahead, hg]; rfl
  · simp [putCells, h3]
  · apply List.ext_getElem
    · simp [putCells]; omega
    · intro i h5 h6
      have hi : i < d.size := by simpa using h6
      simp [putCells, hi]
end


theorem UsC.drewN {w : World} {bm bl mb nW : Nat} {ao : Option Addr} {n cap : Nat} {l : List Ab} {W : List ByteArray} (h : UsC w bm bl mb nW ao n cap l W) (q : Nat) : UsC (w.drewN q) bm bl mb nW ao n cap l W :=
  ⟨h.hn, h.cm, h.cl, h.map, h.rows, h.small, h.few⟩
theorem use_q (bm bl mb nW : Nat) (ao : Option Addr) (n cap : Nat) (l : List Ab) (W : List ByteArray) (w : World) (h : UsC w bm bl mb nW ao n cap l W) (i : Nat) (hi : i < n) {r : Int} (hr : sv l W i = r) :
    Calls Try.prog 36 #[.int .i64 i, .pointer (some ⟨bm, 0, none⟩), .pointer (some ⟨bl, 0, none⟩)] w fun e w' => e = .returned (.int .i64 r) ∧ ∃ q, w' = w.drewN q := by
  subst hr; exact use_any bm bl mb nW ao n cap l W w h i hi
theorem Try.enterUse : ∀ args w, (callFunc 36 args).run Try.prog w = .ok (.enter 36 args) w := enters_of Try.func36 (by kernel_rfl) rfl

set_option maxRecDepth 100000 in
set_option maxHeartbeats 4000000 in
/-- the comparison -/
theorem less_any (bm bl bu bo mb nW blk k c : Nat) (ao : Option Addr) (n cap : Nat) (l : List Ab) (W : List ByteArray) (w : World) (h : UsC w bm bl mb nW ao n cap l W)
    (cu : w.cell? ⟨bu, 0, none⟩ = some (.func (.func 36) #[] #[.pointer (some ⟨bm, 0, none⟩), .pointer (some ⟨bl, 0, none⟩)])) (co : w.cell? ⟨bo, 0, none⟩ = some (.slice (some ⟨blk, 0, none⟩) k c))
    (i j p q : Nat) (hi : i < k) (hj : j < k) (hp : p < n) (hq : q < n) (hip : w.cell? ⟨blk, i, none⟩ = some (.int .i64 p)) (hjq : w.cell? ⟨blk, j, none⟩ = some (.int .i64 q)) :
    Calls Try.prog 38 #[.int .i64 i, .int .i64 j, .pointer (some ⟨bu, 0, none⟩), .pointer (some ⟨bo, 0, none⟩)] w fun e w' => e = .returned (.bool (decide (sv l W q < sv l W p))) ∧ ∃ q, w' = w.drewN q := by
  have hi0 : (0 : Int) ≤ (i : Int) := by omega
  have hj0 : (0 : Int) ≤ (j : Int) := by omega
  have hik : (i : Int) < (k : Int) := by omega
  have hjk : (j : Int) < (k : Int) := by omega
  obtain ⟨a, ha⟩ : ∃ a, a = sv l W p := ⟨_, rfl⟩
  obtain ⟨b, hb⟩ : ∃ b, b = sv l W q := ⟨_, rfl⟩
  rw [← ha, ← hb]
  have HA := hid ha.symm
  have HB := hid hb.symm
  have HC := hid (fun m => h.drewN m)
  clear ha hb h
  have eu := Try.enterUse
  go_enter Try.func38, Try.ntmps38
  go_wp2_with fail
  go_quiet ((go_at_fn 36; first | with_reducible exact Calls.quiet_of (use_q bm bl mb nW ao n cap l W _ (HC.out _) p hp HA.out) | with_reducible exact Calls.quiet_of (use_q bm bl mb nW ao n cap l W _ (HC.out _) q hq HB.out)))
  go_wp2_with fail
  go_ret
  exact ⟨rfl, nq, rfl⟩
end Go.Proofs.Ytnjdoedhhpkjhaa
