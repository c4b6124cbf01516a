/-
  Walks of the abbreviations' functions: reading the text form.
-/
import Derived.Test.YtnjdoedhhpkjhaaAbA
import Derived.Test.YtnjdoedhhpkjhaaSlStr
import Derived.Test.YtnjdoedhhpkjhaaFind
namespace Go.Proofs.Ytnjdoedhhpkjhaa
open Go.RowKit
set_option linter.unusedVariables false
attribute [local go_sem ↓] Go.wp_at_zero Go.wp_at_succ

set_option maxHeartbeats 1000000 in
/-- two equal abbreviations -/
theorem eqAbbr_any (x y : ByteArray) (w : World) : Calls Try.prog 39 #[.agg #[.string x, .string y], .agg #[.string x, .string y]] w fun e w' => e = .returned (.bool true) ∧ Below w.heap.size w w' := by
  go_enter Try.func39, Try.ntmps39
  go_wp2
  go_ret
  refine ⟨rfl, ?_⟩
  (repeat (first | with_reducible exact Below.refl _ _ | with_reducible assumption | refine Below.drew ?_ | refine below_drewN ?_ _ | (refine Below.alloc ?_ (by first | omega | (simp; done) | (simp; omega)) _) | (refine Below.setCell ?_ (by first | omega | (simp; done) | (simp; omega)) _) | (refine Below.trans ?_ (Below.mono (by assumption) (by first | omega | (simp; done) | (simp; omega))))))

/-- the place of the one sign, where both parts are valid -/
def rdP (s : ByteArray) (k : Nat) : Bool := if h : k < s.size then ((s[k].toNat : Int) == 61) && abOk (s.extract 0 k) (s.extract (k + 1) s.size) else false
def rdR (s : ByteArray) : ByteArray × ByteArray × Bool := match firstAt (rdP s) s.size with | some k => (s.extract 0 k, s.extract (k + 1) s.size, true) | none => (⟨#[]⟩, ⟨#[]⟩, false)
def rdV (r : ByteArray × ByteArray × Bool) : Value := .tuple #[.agg #[.string r.1, .string r.2.1], .bool r.2.2]

theorem rd_none {s : ByteArray} (h : ∀ k, k < s.size → rdP s k = false) : rdR s = (⟨#[]⟩, ⟨#[]⟩, false) := by
  unfold rdR; rw [first_none h]
theorem rd_some {s : ByteArray} {p : Nat} (hp : p < s.size) (h : rdP s p = true) (hu : ∀ j, j < p → rdP s j = false) : rdR s = (s.extract 0 p, s.extract (p + 1) s.size, true) := by
  unfold rdR; rw [first_hit hu h hp]
theorem rdP_not {s : ByteArray} {k : Nat} (h : k < s.size) (hc : ¬ (s[k].toNat : Int) = 61) : rdP s k = false := by
  unfold rdP; rw [dif_pos h]; simp [hc]
theorem rdP_sign {s : ByteArray} {k : Nat} (h : k < s.size) (hc : (s[k].toNat : Int) = 61) : rdP s k = abOk (s.extract 0 k) (s.extract (k + 1) s.size) := by
  unfold rdP; rw [dif_pos h]; simp [hc]
theorem word_all {s : ByteArray} {m : Int} (h : wordB s m = true) : s.data.toList.all sm = true := by
  simp only [wordB, Bool.and_eq_true] at h; exact h.1
/-- two signs: no place serves -/
theorem rdP_two {s : ByteArray} {k q : Nat} (hk : k < s.size) (hq : q < s.size) (hne : q ≠ k) (hc : (s[q].toNat : Int) = 61) : rdP s k = false := by
  by_cases hk61 : (s[k].toNat : Int) = 61
  · rw [rdP_sign hk hk61]
    cases h : abOk (s.extract 0 k) (s.extract (k + 1) s.size)
    · rfl
    · obtain ⟨h1, h2, _⟩ := abOk_true h
      have hsm : sm s[q] = true := by
        by_cases hl : q < k
        · exact all_extract hq (Nat.zero_le _) hl (word_all h1)
        · exact all_extract hq (by omega) hq (word_all h2)
      rw [sm_lo (by omega)] at hsm
      exact hsm.symm
  · exact rdP_not hk hk61

theorem boxAb {w : World} {x y : ByteArray} {T : TypeId} {W1 : World} (h : Below (w.heap.size + 1) (w.alloc (.cells #[.string x, .string y] T)) W1) :
    W1.cell? ⟨w.heap.size, 0, none⟩ = some (.string x) ∧ W1.cell? ⟨w.heap.size, 1, none⟩ = some (.string y) ∧ W1.frozen? ⟨w.heap.size, 0, none⟩ = false ∧ W1.frozen? ⟨w.heap.size, 1, none⟩ = false ∧ w.heap.size < W1.heap.size := by
  have hz : w.heap.size < W1.heap.size := by have := h.size; simp at this; omega
  exact ⟨(h.cell (p := ⟨w.heap.size, 0, none⟩) (by simp)).trans (by go_simp), (h.cell (p := ⟨w.heap.size, 1, none⟩) (by simp)).trans (by go_simp), (h.frozen (p := ⟨w.heap.size, 0, none⟩) (by simp)).trans (by go_simp), (h.frozen (p := ⟨w.heap.size, 1, none⟩) (by simp)).trans (by go_simp), hz⟩
theorem boxAbBelow {w : World} {o : Obj} {W1 w' : World} (h : Below (w.heap.size + 1) (w.alloc o) W1) (hb : Below W1.heap.size W1 w') : Below (w.heap.size + 1) (w.alloc o) w' :=
  h.trans (hb.mono (by have := h.size; simp at this; omega))
theorem boxAbOut {w : World} {o : Obj} {W1 : World} (h : Below (w.heap.size + 1) (w.alloc o) W1) : Below w.heap.size w W1 :=
  ((Below.refl _ _).alloc (Nat.le_refl _) o).trans (h.mono (by omega))

end Go.Proofs.Ytnjdoedhhpkjhaa
