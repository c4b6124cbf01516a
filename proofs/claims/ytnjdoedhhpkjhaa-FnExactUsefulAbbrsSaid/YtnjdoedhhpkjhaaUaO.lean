/-
  Rows of numbers, read and copied: the reference's own copy.
-/
import Derived.Test.YtnjdoedhhpkjhaaUaC
import Derived.Test.YtnjdoedhhpkjhaaAppend
import Derived.OwnWalk
namespace Go.Proofs.Ytnjdoedhhpkjhaa
open Go.RowKit Go.ChangeShapes Go.WideShapes
set_option linter.unusedVariables false
attribute [local go_sem ↓] Go.wp_at_zero Go.wp_at_succ

theorem i64s_getD {xs : List Int} {i : Nat} (h : i < xs.length) : (i64s xs)[i]? = some (.int .i64 (xs.getD i 0)) := by
  simp [i64s, List.getD, List.getElem?_eq_getElem h]
theorem adds (b o j : Nat) : (⟨b, o, none⟩ : Addr).add j = ⟨b, o + j, none⟩ := by
  by_cases h0 : j = 0
  · subst h0; simp [Addr.add]
  · simp [Addr.add, h0]
/-- the cells of a row of numbers -/
def CellsI (W : World) (b o : Nat) (L : List Int) : Prop := ∀ j (hj : j < L.length), W.cell? ⟨b, o + j, none⟩ = some (.int .i64 L[j])
theorem CellsI.below {W W' : World} {b o : Nat} {L : List Int} (h : CellsI W b o L) (hb : Below W.heap.size W W') (hl : b < W.heap.size) : CellsI W' b o L := fun j hj => (hb.cell (p := ⟨b, o + j, none⟩) hl).trans (h j hj)
theorem CellsI.below2 {W W' : World} {B b o : Nat} {L : List Int} (h : CellsI W b o L) (hb : Below B W W') (hl : b < B) : CellsI W' b o L := fun j hj => (hb.cell (p := ⟨b, o + j, none⟩) hl).trans (h j hj)
theorem CellsI.take {W : World} {b o k : Nat} {L : List Int} (h : CellsI W b o L) : CellsI W b o (L.take k) := by
  intro j hj
  rw [List.getElem_take]
  exact h j (by rw [List.length_take] at hj; omega)
theorem CellsI.drop {W : World} {b o k : Nat} {L : List Int} (h : CellsI W b o L) : CellsI W b (o + k) (L.drop k) := by
  intro j hj
  rw [List.getElem_drop, Nat.add_assoc]
  exact h (k + j) (by rw [List.length_drop] at hj; omega)
theorem cells_owned {W : World} {B g n c : Nat} {E : TypeId} {L : List Int} (h : W.ownsRow B E 1 (.slice (some ⟨g, 0, none⟩) n c) n (i64s L)) (hn : n = L.length) : CellsI W g 0 L := by
  intro j hj
  rw [Nat.zero_add, h.cellAt j (by omega), i64s_getD hj, List.getD_eq_getElem?_getD, List.getElem?_eq_getElem hj]; rfl
theorem news_i {W : World} {b o : Nat} {L : List Int} (h : CellsI W b o L) : ∀ j u, (i64s L)[j]? = some u → W.cell? ((⟨b, o, none⟩ : Addr).add j) = some u := by
  intro j u hu
  rw [adds]
  have hj : j < L.length := by
    rcases Nat.lt_or_ge j L.length with h1 | h1
    · exact h1
    · rw [List.getElem?_eq_none (by rw [i64s_len]; exact h1)] at hu; cases hu
  rw [h j hj, ← hu, i64s_getD hj, List.getD_eq_getElem?_getD, List.getElem?_eq_getElem hj]; rfl
theorem i64s_one (L : List Int) : ∀ u ∈ i64s L, u.oneCell' = true := fun u hu => by obtain ⟨x, _, rfl⟩ := List.mem_map.1 hu; rfl
theorem src_tailI {W : World} {b k n cap : Nat} {L : List Int} (h : CellsI W b 0 L) (hn : n = L.length) (hk : k ≤ n) (hc : n ≤ cap) : SrcOk W 1 (.slice (if cap = k then some ⟨b, 0, none⟩ else some ⟨b, k, none⟩) (n - k) (cap - k)) (n - k) (i64s (L.drop k)) := by
  have hl : (i64s (L.drop k)).length = (n - k) * 1 := by rw [i64s_len, List.length_drop]; omega
  by_cases e : cap = k
  · rw [if_pos e]
    refine .inr ⟨_, _, rfl, hl, ?_, i64s_one _⟩
    intro j u hu
    rw [List.getElem?_eq_none (by rw [hl]; omega)] at hu; cases hu
  · rw [if_neg e]
    refine .inr ⟨_, _, rfl, hl, ?_, i64s_one _⟩
    have := news_i (h.drop (k := k))
    rw [Nat.zero_add] at this
    exact this
theorem owns_lit (w : World) (E : TypeId) (B : Nat) (hB : B ≤ w.heap.size) : (w.alloc (.cells #[] E)).ownsRow B E 1 (.slice (some ⟨w.heap.size, 0, none⟩) 0 0) 0 [] := by
  have h := World.ownsRow_made (e := E) (size := 1) (base := B) w #[] 0 hB (by unfold maxLen; omega) rfl
  simpa using h
/-- one result, a row of numbers that is not nil, of the call's own -/
def OwnRet (w : World) (n : Nat) (L : List Int) (e : Ending) (w' : World) : Prop :=
  ∃ g c, e = .returned (.slice (some ⟨g, 0, none⟩) n c) ∧ w'.ownsRow w.heap.size 2 1 (.slice (some ⟨g, 0, none⟩) n c) n (i64s L) ∧ Below w.heap.size w w'
set_option maxHeartbeats 2000000 in
theorem own_any (b o n cap : Nat) (L : List Int) (w : World) (hL : n = L.length) (hn : n ≤ 1048576) (hc : CellsI w b o L) (hb : b < w.heap.size) :
    Calls Try.prog 33 #[.slice (some ⟨b, o, none⟩) n cap] w (OwnRet w n L) := by
  obtain ⟨i0, hi, iz0, iz1, iz2⟩ := info_parts Try.infoInt64
  have hlen : (i64s L).length = n * 1 := by rw [i64s_len]; omega
  have hB0 : Below w.heap.size w (w.alloc (.cells #[] 2)) := (Below.refl _ _).alloc (Nat.le_refl _) _
  have hnews := hid (news_i (hc.below hB0 hb))
  have hlit := owns_lit w 2 w.heap.size (Nat.le_refl _)
  clear hL hc
  go_enter Try.func33, Try.ntmps33
  go_wp2_with (at_builtin; refine wpList_append_own _ rfl _ _ 24 rfl w.heap.size 2 i0 (.int .i64 0) 1 8 Try.underlying24 hi iz0 iz1 iz2 rfl (by decide) (.slice (some ⟨w.heap.size, 0, none⟩) 0 0) _ _ rfl hlit ⟨b, o, none⟩ n cap (i64s L) rfl hlen hnews.out (i64s_one _) (by unfold maxLen; omega) (by omega) (by simp) ?_; intro v' w2 hown hgrow hnil)
  have hB2 := below_grown hB0 (by simp) hlit hgrow
  rw [Nat.zero_add] at hown
  rw [List.nil_append] at hown
  rcases owns_form hown with ⟨rfl, _, _⟩ | ⟨g, c, rfl, _⟩
  · have := (hnil.1 rfl).1; simp at this
  go_ret
  exact ⟨g, c, rfl, hown, hB2⟩

end Go.Proofs.Ytnjdoedhhpkjhaa
