/-
  Sheets: impl's order.
-/
import Derived.Test.YtbfkiopikkolcaaEvS
namespace Go.Proofs.Ytbfkiopikkolcaa
open Go.RowKit Go.ChangeShapes Go.WideShapes
set_option linter.unusedVariables false
attribute [local go_sem ↓] Go.wp_at_zero Go.wp_at_succ

def gI (l : List Int) (t : Nat) : Int := l.getD t 0
theorem gI_get {l : List Int} {t : Nat} (h : t < l.length) : gI l t = l[t] := by unfold gI; rw [List.getD_eq_getElem?_getD, List.getElem?_eq_getElem h]; rfl
theorem rd_gI {w : World} {ao : Option Addr} {l : List Int} {n : Nat} (hn : n = l.length) (h : Rd w ao (i64s l)) : n = 0 ∨ ∃ b o, ao = some ⟨b, o, none⟩ ∧ b < w.heap.size ∧ ∀ t, t < n → w.cell? ⟨b, o + t, none⟩ = some (.int .i64 (gI l t)) := by
  rcases rd_i64 h with h | ⟨b, o, h1, h2, h3⟩
  · left; rw [hn, h]; rfl
  · exact .inr ⟨b, o, h1, h2, fun t ht => by rw [gI_get (by rw [← hn]; exact ht)]; exact h3 t (by rw [← hn]; exact ht)⟩
theorem rowI_apart {w : World} {B : Nat} {E : TypeId} {k : Nat} {L : List Int} {v : Value} {b : Nat} {p : Option Addr} {n c : Nat} (h : w.ownsRow B E 1 v (k + 1) (i64s L)) (hq : w.cell? ⟨b, 0, none⟩ = some (.slice p n c)) :
    ∃ g c, v = .slice (some ⟨g, 0, none⟩) (k + 1) c ∧ B ≤ g ∧ g ≠ b := by
  rcases owns_form h with ⟨_, h0, _⟩ | ⟨g, c, rfl, hg, _⟩
  · omega
  · refine ⟨g, c, rfl, hg, ?_⟩
    rintro rfl
    have hc := h.cellAt 0 (by omega)
    rw [hq] at hc
    cases L <;> simp [i64s] at hc

set_option maxRecDepth 100000 in
set_option maxHeartbeats 8000000 in
theorem evenly_any (ao : Option Addr) (n cap : Nat) (l : List Int) (w : World) (hn : n = l.length) (hr : Rd w ao (i64s l)) (h12 : n ≤ 12) :
    Calls Try.prog 58 #[.slice ao n cap] w (RowRet1 w.heap.size 2 w (i64s (evI (gI l) n))) := by
  obtain ⟨i0, hi, iz0, iz1, iz2⟩ := info_parts Try.infoInt64
  have hrd := rd_gI hn hr
  clear hn hr
  go_enter Try.func58, Try.ntmps58
  go_wp2_with fail
  obtain ⟨w1, hw1⟩ : ∃ w1, w1 = ((w.alloc (.cells #[.slice ao n cap] 37)).alloc (.cells #[] 2)).alloc (.cells #[.slice (some ⟨w.heap.size + 1, 0, none⟩) 0 0] 37) := ⟨_, rfl⟩
  have hb1 : Below w.heap.size w w1 := by
    rw [hw1]
    (repeat (first | with_reducible exact Below.refl _ _ | with_reducible assumption | refine Below.drew ?_ | refine below_drewN ?_ _ | (refine Below.alloc ?_ (by first | omega | (simp; done) | (simp; omega)) _) | (refine Below.setCell ?_ (by first | omega | (simp; done) | (simp; omega)) _) | (refine Below.trans ?_ (Below.mono (by assumption) (by first | omega | (simp; done) | (simp; omega))))))
  have r1 : w1.cell? ⟨w.heap.size, 0, none⟩ = some (.slice ao n cap) := by rw [hw1]; exact (World.cell?_alloc_past _ _ _ (by simp <;> omega)).trans ((World.cell?_alloc_past _ _ _ (by simp)).trans ((World.cell?_alloc_at _ _ _ _ rfl).trans rfl))
  have o1 : w1.cell? ⟨w.heap.size + 2, 0, none⟩ = some (.slice (some ⟨w.heap.size + 1, 0, none⟩) 0 0) := by rw [hw1]; exact (World.cell?_alloc_at _ _ _ _ (by simp)).trans rfl
  have hl1 : w1.heap.size = w.heap.size + 3 := by rw [hw1]; simp
  have f2 : w1.frozen? ⟨w.heap.size + 2, 0, none⟩ = false := by rw [hw1]; exact World.frozen?_alloc_at _ _ _ _ (by simp)
  have hown0 : w1.ownsRow (w.heap.size + 1) 2 1 (.slice (some ⟨w.heap.size + 1, 0, none⟩) 0 0) 0 (i64s (upI 0)) := by
    rw [hw1]
    have := (owns_lit0 w (.cells #[.slice ao n cap] 37) 2 (w.heap.size + 1) (by omega)).alloc (.cells #[.slice (some ⟨w.heap.size + 1, 0, none⟩) 0 0] 37)
    simpa [upI, i64s] using this
  rw [← hw1]
  clear hw1
  go_loopw [4, 8] (fun _ i wr => ∃ (k c g0 : Nat), k ≤ n ∧ i = .int .i64 k ∧ g0 ≠ w.heap.size + 2 ∧ wr.ownsRow (w.heap.size + 1) 2 1 (.slice (some ⟨g0, 0, none⟩) k c) k (i64s (upI k)) ∧
    wr.cell? ⟨w.heap.size, 0, none⟩ = some (.slice ao n cap) ∧ wr.cell? ⟨w.heap.size + 2, 0, none⟩ = some (.slice (some ⟨g0, 0, none⟩) k c) ∧ wr.frozen? ⟨w.heap.size + 2, 0, none⟩ = false ∧ w.heap.size + 3 ≤ wr.heap.size ∧ Below w.heap.size w wr) (fun _ i _ => n - (intOf i).toNat)
  case atStart => exact ⟨0, 0, w.heap.size + 1, Nat.zero_le _, rfl, by omega, hown0, r1, o1, f2, by omega, hb1⟩
  case round =>
    clear hown0 r1 o1 f2 hl1 hb1
    obtain ⟨k, kc, g0, hk, rfl, hg0, hown, r1, o1, f2, hz3, hB⟩ := hrel
    have hg00 : w.heap.size + 1 ≤ g0 := (hown.lt g0 rfl).1
    by_cases hlt : k < n
    · have hk0 : (0 : Int) ≤ (k : Int) := by omega
      have hkn : (k : Int) < (n : Int) := by omega
      go_wp2_with (at_builtin; refine wpList_append_own _ rfl _ _ 37 rfl (w.heap.size + 1) 2 i0 (.int .i64 0) 1 8 Try.underlying37 hi iz0 iz1 iz2 rfl (by decide) (.slice (some ⟨g0, 0, none⟩) k kc) _ _ rfl (hown.alloc _) ⟨_, 0, none⟩ 1 1 [.int .i64 (k : Int)] rfl rfl (one_new _ _ _) (one_ok _ _) (by unfold maxLen; omega) (by omega) (by simp; omega) ?_; intro v' w3 hown3 hgrow3 _; have hb3 := below_grown ((Below.refl (w.heap.size + 1) wr).alloc (by omega) _) (by simp; omega) (hown.alloc _) hgrow3; have q3 := ((grown_cell hgrow3 (show w.heap.size + 2 < _ by simp; omega) hg0).trans (((Below.refl wr.heap.size wr).alloc (Nat.le_refl _) _).cell (p := ⟨w.heap.size + 2, 0, none⟩) (show w.heap.size + 2 < wr.heap.size by omega))).trans o1; have f3 := ((grown_frozen hgrow3 (show w.heap.size + 2 < _ by simp; omega) hg0).trans (((Below.refl wr.heap.size wr).alloc (Nat.le_refl _) _).frozen (p := ⟨w.heap.size + 2, 0, none⟩) (show w.heap.size + 2 < wr.heap.size by omega))).trans f2; rw [upI_succ] at hown3; obtain ⟨g3, c3, rfl, hg3, hg3n⟩ := rowI_apart hown3 q3)
      go_roundw
      case rel =>
        refine ⟨k + 1, c3, g3, by omega, by go_num, hg3n, ?_, ?_, World.cell?_setCell_same _ _ _ q3, ?_, ?_, ?_⟩
        · exact ownsRow_setCell_other hown3 (by simp [Value.ownBlock]; omega) _
        · rw [World.cell?_setCell_other _ _ _ _ (by simp)]; exact (hb3.cell (p := ⟨w.heap.size, 0, none⟩) (by simp)).trans r1
        · rw [World.frozen?_setCell]; exact f3
        · have := hb3.size; simp; omega
        · exact (hB.trans (hb3.mono (by omega))).setCell (by simp <;> omega) _
      case measure => simp [intOf]; omega
    · obtain rfl : n = k := by omega
      have hrw : n = 0 ∨ ∃ b o, ao = some ⟨b, o, none⟩ ∧ b ≠ g0 ∧ b < wr.heap.size ∧ ∀ t, t < n → wr.cell? ⟨b, o + t, none⟩ = some (.int .i64 (gI l t)) := by
        rcases hrd with h | ⟨b, o, h1, h2, h3⟩
        · exact .inl h
        · exact .inr ⟨b, o, h1, by omega, by omega, fun t ht => (hB.cell (p := ⟨b, o + t, none⟩) h2).trans (h3 t ht)⟩
      clear hrd
      go_wp2_with (go_at_call 70; refine (stable_any ao n cap g0 kc w.heap.size (w.heap.size + 2) (w.heap.size + 1) wr (gI l) r1 o1 hrw hown (by omega) (by omega) (by omega) (by omega) h12).mono ?_; rintro e w2 ⟨rfl, hgr, hown2⟩; have q2 := (grown_cell (k := n) (c := kc) hgr (show w.heap.size + 2 < _ by omega) hg0).trans o1; have hB2 := hB.trans ((below_grown (Below.refl (w.heap.size + 1) wr) (by omega) hown hgr).mono (by omega)))
      go_ret
      have hlen : (i64s (evI (gI l) n)).length = n := by rw [i64s_len, evI_len]
      refine ⟨some ⟨g0, 0, none⟩, kc, by rw [hlen]; rfl, ?_, hB2⟩
      rw [hlen]
      exact owns_mono hown2 (by omega)
end Go.Proofs.Ytbfkiopikkolcaa
