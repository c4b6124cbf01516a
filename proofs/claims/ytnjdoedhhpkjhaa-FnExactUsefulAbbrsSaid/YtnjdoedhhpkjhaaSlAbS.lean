/-
  A slice of abbreviations whose place is told; parts of it as what is appended.
-/
import Derived.Test.YtnjdoedhhpkjhaaAbD
import Derived.Test.YtnjdoedhhpkjhaaAppend
namespace Go.Proofs.Ytnjdoedhhpkjhaa
open Go.RowKit Go.ChangeShapes Go.WideShapes
set_option linter.unusedVariables false
attribute [local go_sem ↓] Go.wp_at_zero Go.wp_at_succ

/-- the cells of a row, one by one -/
theorem rd_all {w : World} {b o : Nat} {L : List Value} (h : Rd w (some ⟨b, o, none⟩) L) : ∀ t (ht : t < L.length), w.cell? ⟨b, o + t, none⟩ = some L[t] := by
  rcases h with h | ⟨b', o', h1, h2, h3⟩
  · intro t ht; rw [h] at ht; simp at ht
  · simp only [Option.some.injEq, Addr.mk.injEq, and_true] at h1
    obtain ⟨rfl, rfl⟩ := h1
    exact h3
theorem abs_app (a b : List Ab) : abs (a ++ b) = abs a ++ abs b := by simp [abs, flat]
theorem abs_one (l : List Ab) : ∀ u ∈ abs l, u.oneCell' = true := by
  intro u hu
  simp only [abs, flat, List.mem_flatMap] at hu
  obtain ⟨x, _, hx⟩ := hu
  simp only [abF, List.mem_cons, List.not_mem_nil, or_false] at hx
  rcases hx with rfl | rfl <;> rfl
theorem src_take {W : World} {b o k c : Nat} {l : List Ab} (h : ∀ t (ht : t < (abs l).length), W.cell? ⟨b, o + t, none⟩ = some (abs l)[t]) (hk : k ≤ l.length) : SrcOk W 2 (.slice (some ⟨b, o, none⟩) k c) k (abs (l.take k)) := by
  refine .inr ⟨_, _, rfl, by rw [abs_len, List.length_take]; omega, fun j u hu => ?_, abs_one _⟩
  have e : abs l = abs (l.take k) ++ abs (l.drop k) := by rw [← abs_app, List.take_append_drop]
  obtain ⟨hj, rfl⟩ := List.getElem?_eq_some_iff.1 hu
  have hjl : j < (abs l).length := by rw [e, List.length_append]; omega
  rw [add_lit, h j hjl]
  simp only [e]
  rw [List.getElem_append_left hj]
theorem src_drop {W : World} {b o k n c : Nat} {l : List Ab} (h : ∀ t (ht : t < (abs l).length), W.cell? ⟨b, o + t, none⟩ = some (abs l)[t]) (hn : n = l.length) (hk : k ≤ n) : SrcOk W 2 (.slice (some ⟨b, o + k * 2, none⟩) (n - k) c) (n - k) (abs (l.drop k)) := by
  refine .inr ⟨_, _, rfl, by rw [abs_len, List.length_drop, hn], fun j u hu => ?_, abs_one _⟩
  have e : abs l = abs (l.take k) ++ abs (l.drop k) := by rw [← abs_app, List.take_append_drop]
  obtain ⟨hj, rfl⟩ := List.getElem?_eq_some_iff.1 hu
  have hlt : (abs (l.take k)).length = k * 2 := by rw [abs_len, List.length_take]; omega
  have hjl : k * 2 + j < (abs l).length := by rw [e, List.length_append, hlt]; omega
  rw [add_lit, Nat.add_assoc, h (k * 2 + j) hjl]
  simp only [e]
  rw [List.getElem_append_right (by omega)]
  simp only [hlt, Nat.add_sub_cancel_left]
theorem src_none {W : World} {a : Addr} {n c : Nat} {l : List Ab} (hn : n = l.length) : SrcOk W 2 (.slice (some a) (n - n) c) (n - n) (abs (l.drop n)) := by
  have e : l.drop n = [] := List.drop_eq_nil_of_le (by omega)
  refine .inr ⟨_, _, rfl, by rw [e]; simp [abs, flat], fun j u hu => ?_, abs_one _⟩
  rw [e] at hu; simp [abs, flat] at hu
def FlatRetS (B : Nat) (E : TypeId) (sz n : Nat) (w : World) (xs : List Value) (e : Ending) (w' : World) : Prop :=
  ∃ g cap, e = .returned (.slice (some ⟨g, 0, none⟩) n cap) ∧ w'.ownsRow B E sz (.slice (some ⟨g, 0, none⟩) n cap) n xs ∧ Below B w w'
set_option maxHeartbeats 2000000 in
theorem toAbbrS_some (ao : Option Addr) (n cap : Nat) (l : List Ab) (w : World) (hn : n = l.length) (hr : Rd w ao (abs l)) (hm : n ≤ 1048576) :
    Calls Try.prog 8 #[.slice ao n cap] w (FlatRetS w.heap.size 57 2 n w (abs l)) := by
  obtain ⟨i0, hi, hz0, hz1, hz2⟩ := info_parts Try.infoAb
  have HN := hid hn
  have hrd := rd_ab hr
  clear hn hr
  go_enter Try.func8, Try.ntmps8
  go_wp2_with (at_make; refine wpList_make_full _ rfl _ _ 27 rfl w.heap.size 57 i0 (.agg #[.string ByteArray.empty, .string ByteArray.empty]) 2 Try.underlying27 hi hz0 hz1 .i64 .i64 _ _ n rfl rfl rfl rfl (by rw [hz2]; omega) (by unfold maxLen; omega) (Nat.le_refl _) ?_; intro w1 hown hgrow)
  have hB0 : Below w.heap.size w w1 := (Below.refl _ _).grown hgrow (Nat.le_refl _) (by simp)
  have hown0 : w1.ownsRow w.heap.size 57 2 (.slice (some ⟨w.heap.size, 0, none⟩) n n) n (abs (fillRow l (ByteArray.empty, ByteArray.empty) 0)) := by
    rw [fill_zero, ← HN.out, abs, ← made_flat abF_len (.agg #[.string ByteArray.empty, .string ByteArray.empty]) (ByteArray.empty, ByteArray.empty) n rfl (by omega)]
    exact hown
  clear hown hgrow hi hz0 hz1 hz2
  go_loopw [4] (fun i wr => ∃ k : Nat, k ≤ n ∧ i = .int .i64 k ∧ wr.ownsRow w.heap.size 57 2 (.slice (some ⟨w.heap.size, 0, none⟩) n n) n (abs (fillRow l (ByteArray.empty, ByteArray.empty) k)) ∧ Below w.heap.size w wr) (fun i _ => n - (intOf i).toNat)
  case atStart => exact ⟨0, Nat.zero_le _, rfl, hown0, hB0⟩
  case round =>
    obtain ⟨k, hk, rfl, hown, hB⟩ := hrel
    by_cases hlt : k < n
    · rcases hrd with hnil | ⟨b, o, rfl, hbl, hcell⟩
      · exact absurd (by rw [HN.out, hnil]; rfl : n = 0) (by omega)
      · have hkl : k < l.length := by rw [← HN.out]; exact hlt
        obtain ⟨h1, h2⟩ := hcell k hkl
        have g1 := (hB.cell (p := ⟨b, o + k * 2, none⟩) hbl).trans h1
        have g2 := (hB.cell (p := ⟨b, o + k * 2 + 1, none⟩) hbl).trans h2
        clear hcell h1 h2
        have hk0 : (0 : Int) ≤ (k : Int) := by omega
        have hkn : (k : Int) < (n : Int) := by omega
        obtain ⟨x, hx⟩ : ∃ x, x = l[k] := ⟨_, rfl⟩
        rw [← hx] at g1 g2
        have Hx := hid hx
        clear hx
        go_wp2_with fail
        refine (toAbbr_any _ _ _).mono ?_
        rintro e w' ⟨rfl, hb⟩
        have ho2 := owns_below hown hb
        have hfl : (fillRow l (ByteArray.empty, ByteArray.empty) k).length = n := by rw [fill_len _ _ _ (by omega)]; exact HN.out.symm
        have hal : (abs (fillRow l (ByteArray.empty, ByteArray.empty) k)).length = n * 2 := by rw [abs_len, hfl]
        obtain ⟨v0, hv0⟩ : ∃ v, w'.cell? ⟨w.heap.size, k * 2, none⟩ = some v := ⟨_, by rw [ho2.cellAt (k * 2) (by omega), List.getElem?_eq_getElem (by rw [hal]; omega)]⟩
        obtain ⟨v1, hv1⟩ : ∃ v, w'.cell? ⟨w.heap.size, k * 2 + 1, none⟩ = some v := ⟨_, by rw [ho2.cellAt (k * 2 + 1) (by omega), List.getElem?_eq_getElem (by rw [hal]; omega)]⟩
        have hf0 := ho2.frozenAt (k * 2)
        have hf1 := ho2.frozenAt (k * 2 + 1)
        have Hfl := hid hfl
        clear hfl hal
        go_wp2_with fail
        go_roundw
        case rel =>
          refine ⟨k + 1, by omega, by go_num, ?_, ((hB.trans (hb.mono hB.size)).setCell (by simp) _).setCell (by simp) _⟩
          rw [← fill_next l _ k hkl, ← Hx.out, ← abs_set _ k x (by rw [Hfl.out]; exact hlt)]
          exact ((ho2.stored (k * 2) _).1.stored (k * 2 + 1) _).1
        case measure => simp [intOf]; omega
    · obtain rfl : k = n := by omega
      have hf := hid (show fillRow l (ByteArray.empty, ByteArray.empty) k = l by rw [HN.out]; exact fill_all _ _)
      go_wp2
      go_ret
      rw [hf.out] at hown
      exact ⟨_, _, rfl, hown, hB⟩

end Go.Proofs.Ytnjdoedhhpkjhaa
