/-
  Plain facts: the least open text first; the map from rests to texts. No walk.
-/
import Derived.Test.YtnjdoedhhpkjhaaRestA
import Derived.Maps.OwnSet
import Derived.Maps.AppendAt
namespace Go.Proofs.Ytnjdoedhhpkjhaa
open Go.RowKit Go.Maps
set_option linter.unusedVariables false

def keyOn (D : List Am) (r : ByteArray) : Bool := D.any fun x => x.2.toList == r.toList
theorem keyOn_mem {D : List Am} {r : ByteArray} (h : keyOn D r = true) : ∃ x ∈ D, x.2 = r := by
  unfold keyOn at h
  rw [List.any_eq_true] at h
  obtain ⟨x, hx, he⟩ := h
  exact ⟨x, hx, tl_eq (by simpa using he)⟩
theorem keyOn_of {D : List Am} {x : Am} (h : x ∈ D) : keyOn D x.2 = true := by
  unfold keyOn
  rw [List.any_eq_true]
  exact ⟨x, h, by simp⟩
theorem keyOn_no {D : List Am} {r : ByteArray} (h : keyOn D r = false) : r ∉ D.map (·.2) := by
  intro hm
  obtain ⟨x, hx, rfl⟩ := List.mem_map.1 hm
  rw [keyOn_of hx] at h
  cases h
def putA (M : DataW Unit) (x : Am) : DataW Unit := M.put (.string x.2.data.toList) (.lit (.string x.1.data.toList))
def mapA (D : List Am) : DataW Unit := D.foldl putA (.map [])
theorem mapA_snoc (D : List Am) (x : Am) : mapA (D ++ [x]) = (mapA D).put (.string x.2.data.toList) (.lit (.string x.1.data.toList)) := by simp [mapA, putA]
theorem data_inj {a b : ByteArray} (h : (Lit.string a.data.toList) = .string b.data.toList) : a = b := by
  simp only [Lit.string.injEq] at h
  exact tl_eq (by rw [ByteArray.toList_eq, ByteArray.toList_eq, h])
theorem fold_isMap : ∀ (D : List Am) (M : DataW Unit), IsMap M → IsMap (D.foldl putA M)
  | [], M, h => h
  | x :: D, M, h => fold_isMap D (putA M x) (h.put _ _)
theorem mapA_isMap (D : List Am) : IsMap (mapA D) := fold_isMap D _ isMap_empty
theorem fold_has (r : ByteArray) : ∀ (D : List Am) (M : DataW Unit), IsMap M → Maps.has (D.foldl putA M) (.string r.data.toList) = (Maps.has M (.string r.data.toList) || keyOn D r)
  | [], M, h => by simp [keyOn]
  | x :: D, M, h => by
    rw [List.foldl_cons, fold_has r D (putA M x) (h.put _ _)]
    by_cases e : x.2 = r
    · subst e
      unfold putA
      rw [has_put_same h (by trivial)]
      simp [keyOn]
    · have e2 : (x.2.toList == r.toList) = false := by
        apply beq_eq_false_iff_ne.2
        intro h2; exact e (tl_eq h2)
      unfold putA
      rw [has_put_other (by intro h2; exact e (data_inj h2).symm)]
      simp [keyOn, e2]
theorem mapA_has (D : List Am) (r : ByteArray) : Maps.has (mapA D) (.string r.data.toList) = keyOn D r := by
  unfold mapA
  rw [fold_has r D _ isMap_empty]
  simp [Maps.has]
theorem fold_out (r : ByteArray) (z : DataW Unit) : ∀ (D : List Am) (M : DataW Unit), r ∉ D.map (·.2) → (D.foldl putA M).atKey (.string r.data.toList) z = M.atKey (.string r.data.toList) z
  | [], M, _ => rfl
  | x :: D, M, h => by
    simp only [List.map_cons, List.mem_cons, not_or] at h
    rw [List.foldl_cons, fold_out r z D _ h.2]
    unfold putA
    rw [atKey_put_other (by intro h2; exact h.1 (data_inj h2))]
theorem fold_at (z : DataW Unit) : ∀ (D : List Am) (M : DataW Unit), IsMap M → (D.map (·.2)).Nodup → ∀ x ∈ D, (D.foldl putA M).atKey (.string x.2.data.toList) z = .lit (.string x.1.data.toList)
  | [], M, _, _, x, hx => by cases hx
  | y :: D, M, h, hk, x, hx => by
    simp only [List.map_cons, List.nodup_cons] at hk
    rw [List.foldl_cons]
    rcases List.mem_cons.1 hx with rfl | hx
    · rw [fold_out _ z D _ hk.1]
      unfold putA
      rw [atKey_put_same h (by trivial)]
    · exact fold_at z D (putA M y) (h.put _ _) hk.2 x hx
theorem mapA_at {D : List Am} (hk : (D.map (·.2)).Nodup) {x : Am} (hx : x ∈ D) (z : DataW Unit) : (mapA D).atKey (.string x.2.data.toList) z = .lit (.string x.1.data.toList) := fold_at z D _ isMap_empty hk x hx
theorem mapA_out {D : List Am} {r : ByteArray} (h : keyOn D r = false) (z : DataW Unit) : (mapA D).atKey (.string r.data.toList) z = z := by
  unfold mapA
  rw [fold_out r z D _ (keyOn_no h)]
  rfl

/-- the least open text first -/
structure DInv (l : List ByteArray) (D O : List Am) : Prop where
  soundD : ∀ x ∈ D, Got l x
  soundO : ∀ x ∈ O, Got l x
  keys : (D.map (·.2)).Nodup
  order : ∀ x ∈ D, ∀ y ∈ O, rk x.1 ≤ rk y.1
  base : ∀ x ∈ rests l, Cov D x ∨ x ∈ O
  clos : ∀ x ∈ D, x.2.size ≠ 0 → ∀ w ∈ l, ∀ y, nxt x w = some y → Cov D y ∨ y ∈ O
  smallO : ∀ x ∈ O, x.1.size ≤ 8 * (D.length + 1)
  smallD : ∀ x ∈ D, x.1.size ≤ 8 * D.length
def dropAt (O : List Am) (b : Nat) : List Am := O.take b ++ O.drop (b + 1)
theorem dropAt_sub {O : List Am} {b : Nat} {x : Am} (h : x ∈ dropAt O b) : x ∈ O := by
  rcases List.mem_append.1 h with h | h
  · exact List.mem_of_mem_take h
  · exact List.mem_of_mem_drop h
theorem dropAt_or {O : List Am} {b : Nat} (hb : b < O.length) {x : Am} (h : x ∈ O) : x = O[b] ∨ x ∈ dropAt O b := by
  have e : O = O.take b ++ O[b] :: O.drop (b + 1) := by
    rw [← List.drop_eq_getElem_cons hb, List.take_append_drop]
  rw [e] at h
  rcases List.mem_append.1 h with h | h
  · exact .inr (List.mem_append_left _ h)
  · rcases List.mem_cons.1 h with h | h
    · exact .inl h
    · exact .inr (List.mem_append_right _ h)
theorem dropAt_len {O : List Am} {b : Nat} (hb : b < O.length) : (dropAt O b).length + 1 = O.length := by
  unfold dropAt
  rw [List.length_append, List.length_take, List.length_drop]; omega
theorem dinv_init {l : List ByteArray} (h8 : ∀ w ∈ l, w.size ≤ 8) : DInv l [] (rests l) where
  soundD := fun x h => by cases h
  soundO := fun x h => .start h
  keys := List.nodup_nil
  order := fun x h => by cases h
  base := fun x h => .inr h
  clos := fun x h => by cases h
  smallO := fun x h => by
    obtain ⟨i, k, hi, hk, _, _, rfl⟩ := rests_of h
    have := h8 _ (List.getElem_mem hk)
    simpa using this
  smallD := fun x h => by cases h
theorem dinv_skip {l : List ByteArray} {D O : List Am} (h : DInv l D O) {b : Nat} (hb : b < O.length) (hin : keyOn D O[b].2 = true) : DInv l D (dropAt O b) := by
  have hcov : Cov D O[b] := by
    obtain ⟨x, hx, e⟩ := keyOn_mem hin
    exact ⟨x, hx, e, h.order x hx _ (List.getElem_mem hb)⟩
  refine ⟨h.soundD, fun x hx => h.soundO x (dropAt_sub hx), h.keys, fun x hx y hy => h.order x hx y (dropAt_sub hy), ?_, ?_, fun x hx => h.smallO x (dropAt_sub hx), h.smallD⟩
  · intro x hx
    rcases h.base x hx with h1 | h1
    · exact .inl h1
    · rcases dropAt_or hb h1 with rfl | h2
      · exact .inl hcov
      · exact .inr h2
  · intro x hx h0 w hw y hy
    rcases h.clos x hx h0 w hw y hy with h1 | h1
    · exact .inl h1
    · rcases dropAt_or hb h1 with rfl | h2
      · exact .inl hcov
      · exact .inr h2
theorem cov_more {D E : List Am} {y : Am} (h : Cov D y) : Cov (D ++ E) y := by
  obtain ⟨x, h1, h2⟩ := h
  exact ⟨x, List.mem_append_left _ h1, h2⟩
def nexts (l : List ByteArray) (a : Am) : List Am := l.filterMap (nxt a)
theorem nexts_mem {l : List ByteArray} {a y : Am} (h : y ∈ nexts l a) : ∃ w ∈ l, nxt a w = some y := by
  unfold nexts at h
  rw [List.mem_filterMap] at h
  exact h
def newsOf (l : List ByteArray) (a : Am) : List Am := if a.2.size = 0 then [] else nexts l a
theorem news_end {l : List ByteArray} {a : Am} (h : a.2.size = 0) : newsOf l a = [] := by simp [newsOf, h]
theorem news_on {l : List ByteArray} {a : Am} (h : a.2.size ≠ 0) : newsOf l a = nexts l a := by simp [newsOf, h]
theorem news_mem {l : List ByteArray} {a y : Am} (h : y ∈ newsOf l a) : a.2.size ≠ 0 ∧ ∃ w ∈ l, nxt a w = some y := by
  unfold newsOf at h
  split at h
  · cases h
  · exact ⟨by assumption, nexts_mem h⟩
theorem nodup_snoc {α : Type} {l : List α} {x : α} (h : l.Nodup) (hx : x ∉ l) : (l ++ [x]).Nodup := by
  rw [List.nodup_append]
  refine ⟨h, by simp, ?_⟩
  intro a ha b hb
  rw [List.mem_singleton.1 hb]
  rintro rfl
  exact hx ha
theorem dinv_take {l : List ByteArray} (h8 : ∀ w ∈ l, w.size ≤ 8) {D O : List Am} (h : DInv l D O) {b : Nat} (hb : b < O.length) (hmin : ∀ y ∈ O, rk O[b].1 ≤ rk y.1) (hnot : keyOn D O[b].2 = false) : DInv l (D ++ [O[b]]) (dropAt O b ++ newsOf l O[b]) := by
  have ha := List.getElem_mem hb
  obtain ⟨a, hae⟩ : ∃ a, a = O[b] := ⟨_, rfl⟩
  rw [← hae] at ha hmin hnot ⊢
  have hd : ∀ {x : Am}, x ∈ O → x = a ∨ x ∈ dropAt O b := fun hx => by rw [hae]; exact dropAt_or hb hx
  have hcov : Cov (D ++ [a]) a := cov_mem (by simp)
  have sz := h.smallO a ha
  refine ⟨?_, ?_, ?_, ?_, ?_, ?_, ?_, ?_⟩
  · intro x hx
    rcases List.mem_append.1 hx with hx | hx
    · exact h.soundD x hx
    · rw [List.mem_singleton.1 hx]; exact h.soundO a ha
  · intro x hx
    rcases List.mem_append.1 hx with hx | hx
    · exact h.soundO x (dropAt_sub hx)
    · obtain ⟨h0, w, hw, hn⟩ := news_mem hx
      exact .step (h.soundO a ha) h0 hw hn
  · rw [List.map_append]
    exact nodup_snoc h.keys (keyOn_no hnot)
  · intro x hx y hy
    have hxa : rk x.1 ≤ rk a.1 := by
      rcases List.mem_append.1 hx with hx | hx
      · exact h.order x hx a ha
      · rw [List.mem_singleton.1 hx]; exact Nat.le_refl _
    rcases List.mem_append.1 hy with hy | hy
    · exact Nat.le_trans hxa (hmin y (dropAt_sub hy))
    · obtain ⟨h0, w, hw, hn⟩ := news_mem hy
      exact Nat.le_trans hxa (nxt_grow hn).1
  · intro x hx
    rcases h.base x hx with h1 | h1
    · exact .inl (cov_more h1)
    · rcases hd h1 with rfl | h2
      · exact .inl hcov
      · exact .inr (List.mem_append_left _ h2)
  · intro x hx h0 w hw y hy
    rcases List.mem_append.1 hx with hx | hx
    · rcases h.clos x hx h0 w hw y hy with h1 | h1
      · exact .inl (cov_more h1)
      · rcases hd h1 with rfl | h2
        · exact .inl hcov
        · exact .inr (List.mem_append_left _ h2)
    · have e := List.mem_singleton.1 hx
      subst e
      refine .inr (List.mem_append_right _ ?_)
      rw [news_on h0]
      unfold nexts
      rw [List.mem_filterMap]
      exact ⟨w, hw, hy⟩
  · intro x hx
    rw [List.length_append, List.length_singleton]
    rcases List.mem_append.1 hx with hx | hx
    · have := h.smallO x (dropAt_sub hx); omega
    · obtain ⟨h0, w, hw, hn⟩ := news_mem hx
      have h1 := (nxt_grow hn).2.1
      have h2 := h8 w hw
      omega
  · intro x hx
    rw [List.length_append, List.length_singleton]
    rcases List.mem_append.1 hx with hx | hx
    · have := h.smallD x hx; omega
    · rw [List.mem_singleton.1 hx]; omega
theorem dinv_good {l : List ByteArray} {D : List Am} (h : DInv l D []) : Good l D := by
  refine ⟨h.soundD, h.keys, ?_, ?_⟩
  · intro x hx
    rcases h.base x hx with h1 | h1
    · exact h1
    · cases h1
  · intro x hx h0 w hw y hy
    rcases h.clos x hx h0 w hw y hy with h1 | h1
    · exact h1
    · cases h1
theorem nexts_take {l : List ByteArray} {a : Am} {k : Nat} (hk : k < l.length) : (l.take (k + 1)).filterMap (nxt a) = (l.take k).filterMap (nxt a) ++ (nxt a l[k]).toList := by
  rw [List.take_succ_eq_append_getElem hk, List.filterMap_append]
  congr 1
theorem nexts_le (l : List ByteArray) (a : Am) (k : Nat) : ((l.take k).filterMap (nxt a)).length ≤ k := by
  have := List.length_filterMap_le (nxt a) (l.take k)
  rw [List.length_take] at this
  omega
/-- what the search has found best so far -/
def BestTo (O : List Am) (b k : Nat) : Prop := ∃ h : b < O.length, ∀ j (hj : j < O.length), j < k → rk O[b].1 ≤ rk O[j].1
theorem best_zero {O : List Am} (h : 0 < O.length) : BestTo O 0 0 := ⟨h, fun j _ hj => absurd hj (Nat.not_lt_zero j)⟩
theorem best_keep {O : List Am} {b k : Nat} (h : BestTo O b k) (hk : k < O.length) (hn : decide (rk O[k].1 < rk (O[b]'h.1).1) = false) : BestTo O b (k + 1) := by
  obtain ⟨hb, h⟩ := h
  refine ⟨hb, fun j hj hjk => ?_⟩
  by_cases e : j = k
  · subst e
    have := of_decide_eq_false hn
    omega
  · exact h j hj (by omega)
theorem best_new {O : List Am} {b k : Nat} (h : BestTo O b k) (hk : k < O.length) (hn : decide (rk O[k].1 < rk (O[b]'h.1).1) = true) : BestTo O k (k + 1) := by
  obtain ⟨hb, h⟩ := h
  have h1 := of_decide_eq_true hn
  refine ⟨hk, fun j hj hjk => ?_⟩
  by_cases e : j = k
  · subst e; exact Nat.le_refl _
  · have := h j hj (by omega); omega
theorem best_all {O : List Am} {b : Nat} (h : BestTo O b O.length) : ∃ hb : b < O.length, ∀ y ∈ O, rk (O[b]'hb).1 ≤ rk y.1 := by
  obtain ⟨hb, h⟩ := h
  refine ⟨hb, fun y hy => ?_⟩
  obtain ⟨j, hj, rfl⟩ := List.getElem_of_mem hy
  exact h j hj hj
end Go.Proofs.Ytnjdoedhhpkjhaa
