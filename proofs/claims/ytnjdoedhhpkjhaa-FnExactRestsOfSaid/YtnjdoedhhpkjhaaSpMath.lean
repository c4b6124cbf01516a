/-
  Plain facts: the reference's rests, put one by one until nothing changes. No walk.
-/
import Derived.Test.YtnjdoedhhpkjhaaRestMath
namespace Go.Proofs.Ytnjdoedhhpkjhaa
open Go.RowKit Go.Maps
set_option linter.unusedVariables false

/-- one rest put: laid down, or its text taken if it is a better one -/
def PutTo (S : List Am) (y : Am) (S' : List Am) (c : Bool) : Prop :=
  (keyOn S y.2 = false ∧ S' = S ++ [y] ∧ c = true) ∨ (∃ j, ∃ hj : j < S.length, S[j].2 = y.2 ∧ ((rk y.1 < rk S[j].1 ∧ S' = S.set j y ∧ c = true) ∨ (¬ rk y.1 < rk S[j].1 ∧ S' = S ∧ c = false)))
structure SInv (l : List ByteArray) (S : List Am) : Prop where
  sound : ∀ x ∈ S, Got l x
  keys : (S.map (·.2)).Nodup
  small : ∀ x ∈ S, x.1.size ≤ 8 * S.length
theorem sinv_nil (l : List ByteArray) : SInv l [] := ⟨(fun x h => by cases h), List.nodup_nil, (fun x h => by cases h)⟩
theorem set_keys {S : List Am} {j : Nat} {y : Am} (hj : j < S.length) (e : S[j].2 = y.2) : (S.set j y).map (·.2) = S.map (·.2) := by
  apply List.ext_getElem?
  intro i
  rw [List.map_set]
  by_cases h : j = i
  · subst h
    rw [List.getElem?_set_self (by simpa using hj), List.getElem?_map, List.getElem?_eq_getElem hj, ← e]
    rfl
  · rw [List.getElem?_set_ne h]
theorem set_mem {S : List Am} {j : Nat} {x y : Am} (h : x ∈ S.set j y) : x ∈ S ∨ x = y := by
  rcases List.mem_or_eq_of_mem_set h with h | h
  · exact .inl h
  · exact .inr h
theorem put_inv {l : List ByteArray} {S S' : List Am} {y : Am} {c : Bool} (h : SInv l S) (hp : PutTo S y S' c) (hy : Got l y) (hs : y.1.size ≤ 8 * (S.length + 1)) : SInv l S' := by
  rcases hp with ⟨hk, rfl, _⟩ | ⟨j, hj, e, ⟨hlt, rfl, _⟩ | ⟨_, rfl, _⟩⟩
  · refine ⟨?_, ?_, ?_⟩
    · intro x hx
      rcases List.mem_append.1 hx with hx | hx
      · exact h.sound x hx
      · rw [List.mem_singleton.1 hx]; exact hy
    · rw [List.map_append]
      exact nodup_snoc h.keys (keyOn_no hk)
    · intro x hx
      rw [List.length_append, List.length_singleton]
      rcases List.mem_append.1 hx with hx | hx
      · have := h.small x hx; omega
      · rw [List.mem_singleton.1 hx]; exact hs
  · refine ⟨?_, ?_, ?_⟩
    · intro x hx
      rcases set_mem hx with hx | rfl
      · exact h.sound x hx
      · exact hy
    · rw [set_keys hj e]; exact h.keys
    · intro x hx
      rw [List.length_set]
      rcases set_mem hx with hx | rfl
      · exact h.small x hx
      · have h1 := rk_size (Nat.le_of_lt hlt)
        have h2 := h.small _ (List.getElem_mem hj)
        omega
  · exact h
theorem put_cov {S S' : List Am} {y : Am} {c : Bool} (hp : PutTo S y S' c) : Cov S' y := by
  rcases hp with ⟨hk, rfl, _⟩ | ⟨j, hj, e, ⟨hlt, rfl, _⟩ | ⟨hge, rfl, _⟩⟩
  · exact cov_mem (by simp)
  · exact cov_mem (List.mem_iff_getElem.2 ⟨j, by simpa using hj, by simp⟩)
  · exact ⟨_, List.getElem_mem hj, e, by omega⟩
theorem put_keep {S S' : List Am} {y z : Am} {c : Bool} (hp : PutTo S y S' c) (h : Cov S z) : Cov S' z := by
  rcases hp with ⟨hk, rfl, _⟩ | ⟨j, hj, e, ⟨hlt, rfl, _⟩ | ⟨hge, rfl, _⟩⟩
  · exact cov_more h
  · obtain ⟨x, hx, h1, h2⟩ := h
    obtain ⟨i, hi, rfl⟩ := List.getElem_of_mem hx
    by_cases e2 : j = i
    · subst e2
      exact ⟨y, List.mem_iff_getElem.2 ⟨j, by simpa using hj, by simp⟩, e.symm.trans h1, by omega⟩
    · refine ⟨S[i], List.mem_iff_getElem.2 ⟨i, by simpa using hi, ?_⟩, h1, h2⟩
      rw [List.getElem_set_ne e2]
  · exact h
theorem put_len {S S' : List Am} {y : Am} {c : Bool} (hp : PutTo S y S' c) : S.length ≤ S'.length := by
  rcases hp with ⟨hk, rfl, _⟩ | ⟨j, hj, e, ⟨hlt, rfl, _⟩ | ⟨hge, rfl, _⟩⟩
  · rw [List.length_append]; omega
  · rw [List.length_set]; exact Nat.le_refl _
  · exact Nat.le_refl _
theorem put_key {S S' : List Am} {y : Am} {c : Bool} (hp : PutTo S y S' c) {i : Nat} (hi : i < S.length) : (S'[i]'(Nat.lt_of_lt_of_le hi (put_len hp))).2 = S[i].2 := by
  rcases hp with ⟨hk, rfl, _⟩ | ⟨j, hj, e, ⟨hlt, rfl, _⟩ | ⟨hge, rfl, _⟩⟩
  · rw [List.getElem_append_left hi]
  · by_cases h : j = i
    · subst h
      rw [List.getElem_set_self]; exact e.symm
    · rw [List.getElem_set_ne h]
  · rfl
theorem put_same {S S' : List Am} {y : Am} (hp : PutTo S y S' false) : S' = S := by
  rcases hp with ⟨_, _, h⟩ | ⟨j, hj, e, ⟨_, _, h⟩ | ⟨_, h, _⟩⟩
  · cases h
  · cases h
  · exact h
def sumRk (S : List Am) : Nat := (S.map fun x => rk x.1).sum
def MM (G : Nat) (S : List Am) : Nat := (90 - S.length) * G + sumRk S
theorem sumRk_snoc (S : List Am) (y : Am) : sumRk (S ++ [y]) = sumRk S + rk y.1 := by simp [sumRk]
theorem sumRk_set : ∀ {S : List Am} {j : Nat} {y : Am} (hj : j < S.length), rk y.1 < rk S[j].1 → sumRk (S.set j y) < sumRk S
  | [], j, y, hj, _ => by simp at hj
  | x :: S, 0, y, hj, h => by
    simp only [List.getElem_cons_zero] at h
    simp only [sumRk, List.set_cons_zero, List.map_cons, List.sum_cons]
    omega
  | x :: S, j + 1, y, hj, h => by
    have ih := sumRk_set (S := S) (j := j) (y := y) (by simpa using hj) (by simpa using h)
    simp only [sumRk, List.set_cons_succ, List.map_cons, List.sum_cons] at *
    omega
theorem put_less {G : Nat} {S S' : List Am} {y : Am} (hp : PutTo S y S' true) (hG : rk y.1 < G) (h90 : S'.length ≤ 90) : MM G S' < MM G S := by
  rcases hp with ⟨_, rfl, _⟩ | ⟨j, hj, e, ⟨h, rfl, _⟩ | ⟨_, _, h⟩⟩
  · unfold MM
    rw [sumRk_snoc]
    rw [List.length_append, List.length_singleton] at h90 ⊢
    have e : 90 - S.length = (90 - (S.length + 1)) + 1 := by omega
    rw [e, Nat.add_mul, Nat.one_mul]
    omega
  · unfold MM
    rw [List.length_set]
    have := sumRk_set hj h
    omega
  · cases h
def StTo (l : List ByteArray) (S : List Am) (i k : Nat) : Prop := ∀ i' k' (hi : i' < l.length) (hk : k' < l.length), (i' < i ∨ (i' = i ∧ k' < k)) → i' ≠ k' → preB l[i'] l[k'] = true → Cov S (l[i'], l[i'].extract l[k'].size l[i'].size)
theorem st_zero (l : List ByteArray) (S : List Am) : StTo l S 0 0 := fun i' k' _ _ h => by omega
theorem st_line {l : List ByteArray} {S : List Am} {i : Nat} (h : StTo l S i l.length) : StTo l S (i + 1) 0 := fun i' k' hi hk hh hne hp => h i' k' hi hk (by omega) hne hp
theorem st_put {l : List ByteArray} {S S' : List Am} {c : Bool} {i k : Nat} (hi : i < l.length) (hk : k < l.length) (h : StTo l S i k) (hp : PutTo S (l[i], l[i].extract l[k].size l[i].size) S' c) : StTo l S' i (k + 1) := fun i' k' hi' hk' hh hne hpre => by
  by_cases e : i' = i ∧ k' = k
  · obtain ⟨rfl, rfl⟩ := e
    exact put_cov hp
  · exact put_keep hp (h i' k' hi' hk' (by omega) hne hpre)
theorem st_skip {l : List ByteArray} {S : List Am} {i k : Nat} (hi : i < l.length) (hk : k < l.length) (h : StTo l S i k) (hno : i = k ∨ preB l[i] l[k] = false) : StTo l S i (k + 1) := fun i' k' hi' hk' hh hne hpre => by
  by_cases e : i' = i ∧ k' = k
  · obtain ⟨rfl, rfl⟩ := e
    rcases hno with h1 | h1
    · exact absurd h1 hne
    · rw [h1] at hpre; cases hpre
  · exact h i' k' hi' hk' (by omega) hne hpre
def BaseC (l : List ByteArray) (S : List Am) : Prop := ∀ x ∈ rests l, Cov S x
theorem st_base {l : List ByteArray} {S : List Am} (h : StTo l S l.length 0) : BaseC l S := by
  intro x hx
  obtain ⟨i, k, hi, hk, hne, hp, rfl⟩ := rests_of hx
  exact h k i hk hi (.inl hk) (fun e => hne e.symm) hp
theorem base_put {l : List ByteArray} {S S' : List Am} {y : Am} {c : Bool} (h : BaseC l S) (hp : PutTo S y S' c) : BaseC l S' := fun x hx => put_keep hp (h x hx)
def ClosK (l : List ByteArray) (S : List Am) (i k : Nat) : Prop := ∀ (hi : i < S.length) q (hq : q < l.length), q < k → ∀ y, nxt S[i] l[q] = some y → Cov S y
def ClosAt (l : List ByteArray) (S : List Am) (i : Nat) : Prop := ∀ (hi : i < S.length), S[i].2.size ≠ 0 → ∀ w ∈ l, ∀ y, nxt S[i] w = some y → Cov S y
theorem closK_zero (l : List ByteArray) (S : List Am) (i : Nat) : ClosK l S i 0 := fun _ q _ h => absurd h (Nat.not_lt_zero q)
theorem closK_next {l : List ByteArray} {S : List Am} {i k : Nat} (h : ClosK l S i k) (hk : k < l.length) (hi : i < S.length) (hy : ∀ y, nxt S[i] l[k] = some y → Cov S y) : ClosK l S i (k + 1) := fun hi' q hq hlt y hn => by
  by_cases e : q = k
  · subst e; exact hy y hn
  · exact h hi' q hq (by omega) y hn
theorem closK_all {l : List ByteArray} {S : List Am} {i : Nat} (h : ClosK l S i l.length) : ClosAt l S i := fun hi _ w hw y hn => by
  obtain ⟨q, hq, rfl⟩ := List.getElem_of_mem hw
  exact h hi q hq hq y hn
theorem closAt_empty {l : List ByteArray} {S : List Am} {i : Nat} (hi : i < S.length) (h : S[i].2.size = 0) : ClosAt l S i := fun _ h0 => absurd h h0
def ClosTo (l : List ByteArray) (S : List Am) (i : Nat) : Prop := ∀ j, j < i → ClosAt l S j
theorem closTo_zero (l : List ByteArray) (S : List Am) : ClosTo l S 0 := fun j h => absurd h (Nat.not_lt_zero j)
theorem closTo_next {l : List ByteArray} {S : List Am} {i : Nat} (h : ClosTo l S i) (h2 : ClosAt l S i) : ClosTo l S (i + 1) := fun j hj => by
  by_cases e : j = i
  · subst e; exact h2
  · exact h j (by omega)
theorem good_of {l : List ByteArray} {S : List Am} (h : SInv l S) (hb : BaseC l S) (hc : ClosTo l S S.length) : Good l S := by
  refine ⟨h.sound, h.keys, hb, ?_⟩
  intro x hx
  obtain ⟨i, hi, rfl⟩ := List.getElem_of_mem hx
  exact hc i hi hi
end Go.Proofs.Ytnjdoedhhpkjhaa
