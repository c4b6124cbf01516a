/-
  Rows of rising numbers, one after the other; the search for the first that serves: plain facts.
-/
import Derived.Test.YthhpeanlpikjbaaMem
namespace Go.Proofs.Ythhpeanlpikjbaa
set_option linter.unusedVariables false

/-- the rising rows of m numbers from 'from' on below N, in the order of the numbers -/
def combos (N : Nat) : Nat → Nat → List (List Nat)
  | 0, _ => [[]]
  | m + 1, f => ((List.range (N - f)).map (· + f)).flatMap fun i => (combos N m (i + 1)).map (i :: ·)

theorem combos_zero (N f : Nat) : combos N 0 f = [[]] := rfl
theorem combos_none {N m f : Nat} (h : N < f + m) (hm : 0 < m) : combos N m f = [] := by
  induction m generalizing f with
  | zero => omega
  | succ m ih =>
    rw [combos, List.flatMap_eq_nil_iff]
    intro i hi
    obtain ⟨j, hj, rfl⟩ := List.mem_map.1 hi
    have := List.mem_range.1 hj
    rw [List.map_eq_nil_iff]
    cases m with
    | zero => omega
    | succ m => exact ih (by omega) (by omega)
theorem combos_step {N m f : Nat} (h : f < N) : combos N (m + 1) f = (combos N m (f + 1)).map (f :: ·) ++ combos N (m + 1) (f + 1) := by
  rw [combos, combos]
  have e : N - f = (N - (f + 1)) + 1 := by omega
  rw [e, List.range_succ_eq_map, List.map_cons, List.flatMap_cons, List.map_map]
  simp only [Nat.zero_add]
  congr 2
  apply List.map_congr_left
  intro j _
  simp; omega
theorem combos_mem {N m f : Nat} {z : List Nat} (h : z ∈ combos N m f) : z.length = m ∧ (∀ x ∈ z, f ≤ x ∧ x < N) ∧ z.Pairwise (· < ·) := by
  induction m generalizing f z with
  | zero =>
    rw [combos_zero, List.mem_singleton] at h
    subst h
    exact ⟨rfl, (fun x hx => absurd hx List.not_mem_nil), List.Pairwise.nil⟩
  | succ m ih =>
    rw [combos, List.mem_flatMap] at h
    obtain ⟨i, hi, h⟩ := h
    obtain ⟨j, hj, rfl⟩ := List.mem_map.1 hi
    have hj := List.mem_range.1 hj
    obtain ⟨c, hc, rfl⟩ := List.mem_map.1 h
    obtain ⟨h1, h2, h3⟩ := ih hc
    refine ⟨by rw [List.length_cons, h1], ?_, ?_⟩
    · intro x hx
      rcases List.mem_cons.1 hx with rfl | hx
      · omega
      · have := h2 x hx; omega
    · exact List.pairwise_cons.2 ⟨fun x hx => by have := h2 x hx; omega, h3⟩
/-- the first of them -/
def firstC (m f : Nat) : List Nat := (List.range m).map (· + f)
theorem firstC_succ (m f : Nat) : firstC (m + 1) f = f :: firstC m (f + 1) := by
  unfold firstC
  rw [List.range_succ_eq_map, List.map_cons, List.map_map]
  simp only [Nat.zero_add, List.cons.injEq, true_and]
  apply List.map_congr_left
  intro j _
  simp; omega
theorem firstC_len (m f : Nat) : (firstC m f).length = m := by simp [firstC]
/-- the next of them -/
def nextR (N : Nat) : List Nat → Option (List Nat)
  | [] => none
  | a :: r => match nextR N r with
    | some r' => some (a :: r')
    | none => if a + 1 + r.length < N then some (firstC (r.length + 1) (a + 1)) else none

/-- a list is run through by a step -/
def Runs {α : Type} (nx : α → Option α) : α → List α → Prop
  | x, [] => nx x = none
  | x, y :: r => nx x = some y ∧ Runs nx y r
/-- all of them, run through -/
theorem combos_runs (N : Nat) : ∀ m f, f + m ≤ N → ∃ r, combos N m f = firstC m f :: r ∧ Runs (nextR N) (firstC m f) r := by
  intro m
  induction m with
  | zero => intro f _; exact ⟨[], rfl, rfl⟩
  | succ m ih =>
    intro f
    -- by how many places are left
    suffices h : ∀ d f, N - (f + (m + 1)) = d → f + (m + 1) ≤ N → ∃ r, combos N (m + 1) f = firstC (m + 1) f :: r ∧ Runs (nextR N) (firstC (m + 1) f) r from fun hf => h _ f rfl hf
    intro d
    induction d with
    | zero =>
      intro f hd hf
      obtain ⟨r, h1, h2⟩ := ih (f + 1) (by omega)
      have h3 : combos N (m + 1) (f + 1) = [] := combos_none (by omega) (by omega)
      rw [combos_step (by omega), h3, h1, List.append_nil, List.map_cons, firstC_succ m f]
      refine ⟨_, rfl, ?_⟩
      have key : ∀ (r : List (List Nat)) (x : List Nat), x.length = m → (∀ z ∈ r, z.length = m) → Runs (nextR N) x r → Runs (nextR N) (f :: x) (r.map (f :: ·)) := by
        intro r
        induction r with
        | nil =>
          intro x hx _ h
          show nextR N (f :: x) = none
          have h : nextR N x = none := h
          simp only [nextR, h]
          rw [if_neg (by omega)]
        | cons y r ihr =>
          intro x hx hz h
          obtain ⟨h4, h5⟩ := h
          refine ⟨?_, ihr y (hz y List.mem_cons_self) (fun z hz' => hz z (List.mem_cons_of_mem _ hz')) h5⟩
          simp only [nextR, h4]
      have hlen : ∀ z ∈ firstC m (f + 1) :: r, z.length = m := by
        rw [← h1]
        exact fun z hz => (combos_mem hz).1
      exact key r _ (firstC_len _ _) (fun z hz => hlen z (List.mem_cons_of_mem _ hz)) h2
    | succ d ihd =>
      intro f hd hf
      obtain ⟨r, h1, h2⟩ := ih (f + 1) (by omega)
      obtain ⟨r2, h3, h4⟩ := ihd (f + 1) (by omega) (by omega)
      rw [combos_step (by omega), h3, h1, List.map_cons, firstC_succ m f]
      refine ⟨r.map (f :: ·) ++ firstC (m + 1) (f + 1) :: r2, rfl, ?_⟩
      have key : ∀ (r : List (List Nat)) (x : List Nat), x.length = m → (∀ z ∈ r, z.length = m) → Runs (nextR N) x r → Runs (nextR N) (f :: x) (r.map (f :: ·) ++ firstC (m + 1) (f + 1) :: r2) := by
        intro r
        induction r with
        | nil =>
          intro x hx _ h
          have h : nextR N x = none := h
          refine ⟨?_, h4⟩
          simp only [nextR, h]
          rw [if_pos (by omega), hx]
        | cons y r ihr =>
          intro x hx hz h
          obtain ⟨h5, h6⟩ := h
          refine ⟨?_, ihr y (hz y List.mem_cons_self) (fun z hz' => hz z (List.mem_cons_of_mem _ hz')) h6⟩
          simp only [nextR, h5]
      have hlen : ∀ z ∈ firstC m (f + 1) :: r, z.length = m := by
        rw [← h1]
        exact fun z hz => (combos_mem hz).1
      exact key r _ (firstC_len _ _) (fun z hz => hlen z (List.mem_cons_of_mem _ hz)) h2

theorem next_none {N : Nat} : ∀ {c : List Nat}, (∀ t (h : t < c.length), ¬ (c[t] + c.length < N + t)) → nextR N c = none
  | [], _ => rfl
  | a :: r, h => by
    have h1 : nextR N r = none := next_none fun t ht => by
      have := h (t + 1) (by simpa using ht)
      simp only [List.getElem_cons_succ, List.length_cons] at this
      omega
    simp only [nextR, h1]
    have := h 0 (by simp)
    simp only [List.getElem_cons_zero, List.length_cons] at this
    rw [if_neg (by omega)]
theorem next_hit {N : Nat} : ∀ {c : List Nat} {i : Nat} (hi : i < c.length), c[i] + c.length < N + i → (∀ t (h : t < c.length), i < t → ¬ (c[t] + c.length < N + t)) → nextR N c = some (c.take i ++ firstC (c.length - i) (c[i] + 1))
  | [], i, hi, _, _ => absurd hi (Nat.not_lt_zero i)
  | a :: r, 0, hi, h, h2 => by
    have h1 : nextR N r = none := next_none fun t ht => by
      have := h2 (t + 1) (by simpa using ht) (by omega)
      simp only [List.getElem_cons_succ, List.length_cons] at this
      omega
    simp only [nextR, h1]
    simp only [List.getElem_cons_zero, List.length_cons] at h
    rw [if_pos (by omega)]
    simp
  | a :: r, i + 1, hi, h, h2 => by
    have hi' : i < r.length := by simpa using hi
    have h1 := next_hit (c := r) (N := N) hi' (by simp only [List.getElem_cons_succ, List.length_cons] at h; omega) fun t ht hit => by
      have := h2 (t + 1) (by simpa using ht) (by omega)
      simp only [List.getElem_cons_succ, List.length_cons] at this
      omega
    simp only [nextR, h1]
    simp

/-! ### the search -/
theorem find_step {N m f : Nat} (h : f < N) (p : List Nat → Bool) : (combos N (m + 1) f).find? p = (((combos N m (f + 1)).find? fun c => p (f :: c)).map (f :: ·)).or ((combos N (m + 1) (f + 1)).find? p) := by
  rw [combos_step h, List.find?_append, List.find?_map]
  rfl
theorem find_none {N m f : Nat} (h : N < f + (m + 1)) (p : List Nat → Bool) : (combos N (m + 1) f).find? p = none := by
  rw [combos_none h (by omega)]; rfl
/-- the fewest -/
def fewest (N : Nat) (p : List Nat → Bool) : Option (List Nat) := (List.range (N + 1)).findSome? fun s => (combos N s 0).find? p
theorem fewest_at {N s : Nat} {p : List Nat → Bool} {x : List Nat} (hs : s ≤ N) (h : ∀ t, t < s → (combos N t 0).find? p = none) (hx : (combos N s 0).find? p = some x) : fewest N p = some x := by
  unfold fewest
  have e : N + 1 = s + ((N - s) + 1) := by omega
  rw [e, List.range_add, List.findSome?_append]
  have h0 : (List.range s).findSome? (fun s => (combos N s 0).find? p) = none := by
    rw [List.findSome?_eq_none_iff]
    intro t ht
    exact h t (List.mem_range.1 ht)
  rw [h0, List.range_succ_eq_map, List.map_cons, List.findSome?_cons]
  simp only [Nat.add_zero, hx]
  rfl
theorem combos_full {N : Nat} : combos N N 0 = [firstC N 0] ∨ ∃ r, combos N N 0 = firstC N 0 :: r := by
  obtain ⟨r, h, _⟩ := combos_runs N N 0 (by omega)
  exact Or.inr ⟨r, h⟩
theorem full_find {N : Nat} {p : List Nat → Bool} (h : p (firstC N 0) = true) : (combos N N 0).find? p = some (firstC N 0) := by
  obtain ⟨r, h1, _⟩ := combos_runs N N 0 (by omega)
  rw [h1, List.find?_cons, h]
end Go.Proofs.Ythhpeanlpikjbaa
