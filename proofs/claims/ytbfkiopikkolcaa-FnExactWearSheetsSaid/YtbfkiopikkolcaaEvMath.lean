/-
  Plain facts: the insertion sort as a fold of insertions. No program in sight.
-/
import Derived.Sort.Defs
import Derived.Test.YtbfkiopikkolcaaLsG
namespace Go.Proofs.Ytbfkiopikkolcaa
open Go.Sort
set_option linter.unusedVariables false

/-- where a new element goes, counted down from j: behind the first element that p leaves. -/
def kpos {α : Type} (p : α → Bool) (l : List α) : Nat → Nat
  | 0 => 0
  | j + 1 => match l[j]? with
    | some y => if p y then kpos p l j else j + 1
    | none => 0
theorem kpos_le {α : Type} (p : α → Bool) (l : List α) : ∀ j, kpos p l j ≤ j
  | 0 => Nat.le_refl _
  | j + 1 => by
    unfold kpos
    have := kpos_le p l j
    cases l[j]? with
    | none => simp
    | some y => cases hp : p y <;> simp [hp]; omega
theorem kpos_app {α : Type} (p : α → Bool) (l m : List α) : ∀ j, j ≤ l.length → kpos p (l ++ m) j = kpos p l j
  | 0, _ => rfl
  | j + 1, h => by
    unfold kpos
    rw [List.getElem?_append_left (by omega), kpos_app p l m j (by omega)]
theorem kpos_map {α β : Type} (f : α → β) (p : β → Bool) (l : List α) : ∀ j, kpos p (l.map f) j = kpos (fun a => p (f a)) l j
  | 0 => rfl
  | j + 1 => by
    unfold kpos
    rw [List.getElem?_map, kpos_map f p l j]
    cases l[j]? <;> rfl
def evStep {α : Type} (lt : α → α → Bool) (out : List α) (x : α) : List α :=
  out.take (kpos (lt x) out out.length) ++ x :: out.drop (kpos (lt x) out out.length)
theorem evStep_len {α : Type} (lt : α → α → Bool) (out : List α) (x : α) : (evStep lt out x).length = out.length + 1 := by
  have := kpos_le (lt x) out out.length
  unfold evStep
  simp; omega
theorem evStep_map {α β : Type} (f : α → β) (lt : β → β → Bool) (out : List α) (x : α) :
    (evStep (fun a b => lt (f a) (f b)) out x).map f = evStep lt (out.map f) (f x) := by
  unfold evStep
  rw [kpos_map, List.length_map, List.map_append, List.map_cons, List.map_take, List.map_drop]
theorem evFold_map {α β : Type} (f : α → β) (lt : β → β → Bool) : ∀ (xs : List α) (out : List α),
    (xs.foldl (evStep fun a b => lt (f a) (f b)) out).map f = (xs.map f).foldl (evStep lt) (out.map f)
  | [], out => rfl
  | x :: xs, out => by
    rw [List.foldl_cons, List.map_cons, List.foldl_cons, evFold_map f lt xs, evStep_map]

section
variable {α : Type} [Inhabited α]
theorem bang_mid (d : Array α) (pre post : List α) (x : α) (j : Nat) (hj : pre.length = j) (h : d.toList = pre ++ x :: post) : d[j]! = x := by
  have hs : j < d.size := by rw [← Array.length_toList, h]; simp; omega
  rw [getElem!_pos d j hs, ← Array.getElem_toList]
  simp only [h]
  rw [List.getElem_append_right (by omega)]
  simp [hj]
theorem swp_list (d : Array α) (pre post : List α) (y x : α) (j : Nat) (hj : pre.length = j) (h : d.toList = pre ++ y :: x :: post) :
    (swp d (j + 1) j).toList = pre ++ x :: y :: post := by
  have e0 : d[j]! = y := bang_mid d pre _ y j hj h
  have e1 : d[j + 1]! = x := bang_mid d (pre ++ [y]) post x (j + 1) (by simp [hj]) (by rw [h]; simp)
  unfold swp
  rw [e0, e1, Array.toList_setIfInBounds, Array.toList_setIfInBounds, h]
  subst hj
  simp
theorem insInner_list (lt : α → α → Bool) : ∀ (j : Nat) (d : Array α) (pre post : List α) (x : α), pre.length = j → d.toList = pre ++ x :: post →
    (insInner lt 0 j d).toList = pre.take (kpos (lt x) pre j) ++ x :: (pre.drop (kpos (lt x) pre j) ++ post)
  | 0, d, pre, post, x, hj, h => by
    have : pre = [] := List.eq_nil_of_length_eq_zero hj
    subst this
    simpa [insInner, kpos] using h
  | j + 1, d, pre, post, x, hj, h => by
    rcases List.eq_nil_or_concat pre with rfl | ⟨pr, y, rfl⟩
    · simp at hj
    rw [List.concat_eq_append] at hj h ⊢
    have hl : pr.length = j := by simp at hj; omega
    have h' : d.toList = pr ++ y :: x :: post := by rw [h]; simp
    have e0 : d[j]! = y := bang_mid d pr _ y j hl h'
    have e1 : d[j + 1]! = x := bang_mid d (pr ++ [y]) post x (j + 1) (by simp [hl]) h
    have hk : kpos (lt x) (pr ++ [y]) (j + 1) = if lt x y then kpos (lt x) pr j else j + 1 := by
      rw [kpos, List.getElem?_append_right (by omega), hl, kpos_app _ _ _ _ (by omega)]
      simp
    unfold insInner
    rw [e0, e1, hk]
    cases hlt : lt x y with
    | false =>
      simp only [Bool.and_false, Bool.false_eq_true, if_false]
      rw [h, List.take_of_length_le (by simp; omega), List.drop_of_length_le (by simp; omega)]
      simp
    | true =>
      simp only [Bool.and_true, if_true]
      rw [if_pos (by simp), insInner_list lt j _ pr (y :: post) x hl (swp_list d pr post y x j hl h')]
      have hle := kpos_le (lt x) pr j
      rw [List.take_append_of_le_length (by omega), List.drop_append_of_le_length (by omega)]
      simp
theorem insInner_size (lt : α → α → Bool) (a : Nat) : ∀ (j : Nat) (d : Array α), (insInner lt a j d).size = d.size
  | 0, d => rfl
  | j + 1, d => by
    unfold insInner
    split
    · rw [insInner_size lt a j]; simp [swp]
    · rfl
theorem insOuter_list (lt : α → α → Bool) (b : Nat) : ∀ (rest : List α) (i : Nat) (d : Array α) (out : List α), out.length = i → d.toList = out ++ rest → b = i + rest.length →
    (insOuter lt 0 b i d).toList = rest.foldl (evStep lt) out
  | [], i, d, out, hi, h, hb => by
    unfold insOuter
    rw [if_neg (by simp at hb; omega), h]; simp
  | x :: rest, i, d, out, hi, h, hb => by
    unfold insOuter
    rw [if_pos (by simp at hb; omega)]
    rw [insOuter_list lt b rest (i + 1) _ (evStep lt out x) (by rw [evStep_len, hi]) ?_ (by simp at hb; omega)]
    · rfl
    · rw [insInner_list lt i d out rest x hi h, evStep, hi]; simp
theorem insertionSort_list (lt : α → α → Bool) (d : Array α) (h : 1 ≤ d.size) : (insertionSort lt d 0 d.size).toList = d.toList.foldl (evStep lt) [] := by
  unfold insertionSort
  cases hd : d.toList with
  | nil => rw [← Array.length_toList, hd] at h; simp at h
  | cons x rest =>
    rw [List.foldl_cons]
    exact insOuter_list lt d.size rest 1 d [x] rfl hd (by rw [← Array.length_toList, hd]; simp; omega)
theorem insertionSort_size (lt : α → α → Bool) (d : Array α) (h : 1 ≤ d.size) : (insertionSort lt d 0 d.size).size = d.size := by
  rw [← Array.length_toList, insertionSort_list lt d h, ← Array.length_toList]
  have : ∀ (xs out : List α), (xs.foldl (evStep lt) out).length = out.length + xs.length := by
    intro xs
    induction xs with
    | nil => intro out; rfl
    | cons x xs ih => intro out; rw [List.foldl_cons, ih, evStep_len]; simp; omega
  rw [this]; simp
end

/-- the order of n sheets from the least worn one on -/
def evLt (G : Nat → Int) (a b : Nat) : Bool := decide (G a < G b)
def evN (G : Nat → Int) (n : Nat) : List Nat := (List.range n).foldl (evStep (evLt G)) []
def evI (G : Nat → Int) (n : Nat) : List Int := (evN G n).map Int.ofNat
theorem evN_succ (G : Nat → Int) (n : Nat) : evN G (n + 1) = evStep (evLt G) (evN G n) n := by
  unfold evN; rw [List.range_succ, List.foldl_append]; rfl
theorem evN_len (G : Nat → Int) (n : Nat) : (evN G n).length = n := by
  induction n with
  | zero => rfl
  | succ n ih => rw [evN_succ, evStep_len, ih]
theorem evN_lt (G : Nat → Int) (n : Nat) : ∀ x, x ∈ evN G n → x < n := by
  induction n with
  | zero => intro x hx; simp [evN] at hx
  | succ n ih =>
    intro x hx
    rw [evN_succ, evStep, List.mem_append, List.mem_cons] at hx
    rcases hx with hx | rfl | hx
    · have := ih x (List.mem_of_mem_take hx); omega
    · omega
    · have := ih x (List.mem_of_mem_drop hx); omega
/-- the shelf's own sort, over the numbers below m + 1 -/
def finA (m : Nat) : Array (Fin (m + 1)) := Array.ofFn fun i => i
def finLt (G : Nat → Int) {m : Nat} (a b : Fin (m + 1)) : Bool := decide (G a.val < G b.val)
theorem finA_size (m : Nat) : (finA m).size = m + 1 := by simp [finA]
theorem finA_list (m : Nat) : (finA m).toList.map Fin.val = List.range (m + 1) := by
  apply List.ext_getElem
  · simp [finA]
  · intro i h1 h2; simp only [finA, Array.toList_ofFn, List.getElem_map, List.getElem_ofFn, List.getElem_range]
theorem fin_sort (G : Nat → Int) (m : Nat) : (insertionSort (finLt G) (finA m) 0 (finA m).size).toList.map Fin.val = evN G (m + 1) := by
  rw [insertionSort_list _ _ (by rw [finA_size]; omega)]
  have := evFold_map (α := Fin (m + 1)) Fin.val (evLt G) (finA m).toList []
  rw [finA_list] at this
  exact this
theorem fin_sort_size (G : Nat → Int) (m : Nat) : (insertionSort (finLt G) (finA m) 0 (finA m).size).size = m + 1 := by
  rw [insertionSort_size _ _ (by rw [finA_size]; omega), finA_size]
end Go.Proofs.Ytbfkiopikkolcaa
