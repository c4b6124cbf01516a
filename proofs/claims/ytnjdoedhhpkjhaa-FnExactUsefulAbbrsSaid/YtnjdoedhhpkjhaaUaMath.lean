/-
  The abbreviations by what they save: the order, plainly: an insertion sort, and what a stable sort gives. No program in sight.
-/
import Derived.Test.YtnjdoedhhpkjhaaSmF
namespace Go.Proofs.Ytnjdoedhhpkjhaa
open Go.Sort
set_option linter.unusedVariables false

/-- where a new element goes, counted down from j: behind the first element that p leaves. -/
def kpos {α : Type} (p : α → Bool) (l : List α) : Nat → Nat
  | 0 => 0
  | j + 1 => match l[j]? with
    | some y => if p y then kpos p l j else j + 1
    | none => 0
theorem kpos_le {α : Type} (p : α → Bool) (l : List α) : ∀ j, kpos p l j ≤ j
  | 0 => Nat.le_refl _
  | j + 1 => by
    unfold kpos
    have := kpos_le p l j
    cases l[j]? with
    | none => simp
    | some y => cases hp : p y <;> simp [hp]; omega
theorem kpos_app {α : Type} (p : α → Bool) (l m : List α) : ∀ j, j ≤ l.length → kpos p (l ++ m) j = kpos p l j
  | 0, _ => rfl
  | j + 1, h => by
    unfold kpos
    rw [List.getElem?_append_left (by omega), kpos_app p l m j (by omega)]
theorem kpos_map {α β : Type} (f : α → β) (p : β → Bool) (l : List α) : ∀ j, kpos p (l.map f) j = kpos (fun a => p (f a)) l j
  | 0 => rfl
  | j + 1 => by
    unfold kpos
    rw [List.getElem?_map, kpos_map f p l j]
    cases l[j]? <;> rfl
def evStep {α : Type} (lt : α → α → Bool) (out : List α) (x : α) : List α :=
  out.take (kpos (lt x) out out.length) ++ x :: out.drop (kpos (lt x) out out.length)
theorem evStep_len {α : Type} (lt : α → α → Bool) (out : List α) (x : α) : (evStep lt out x).length = out.length + 1 := by
  have := kpos_le (lt x) out out.length
  unfold evStep
  simp; omega
theorem evStep_map {α β : Type} (f : α → β) (lt : β → β → Bool) (out : List α) (x : α) :
    (evStep (fun a b => lt (f a) (f b)) out x).map f = evStep lt (out.map f) (f x) := by
  unfold evStep
  rw [kpos_map, List.length_map, List.map_append, List.map_cons, List.map_take, List.map_drop]
theorem evFold_map {α β : Type} (f : α → β) (lt : β → β → Bool) : ∀ (xs : List α) (out : List α),
    (xs.foldl (evStep fun a b => lt (f a) (f b)) out).map f = (xs.map f).foldl (evStep lt) (out.map f)
  | [], out => rfl
  | x :: xs, out => by
    rw [List.foldl_cons, List.map_cons, List.foldl_cons, evFold_map f lt xs, evStep_map]

section
variable {α : Type} [Inhabited α]
theorem bang_mid (d : Array α) (pre post : List α) (x : α) (j : Nat) (hj : pre.length = j) (h : d.toList = pre ++ x :: post) : d[j]! = x := by
  have hs : j < d.size := by rw [← Array.length_toList, h]; simp; omega
  rw [getElem!_pos d j hs, ← Array.getElem_toList]
  simp only [h]
  rw [List.getElem_append_right (by omega)]
  simp [hj]
theorem swp_list (d : Array α) (pre post : List α) (y x : α) (j : Nat) (hj : pre.length = j) (h : d.toList = pre ++ y :: x :: post) :
    (swp d (j + 1) j).toList = pre ++ x :: y :: post := by
  have e0 : d[j]! = y := bang_mid d pre _ y j hj h
  have e1 : d[j + 1]! = x := bang_mid d (pre ++ [y]) post x (j + 1) (by simp [hj]) (by rw [h]; simp)
  unfold swp
  rw [e0, e1, Array.toList_setIfInBounds, Array.toList_setIfInBounds, h]
  subst hj
  simp
theorem insInner_list (lt : α → α → Bool) : ∀ (j : Nat) (d : Array α) (pre post : List α) (x : α), pre.length = j → d.toList = pre ++ x :: post →
    (insInner lt 0 j d).toList = pre.take (kpos (lt x) pre j) ++ x :: (pre.drop (kpos (lt x) pre j) ++ post)
  | 0, d, pre, post, x, hj, h => by
    have : pre = [] := List.eq_nil_of_length_eq_zero hj
    subst this
    simpa [insInner, kpos] using h
  | j + 1, d, pre, post, x, hj, h => by
    rcases List.eq_nil_or_concat pre with rfl | ⟨pr, y, rfl⟩
    · simp at hj
    rw [List.concat_eq_append] at hj h ⊢
    have hl : pr.length = j := by simp at hj; omega
    have h' : d.toList = pr ++ y :: x :: post := by rw [h]; simp
    have e0 : d[j]! = y := bang_mid d pr _ y j hl h'
    have e1 : d[j + 1]! = x := bang_mid d (pr ++ [y]) post x (j + 1) (by simp [hl]) h
    have hk : kpos (lt x) (pr ++ [y]) (j + 1) = if lt x y then kpos (lt x) pr j else j + 1 := by
      rw [kpos, List.getElem?_append_right (by omega), hl, kpos_app _ _ _ _ (by omega)]
      simp
    unfold insInner
    rw [e0, e1, hk]
    cases hlt : lt x y with
    | false =>
      simp only [Bool.and_false, Bool.false_eq_true, if_false]
      rw [h, List.take_of_length_le (by simp; omega), List.drop_of_length_le (by simp; omega)]
      simp
    | true =>
      simp only [Bool.and_true, if_true]
      rw [if_pos (by simp), insInner_list lt j _ pr (y :: post) x hl (swp_list d pr post y x j hl h')]
      have hle := kpos_le (lt x) pr j
      rw [List.take_append_of_le_length (by omega), List.drop_append_of_le_length (by omega)]
      simp
theorem insInner_size (lt : α → α → Bool) (a : Nat) : ∀ (j : Nat) (d : Array α), (insInner lt a j d).size = d.size
  | 0, d => rfl
  | j + 1, d => by
    unfold insInner
    split
    · rw [insInner_size lt a j]; simp [swp]
    · rfl
theorem insOuter_list (lt : α → α → Bool) (b : Nat) : ∀ (rest : List α) (i : Nat) (d : Array α) (out : List α), out.length = i → d.toList = out ++ rest → b = i + rest.length →
    (insOuter lt 0 b i d).toList = rest.foldl (evStep lt) out
  | [], i, d, out, hi, h, hb => by
    unfold insOuter
    rw [if_neg (by simp at hb; omega), h]; simp
  | x :: rest, i, d, out, hi, h, hb => by
    unfold insOuter
    rw [if_pos (by simp at hb; omega)]
    rw [insOuter_list lt b rest (i + 1) _ (evStep lt out x) (by rw [evStep_len, hi]) ?_ (by simp at hb; omega)]
    · rfl
    · rw [insInner_list lt i d out rest x hi h, evStep, hi]; simp
theorem insertionSort_list (lt : α → α → Bool) (d : Array α) (h : 1 ≤ d.size) : (insertionSort lt d 0 d.size).toList = d.toList.foldl (evStep lt) [] := by
  unfold insertionSort
  cases hd : d.toList with
  | nil => rw [← Array.length_toList, hd] at h; simp at h
  | cons x rest =>
    rw [List.foldl_cons]
    exact insOuter_list lt d.size rest 1 d [x] rfl hd (by rw [← Array.length_toList, hd]; simp; omega)
theorem insertionSort_size (lt : α → α → Bool) (d : Array α) (h : 1 ≤ d.size) : (insertionSort lt d 0 d.size).size = d.size := by
  rw [← Array.length_toList, insertionSort_list lt d h, ← Array.length_toList]
  have : ∀ (xs out : List α), (xs.foldl (evStep lt) out).length = out.length + xs.length := by
    intro xs
    induction xs with
    | nil => intro out; rfl
    | cons x xs ih => intro out; rw [List.foldl_cons, ih, evStep_len]; simp; omega
  rw [this]; simp
end


/-- the greater saving first -/
def uLt (S : Nat → Int) (a b : Nat) : Bool := decide (S b < S a)
/-- those that save something -/
def uL (S : Nat → Int) (n : Nat) : List Nat := (List.range n).filter fun i => decide (0 < S i)
def uN (S : Nat → Int) (n : Nat) : List Nat := (uL S n).foldl (evStep (uLt S)) []
theorem uL_zero (S : Nat → Int) : uL S 0 = [] := rfl
theorem uL_yes {S : Nat → Int} {n : Nat} (h : 0 < S n) : uL S (n + 1) = uL S n ++ [n] := by
  unfold uL; rw [List.range_succ, List.filter_append]; simp [h]
theorem uL_no {S : Nat → Int} {n : Nat} (h : ¬ 0 < S n) : uL S (n + 1) = uL S n := by
  unfold uL; rw [List.range_succ, List.filter_append]; simp [h]
theorem uL_len (S : Nat → Int) (n : Nat) : (uL S n).length ≤ n := by
  unfold uL; exact Nat.le_trans (List.length_filter_le _ _) (by simp)
theorem uL_lt {S : Nat → Int} {n x : Nat} (h : x ∈ uL S n) : x < n := by
  unfold uL at h; exact List.mem_range.1 (List.mem_filter.1 h).1
theorem uL_asc (S : Nat → Int) (n : Nat) : (uL S n).Pairwise (· < ·) := List.Pairwise.filter _ List.pairwise_lt_range
theorem uN_yes {S : Nat → Int} {n : Nat} (h : 0 < S n) : uN S (n + 1) = evStep (uLt S) (uN S n) n := by
  unfold uN; rw [uL_yes h, List.foldl_append]; rfl
theorem uN_no {S : Nat → Int} {n : Nat} (h : ¬ 0 < S n) : uN S (n + 1) = uN S n := by unfold uN; rw [uL_no h]
theorem evFold_len {α : Type} (lt : α → α → Bool) : ∀ (xs out : List α), (xs.foldl (evStep lt) out).length = out.length + xs.length
  | [], out => rfl
  | x :: xs, out => by rw [List.foldl_cons, evFold_len lt xs, evStep_len]; simp; omega
theorem uN_len (S : Nat → Int) (n : Nat) : (uN S n).length = (uL S n).length := by unfold uN; rw [evFold_len]; simp
theorem evFold_mem {α : Type} (lt : α → α → Bool) : ∀ (xs out : List α) (x : α), x ∈ xs.foldl (evStep lt) out → x ∈ out ∨ x ∈ xs
  | [], out, x, h => Or.inl h
  | y :: xs, out, x, h => by
    rw [List.foldl_cons] at h
    rcases evFold_mem lt xs _ x h with h | h
    · rw [evStep, List.mem_append, List.mem_cons] at h
      rcases h with h | rfl | h
      · exact Or.inl (List.mem_of_mem_take h)
      · exact Or.inr List.mem_cons_self
      · exact Or.inl (List.mem_of_mem_drop h)
    · exact Or.inr (List.mem_cons_of_mem _ h)
theorem uN_lt {S : Nat → Int} {n x : Nat} (h : x ∈ uN S n) : x < n := by
  unfold uN at h
  rcases evFold_mem _ _ _ _ h with h | h
  · cases h
  · exact uL_lt h

/-! ### the row as the sort sees it: numbers below M + 1 -/
section
variable {M : Nat}
def uF (S : Nat → Int) (a b : Fin (M + 1)) : Bool := decide (S b.val < S a.val)
/-- .. and, of equal savings, the elder first -/
def uT (S : Nat → Int) (a b : Fin (M + 1)) : Bool := decide (S b.val < S a.val ∨ (S b.val = S a.val ∧ a.val < b.val))
theorem uT_swo (S : Nat → Int) : SWO (uT (M := M) S) := by
  refine ⟨fun x => decide_eq_false (by omega), fun x y z h1 h2 => ?_, fun x y z h1 h2 => ?_⟩
  · have h1 := of_decide_eq_true h1
    have h2 := of_decide_eq_true h2
    exact decide_eq_true (by omega)
  · have h1 := of_decide_eq_false h1
    have h2 := of_decide_eq_false h2
    exact decide_eq_false (by omega)
theorem uT_total (S : Nat → Int) (x y : Fin (M + 1)) (h1 : uT S x y = false) (h2 : uT S y x = false) : x = y := by
  have h1 := of_decide_eq_false h1
  have h2 := of_decide_eq_false h2
  exact Fin.ext (by omega)
theorem uT_see (S : Nat → Int) {x y : Fin (M + 1)} (h : x.val < y.val) : uF S y x = uT S y x := by
  unfold uF uT
  rw [Bool.eq_iff_iff, decide_eq_true_iff, decide_eq_true_iff]
  omega
def finL (M : Nat) (L : List Nat) : Array (Fin (M + 1)) := (L.map (Fin.ofNat (M + 1))).toArray
theorem finL_size (L : List Nat) : (finL M L).size = L.length := by simp [finL]
theorem finL_val {L : List Nat} (h : ∀ x ∈ L, x < M + 1) : (finL M L).toList.map Fin.val = L := by
  unfold finL
  rw [List.map_map]
  have : ∀ x ∈ L, (Fin.val ∘ Fin.ofNat (M + 1)) x = id x := fun x hx => Nat.mod_eq_of_lt (h x hx)
  rw [List.map_congr_left this, List.map_id]
theorem finL_get {L : List Nat} (h : ∀ x ∈ L, x < M + 1) {i : Nat} (hi : i < L.length) : ((finL M L)[i]!).val = L[i] := by
  have hs : i < (finL M L).size := by rw [finL_size]; exact hi
  rw [getElem!_pos _ i hs]
  have : (finL M L)[i] = Fin.ofNat (M + 1) L[i] := by simp [finL]
  rw [this]
  exact Nat.mod_eq_of_lt (h _ (List.getElem_mem hi))
theorem see_asc (S : Nat → Int) {L : List Nat} (h : ∀ x ∈ L, x < M + 1) (ha : L.Pairwise (· < ·)) : ∀ p q, p < q → q < (finL M L).size → uF S (finL M L)[q]! (finL M L)[p]! = uT S (finL M L)[q]! (finL M L)[p]! := by
  intro p q hpq hq
  rw [finL_size] at hq
  apply uT_see
  rw [finL_get h (by omega), finL_get h hq]
  exact List.pairwise_iff_getElem.1 ha p q (by omega) hq hpq
/-- whatever sorts the row stably gives the insertions' row -/
theorem done_list (S : Nat → Int) {L : List Nat} (h : ∀ x ∈ L, x < M + 1) (ha : L.Pairwise (· < ·)) (h1 : 1 ≤ L.length) {d' : Array (Fin (M + 1))} (hd : Done (uT S) 0 (finL M L).size (finL M L) d') :
    d'.toList.map Fin.val = L.foldl (evStep (uLt S)) [] := by
  have hs := finL_size (M := M) L
  have hi := ins_done (lt := uF S) (uT_swo S) (a := 0) (b := (finL M L).size) (d := finL M L) (by omega) (Nat.le_refl _) (fun p q _ hpq hq => see_asc S h ha p q hpq hq)
  have e1 := sorted_unique_holds (uT_swo S) (uT_total S) (finL M L) d' hd.perm hd.sorted
  have e2 := sorted_unique_holds (uT_swo S) (uT_total S) (finL M L) _ hi.perm hi.sorted
  rw [e1, ← e2, insertionSort_list _ _ (by omega)]
  have := evFold_map (α := Fin (M + 1)) Fin.val (uLt S) (finL M L).toList []
  rw [finL_val h] at this
  exact this
theorem ins_list (S : Nat → Int) {L : List Nat} (h : ∀ x ∈ L, x < M + 1) (h1 : 1 ≤ L.length) : (insertionSort (uF S) (finL M L) 0 (finL M L).size).toList.map Fin.val = L.foldl (evStep (uLt S)) [] := by
  rw [insertionSort_list _ _ (by rw [finL_size]; omega)]
  have := evFold_map (α := Fin (M + 1)) Fin.val (uLt S) (finL M L).toList []
  rw [finL_val h] at this
  exact this
end
end Go.Proofs.Ytnjdoedhhpkjhaa
