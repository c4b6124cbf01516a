/-
  The rows of marks tell what the reference's test tells: plain facts.
-/
import Derived.Test.YthhpeanlpikjbaaFlS
namespace Go.Proofs.Ythhpeanlpikjbaa
set_option linter.unusedVariables false

/-- the marks of the pairs, one row each -/
def prK (l : List Ws) (i : Nat) (rs : List (List Bool)) : Nat → List (List Bool)
  | 0 => rs
  | k + 1 => prK l i rs k ++ [apM noMk (fsK l i) (fsK l k)]
def prI (l : List Ws) : Nat → List (List Bool)
  | 0 => []
  | i + 1 => prK l i (prI l i) i
theorem kind_zero {fs : List Se} {s : ByteArray} (h : ∀ f ∈ fs, f.1 ≠ s) : kindI fs s = 0 := by
  refine kind_none fun j hj => ?_
  rw [sameAt_get hj]
  cases hc : (fs[j].1.toList == s.toList)
  · rfl
  · have e : fs[j].1.toList = s.toList := by simpa using hc
    exact absurd (ba_ext (by rw [← ByteArray.toList_eq, ← ByteArray.toList_eq]; exact e)) (h _ (List.getElem_mem hj))
theorem mark_dif {fa fb : List Se} (ha : Ones fa) (hb : Ones fb) {b : Nat} (h : b < 256) : marked (apM noMk fa fb) b = difK fa fb (oneT b) := by
  rw [Bool.eq_iff_iff, apM_mem noMk_len b]
  constructor
  · rintro (h0 | ⟨f, hf, hd, he⟩)
    · rw [marked_noMk] at h0; cases h0
    · have hs : f.1.size = 1 := by
        rcases List.mem_append.1 hf with h1 | h1
        · exact ha f h1
        · exact hb f h1
      rw [headN_one hs, he] at hd
      exact hd
  · intro hd
    right
    by_cases hx : ∃ f ∈ fa ++ fb, f.1 = oneT b
    · obtain ⟨f, hf, he⟩ := hx
      refine ⟨f, hf, by rw [he]; exact hd, ?_⟩
      rw [he, headN_get (show 0 < (oneT b).size from Nat.one_pos)]
      exact toNat_of h
    · have h1 : kindI fa (oneT b) = 0 := kind_zero fun f hf e => hx ⟨f, List.mem_append.2 (Or.inl hf), e⟩
      have h2 : kindI fb (oneT b) = 0 := kind_zero fun f hf e => hx ⟨f, List.mem_append.2 (Or.inr hf), e⟩
      rw [difK_no (by rw [h1, h2])] at hd
      cases hd
theorem prK_all (l : List Ws) (i : Nat) (p : List Bool → Bool) (rs : List (List Bool)) : ∀ k, (prK l i rs k).all p = (rs.all p && (List.range k).all fun j => p (apM noMk (fsK l i) (fsK l j)))
  | 0 => by simp [prK]
  | k + 1 => by
    rw [prK, List.all_append, prK_all l i p rs k, List.range_succ, List.all_append]
    simp [Bool.and_assoc]
theorem prI_all (l : List Ws) (p : List Bool → Bool) : ∀ i, (prI l i).all p = (List.range i).all fun a => (List.range a).all fun j => p (apM noMk (fsK l a) (fsK l j))
  | 0 => rfl
  | i + 1 => by
    rw [prI, prK_all, prI_all l p i, List.range_succ, List.all_append]
    simp
def byK (ms : List Bool) (c : Nat) : Nat := (bytesOf ms).getD c 0
theorem byK_get {ms : List Bool} {c : Nat} (h : c < (bytesOf ms).length) : byK ms c = (bytesOf ms)[c] := by unfold byK; rw [List.getD, List.getElem?_eq_getElem h]; rfl
theorem byK_lt {ms : List Bool} {c : Nat} (h : c < (letL ms).length) : byK ms c < 256 := by
  have h1 : c < (bytesOf ms).length := by rw [← letL_len]; exact h
  rw [byK_get h1]; exact bytes_lt h1
theorem ltK_one {ms : List Bool} {c : Nat} (h : c < (letL ms).length) : ltK (letL ms) c = oneT (byK ms c) := by
  rw [ltK_get h, letL_get h, byK_get (by rw [← letL_len]; exact h)]
def told (x : List Nat) (ms row : List Bool) : Bool := x.any fun c => marked row (byK ms c)
theorem any_cong {x : List Nat} {p q : Nat → Bool} (h : ∀ c ∈ x, p c = q c) : x.any p = x.any q := by
  induction x with
  | nil => rfl
  | cons a x ih => rw [List.any_cons, List.any_cons, h a List.mem_cons_self, ih fun c hc => h c (List.mem_cons_of_mem _ hc)]
theorem good_rows {l : List Ws} {ms : List Bool} {x : List Nat} (hone : ∀ i, Ones (fsK l i)) (hx : ∀ c ∈ x, c < (letL ms).length) : goodL l (x.map (ltK (letL ms))) = (prI l l.length).all (told x ms) := by
  rw [prI_all]
  unfold goodL
  congr 1
  funext i
  congr 1
  funext k
  unfold tellP told
  rw [List.any_map]
  refine any_cong fun c hc => ?_
  show difK (fsK l i) (fsK l k) (ltK (letL ms) c) = _
  rw [ltK_one (hx c hc), mark_dif (hone i) (hone k) (byK_lt (hx c hc))]
theorem prK_256 (l : List Ws) (i : Nat) {rs : List (List Bool)} (h : ∀ row ∈ rs, row.length = 256) : ∀ k, ∀ row ∈ prK l i rs k, row.length = 256
  | 0 => h
  | k + 1 => by
    intro row hr
    rw [prK] at hr
    rcases List.mem_append.1 hr with h1 | h1
    · exact prK_256 l i h k row h1
    · rw [List.mem_singleton] at h1
      rw [h1]; exact apM_len _ _ noMk_len
theorem prI_256 (l : List Ws) : ∀ i, ∀ row ∈ prI l i, row.length = 256
  | 0 => fun row h => by cases h
  | i + 1 => prK_256 l i (prI_256 l i) i
theorem rows_get : ∀ {rs : List (List Bool)}, (∀ row ∈ rs, row.length = 256) → ∀ {p b : Nat} (hp : p < rs.length), b < 256 → (rs.flatMap bools)[p * 256 + b]? = some (.bool (marked rs[p] b))
  | [], _, p, _, hp, _ => absurd hp (Nat.not_lt_zero p)
  | row :: rs, h, 0, b, _, hb => by
    have hl : row.length = 256 := h row List.mem_cons_self
    rw [List.flatMap_cons, List.getElem?_append_left (by rw [bools_len, hl]; omega), Nat.zero_mul, Nat.zero_add]
    unfold bools marked
    rw [List.getElem?_map, List.getElem_cons_zero, List.getD, List.getElem?_eq_getElem (by rw [hl]; exact hb)]
    rfl
  | row :: rs, h, p + 1, b, hp, hb => by
    have hl : row.length = 256 := h row List.mem_cons_self
    rw [List.flatMap_cons, List.getElem?_append_right (by rw [bools_len, hl]; omega), bools_len, hl, show (p + 1) * 256 + b - 256 = p * 256 + b by omega, rows_get (fun r hr => h r (List.mem_cons_of_mem _ hr)) (by simpa using hp) hb]
    rfl
/-- a measure out of a relation with a number -/
theorem least_fun {α : Type} (R : Nat → α → Prop) : ∃ μ : α → Nat, ∀ a, (∃ m, R m a) → R (μ a) a ∧ ∀ k, R k a → μ a ≤ k := by
  have hl : ∀ a m, R m a → ∃ m, R m a ∧ ∀ k, R k a → m ≤ k := by
    intro a m
    induction m using Nat.strongRecOn with
    | _ m ih =>
      intro h
      by_cases hk : ∃ k, k < m ∧ R k a
      · obtain ⟨k, h1, h2⟩ := hk
        exact ih k h1 h2
      · refine ⟨m, h, fun k h2 => ?_⟩
        rcases Nat.lt_or_ge k m with h3 | h3
        · exact absurd ⟨k, h3, h2⟩ hk
        · exact h3
  have hall : ∀ a, ∃ m, (∃ m, R m a) → R m a ∧ ∀ k, R k a → m ≤ k := by
    intro a
    by_cases h : ∃ m, R m a
    · obtain ⟨m, hm⟩ := h
      obtain ⟨m', h1, h2⟩ := hl a m hm
      exact ⟨m', fun _ => ⟨h1, h2⟩⟩
    · exact ⟨0, fun h2 => absurd h2 h⟩
  exact ⟨fun a => Classical.choose (hall a), fun a => Classical.choose_spec (hall a)⟩
end Go.Proofs.Ythhpeanlpikjbaa
