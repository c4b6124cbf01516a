/-
  Merging two sorted blocks in place, as the library's symmetric merge does it: plain facts, no program in sight.
-/
import Derived.Sort.LotA
namespace Go.Proofs.Ytnjdoedhhpkjhaa
open Go.Sort
set_option linter.unusedVariables false
section
variable {α : Type} [Inhabited α]

/-! ### rotation -/
/-- what lies at k once [a, m) and [m, b) have changed places -/
def rotI (d : Array α) (a m b k : Nat) : α := if k < a ∨ b ≤ k then d[k]! else if k < a + (b - m) then d[k + (m - a)]! else d[k - (b - m)]!
structure RotP (a m b : Nat) (d d' : Array α) : Prop where
  get : ∀ k, d'[k]! = rotI d a m b k
  perm : PermIn a b d d'
theorem rot_low {d : Array α} {a m b k : Nat} (h : k < a) : rotI d a m b k = d[k]! := by unfold rotI; rw [if_pos (Or.inl h)]
theorem rot_high {d : Array α} {a m b k : Nat} (h : b ≤ k) : rotI d a m b k = d[k]! := by unfold rotI; rw [if_pos (Or.inr h)]
theorem rot_one {d : Array α} {a m b k : Nat} (h1 : a ≤ k) (h2 : k < b) (h3 : k < a + (b - m)) : rotI d a m b k = d[k + (m - a)]! := by
  unfold rotI; rw [if_neg (by omega), if_pos h3]
theorem rot_two {d : Array α} {a m b k : Nat} (h1 : a ≤ k) (h2 : k < b) (h3 : a + (b - m) ≤ k) : rotI d a m b k = d[k - (b - m)]! := by
  unfold rotI; rw [if_neg (by omega), if_neg (by omega)]
theorem rot_id {d : Array α} {a m b : Nat} (hab : a ≤ m) (hmb : m ≤ b) (h : a = m ∨ m = b) : RotP a m b d d := by
  refine ⟨fun k => ?_, permIn_refl d a b⟩
  by_cases h1 : k < a
  · rw [rot_low h1]
  by_cases h2 : b ≤ k
  · rw [rot_high h2]
  by_cases h3 : k < a + (b - m)
  · rw [rot_one (by omega) (by omega) h3, show k + (m - a) = k by omega]
  · rw [rot_two (by omega) (by omega) (by omega), show k - (b - m) = k by omega]
/-- two blocks of n have changed places -/
structure SwR (a b n : Nat) (d d' : Array α) : Prop where
  one : ∀ k, a ≤ k → k < a + n → d'[k]! = d[k + (b - a)]!
  two : ∀ k, b ≤ k → k < b + n → d'[k]! = d[k - (b - a)]!
  out : ∀ k, (k < a ∨ a + n ≤ k) → (k < b ∨ b + n ≤ k) → d'[k]! = d[k]!
  perm : ∀ lo hi, lo ≤ a → b + n ≤ hi → hi ≤ d.size → PermIn lo hi d d'
  size : d'.size = d.size
theorem swr_zero (a b : Nat) (d : Array α) : SwR a b 0 d d :=
  ⟨fun k h1 h2 => by omega, fun k h1 h2 => by omega, fun k _ _ => rfl, fun lo hi _ _ _ => permIn_refl d lo hi, rfl⟩
theorem swr_step {a b n : Nat} {d d' : Array α} (h : SwR a b n d d') (hab : a + (n + 1) ≤ b) (hsz : b + (n + 1) ≤ d.size) : SwR a b (n + 1) d (swp d' (a + n) (b + n)) := by
  have hs := h.size
  have g := fun k => swp_get d' (show a + n < d'.size by omega) (show b + n < d'.size by omega) k
  refine ⟨fun k h1 h2 => ?_, fun k h1 h2 => ?_, fun k h1 h2 => ?_, fun lo hi h1 h2 h3 => ?_, by rw [swp_size, hs]⟩
  · rw [g]
    by_cases e : k = a + n
    · subst e
      rw [if_neg (by omega), if_pos rfl, h.out _ (by omega) (by omega), show a + n + (b - a) = b + n by omega]
    · rw [if_neg (by omega), if_neg e, h.one k h1 (by omega)]
  · rw [g]
    by_cases e : k = b + n
    · subst e
      rw [if_pos rfl, h.out _ (by omega) (by omega), show b + n - (b - a) = a + n by omega]
    · rw [if_neg e, if_neg (by omega), h.two k h1 (by omega)]
  · rw [g, if_neg (by omega), if_neg (by omega), h.out k (by omega) (by omega)]
  · exact permIn_trans d d' _ lo hi (h.perm lo hi h1 (by omega) h3) (swp_permIn d' lo hi (a + n) (b + n) (by omega) (by omega) (by omega) (by omega) (by omega))
theorem rot_left {d d' : Array α} {m i j : Nat} (hi : i ≤ m) (hj : 1 ≤ j) (hij : j < i) (h : SwR (m - i) m j d d') (k : Nat) : rotI d' (m - (i - j)) m (m + j) k = rotI d (m - i) m (m + j) k := by
  by_cases h1 : k < m - i
  · rw [rot_low (by omega), rot_low h1, h.out k (by omega) (by omega)]
  by_cases h2 : m + j ≤ k
  · rw [rot_high h2, rot_high h2, h.out k (by omega) (by omega)]
  by_cases h3 : k < m - i + j
  · rw [rot_low (by omega), rot_one (by omega) (by omega) (by omega), h.one k (by omega) (by omega)]
  rw [rot_two (d := d) (by omega) (by omega) (by omega)]
  by_cases h4 : k < m - (i - j) + j
  · rw [rot_one (by omega) (by omega) (by omega), h.two _ (by omega) (by omega)]
    congr 1; omega
  · rw [rot_two (by omega) (by omega) (by omega), h.out _ (by omega) (by omega)]
theorem rot_right {d d' : Array α} {m i j : Nat} (hi : i ≤ m) (hi1 : 1 ≤ i) (hij : i < j) (h : SwR (m - i) (m + j - i) i d d') (k : Nat) : rotI d' (m - i) m (m + (j - i)) k = rotI d (m - i) m (m + j) k := by
  by_cases h1 : k < m - i
  · rw [rot_low h1, rot_low h1, h.out k (by omega) (by omega)]
  by_cases h2 : m + j ≤ k
  · rw [rot_high (by omega), rot_high h2, h.out k (by omega) (by omega)]
  by_cases h3 : m + j - i ≤ k
  · rw [rot_high (by omega), rot_two (by omega) (by omega) (by omega), h.two k (by omega) (by omega)]
    congr 1; omega
  rw [rot_one (d := d) (by omega) (by omega) (by omega)]
  by_cases h4 : k < m - i + (j - i)
  · rw [rot_one (by omega) (by omega) (by omega), h.out _ (by omega) (by omega)]
  · rw [rot_two (by omega) (by omega) (by omega), h.one _ (by omega) (by omega)]
    congr 1; omega
theorem rot_even {d d' : Array α} {m i : Nat} (hi : i ≤ m) (h : SwR (m - i) m i d d') (k : Nat) : d'[k]! = rotI d (m - i) m (m + i) k := by
  by_cases h1 : k < m - i
  · rw [rot_low h1, h.out k (by omega) (by omega)]
  by_cases h2 : m + i ≤ k
  · rw [rot_high h2, h.out k (by omega) (by omega)]
  by_cases h3 : k < m
  · rw [rot_one (by omega) (by omega) (by omega), h.one k (by omega) (by omega)]
  · rw [rot_two (by omega) (by omega) (by omega), h.two k (by omega) (by omega)]
    congr 1; omega

/-! ### one element moved up or down by exchanges with its neighbour -/
structure UpR (a k : Nat) (d d' : Array α) : Prop where
  at' : d'[k]! = d[a]!
  low : ∀ q, a ≤ q → q < k → d'[q]! = d[q + 1]!
  out : ∀ q, (q < a ∨ k < q) → d'[q]! = d[q]!
  perm : ∀ hi, k < hi → hi ≤ d.size → PermIn a hi d d'
  size : d'.size = d.size
theorem up_zero (a : Nat) (d : Array α) : UpR a a d d := ⟨rfl, fun q h1 h2 => by omega, fun q _ => rfl, fun hi _ _ => permIn_refl d a hi, rfl⟩
theorem up_step {a k : Nat} {d d' : Array α} (h : UpR a k d d') (hak : a ≤ k) (hsz : k + 1 < d.size) : UpR a (k + 1) d (swp d' k (k + 1)) := by
  have hs := h.size
  have g := fun q => swp_get d' (show k < d'.size by omega) (show k + 1 < d'.size by omega) q
  refine ⟨?_, fun q h1 h2 => ?_, fun q h1 => ?_, fun hi h1 h2 => ?_, by rw [swp_size, hs]⟩
  · rw [g, if_pos rfl, h.at']
  · rw [g, if_neg (by omega)]
    by_cases e : q = k
    · subst e
      rw [if_pos rfl, h.out _ (by omega)]
    · rw [if_neg e, h.low q h1 (by omega)]
  · rw [g, if_neg (by omega), if_neg (by omega), h.out q (by omega)]
  · exact permIn_trans d d' _ a hi (h.perm hi (by omega) h2) (swp_permIn d' a hi k (k + 1) (by omega) (by omega) (by omega) (by omega) (by omega))
theorem up_rot {a k : Nat} {d d' : Array α} (h : UpR a k d d') (hak : a ≤ k) (hsz : k < d.size) : RotP a (a + 1) (k + 1) d d' := by
  refine ⟨fun q => ?_, h.perm (k + 1) (by omega) (by omega)⟩
  by_cases h1 : q < a
  · rw [rot_low h1, h.out q (by omega)]
  by_cases h2 : k + 1 ≤ q
  · rw [rot_high h2, h.out q (by omega)]
  by_cases h3 : q < k
  · rw [rot_one (by omega) (by omega) (by omega), h.low q (by omega) h3, show q + (a + 1 - a) = q + 1 by omega]
  · obtain rfl : q = k := by omega
    rw [rot_two (by omega) (by omega) (by omega), h.at', show q - (q + 1 - (a + 1)) = a by omega]
structure DnR (m k : Nat) (d d' : Array α) : Prop where
  at' : d'[k]! = d[m]!
  high : ∀ q, k < q → q ≤ m → d'[q]! = d[q - 1]!
  out : ∀ q, (q < k ∨ m < q) → d'[q]! = d[q]!
  perm : ∀ lo, lo ≤ k → m + 1 ≤ d.size → PermIn lo (m + 1) d d'
  size : d'.size = d.size
theorem dn_zero (m : Nat) (d : Array α) : DnR m m d d := ⟨rfl, fun q h1 h2 => by omega, fun q _ => rfl, fun lo _ _ => permIn_refl d lo _, rfl⟩
theorem dn_step {m k : Nat} {d d' : Array α} (h : DnR m (k + 1) d d') (hkm : k + 1 ≤ m) (hsz : m < d.size) : DnR m k d (swp d' (k + 1) k) := by
  have hs := h.size
  have g := fun q => swp_get d' (show k + 1 < d'.size by omega) (show k < d'.size by omega) q
  refine ⟨?_, fun q h1 h2 => ?_, fun q h1 => ?_, fun lo h1 h2 => ?_, by rw [swp_size, hs]⟩
  · rw [g, if_pos rfl, h.at']
  · rw [g, if_neg (by omega)]
    by_cases e : q = k + 1
    · subst e
      rw [if_pos rfl, h.out _ (by omega)]; rfl
    · rw [if_neg e, h.high q (by omega) h2]
  · rw [g, if_neg (by omega), if_neg (by omega), h.out q (by omega)]
  · exact permIn_trans d d' _ lo (m + 1) (h.perm lo (by omega) h2) (swp_permIn d' lo (m + 1) (k + 1) k (by omega) (by omega) (by omega) (by omega) (by omega))
theorem dn_rot {m k : Nat} {d d' : Array α} (h : DnR m k d d') (hkm : k ≤ m) (hsz : m < d.size) : RotP k m (m + 1) d d' := by
  refine ⟨fun q => ?_, h.perm k (by omega) (by omega)⟩
  by_cases h1 : q < k
  · rw [rot_low h1, h.out q (by omega)]
  by_cases h2 : m + 1 ≤ q
  · rw [rot_high h2, h.out q (by omega)]
  by_cases h3 : q = k
  · subst h3
    rw [rot_one (by omega) (by omega) (by omega), h.at', show q + (m - q) = m by omega]
  · rw [rot_two (by omega) (by omega) (by omega), h.high q (by omega) (by omega), show q - (m + 1 - m) = q - 1 by omega]

/-! ### the merge -/
/-- two sorted blocks, side by side; lt sees across the two what the order T sees -/
structure Mg (lt T : α → α → Bool) (a m b : Nat) (d : Array α) : Prop where
  left : SortedIn T a m d
  right : SortedIn T m b d
  cross : ∀ i j, a ≤ i → i < m → m ≤ j → j < b → lt d[j]! d[i]! = T d[j]! d[i]!
/-- one block, sorted, of the same elements -/
structure Done (T : α → α → Bool) (a b : Nat) (d d' : Array α) : Prop where
  perm : PermIn a b d d'
  sorted : SortedIn T a b d'
variable {lt T : α → α → Bool}
theorem mg_done {a m b : Nat} {d : Array α} (h : Mg lt T a m b d) (he : a = m ∨ m = b) : Done T a b d d := by
  refine ⟨permIn_refl d a b, ?_⟩
  rcases he with rfl | rfl
  · exact h.right
  · exact h.left
theorem sorted_le {a b : Nat} {d : Array α} (hT : SWO T) (h : SortedIn T a b d) {i j : Nat} (h1 : a ≤ i) (h2 : i ≤ j) (h3 : j < b) : T d[j]! d[i]! = false := by
  rcases Nat.lt_or_ge i j with h4 | h4
  · exact h i j h1 h4 h3
  · obtain rfl : i = j := by omega
    exact hT.irrefl _
/-- one element against the block behind it -/
theorem mg_one {a b i : Nat} {d d' : Array α} (hT : SWO T) (h : Mg lt T a (a + 1) b d) (h1 : a + 1 ≤ i) (h2 : i ≤ b) (hb : b ≤ d.size) (hlo : ∀ q, a + 1 ≤ q → q < i → lt d[q]! d[a]! = true) (hhi : ∀ q, i ≤ q → q < b → lt d[q]! d[a]! = false)
    (hr : RotP a (a + 1) i d d') : Done T a b d d' := by
  refine ⟨permIn_mono d d' a i a b (Nat.le_refl _) h2 hb hr.perm, fun p q hp hpq hq => ?_⟩
  have hlo' := fun q (h3 : a + 1 ≤ q) (h4 : q < i) => (h.cross a q (Nat.le_refl _) (by omega) h3 (by omega)).symm.trans (hlo q h3 h4)
  have hhi' := fun q (h3 : i ≤ q) (h4 : q < b) => (h.cross a q (Nat.le_refl _) (by omega) (by omega) h4).symm.trans (hhi q h3 h4)
  rw [hr.get, hr.get]
  by_cases c1 : i ≤ q
  · rw [rot_high c1]
    by_cases c2 : i ≤ p
    · rw [rot_high c2]; exact h.right p q (by omega) hpq hq
    · by_cases c3 : p < a + (i - (a + 1))
      · rw [rot_one hp (by omega) c3, show p + (a + 1 - a) = p + 1 by omega]; exact h.right (p + 1) q (by omega) (by omega) hq
      · rw [rot_two hp (by omega) (by omega), show p - (i - (a + 1)) = a by omega]; exact hhi' q c1 hq
  · by_cases c3 : q < a + (i - (a + 1))
    · rw [rot_one (by omega) (by omega) c3, rot_one hp (by omega) (by omega), show q + (a + 1 - a) = q + 1 by omega, show p + (a + 1 - a) = p + 1 by omega]
      exact h.right (p + 1) (q + 1) (by omega) (by omega) (by omega)
    · rw [rot_two (by omega) (by omega) (by omega), rot_one hp (by omega) (by omega), show q - (i - (a + 1)) = a by omega, show p + (a + 1 - a) = p + 1 by omega]
      exact hT.asymmA (hlo' (p + 1) (by omega) (by omega))
/-- one element against the block ahead of it -/
theorem mg_last {a m i : Nat} {d d' : Array α} (hT : SWO T) (h : Mg lt T a m (m + 1) d) (h1 : a ≤ i) (h2 : i ≤ m) (hb : m + 1 ≤ d.size) (hlo : ∀ q, a ≤ q → q < i → lt d[m]! d[q]! = false) (hhi : ∀ q, i ≤ q → q < m → lt d[m]! d[q]! = true)
    (hr : RotP i m (m + 1) d d') : Done T a (m + 1) d d' := by
  refine ⟨permIn_mono d d' i (m + 1) a (m + 1) h1 (Nat.le_refl _) hb hr.perm, fun p q hp hpq hq => ?_⟩
  have hlo' := fun q (h3 : a ≤ q) (h4 : q < i) => (h.cross q m h3 (by omega) (Nat.le_refl _) (by omega)).symm.trans (hlo q h3 h4)
  have hhi' := fun q (h3 : i ≤ q) (h4 : q < m) => (h.cross q m (by omega) h4 (Nat.le_refl _) (by omega)).symm.trans (hhi q h3 h4)
  rw [hr.get, hr.get]
  by_cases c1 : q < i
  · rw [rot_low c1, rot_low (by omega)]; exact h.left p q hp hpq (by omega)
  by_cases c2 : q = i
  · subst c2
    rw [rot_one (by omega) (by omega) (by omega), rot_low hpq, show q + (m - q) = m by omega]
    exact hlo' p hp hpq
  rw [rot_two (by omega) (by omega) (by omega), show q - (m + 1 - m) = q - 1 by omega]
  by_cases c3 : p < i
  · rw [rot_low c3]; exact h.left p (q - 1) hp (by omega) (by omega)
  by_cases c4 : p = i
  · subst c4
    rw [rot_one (by omega) (by omega) (by omega), show p + (m - p) = m by omega]
    exact hT.asymmA (hhi' (q - 1) (by omega) (by omega))
  rw [rot_two (by omega) (by omega) (by omega), show p - (m + 1 - m) = p - 1 by omega]
  exact h.left (p - 1) (q - 1) (by omega) (by omega) (by omega)
/-- the two halves, once the middle has been turned -/
theorem mg_split {a m b s e mid : Nat} {d d1 : Array α} (hT : SWO T) (h : Mg lt T a m b d) (has : a ≤ s) (hsm : s ≤ m) (hme : m ≤ e) (heb : e ≤ b) (hmid : s + (e - m) = mid) (hr : RotP s m e d d1)
    (h1 : ∀ x y, a ≤ x → x < s → e ≤ y → y < b → T d[y]! d[x]! = false) (h2 : ∀ x y, s ≤ x → x < m → m ≤ y → y < e → T d[x]! d[y]! = false) :
    Mg lt T a s mid d1 ∧ Mg lt T mid e b d1 ∧ ∀ x y, a ≤ x → x < mid → mid ≤ y → y < b → T d1[y]! d1[x]! = false := by
  have g1 := fun k (hk : k < s) => (hr.get k).trans (rot_low hk)
  have g2 := fun k (hk : s ≤ k) (hk2 : k < mid) => (hr.get k).trans (rot_one hk (by omega) (by omega))
  have g3 := fun k (hk : mid ≤ k) (hk2 : k < e) => (hr.get k).trans (rot_two (by omega) hk2 (by omega))
  have g4 := fun k (hk : e ≤ k) => (hr.get k).trans (rot_high hk)
  refine ⟨⟨fun p q hp hpq hq => ?_, fun p q hp hpq hq => ?_, fun i j hi hi2 hj hj2 => ?_⟩, ⟨fun p q hp hpq hq => ?_, fun p q hp hpq hq => ?_, fun i j hi hi2 hj hj2 => ?_⟩, fun x y hx hx2 hy hy2 => ?_⟩
  · rw [g1 p (by omega), g1 q hq]; exact h.left p q hp hpq (by omega)
  · rw [g2 p hp (by omega), g2 q (by omega) hq]; exact h.right _ _ (by omega) (by omega) (by omega)
  · rw [g1 i hi2, g2 j hj hj2]; exact h.cross _ _ hi (by omega) (by omega) (by omega)
  · rw [g3 p hp (by omega), g3 q (by omega) hq]; exact h.left _ _ (by omega) (by omega) (by omega)
  · rw [g4 p hp, g4 q (by omega)]; exact h.right _ _ (by omega) hpq hq
  · rw [g3 i hi hi2, g4 j hj]; exact h.cross _ _ (by omega) (by omega) (by omega) hj2
  · by_cases c1 : x < s
    · rw [g1 x c1]
      by_cases c2 : y < e
      · rw [g3 y hy c2]; exact h.left _ _ hx (by omega) (by omega)
      · rw [g4 y (by omega)]; exact h1 x y hx c1 (by omega) hy2
    · rw [g2 x (by omega) hx2]
      by_cases c2 : y < e
      · rw [g3 y hy c2]; exact h2 _ _ (by omega) (by omega) (by omega) (by omega)
      · rw [g4 y (by omega)]; exact h.right _ _ (by omega) (by omega) hy2
/-- what the search hands to the split -/
theorem mg_found {a m b s e mid lo r : Nat} {d : Array α} (hT : SWO T) (h : Mg lt T a m b d) (hal : a ≤ lo) (hls : lo ≤ s) (hsr : s ≤ r) (hrm : r ≤ m) (he : e + s = mid + m) (hlo : lo = a ∨ lo + b = mid + m) (hr : r = m ∨ r = mid)
    (hme : m ≤ e) (heb : e ≤ b)
    (h1 : ∀ c, lo ≤ c → c < s → lt d[mid + m - 1 - c]! d[c]! = false) (h2 : ∀ c, s ≤ c → c < r → lt d[mid + m - 1 - c]! d[c]! = true) :
    (∀ x y, a ≤ x → x < s → e ≤ y → y < b → T d[y]! d[x]! = false) ∧ (∀ x y, s ≤ x → x < m → m ≤ y → y < e → T d[x]! d[y]! = false) := by
  constructor
  · intro x y hx hxs hey hyb
    rcases Nat.lt_or_ge lo s with hc | hc
    · have h3 := h1 (s - 1) (by omega) (by omega)
      rw [show mid + m - 1 - (s - 1) = e by omega, h.cross _ _ (by omega) (by omega) hme (by omega)] at h3
      exact hT.ntrans _ _ _ (sorted_le hT h.right hme hey hyb) (hT.ntrans _ _ _ h3 (sorted_le hT h.left hx (by omega) (by omega)))
    · omega
  · intro x y hsx hxm hmy hye
    rcases Nat.lt_or_ge s r with hc | hc
    · have h3 := h2 s (Nat.le_refl _) hc
      rw [show mid + m - 1 - s = e - 1 by omega, h.cross _ _ (by omega) (by omega) (by omega) (by omega)] at h3
      exact hT.ntrans _ _ _ (sorted_le hT h.left (by omega) hsx hxm) (hT.ntrans _ _ _ (hT.asymmA h3) (sorted_le hT h.right hmy (by omega) (by omega)))
    · omega
/-- the searched test falls once, and then stays -/
theorem mg_mono {a m b p c c' : Nat} {d : Array α} (hT : SWO T) (h : Mg lt T a m b d) (h1 : a ≤ c') (h2 : c' ≤ c) (h3 : c < m) (h4 : m + c ≤ p) (h5 : p < b + c') (hc : lt d[p - c]! d[c]! = false) : lt d[p - c']! d[c']! = false := by
  rw [h.cross _ _ (by omega) h3 (by omega) (by omega)] at hc
  rw [h.cross _ _ h1 (by omega) (by omega) (by omega)]
  exact hT.ntrans _ _ _ (sorted_le hT h.right (by omega) (by omega) (by omega)) (hT.ntrans _ _ _ hc (sorted_le hT h.left h1 h2 h3))
theorem mg_mono1 {a b q q' : Nat} {d : Array α} (hT : SWO T) (h : Mg lt T a (a + 1) b d) (h1 : a + 1 ≤ q') (h2 : q' ≤ q) (h3 : q < b) (hc : lt d[q']! d[a]! = false) : lt d[q]! d[a]! = false := by
  rw [h.cross _ _ (Nat.le_refl _) (by omega) h1 (by omega)] at hc
  rw [h.cross _ _ (Nat.le_refl _) (by omega) (by omega) h3]
  exact hT.ntrans _ _ _ (sorted_le hT h.right h1 h2 h3) hc
theorem mg_mono2 {a m q q' : Nat} {d : Array α} (hT : SWO T) (h : Mg lt T a m (m + 1) d) (h1 : a ≤ q') (h2 : q' ≤ q) (h3 : q < m) (hc : lt d[m]! d[q]! = false) : lt d[m]! d[q']! = false := by
  rw [h.cross _ _ (by omega) h3 (Nat.le_refl _) (by omega)] at hc
  rw [h.cross _ _ h1 (by omega) (Nat.le_refl _) (by omega)]
  exact hT.ntrans _ _ _ hc (sorted_le hT h.left h1 h2 h3)
theorem mg_join {a mid b : Nat} {d d1 d2 d3 : Array α} (hb : b ≤ d.size) (ham : a ≤ mid) (hmb : mid ≤ b) (h0 : PermIn a b d d1) (hx : ∀ x y, a ≤ x → x < mid → mid ≤ y → y < b → T d1[y]! d1[x]! = false)
    (h1 : Done T a mid d1 d2) (h2 : Done T mid b d2 d3) : Done T a b d d3 := by
  have s1 : d1.size = d.size := h0.1
  have s2 : d2.size = d1.size := h1.perm.1
  have hmid := permIn_trans d1 d2 d3 a b (permIn_mono d1 d2 a mid a b (Nat.le_refl _) hmb (by omega) h1.perm) (permIn_mono d2 d3 mid b a b ham (Nat.le_refl _) (by omega) h2.perm)
  refine ⟨permIn_trans d d1 d3 a b h0 hmid, fun p q hp hpq hq => ?_⟩
  have l3 : ∀ k, k < mid → d3[k]! = d2[k]! := fun k hk => h2.perm.2.1 k (Or.inl hk)
  by_cases c1 : q < mid
  · rw [l3 p (by omega), l3 q c1]; exact h1.sorted p q hp hpq c1
  by_cases c2 : mid ≤ p
  · exact h2.sorted p q c2 hpq hq
  rw [l3 p (by omega)]
  -- p below, q above
  have hy : ∀ y, mid ≤ y → y < b → ∀ x, a ≤ x → x < mid → T d2[y]! d2[x]! = false := by
    intro y hy1 hy2
    rw [h1.perm.2.1 y (Or.inr hy1)]
    exact permIn_all d1 d2 a mid (fun z => T d1[y]! z = false) (by omega) h1.perm (fun x hx1 hx2 => hx x y hx1 hx2 hy1 hy2)
  exact permIn_all d2 d3 mid b (fun z => T z d2[p]! = false) (by omega) h2.perm (fun y hy1 hy2 => hy y hy1 hy2 p hp (by omega)) q (by omega) hq

/-! ### insertion: where both orders see alike, both sort alike -/
theorem insInner_same (a : Nat) : ∀ (j : Nat) (d : Array α), j < d.size → (∀ p, a ≤ p → p < j → lt d[j]! d[p]! = T d[j]! d[p]!) → insInner lt a j d = insInner T a j d
  | 0, d, _, _ => rfl
  | j + 1, d, hj, h => by
    unfold insInner
    by_cases haj : a < j + 1
    · rw [h j (by omega) (by omega)]
      split
      · have g := fun k => swp_get d hj (show j < d.size by omega) k
        refine insInner_same a j _ (by rw [swp_size]; omega) fun p hp hpj => ?_
        rw [g, g, if_pos rfl, if_neg (by omega), if_neg (by omega)]
        exact h p hp (by omega)
      · rfl
    · rw [if_neg (by simp [haj]), if_neg (by simp [haj])]
theorem insInner_perm (a b : Nat) : ∀ (j : Nat) (d : Array α), j < b → b ≤ d.size → PermIn a b d (insInner T a j d)
  | 0, d, _, _ => permIn_refl d a b
  | j + 1, d, h1, h2 => by
    unfold insInner
    split
    · rename_i h3
      have h3 : a < j + 1 := by
        rw [Bool.and_eq_true] at h3
        exact of_decide_eq_true h3.1
      exact permIn_trans d _ _ a b (swp_permIn d a b (j + 1) j (by omega) (by omega) (by omega) (by omega) h2) (insInner_perm a b j _ (by omega) (by rw [swp_size]; exact h2))
    · exact permIn_refl d a b
theorem outer_end {a b i : Nat} {d : Array α} (h : ¬ i < b) : insOuter lt a b i d = d := by rw [insOuter, if_neg h]
theorem outer_go {a b i : Nat} {d : Array α} (h : i < b) : insOuter lt a b i d = insOuter lt a b (i + 1) (insInner lt a i d) := by rw [insOuter, if_pos h]
theorem insOuter_same (a b : Nat) : ∀ (n i : Nat) (d : Array α), n + i = b → a ≤ i → b ≤ d.size → (∀ q, i ≤ q → q < b → ∀ p, a ≤ p → p < q → lt d[q]! d[p]! = T d[q]! d[p]!) → insOuter lt a b i d = insOuter T a b i d
  | 0, i, d, hn, _, _, _ => by
    rw [outer_end (by omega), outer_end (by omega)]
  | n + 1, i, d, hn, hai, hb, h => by
    rw [outer_go (by omega), outer_go (lt := T) (by omega), insInner_same a i d (by omega) (fun p hp hpi => h i (Nat.le_refl _) (by omega) p hp hpi)]
    have hP := insInner_perm (T := T) a (i + 1) i d (by omega) (by omega)
    refine insOuter_same a b n (i + 1) _ (by omega) (by omega) (by rw [hP.1]; exact hb) fun q hq hqb p hp hpq => ?_
    rw [hP.2.1 q (Or.inr hq)]
    by_cases c : p < i + 1
    · exact permIn_all d _ a (i + 1) (fun z => lt d[q]! z = T d[q]! z) (by omega) hP (fun x hx hx2 => h q (by omega) hqb x hx (by omega)) p hp c
    · rw [hP.2.1 p (Or.inr (by omega))]
      exact h q (by omega) hqb p hp hpq
theorem ins_same {a b : Nat} {d : Array α} (hab : a < b) (hb : b ≤ d.size) (h : ∀ p q, a ≤ p → p < q → q < b → lt d[q]! d[p]! = T d[q]! d[p]!) : insertionSort lt d a b = insertionSort T d a b := by
  unfold insertionSort
  exact insOuter_same a b (b - (a + 1)) (a + 1) d (by omega) (by omega) hb fun q _ hqb p hp hpq => h p q hp hpq hqb
/-- a block in which both orders see alike, sorted -/
theorem ins_done {a b : Nat} {d : Array α} (hT : SWO T) (hab : a < b) (hb : b ≤ d.size) (h : ∀ p q, a ≤ p → p < q → q < b → lt d[q]! d[p]! = T d[q]! d[p]!) : Done T a b d (insertionSort lt d a b) := by
  rw [ins_same hab hb h]
  have := insertionSort_holds (lt := T) hT d a b (by omega) hb
  exact ⟨this.1, this.2⟩
end
end Go.Proofs.Ytnjdoedhhpkjhaa
