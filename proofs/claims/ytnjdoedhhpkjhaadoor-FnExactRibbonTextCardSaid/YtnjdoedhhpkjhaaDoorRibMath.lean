/-
  The plain arithmetic of ribbons: which spot a stroke uses, how often a spot has been used, how dark a stroke is. No program in sight.
-/
import Derived.RowKit
namespace Go.Proofs.YtnjdoedhhpkjhaaDoor
set_option linter.unusedVariables false

def spotI (s n : Int) : Int := if s ≤ n % (2 * (s - 1)) then 2 * (s - 1) - n % (2 * (s - 1)) else n % (2 * (s - 1))
def endB (s p : Int) : Bool := decide (p = 0 ∨ p = s - 1)
def usesI (s p n : Int) : Int :=
  n / (2 * (s - 1)) + (if p < n % (2 * (s - 1)) then 1 else 0) + (if endB s p = true then 0 else n / (2 * (s - 1)) + (if 2 * (s - 1) - p < n % (2 * (s - 1)) then 1 else 0))
def shadeI (s i t n : Int) : Int := max (i - t * usesI s (spotI s n) n) 0
def untilFrom (s i t l : Int) : Nat → Int → Int
  | 0, k => k
  | f + 1, k => if shadeI s i t k < l then k else untilFrom s i t l f (k + 1)
def untilI (s i t l : Int) : Int := untilFrom s i t l 100001 0

theorem mod_bd (s n : Int) (h1 : 2 ≤ s) : 0 ≤ n % (2 * (s - 1)) ∧ n % (2 * (s - 1)) < 2 * (s - 1) :=
  ⟨Int.emod_nonneg _ (by omega), Int.emod_lt_of_pos _ (by omega)⟩
theorem div_bd (s n : Int) (_h1 : 2 ≤ s) (h3 : 0 ≤ n) : 0 ≤ n / (2 * (s - 1)) ∧ n / (2 * (s - 1)) ≤ n :=
  ⟨Int.ediv_nonneg h3 (by omega), Int.ediv_le_self _ h3⟩
theorem spot_bd (s n : Int) (h1 : 2 ≤ s) : 0 ≤ spotI s n ∧ spotI s n < s := by
  have := mod_bd s n h1
  unfold spotI; split <;> omega
theorem uses_bd (s p n : Int) (h1 : 2 ≤ s) (h3 : 0 ≤ n) : 0 ≤ usesI s p n ∧ usesI s p n ≤ 2 * n + 2 := by
  have := div_bd s n h1 h3
  unfold usesI; (repeat' split) <;> omega
theorem mul_bd (t u : Int) (h1 : 1 ≤ t) (h2 : t ≤ 1000) (h3 : 0 ≤ u) (h4 : u ≤ 500000) : 0 ≤ t * u ∧ t * u ≤ 500000000 := by
  refine ⟨Int.mul_nonneg (by omega) h3, ?_⟩
  have a : t * u ≤ 1000 * u := Int.mul_le_mul_of_nonneg_right h2 h3
  omega
theorem shade_bd (s i t n : Int) (hi : 1 ≤ i) (h1 : 2 ≤ s) (ht : 1 ≤ t) (h3 : 0 ≤ n) : 0 ≤ shadeI s i t n ∧ shadeI s i t n ≤ i := by
  have hu := uses_bd s (spotI s n) n h1 h3
  have := Int.mul_nonneg (show 0 ≤ t by omega) hu.1
  unfold shadeI; omega

theorem next_mod (P n : Int) (hP : 0 < P) : (n % P + 1 < P ∧ (n + 1) / P = n / P ∧ (n + 1) % P = n % P + 1) ∨ (n % P + 1 = P ∧ (n + 1) / P = n / P + 1 ∧ (n + 1) % P = 0) := by
  have h := Int.emod_add_mul_ediv n P
  have h1 := Int.emod_nonneg n (show P ≠ 0 by omega)
  have h2 := Int.emod_lt_of_pos n hP
  by_cases hq : n % P + 1 < P
  · left
    have := (Int.ediv_emod_unique (a := n + 1) (b := P) (r := n % P + 1) (q := n / P) hP).2 ⟨by omega, by omega, hq⟩
    exact ⟨hq, this.1, this.2⟩
  · right
    have := (Int.ediv_emod_unique (a := n + 1) (b := P) (r := 0) (q := n / P + 1) hP).2 ⟨by rw [Int.mul_add]; omega, by omega, hP⟩
    exact ⟨by omega, this.1, this.2⟩

theorem endB_true {s p : Int} (h : endB s p = true) : p = 0 ∨ p = s - 1 := by simpa [endB] using h
theorem endB_false {s p : Int} (h : endB s p = false) : ¬ p = 0 ∧ ¬ p = s - 1 := by simpa [endB] using h

/-- one stroke more -/
theorem uses_step (s p n : Int) (h1 : 2 ≤ s) (hp : 0 ≤ p) (hp2 : p < s) : usesI s p (n + 1) = usesI s p n + if spotI s n = p then 1 else 0 := by
  have hm := mod_bd s n h1
  unfold usesI spotI
  rcases next_mod (2 * (s - 1)) n (by omega) with ⟨h, hd, hr⟩ | ⟨h, hd, hr⟩
  all_goals
    rw [hd, hr]
    generalize n / (2 * (s - 1)) = d at *
    generalize n % (2 * (s - 1)) = q at *
    cases he : endB s p
    · have := endB_false he
      simp only [Bool.false_eq_true, if_false]
      (repeat' split) <;> omega
    · have := endB_true he
      simp only [if_true]
      (repeat' split) <;> omega

/-- at the head of a round trip -/
theorem uses_head (s p n : Int) (h1 : 2 ≤ s) (hp : 0 ≤ p) (hp2 : p < s) : usesI s p (n * (2 * (s - 1))) = if 0 < p ∧ p < s - 1 then 2 * n else n := by
  unfold usesI
  have e1 : n * (2 * (s - 1)) / (2 * (s - 1)) = n := Int.mul_ediv_cancel _ (by omega)
  have e2 : n * (2 * (s - 1)) % (2 * (s - 1)) = 0 := Int.mul_emod_left _ _
  rw [e1, e2]
  cases he : endB s p
  · have := endB_false he
    simp only [Bool.false_eq_true, if_false]
    (repeat' split) <;> omega
  · have := endB_true he
    simp only [if_true]
    (repeat' split) <;> omega
theorem uses_zero (s p : Int) (h1 : 2 ≤ s) (hp : 0 ≤ p) (hp2 : p < s) : usesI s p 0 = 0 := by
  have := uses_head s p 0 h1 hp hp2
  simpa using this

theorem head_le (s n : Int) (h1 : 2 ≤ s) : n / (2 * (s - 1)) * (2 * (s - 1)) ≤ n ∧ n < n / (2 * (s - 1)) * (2 * (s - 1)) + 2 * (s - 1) := by
  have h := Int.emod_add_mul_ediv n (2 * (s - 1))
  have hm := mod_bd s n h1
  rw [Int.mul_comm (2 * (s - 1)) (n / (2 * (s - 1)))] at h
  omega
theorem head_nn (s n : Int) (h1 : 2 ≤ s) (h3 : 0 ≤ n) : 0 ≤ n / (2 * (s - 1)) * (2 * (s - 1)) :=
  Int.mul_nonneg (div_bd s n h1 h3).1 (by omega)

/-- the turns at the ends, in one division -/
theorem turns_eq (s n : Int) (h1 : 2 ≤ s) (h3 : 0 ≤ n) : max (usesI s 0 n + usesI s (s - 1) n - 1) 0 = max 0 (n - 1) / (s - 1) := by
  have hm := mod_bd s n h1
  have h := Int.emod_add_mul_ediv n (2 * (s - 1))
  have hd := div_bd s n h1 h3
  have a1 : endB s 0 = true := by simp [endB]
  have a2 : endB s (s - 1) = true := by simp [endB]
  unfold usesI
  simp only [a1, a2, if_true]
  generalize hdd : n / (2 * (s - 1)) = d at *
  generalize n % (2 * (s - 1)) = q at *
  have hmul : 2 * (s - 1) * d = (s - 1) * (2 * d) := by rw [Int.mul_comm 2 (s - 1), Int.mul_assoc]
  rw [hmul] at h
  by_cases h0 : n = 0
  · subst h0
    have hd0 : d = 0 := by rw [← hdd]; exact Int.zero_ediv _
    subst hd0
    simp at h
    subst h
    rw [show max (0 : Int) (0 - 1) = 0 from rfl, Int.zero_ediv]
    (repeat' split) <;> omega
  · rw [show max 0 (n - 1) = n - 1 by omega]
    by_cases hq0 : q = 0
    · have hx := (Int.ediv_emod_unique (a := n - 1) (b := s - 1) (r := s - 2) (q := 2 * d - 1) (by omega)).2 ⟨by rw [Int.mul_sub]; omega, by omega, by omega⟩
      rw [hx.1]
      have hdp : 1 ≤ d := by
        by_cases hd1 : d = 0
        · subst hd1; simp at h; omega
        · omega
      (repeat' split) <;> omega
    · by_cases hq : s - 1 < q
      · have hx := (Int.ediv_emod_unique (a := n - 1) (b := s - 1) (r := q - 1 - (s - 1)) (q := 2 * d + 1) (by omega)).2 ⟨by rw [Int.mul_add]; omega, by omega, by omega⟩
        rw [hx.1]
        (repeat' split) <;> omega
      · have hx := (Int.ediv_emod_unique (a := n - 1) (b := s - 1) (r := q - 1) (q := 2 * d) (by omega)).2 ⟨by omega, by omega, by omega⟩
        rw [hx.1]
        (repeat' split) <;> omega

theorem until_step (s i t l : Int) (f : Nat) (k : Int) (h : ¬ shadeI s i t k < l) : untilFrom s i t l (f + 1) k = untilFrom s i t l f (k + 1) := by
  rw [untilFrom, if_neg h]
theorem until_hit (s i t l : Int) (f : Nat) (k : Int) (h : shadeI s i t k < l) : untilFrom s i t l (f + 1) k = k := by
  rw [untilFrom, if_pos h]
theorem untilFrom_bd (s i t l : Int) (f : Nat) : ∀ k : Int, k ≤ untilFrom s i t l f k ∧ untilFrom s i t l f k ≤ k + f := by
  induction f with
  | zero => intro k; simp [untilFrom]
  | succ f ih =>
    intro k
    rw [untilFrom]
    split
    · omega
    · have := ih (k + 1); omega
theorem until_bd (s i t l : Int) : 0 ≤ untilI s i t l ∧ untilI s i t l ≤ 100001 := by
  have := untilFrom_bd s i t l 100001 0
  unfold untilI; omega
theorem until_pos (s i t l : Int) (h1 : 2 ≤ s) (hl : l ≤ i) (hi : 1 ≤ i) : 1 ≤ untilI s i t l := by
  have hs : ¬ shadeI s i t 0 < l := by
    have hsp := spot_bd s 0 h1
    unfold shadeI
    rw [uses_zero s _ h1 hsp.1 hsp.2]
    simp; omega
  unfold untilI
  rw [show (100001 : Nat) = 100000 + 1 from rfl, until_step _ _ _ _ _ _ hs]
  exact (untilFrom_bd s i t l 100000 (0 + 1)).1

/-- the search so far -/
def UInv (s i t l j : Int) : Prop := untilI s i t l = untilFrom s i t l (100001 - j).toNat j
theorem uinv_zero (s i t l : Int) : UInv s i t l 0 := rfl
theorem uinv_next {s i t l j : Int} (h0 : 0 ≤ j) (h1 : j ≤ 100000) (hs : ¬ shadeI s i t j < l) (h : UInv s i t l j) : UInv s i t l (j + 1) := by
  unfold UInv at *
  rw [h, show (100001 - j).toNat = (100001 - (j + 1)).toNat + 1 by omega, until_step _ _ _ _ _ _ hs]
theorem uinv_hit {s i t l j : Int} (h0 : 0 ≤ j) (h1 : j ≤ 100000) (hs : shadeI s i t j < l) (h : UInv s i t l j) : untilI s i t l = j := by
  unfold UInv at h
  rw [h, show (100001 - j).toNat = (100001 - (j + 1)).toNat + 1 by omega, until_hit _ _ _ _ _ _ hs]
theorem uinv_full {s i t l : Int} (h : UInv s i t l 100001) : untilI s i t l = 100001 := by
  unfold UInv at h
  rw [h]; rfl
/-- the row of uses behind j strokes -/
def usesRow (S : Nat) (j : Int) : List Value := (List.range S).map fun p : Nat => Value.int .i64 (usesI S p j)
theorem usesRow_zero (S : Nat) (h : 2 ≤ S) : usesRow S 0 = List.replicate S (.int .i64 0) := by
  apply List.ext_getElem
  · simp [usesRow]
  · intro n h1 h2
    simp [usesRow] at h1 ⊢
    exact uses_zero S n (by omega) (by omega) (by omega)
theorem usesRow_get (S q : Nat) (j : Int) (h : q < S) : (usesRow S j)[q]? = some (.int .i64 (usesI S q j)) := by
  simp [usesRow, h]
theorem usesRow_next (S q : Nat) (j : Int) (h2 : 2 ≤ S) (hq : q < S) (hs : spotI S j = q) : (usesRow S j).set q (.int .i64 (usesI S q j + 1)) = usesRow S (j + 1) := by
  apply List.ext_getElem
  · simp [usesRow]
  · intro n h1 h3
    have hn : n < S := by simpa [usesRow] using h3
    have hst := uses_step S n j (by omega) (by omega) (by omega)
    rw [hs] at hst
    by_cases hqn : q = n
    · subst hqn
      simp [usesRow, hst]
    · rw [List.getElem_set_ne hqn]
      have : ¬ (q : Int) = n := by omega
      simp [usesRow, hst, this]

def inB (n lo hi : Int) : Bool := decide (lo ≤ n ∧ n ≤ hi)
def okB (s i t : Int) : Bool := inB s 2 200 && inB i 1 1000 && inB t 1 i
theorem inB_true {n lo hi : Int} (h : inB n lo hi = true) : lo ≤ n ∧ n ≤ hi := by simpa [inB] using h
theorem okB_true {s i t : Int} (h : okB s i t = true) : 2 ≤ s ∧ s ≤ 200 ∧ 1 ≤ i ∧ i ≤ 1000 ∧ 1 ≤ t ∧ t ≤ 1000 := by
  simp only [okB, Bool.and_eq_true] at h
  have a := inB_true h.1.1; have b := inB_true h.1.2; have c := inB_true h.2
  omega
/-- the code of a ribbon and a number of strokes -/
def codeR (s i t n : Int) : Int := if okB s i t = true then if inB n 0 100000 = true then 0 else 2 else 1
/-- the code of a ribbon and a shade -/
def leastR (s i t l : Int) : Int := if okB s i t = true then if inB l 1 i = true then 0 else 2 else 1
def spotAtR (s i t n : Int) : Int × Int := if codeR s i t n = 0 then (spotI s n, 0) else (0, codeR s i t n)
def turnsR (s i t n : Int) : Int × Int := if codeR s i t n = 0 then (max 0 (n - 1) / (s - 1), 0) else (0, codeR s i t n)
def shadeR (s i t n : Int) : Int × Int := if codeR s i t n = 0 then (shadeI s i t n, 0) else (0, codeR s i t n)
def strokesR (s i t l : Int) : Int × Int := if leastR s i t l = 0 then if untilI s i t l ≤ 100000 then (untilI s i t l, 0) else (0, 5) else (0, leastR s i t l)
def manyI (s i t n l : Int) : Int := (n + untilI s i t l - 1) / untilI s i t l
def ribbonsR (s i t n l : Int) : Int × Int := if okB s i t = true then if inB n 0 100000 = true then if inB l 1 i = true then (manyI s i t n l, 0) else (0, 2) else (0, 2) else (0, 1)
theorem many_bd (s i t n l : Int) (h1 : 2 ≤ s) (hl : l ≤ i) (hi : 1 ≤ i) (hn : 0 ≤ n) (hn2 : n ≤ 100000) : 0 ≤ manyI s i t n l ∧ manyI s i t n l ≤ 200001 := by
  have hp := until_pos s i t l h1 hl hi
  have hb := until_bd s i t l
  unfold manyI
  exact ⟨Int.ediv_nonneg (by omega) (by omega), Int.le_trans (Int.ediv_le_self _ (by omega)) (by omega)⟩
end Go.Proofs.YtnjdoedhhpkjhaaDoor
