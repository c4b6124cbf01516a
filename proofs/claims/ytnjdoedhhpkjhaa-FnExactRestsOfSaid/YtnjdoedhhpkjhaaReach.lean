/-
  Plain facts: the rests of a code, whichever way they are found. No program in sight.
-/
import Derived.Test.YtnjdoedhhpkjhaaCodeC
namespace Go.Proofs.Ytnjdoedhhpkjhaa
set_option linter.unusedVariables false

/-- a number for a text: shorter ones first, texts of one length in their order -/
def rkL : List UInt8 → Nat
  | [] => 0
  | x :: a => (x.toNat + 1) * 256 ^ a.length + rkL a
def rep : Nat → Nat
  | 0 => 0
  | n + 1 => rep n + 256 ^ n
theorem rep_mono {m n : Nat} (h : m ≤ n) : rep m ≤ rep n := by
  induction h with
  | refl => exact Nat.le_refl _
  | step _ ih => exact Nat.le_trans ih (Nat.le_add_right _ _)
theorem rk_bd : ∀ a : List UInt8, rep a.length ≤ rkL a ∧ rkL a < rep (a.length + 1)
  | [] => by simp [rep, rkL]
  | x :: a => by
    obtain ⟨h1, h2⟩ := rk_bd a
    have hx := UInt8.toNat_lt x
    have hp : 0 < 256 ^ a.length := Nat.pow_pos (by omega)
    have e1 : (x.toNat + 1) * 256 ^ a.length = x.toNat * 256 ^ a.length + 256 ^ a.length := by rw [Nat.add_mul, Nat.one_mul]
    have h3 : x.toNat * 256 ^ a.length ≤ 255 * 256 ^ a.length := Nat.mul_le_mul_right _ (by omega)
    have e2 : 256 ^ (a.length + 1) = 256 * 256 ^ a.length := by rw [Nat.pow_succ, Nat.mul_comm]
    simp only [rkL, List.length_cons, rep] at *
    rw [e1, e2]
    constructor <;> omega
theorem rk_append : ∀ a b : List UInt8, rkL (a ++ b) = rkL a * 256 ^ b.length + rkL b
  | [], b => by simp [rkL]
  | x :: a, b => by
    have ih := rk_append a b
    show (x.toNat + 1) * 256 ^ (a ++ b).length + rkL (a ++ b) = ((x.toNat + 1) * 256 ^ a.length + rkL a) * 256 ^ b.length + rkL b
    rw [ih, List.length_append, Nat.pow_add, Nat.add_mul ((x.toNat + 1) * 256 ^ a.length) (rkL a), Nat.mul_assoc]
    omega
theorem rk_less : ∀ a b : List UInt8, a.length = b.length → (Op.bytesLess a b = true ↔ rkL a < rkL b)
  | [], [], _ => by simp [Op.bytesLess, rkL]
  | [], _ :: _, h => by simp at h
  | _ :: _, [], h => by simp at h
  | x :: a, y :: b, h => by
    have hl : a.length = b.length := by simpa using h
    have ih := rk_less a b hl
    have ha := rk_bd a
    have hb := rk_bd b
    rw [hl] at ha
    have e2 : rep (b.length + 1) = rep b.length + 256 ^ b.length := rfl
    rw [e2] at ha hb
    have eA : (x.toNat + 1) * 256 ^ b.length = x.toNat * 256 ^ b.length + 256 ^ b.length := by rw [Nat.add_mul, Nat.one_mul]
    have eB : (y.toNat + 1) * 256 ^ b.length = y.toNat * 256 ^ b.length + 256 ^ b.length := by rw [Nat.add_mul, Nat.one_mul]
    simp only [rkL, hl]
    rw [eA, eB]
    by_cases h1 : x < y
    · have h1' : x.toNat < y.toNat := UInt8.lt_iff_toNat_lt.1 h1
      have h3 : (x.toNat + 1) * 256 ^ b.length ≤ y.toNat * 256 ^ b.length := Nat.mul_le_mul_right _ h1'
      rw [eA] at h3
      simp only [Op.bytesLess, h1, decide_true, Bool.true_or, true_iff]
      omega
    · by_cases h2 : y < x
      · have h2' : y.toNat < x.toNat := UInt8.lt_iff_toNat_lt.1 h2
        have h3 : (y.toNat + 1) * 256 ^ b.length ≤ x.toNat * 256 ^ b.length := Nat.mul_le_mul_right _ h2'
        rw [eB] at h3
        have hne : (x == y) = false := by
          apply beq_eq_false_iff_ne.2
          rintro rfl
          omega
        simp only [Op.bytesLess, h1, hne, decide_false, Bool.false_or, Bool.false_and]
        constructor
        · intro h; cases h
        · intro h; omega
      · have e : x = y := by
          apply UInt8.toNat_inj.1
          rw [UInt8.lt_iff_toNat_lt] at h1 h2
          omega
        subst e
        simp only [Op.bytesLess, h1, decide_false, Bool.false_or, beq_self_eq_true, Bool.true_and]
        rw [ih]
        omega
theorem rk_short {a b : List UInt8} (h : a.length < b.length) : rkL a < rkL b := by
  have h1 := (rk_bd a).2
  have h2 := (rk_bd b).1
  have h3 := rep_mono (m := a.length + 1) (n := b.length) h
  omega
theorem rk_inj : ∀ a b : List UInt8, rkL a = rkL b → a = b
  | [], [], _ => rfl
  | [], y :: b, h => by have := rk_short (a := []) (b := y :: b) (by simp); omega
  | x :: a, [], h => by have := rk_short (a := []) (b := x :: a) (by simp); omega
  | x :: a, y :: b, h => by
    have hl : a.length = b.length := by
      rcases Nat.lt_trichotomy a.length b.length with h1 | h1 | h1
      · have := rk_short (a := x :: a) (b := y :: b) (by simpa using h1); omega
      · exact h1
      · have := rk_short (a := y :: b) (b := x :: a) (by simpa using h1); omega
    have h1 := rk_less (x :: a) (y :: b) (by simpa using hl)
    have h2 := rk_less (y :: b) (x :: a) (by simpa using hl.symm)
    have n1 : Op.bytesLess (x :: a) (y :: b) = false := by
      cases e : Op.bytesLess (x :: a) (y :: b)
      · rfl
      · have := h1.1 e; omega
    have n2 : Op.bytesLess (y :: b) (x :: a) = false := by
      cases e : Op.bytesLess (y :: b) (x :: a)
      · rfl
      · have := h2.1 e; omega
    have e : x = y := by
      apply UInt8.toNat_inj.1
      by_cases h3 : x < y
      · simp [Op.bytesLess, h3] at n1
      · by_cases h4 : y < x
        · simp [Op.bytesLess, h4] at n2
        · rw [UInt8.lt_iff_toNat_lt] at h3 h4; omega
    subst e
    have : rkL a = rkL b := by simp only [rkL, hl] at h; omega
    rw [rk_inj a b this]

def rk (x : ByteArray) : Nat := rkL x.toList
theorem tl_size (x : ByteArray) : x.toList.length = x.size := by rw [ByteArray.toList_eq]; simp
theorem tl_eq {a b : ByteArray} (h : a.toList = b.toList) : a = b := by
  rw [ByteArray.toList_eq, ByteArray.toList_eq] at h
  cases a; cases b
  simp only [ByteArray.mk.injEq]
  exact Array.toList_inj.1 h
theorem tl_append (a b : ByteArray) : (a ++ b).toList = a.toList ++ b.toList := by simp [ByteArray.toList_eq, ByteArray.data_append]
theorem tl_extract (s : ByteArray) (a b : Nat) : (s.extract a b).toList = (s.toList.take b).drop a := by
  rw [ByteArray.toList_eq, ByteArray.toList_eq]
  simp [ByteArray.data_extract, Array.toList_extract]
  rw [List.drop_take]
theorem rk_eq {a b : ByteArray} (h : rk a = rk b) : a = b := tl_eq (rk_inj _ _ h)
theorem rk_app {a b s : ByteArray} (h : rk a ≤ rk b) : rk (a ++ s) ≤ rk (b ++ s) := by
  unfold rk at *
  rw [tl_append, tl_append, rk_append, rk_append]
  have := Nat.mul_le_mul_right (256 ^ s.toList.length) h
  omega
theorem rk_grow (a s : ByteArray) : rk a ≤ rk (a ++ s) := by
  unfold rk
  rw [tl_append, rk_append]
  have h1 : 0 < 256 ^ s.toList.length := Nat.pow_pos (by omega)
  have h2 : rkL a.toList * 1 ≤ rkL a.toList * 256 ^ s.toList.length := Nat.mul_le_mul_left _ h1
  omega
theorem rk_size {a b : ByteArray} (h : rk a ≤ rk b) : a.size ≤ b.size := by
  rcases Nat.lt_or_ge b.size a.size with h1 | h1
  · have := rk_short (a := b.toList) (b := a.toList) (by rw [tl_size, tl_size]; exact h1)
    unfold rk at h; omega
  · exact h1
theorem rk_lt {a : ByteArray} {n : Nat} (h : a.size ≤ n) : rk a < rep (n + 1) := by
  have h1 := (rk_bd a.toList).2
  have h2 := rep_mono (m := a.toList.length + 1) (n := n + 1) (by rw [tl_size]; omega)
  unfold rk; omega
theorem less_size {a b : ByteArray} (h : a.size < b.size) : rk a < rk b := rk_short (by rw [tl_size, tl_size]; exact h)
theorem less_same {a b : ByteArray} (h : a.size = b.size) : Op.bytesLess a.toList b.toList = decide (rk a < rk b) := by
  have := rk_less a.toList b.toList (by rw [tl_size, tl_size]; exact h)
  cases e : Op.bytesLess a.toList b.toList
  · rw [e] at this
    symm; apply decide_eq_false
    intro h2
    have := this.2 h2
    cases this
  · rw [e] at this
    symm; exact decide_eq_true (this.1 rfl)

/-- what follows where a word is put behind the shorter reading -/
def nxt (x : Am) (w : ByteArray) : Option Am :=
  if preB w x.2 = true then some (x.1 ++ w.extract x.2.size w.size, w.extract x.2.size w.size)
  else if preB x.2 w = true then some (x.1, x.2.extract w.size x.2.size) else none
theorem preB_sz {x s : ByteArray} (h : preB x s = true) : s.size ≤ x.size := by
  simp only [preB, Bool.and_eq_true, decide_eq_true_eq] at h
  exact h.1
theorem tl_empty : ByteArray.empty.toList = [] := by rw [ByteArray.toList_eq]; rfl
theorem ext_empty (s : ByteArray) (n : Nat) : s.extract n n = ByteArray.empty := by
  apply tl_eq
  rw [tl_extract]
  have : ((s.toList.take n).drop n) = [] := List.drop_eq_nil_of_le (by simp; omega)
  rw [this, tl_empty]
theorem app_empty (s : ByteArray) : s ++ ByteArray.empty = s := by
  apply tl_eq
  rw [tl_append, tl_empty, List.append_nil]
theorem nxt_more {x : Am} {w : ByteArray} (h : preB w x.2 = true) : nxt x w = some (x.1 ++ w.extract x.2.size w.size, w.extract x.2.size w.size) := by rw [nxt, if_pos h]
theorem nxt_less {x : Am} {w : ByteArray} (h : preB x.2 w = true) : nxt x w = some (x.1, x.2.extract w.size x.2.size) := by
  rw [nxt]
  by_cases h2 : preB w x.2 = true
  · have e : w.size = x.2.size := Nat.le_antisymm (preB_sz h) (preB_sz h2)
    rw [if_pos h2, ← e, ext_empty, ext_empty, app_empty]
  · rw [if_neg h2, if_pos h]
theorem nxt_none {x : Am} {w : ByteArray} (h : preB w x.2 = false) (h2 : preB x.2 w = false) : nxt x w = none := by
  rw [nxt, h, h2]; rfl
theorem nxt_mono {x x' y : Am} {w : ByteArray} (h : x'.2 = x.2) (hr : rk x'.1 ≤ rk x.1) (hn : nxt x w = some y) : ∃ y', nxt x' w = some y' ∧ y'.2 = y.2 ∧ rk y'.1 ≤ rk y.1 := by
  cases h1 : preB w x.2
  · cases h2 : preB x.2 w
    · rw [nxt_none h1 h2] at hn; cases hn
    · rw [nxt_less h2] at hn
      simp only [Option.some.injEq] at hn
      subst hn
      exact ⟨_, nxt_less (by rw [h]; exact h2), by rw [h], hr⟩
  · rw [nxt_more h1] at hn
    simp only [Option.some.injEq] at hn
    subst hn
    exact ⟨_, nxt_more (by rw [h]; exact h1), by rw [h], by rw [h]; exact rk_app hr⟩
theorem nxt_grow {x y : Am} {w : ByteArray} (hn : nxt x w = some y) : rk x.1 ≤ rk y.1 ∧ y.1.size ≤ x.1.size + w.size ∧ (y.2.size ≤ x.2.size ∨ y.2.size ≤ w.size) := by
  cases h1 : preB w x.2
  · cases h2 : preB x.2 w
    · rw [nxt_none h1 h2] at hn; cases hn
    · rw [nxt_less h2] at hn
      simp only [Option.some.injEq] at hn
      subst hn
      exact ⟨Nat.le_refl _, Nat.le_add_right _ _, .inl (by simp [ByteArray.size_extract])⟩
  · rw [nxt_more h1] at hn
    simp only [Option.some.injEq] at hn
    subst hn
    exact ⟨rk_grow _ _, by simp [ByteArray.size_append, ByteArray.size_extract]; try omega, .inr (by simp [ByteArray.size_extract])⟩

/-- a text with two readings up to its end and up to a rest of it -/
inductive Got (l : List ByteArray) : Am → Prop
  | start {x : Am} (h : x ∈ rests l) : Got l x
  | step {x y : Am} {w : ByteArray} (h : Got l x) (h0 : x.2.size ≠ 0) (hw : w ∈ l) (hn : nxt x w = some y) : Got l y
def Cov (S : List Am) (y : Am) : Prop := ∃ x ∈ S, x.2 = y.2 ∧ rk x.1 ≤ rk y.1
theorem cov_trans {S : List Am} {y z : Am} (h : Cov S y) (e : y.2 = z.2) (hr : rk y.1 ≤ rk z.1) : Cov S z := by
  obtain ⟨x, h1, h2, h3⟩ := h
  exact ⟨x, h1, h2.trans e, Nat.le_trans h3 hr⟩
theorem cov_mem {S : List Am} {y : Am} (h : y ∈ S) : Cov S y := ⟨y, h, rfl, Nat.le_refl _⟩
def KeyOne (S : List Am) : Prop := ∀ x ∈ S, ∀ y ∈ S, x.2 = y.2 → x = y
/-- the least text for each rest -/
structure Good (l : List ByteArray) (S : List Am) : Prop where
  sound : ∀ x ∈ S, Got l x
  keys : (S.map (·.2)).Nodup
  base : ∀ x ∈ rests l, Cov S x
  clos : ∀ x ∈ S, x.2.size ≠ 0 → ∀ w ∈ l, ∀ y, nxt x w = some y → Cov S y
theorem good_cov {l : List ByteArray} {S : List Am} (h : Good l S) {y : Am} (hy : Got l y) : Cov S y := by
  induction hy with
  | start hx => exact h.base _ hx
  | step _ h0 hw hn ih =>
    obtain ⟨x', h1, h2, h3⟩ := ih
    obtain ⟨y', h4, h5, h6⟩ := nxt_mono h2 h3 hn
    exact cov_trans (h.clos x' h1 (by rw [h2]; exact h0) _ hw y' h4) h5 h6
theorem key_one : ∀ {S : List Am}, (S.map (·.2)).Nodup → ∀ x ∈ S, ∀ y ∈ S, x.2 = y.2 → x = y
  | [], _, x, hx, _, _, _ => by cases hx
  | z :: S, h, x, hx, y, hy, e => by
    simp only [List.map_cons, List.nodup_cons] at h
    rcases List.mem_cons.1 hx with hx | hx
    · rcases List.mem_cons.1 hy with hy | hy
      · rw [hx, hy]
      · exact absurd (List.mem_map.2 ⟨y, hy, by rw [← e, hx]⟩) h.1
    · rcases List.mem_cons.1 hy with hy | hy
      · exact absurd (List.mem_map.2 ⟨x, hx, by rw [e, hy]⟩) h.1
      · exact key_one h.2 x hx y hy e
theorem good_mem {l : List ByteArray} {S T : List Am} (hS : Good l S) (hT : Good l T) {x : Am} (hx : x ∈ S) : x ∈ T := by
  obtain ⟨x', h1, h2, h3⟩ := good_cov hT (hS.sound x hx)
  obtain ⟨x'', k1, k2, k3⟩ := good_cov hS (hT.sound x' h1)
  have e := key_one hS.keys x'' k1 x hx (k2.trans h2)
  subst e
  have e2 : x'.1 = x''.1 := rk_eq (Nat.le_antisymm h3 k3)
  have e3 : x' = x'' := Prod.ext e2 h2
  rw [← e3]; exact h1
theorem good_iff {l : List ByteArray} {S T : List Am} (hS : Good l S) (hT : Good l T) (x : Am) : x ∈ S ↔ x ∈ T := ⟨good_mem hS hT, good_mem hT hS⟩

/-- no more rests than ends of words -/
def sufs (l : List ByteArray) : List ByteArray := l.flatMap fun w => (List.range (w.size + 1)).map fun j => w.extract j w.size
theorem suf_mem {l : List ByteArray} {w : ByteArray} (hw : w ∈ l) {j : Nat} (hj : j ≤ w.size) : w.extract j w.size ∈ sufs l := by
  unfold sufs
  rw [List.mem_flatMap]
  exact ⟨w, hw, List.mem_map.2 ⟨j, List.mem_range.2 (by omega), rfl⟩⟩
theorem suf_of {l : List ByteArray} {x : ByteArray} (h : x ∈ sufs l) : ∃ w ∈ l, ∃ j, j ≤ w.size ∧ x = w.extract j w.size := by
  unfold sufs at h
  rw [List.mem_flatMap] at h
  obtain ⟨w, hw, h⟩ := h
  obtain ⟨j, hj, rfl⟩ := List.mem_map.1 h
  exact ⟨w, hw, j, by have := List.mem_range.1 hj; omega, rfl⟩
theorem suf_suf {v : ByteArray} {j n : Nat} (hj : j ≤ v.size) (hn : n ≤ (v.extract j v.size).size) : (v.extract j v.size).extract n (v.extract j v.size).size = v.extract (j + n) v.size := by
  apply tl_eq
  have hs : (v.extract j v.size).size = v.size - j := by simp [ByteArray.size_extract]
  have hl := tl_size v
  rw [tl_extract, tl_extract, tl_extract, hs, List.take_of_length_le (l := v.toList) (by omega), List.take_of_length_le (by simp; omega), List.drop_drop]
theorem sufs_len {l : List ByteArray} {m : Nat} (h : ∀ w ∈ l, w.size ≤ m) : (sufs l).length ≤ l.length * (m + 1) := by
  induction l with
  | nil => simp [sufs]
  | cons w l ih =>
    have h1 := ih (fun x hx => h x (List.mem_cons_of_mem _ hx))
    have h2 := h w List.mem_cons_self
    have e : sufs (w :: l) = ((List.range (w.size + 1)).map fun j => w.extract j w.size) ++ sufs l := by simp [sufs]
    rw [e, List.length_append, List.length_map, List.length_range, List.length_cons, Nat.add_mul, Nat.one_mul]
    omega
theorem nodup_le {α : Type} (K : List α) : ∀ (M : List α), K.Nodup → (∀ x ∈ K, x ∈ M) → K.length ≤ M.length := by
  classical
  induction K with
  | nil => intro M _ _; exact Nat.zero_le _
  | cons x K ih =>
    intro M h hs
    rw [List.nodup_cons] at h
    have hx := hs x List.mem_cons_self
    have h1 := ih (M.erase x) h.2 (fun y hy => (List.mem_erase_of_ne (by rintro rfl; exact h.1 hy)).2 (hs y (List.mem_cons_of_mem _ hy)))
    rw [List.length_erase_of_mem hx] at h1
    have h2 : 0 < M.length := List.length_pos_of_mem hx
    simp only [List.length_cons]
    omega
theorem rests_of {l : List ByteArray} {x : Am} (h : x ∈ rests l) : ∃ i k, ∃ (hi : i < l.length) (hk : k < l.length), i ≠ k ∧ preB l[k] l[i] = true ∧ x = (l[k], l[k].extract l[i].size l[k].size) := by
  have hin : ∀ i k, k ≤ l.length → x ∈ restsIn l i k → ∃ j, ∃ (hj : j < l.length), hitB l i j = true ∧ x = restOf l i j := by
    intro i k
    induction k with
    | zero => intro _ h; simp [restsIn] at h
    | succ k ih =>
      intro hk h
      rw [restsIn] at h
      split at h
      · rename_i hh
        rcases List.mem_append.1 h with h | h
        · exact ih (by omega) h
        · exact ⟨k, by omega, hh, List.mem_singleton.1 h⟩
      · exact ih (by omega) h
  have hall : ∀ i, i ≤ l.length → x ∈ restsAll l i → ∃ i' j, ∃ (hi : i' < l.length) (hj : j < l.length), hitB l i' j = true ∧ x = restOf l i' j := by
    intro i
    induction i with
    | zero => intro _ h; simp [restsAll] at h
    | succ i ih =>
      intro hi h
      rw [restsAll] at h
      rcases List.mem_append.1 h with h | h
      · exact ih (by omega) h
      · obtain ⟨j, hj, h1, h2⟩ := hin i l.length (Nat.le_refl _) h
        exact ⟨i, j, by omega, hj, h1, h2⟩
  obtain ⟨i, j, hi, hj, h1, h2⟩ := hall l.length (Nat.le_refl _) h
  rw [hitB_get hi hj] at h1
  rw [restOf_get hi hj] at h2
  simp only [Bool.and_eq_true, decide_eq_true_eq] at h1
  exact ⟨i, j, hi, hj, h1.1, h1.2, h2⟩
theorem rests_mem {l : List ByteArray} {i k : Nat} (hi : i < l.length) (hk : k < l.length) (hne : i ≠ k) (hp : preB l[k] l[i] = true) : (l[k], l[k].extract l[i].size l[k].size) ∈ rests l := by
  have hin : ∀ q, k < q → restOf l i k ∈ restsIn l i q := by
    intro q
    induction q with
    | zero => intro h; omega
    | succ q ih =>
      intro h
      rw [restsIn]
      by_cases e : q = k
      · subst e
        have : hitB l i q = true := by rw [hitB_get hi hk]; simp [hne, hp]
        rw [if_pos this]
        simp
      · split
        · exact List.mem_append_left _ (ih (by omega))
        · exact ih (by omega)
  have hall : ∀ q, i < q → restOf l i k ∈ restsAll l q := by
    intro q
    induction q with
    | zero => intro h; omega
    | succ q ih =>
      intro h
      rw [restsAll]
      by_cases e : q = i
      · subst e
        exact List.mem_append_right _ (hin _ hk)
      · exact List.mem_append_left _ (ih (by omega))
  rw [← restOf_get hi hk]
  exact hall _ hi
theorem got_suf {l : List ByteArray} {x : Am} (h : Got l x) : x.2 ∈ sufs l := by
  induction h with
  | start hx =>
    obtain ⟨i, k, hi, hk, _, hp, rfl⟩ := rests_of hx
    exact suf_mem (List.getElem_mem hk) (preB_sz hp)
  | @step x y w _ _ hw hn ih =>
    cases h1 : preB w x.2
    · cases h2 : preB x.2 w
      · rw [nxt_none h1 h2] at hn; cases hn
      · rw [nxt_less h2] at hn
        simp only [Option.some.injEq] at hn
        subst hn
        obtain ⟨v, hv, j, hj, e⟩ := suf_of ih
        have hz := preB_sz h2
        show x.2.extract w.size x.2.size ∈ sufs l
        rw [e] at hz ⊢
        rw [suf_suf hj hz]
        refine suf_mem hv ?_
        simp [ByteArray.size_extract] at hz
        omega
    · rw [nxt_more h1] at hn
      simp only [Option.some.injEq] at hn
      subst hn
      exact suf_mem hw (preB_sz h1)
theorem got_size {l : List ByteArray} {m : Nat} (h : ∀ w ∈ l, w.size ≤ m) {x : Am} (hx : Got l x) : x.2.size ≤ m := by
  obtain ⟨w, hw, j, hj, e⟩ := suf_of (got_suf hx)
  rw [e]
  have := h w hw
  simp [ByteArray.size_extract]; omega
theorem keys_90 {l : List ByteArray} (hl : l.length ≤ 10) (h8 : ∀ w ∈ l, w.size ≤ 8) {S : List Am} (hs : ∀ x ∈ S, Got l x) (hk : (S.map (·.2)).Nodup) : S.length ≤ 90 := by
  have h1 := nodup_le (S.map (·.2)) (sufs l) hk (fun y hy => by
    obtain ⟨x, hx, rfl⟩ := List.mem_map.1 hy
    exact got_suf (hs x hx))
  have h2 := sufs_len h8
  have h3 := Nat.mul_le_mul_right 9 hl
  rw [List.length_map] at h1
  omega
end Go.Proofs.Ytnjdoedhhpkjhaa
