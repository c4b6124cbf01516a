/-
  Plain facts on sets of letters: 256 marks, the marked bytes in ascending order, one put among them. No program in sight.
-/
import Derived.Test.YthhpeanlpikjbaaMem
namespace Go.Proofs.Ythhpeanlpikjbaa
set_option linter.unusedVariables false

/-- two strictly rising lists with the same members are one -/
theorem rise_ext : ∀ (a b : List Nat), a.Pairwise (· < ·) → b.Pairwise (· < ·) → (∀ x, x ∈ a ↔ x ∈ b) → a = b
  | [], [], _, _, _ => rfl
  | [], y :: b, _, _, h => by have := (h y).2 (List.mem_cons_self ..); simp at this
  | x :: a, [], _, _, h => by have := (h x).1 (List.mem_cons_self ..); simp at this
  | x :: a, y :: b, ha, hb, h => by
    rw [List.pairwise_cons] at ha hb
    have hxy : x = y := by
      have h1 := (h x).1 (List.mem_cons_self ..)
      have h2 := (h y).2 (List.mem_cons_self ..)
      rcases List.mem_cons.1 h1 with e | e
      · exact e
      · rcases List.mem_cons.1 h2 with e2 | e2
        · exact e2.symm
        · have := hb.1 x e; have := ha.1 y e2; omega
    subst hxy
    rw [rise_ext a b ha.2 hb.2 (fun z => ?_)]
    constructor
    · intro hz
      have := ha.1 z hz
      rcases List.mem_cons.1 ((h z).1 (List.mem_cons_of_mem _ hz)) with e | e
      · omega
      · exact e
    · intro hz
      have := hb.1 z hz
      rcases List.mem_cons.1 ((h z).2 (List.mem_cons_of_mem _ hz)) with e | e
      · omega
      · exact e

def marked (ms : List Bool) (b : Nat) : Bool := ms.getD b false
def bytesOf (ms : List Bool) : List Nat := (List.range 256).filter (marked ms)
theorem mem_bytes {ms : List Bool} {x : Nat} : x ∈ bytesOf ms ↔ x < 256 ∧ marked ms x = true := by
  unfold bytesOf; rw [List.mem_filter, List.mem_range]
theorem bytes_rise (ms : List Bool) : (bytesOf ms).Pairwise (· < ·) := List.Pairwise.filter _ List.pairwise_lt_range
theorem bytes_len (ms : List Bool) : (bytesOf ms).length ≤ 256 := by
  have := List.length_filter_le (marked ms) (List.range 256)
  rw [List.length_range] at this
  exact this
theorem marked_set {ms : List Bool} {c : Nat} (hc : c < ms.length) (x : Nat) : marked (ms.set c true) x = (marked ms x || decide (x = c)) := by
  unfold marked
  by_cases e : x = c
  · subst e; simp [List.getD, hc]
  · have e2 : c ≠ x := fun h => e h.symm
    simp [List.getD, List.getElem?_set_ne e2, e]
theorem marked_lt {ms : List Bool} {x : Nat} (h : marked ms x = true) : x < ms.length := by
  unfold marked at h
  by_cases hx : x < ms.length
  · exact hx
  · rw [List.getD, List.getElem?_eq_none (by omega)] at h; simp at h
theorem set_same {ms : List Bool} {c : Nat} (h : marked ms c = true) : ms.set c true = ms := by
  have hc := marked_lt h
  apply List.ext_getElem?
  intro i
  by_cases e : c = i
  · subst e
    unfold marked at h
    rw [List.getD, List.getElem?_eq_getElem hc] at h
    rw [List.getElem?_set_self hc, List.getElem?_eq_getElem hc]
    simpa using h.symm
  · rw [List.getElem?_set_ne e]
/-- a byte put into its place -/
theorem bytes_put {ms : List Bool} {c k : Nat} (hl : ms.length = 256) (hc : c < 256) (hlo : ∀ x ∈ (bytesOf ms).take k, x < c) (hhi : ∀ x ∈ (bytesOf ms).drop k, c < x) : (bytesOf ms).take k ++ [c] ++ (bytesOf ms).drop k = bytesOf (ms.set c true) := by
  have hp := bytes_rise ms
  have hm := fun x => mem_bytes (ms := ms) (x := x)
  have hm2 := fun x => mem_bytes (ms := ms.set c true) (x := x)
  obtain ⟨L, hL⟩ : ∃ L, L = bytesOf ms := ⟨_, rfl⟩
  rw [← hL] at hlo hhi hp hm ⊢
  apply rise_ext
  · rw [List.append_assoc, List.pairwise_append]
    have e : L = L.take k ++ L.drop k := (List.take_append_drop k L).symm
    rw [e, List.pairwise_append] at hp
    refine ⟨hp.1, ?_, ?_⟩
    · rw [List.singleton_append, List.pairwise_cons]
      exact ⟨hhi, hp.2.1⟩
    · intro a ha b hb
      rw [List.singleton_append] at hb
      rcases List.mem_cons.1 hb with rfl | hb
      · exact hlo a ha
      · exact hp.2.2 a ha b hb
  · exact bytes_rise _
  · intro x
    rw [hm2, marked_set (by omega)]
    have e : x ∈ L ↔ x ∈ L.take k ∨ x ∈ L.drop k := by rw [← List.mem_append, List.take_append_drop]
    have h1 := hm x
    rw [e] at h1
    simp only [List.mem_append, List.mem_singleton, Bool.or_eq_true, decide_eq_true_eq]
    constructor
    · rintro ((h | h) | h)
      · have := h1.1 (.inl h); exact ⟨this.1, .inl this.2⟩
      · exact ⟨by omega, .inr h⟩
      · have := h1.1 (.inr h); exact ⟨this.1, .inl this.2⟩
    · rintro ⟨hx, h | h⟩
      · rcases h1.2 ⟨hx, h⟩ with h | h
        · exact .inl (.inl h)
        · exact .inr h
      · exact .inl (.inr h)
/-- the place of a byte: all ahead are less, the one there is not less -/
theorem bytes_behind {ms : List Bool} {c k : Nat} (hk : k < (bytesOf ms).length) (h : c < (bytesOf ms)[k]) : ∀ x ∈ (bytesOf ms).drop k, c < x := by
  intro x hx
  have hp := bytes_rise ms
  rw [← List.take_append_drop k (bytesOf ms), List.pairwise_append] at hp
  have hd := hp.2.1
  rw [List.drop_eq_getElem_cons hk] at hx hd
  rw [List.pairwise_cons] at hd
  rcases List.mem_cons.1 hx with rfl | hx
  · exact h
  · have := hd.1 x hx; omega
theorem bytes_end {ms : List Bool} {c : Nat} : ∀ x ∈ (bytesOf ms).drop (bytesOf ms).length, c < x := by
  intro x hx; rw [List.drop_length] at hx; simp at hx
theorem bytes_there {ms : List Bool} {c k : Nat} (hk : k < (bytesOf ms).length) (h : (bytesOf ms)[k] = c) : marked ms c = true := by
  have : c ∈ bytesOf ms := by rw [← h]; exact List.getElem_mem hk
  exact (mem_bytes.1 this).2
theorem bytes_lt {ms : List Bool} {k : Nat} (hk : k < (bytesOf ms).length) : (bytesOf ms)[k] < 256 := (mem_bytes.1 (List.getElem_mem hk)).1
theorem take_lo {L : List Nat} {c k : Nat} (hk : k < L.length) (h : ∀ x ∈ L.take k, x < c) (hk2 : L[k] < c) : ∀ x ∈ L.take (k + 1), x < c := by
  intro x hx
  rw [List.take_succ_eq_append_getElem hk] at hx
  rcases List.mem_append.1 hx with hx | hx
  · exact h x hx
  · simp at hx; omega

def oneT (b : Nat) : ByteArray := ⟨#[UInt8.ofNat b]⟩
def ascB (ms : List Bool) : ByteArray := ⟨((bytesOf ms).map UInt8.ofNat).toArray⟩
def letL (ms : List Bool) : List ByteArray := (bytesOf ms).map oneT
theorem letL_len (ms : List Bool) : (letL ms).length = (bytesOf ms).length := by simp [letL]
theorem letL_get {ms : List Bool} {k : Nat} (h : k < (letL ms).length) : (letL ms)[k] = oneT ((bytesOf ms)[k]'(by rw [← letL_len]; exact h)) := by simp [letL]
theorem ascB_size (ms : List Bool) : (ascB ms).size = (bytesOf ms).length := by
  show (((bytesOf ms).map UInt8.ofNat).toArray).size = _
  simp
theorem toNat_of {b : Nat} (h : b < 256) : (UInt8.ofNat b).toNat = b := by
  rw [UInt8.toNat_ofNat']; omega
theorem oneT_list (b : Nat) : (oneT b).toList = [UInt8.ofNat b] := by rw [ByteArray.toList_eq]; rfl
theorem oneT_inj {a b : Nat} (ha : a < 256) (hb : b < 256) : ((oneT a).toList == (oneT b).toList) = decide (a = b) := by
  rw [oneT_list, oneT_list, Bool.eq_iff_iff]
  simp only [beq_iff_eq, List.cons.injEq, and_true, decide_eq_true_eq]
  constructor
  · intro h
    have := congrArg UInt8.toNat h
    rwa [toNat_of ha, toNat_of hb] at this
  · rintro rfl; rfl
theorem of_one {x : ByteArray} (h : x.size = 1) : x = oneT (x[0]'(by omega)).toNat := by
  obtain ⟨⟨d⟩⟩ := x
  have hl : d.length = 1 := h
  obtain ⟨c, rfl⟩ := List.length_eq_one_iff.1 hl
  unfold oneT
  show (⟨⟨[c]⟩⟩ : ByteArray) = ⟨#[UInt8.ofNat c.toNat]⟩
  rw [UInt8.ofNat_toNat]
theorem noMarks_len : (List.replicate 256 false).length = 256 := List.length_replicate
theorem marked_none (b : Nat) : marked (List.replicate 256 false) b = false := by
  unfold marked
  rw [List.getD, List.getElem?_replicate]
  split <;> rfl
theorem bytes_none : bytesOf (List.replicate 256 false) = [] := by
  unfold bytesOf
  rw [List.filter_eq_nil_iff]
  intro a _
  rw [marked_none]; simp
/-- two rows of marks with the same marks are one -/
theorem marks_ext {a b : List Bool} (ha : a.length = 256) (hb : b.length = 256) (h : ∀ c, c < 256 → marked a c = marked b c) : a = b := by
  apply List.ext_getElem (by omega)
  intro i h1 h2
  have := h i (by omega)
  unfold marked at this
  rw [List.getD, List.getD, List.getElem?_eq_getElem h1, List.getElem?_eq_getElem h2] at this
  simpa using this
end Go.Proofs.Ythhpeanlpikjbaa
