/-
  The letters that tell machines apart: marks, what is handed back: plain facts.
-/
import Derived.Test.YthhpeanlpikjbaaFlC
namespace Go.Proofs.Ythhpeanlpikjbaa
set_option linter.unusedVariables false

def setL (ms : List Bool) (bs : List Nat) : List Bool := bs.foldl (fun m c => m.set c true) ms
theorem setL_zero (ms : List Bool) : setL ms [] = ms := rfl
theorem setL_snoc (ms : List Bool) (bs : List Nat) (c : Nat) : setL ms (bs ++ [c]) = (setL ms bs).set c true := by simp [setL]
theorem setL_len (bs : List Nat) : ∀ ms : List Bool, (setL ms bs).length = ms.length := by
  induction bs with
  | nil => intro ms; rfl
  | cons c bs ih => intro ms; show (setL (ms.set c true) bs).length = ms.length; rw [ih, List.length_set]
theorem setL_mem {bs : List Nat} : ∀ {ms : List Bool}, ms.length = 256 → (∀ c ∈ bs, c < 256) → ∀ x, marked (setL ms bs) x = (marked ms x || decide (x ∈ bs)) := by
  induction bs with
  | nil => intro ms _ _ x; simp [setL]
  | cons c bs ih =>
    intro ms hl h x
    show marked (setL (ms.set c true) bs) x = _
    rw [ih (by rw [List.length_set]; exact hl) (fun q hq => h q (List.mem_cons_of_mem _ hq)), marked_set (by rw [hl]; exact h c List.mem_cons_self)]
    by_cases h1 : x = c <;> by_cases h2 : x ∈ bs <;> cases marked ms x <;> simp [h1, h2]
theorem ap_set {ms : List Bool} (hl : ms.length = 256) (fa fb : List Se) : setL ms (bytesOf (apM noMk fa fb)) = apM ms fa fb := by
  have hb : ∀ c ∈ bytesOf (apM noMk fa fb), c < 256 := fun c hc => (mem_bytes.1 hc).1
  refine marks_ext (by rw [setL_len]; exact hl) (apM_len fa fb hl) fun c hc => ?_
  rw [setL_mem hl hb]
  have h1 := apM_mem (fa := fa) (fb := fb) hl c
  have h2 := apM_mem (fa := fa) (fb := fb) noMk_len c
  have h3 : marked noMk c = false := marked_noMk c
  rw [h3] at h2
  have h4 : decide (c ∈ bytesOf (apM noMk fa fb)) = marked (apM noMk fa fb) c := by
    cases hm : marked (apM noMk fa fb) c
    · exact decide_eq_false fun h => by rw [(mem_bytes.1 h).2] at hm; cases hm
    · exact decide_eq_true (mem_bytes.2 ⟨hc, hm⟩)
  rw [h4, Bool.eq_iff_iff, h1, Bool.or_eq_true, h2]
  simp
/-- the marks of all pairs before the pair (i, k) -/
def muK (l : List Ws) (i : Nat) (ms : List Bool) : Nat → List Bool
  | 0 => ms
  | k + 1 => apM (muK l i ms k) (fsK l i) (fsK l k)
def muI (l : List Ws) : Nat → List Bool
  | 0 => noMk
  | i + 1 => muK l i (muI l i) i
theorem muK_len (l : List Ws) (i : Nat) {ms : List Bool} (h : ms.length = 256) : ∀ k, (muK l i ms k).length = 256
  | 0 => h
  | k + 1 => apM_len _ _ (muK_len l i h k)
theorem muI_len (l : List Ws) : ∀ i, (muI l i).length = 256
  | 0 => noMk_len
  | i + 1 => muK_len l i (muI_len l i) i
theorem muK_keep (l : List Ws) (i : Nat) {ms : List Bool} (h : ms.length = 256) {x : Nat} (hx : marked ms x = true) : ∀ k, marked (muK l i ms k) x = true
  | 0 => hx
  | k + 1 => (apM_mem (muK_len l i h k) x).2 (Or.inl (muK_keep l i h hx k))
theorem muI_keep (l : List Ws) {i x : Nat} (hx : marked (muI l i) x = true) : ∀ d, marked (muI l (i + d)) x = true
  | 0 => hx
  | d + 1 => muK_keep l (i + d) (muI_len l _) (muI_keep l hx d) (i + d)
theorem muK_has (l : List Ws) (i : Nat) {ms : List Bool} (h : ms.length = 256) {k x : Nat} (hx : marked (apM noMk (fsK l i) (fsK l k)) x = true) : ∀ d, marked (muK l i ms (k + 1 + d)) x = true
  | 0 => by
    have h2 := (apM_mem (fa := fsK l i) (fb := fsK l k) noMk_len x).1 hx
    rcases h2 with h2 | h2
    · rw [marked_noMk] at h2; cases h2
    · exact (apM_mem (muK_len l i h k) x).2 (Or.inr h2)
  | d + 1 => (apM_mem (muK_len l i h (k + 1 + d)) x).2 (Or.inl (muK_has l i h hx d))
theorem muI_has (l : List Ws) {n i k x : Nat} (hi : i < n) (hk : k < i) (hx : marked (apM noMk (fsK l i) (fsK l k)) x = true) : marked (muI l n) x = true := by
  have h1 : marked (muI l (i + 1)) x = true := by
    have := muK_has l i (muI_len l i) hx (i - (k + 1))
    rw [show k + 1 + (i - (k + 1)) = i by omega] at this
    exact this
  have := muI_keep l h1 (n - (i + 1))
  rw [show i + 1 + (n - (i + 1)) = n by omega] at this
  exact this

def ownL (l : List Ws) (i k : Nat) : List ByteArray := letL (apM noMk (fsK l i) (fsK l k))
def clash (l : List Ws) : Bool := (List.range l.length).any fun i => (List.range i).any fun k => decide ((ownL l i k).length = 0)
def FreeTo (l : List Ws) (i : Nat) : Prop := ∀ a, a < i → ∀ b, b < a → ¬ (ownL l a b).length = 0
theorem clash_yes {l : List Ws} {i k : Nat} (hi : i < l.length) (hk : k < i) (h : (ownL l i k).length = 0) : clash l = true := by
  unfold clash
  rw [List.any_eq_true]
  refine ⟨i, List.mem_range.2 hi, ?_⟩
  rw [List.any_eq_true]
  exact ⟨k, List.mem_range.2 hk, decide_eq_true h⟩
theorem clash_no {l : List Ws} (h : FreeTo l l.length) : clash l = false := by
  cases hc : clash l
  · rfl
  · unfold clash at hc
    rw [List.any_eq_true] at hc
    obtain ⟨i, hi, hc⟩ := hc
    rw [List.any_eq_true] at hc
    obtain ⟨k, hk, hc⟩ := hc
    exact absurd (of_decide_eq_true hc) (h i (List.mem_range.1 hi) k (List.mem_range.1 hk))

/-- all letters together tell all machines apart -/
theorem full_good {l : List Ws} (hone : ∀ i, Ones (fsK l i)) (hfree : FreeTo l l.length) : goodL l (letL (muI l l.length)) = true := by
  refine goodL_yes fun i hi k hk => ?_
  have h0 := hfree i hi k hk
  obtain ⟨z, hz⟩ := List.exists_mem_of_length_pos (Nat.pos_of_ne_zero h0)
  unfold ownL letL at hz
  obtain ⟨b, hb, rfl⟩ := List.mem_map.1 hz
  obtain ⟨hb1, hb2⟩ := mem_bytes.1 hb
  have hin : oneT b ∈ letL (muI l l.length) := by
    unfold letL
    exact List.mem_map.2 ⟨b, mem_bytes.2 ⟨hb1, muI_has l hi hk hb2⟩, rfl⟩
  unfold tellP
  rw [List.any_eq_true]
  refine ⟨_, hin, ?_⟩
  rcases (apM_mem noMk_len b).1 hb2 with h | ⟨f, hf, hd, he⟩
  · rw [marked_noMk] at h; cases h
  · have hs : f.1.size = 1 := by
      rcases List.mem_append.1 hf with h | h
      · exact hone i f h
      · exact hone k f h
    rw [headN_one hs, he] at hd
    exact hd
theorem first_map (L : List ByteArray) : (firstC L.length 0).map (ltK L) = L := by
  apply List.ext_getElem
  · simp [firstC]
  · intro i h1 h2
    simp only [firstC, List.getElem_map, List.getElem_range, Nat.add_zero]
    exact ltK_get h2
theorem choR_full {l : List Ws} {L : List ByteArray} (h : goodL l L = true) : ∃ c, choR l L [] L.length 0 = some c := by
  refine ⟨firstC L.length 0, full_find ?_⟩
  unfold pB
  rw [List.nil_append, first_map]
  exact h

/-- what is handed back -/
def fewAll (l : List Ws) : List ByteArray × Int :=
  if okWs (l.map Ws.d) = false then ([], 1) else if clash l then ([], 9) else if 16 < (letL (muI l l.length)).length then ([], 5)
  else match fewest (letL (muI l l.length)).length (pB l (letL (muI l l.length)) []) with | some c => (c.map (ltK (letL (muI l l.length))), 0) | none => ([], 0)
theorem few_bad {l : List Ws} (h : okWs (l.map Ws.d) = false) : fewAll l = ([], 1) := by unfold fewAll; rw [if_pos h]
theorem few_clash {l : List Ws} (h : okWs (l.map Ws.d) = true) (h2 : clash l = true) : fewAll l = ([], 9) := by unfold fewAll; rw [if_neg (by rw [h]; decide), if_pos h2]
theorem few_full {l : List Ws} (h : okWs (l.map Ws.d) = true) (h2 : clash l = false) (h3 : 16 < (letL (muI l l.length)).length) : fewAll l = ([], 5) := by
  unfold fewAll; rw [if_neg (by rw [h]; decide), if_neg (by rw [h2]; decide), if_pos h3]
theorem few_ok {l : List Ws} (h : okWs (l.map Ws.d) = true) (h2 : clash l = false) (h3 : ¬ 16 < (letL (muI l l.length)).length) {s : Nat} {c : List Nat} (hs : s ≤ (letL (muI l l.length)).length)
    (hno : ∀ t, t < s → choR l (letL (muI l l.length)) [] t 0 = none) (hyes : choR l (letL (muI l l.length)) [] s 0 = some c) : fewAll l = (c.map (ltK (letL (muI l l.length))), 0) := by
  unfold fewAll
  rw [if_neg (by rw [h]; decide), if_neg (by rw [h2]; decide), if_neg h3, fewest_at hs hno hyes]
theorem okWs_ones {l : List Ws} (h : okWs (l.map Ws.d) = true) : (∀ i, Ones (fsK l i)) ∧ l.length ≤ 12 := by
  unfold okWs at h
  rw [Bool.and_eq_true] at h
  obtain ⟨h, h12⟩ := h
  have hb := isNone_at h
  refine ⟨?_, by have := of_decide_eq_true h12; simpa using this⟩
  intro i
  unfold fsK
  by_cases hi : i < l.length
  · rw [dif_pos hi]
    have := hb i (by simpa using hi)
    rw [badW_get hi] at this
    rw [Bool.or_eq_false_iff] at this
    have h1 : oneB l[i].nm l[i].fs = true := by simpa using this.1
    exact (oneB_get h1).1
  · rw [dif_neg hi]; intro f hf; cases hf
end Go.Proofs.Ythhpeanlpikjbaa
