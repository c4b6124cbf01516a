/-
  Texts in order: plain facts, and the call of sort.Strings.
-/
import Derived.Test.YtnjdoedhhpkjhaaStrLay
import Derived.Test.YtnjdoedhhpkjhaaPutG
import Derived.Test.YtnjdoedhhpkjhaaLess
namespace Go.Proofs.Ytnjdoedhhpkjhaa
open Go.Shelf Go.RowKit Go.Lib Go.Sort
set_option linter.unusedVariables false

theorem bytesLess_irr (a : List UInt8) : Op.bytesLess a a = false := by
  induction a with
  | nil => rfl
  | cons x a ih =>
    have h : ¬ x < x := by rw [UInt8.lt_iff_toNat_lt]; omega
    simp [Op.bytesLess, h, ih]
theorem bytesLess_trans (a : List UInt8) : ∀ b c, Op.bytesLess a b = true → Op.bytesLess b c = true → Op.bytesLess a c = true := by
  induction a with
  | nil =>
    intro b c h1 h2
    cases b with
    | nil => simp [Op.bytesLess] at h1
    | cons y b =>
      cases c with
      | nil => simp [Op.bytesLess] at h2
      | cons z c => simp [Op.bytesLess]
  | cons x a ih =>
    intro b c h1 h2
    cases b with
    | nil => simp [Op.bytesLess] at h1
    | cons y b =>
      cases c with
      | nil => simp [Op.bytesLess] at h2
      | cons z c =>
        simp only [Op.bytesLess] at h1 h2 ⊢
        simp only [UInt8.lt_iff_toNat_lt, Bool.or_eq_true, Bool.and_eq_true, decide_eq_true_eq, beq_iff_eq] at h1 h2 ⊢
        rcases h1 with h1 | ⟨rfl, h1⟩
        · rcases h2 with h2 | ⟨rfl, h2⟩
          · left; omega
          · left; exact h1
        · rcases h2 with h2 | ⟨rfl, h2⟩
          · left; exact h2
          · right; exact ⟨rfl, ih _ _ h1 h2⟩
def ltT (a b : ByteArray) : Bool := Op.bytesLess a.toList b.toList
theorem ltT_irr (a : ByteArray) : ltT a a = false := bytesLess_irr _
theorem ltT_trans {a b c : ByteArray} (h1 : ltT a b = true) (h2 : ltT b c = true) : ltT a c = true := bytesLess_trans _ _ _ h1 h2
theorem ltT_or {a b : ByteArray} (h : ltT a b = false) (h2 : a ≠ b) : ltT b a = true := by
  have := bytesLess_tri a.toList b.toList
  unfold ltT at *
  rw [h] at this
  have h3 : (b.toList == a.toList) = false := by
    apply beq_eq_false_iff_ne.2
    intro e
    exact h2 (ext_tl e.symm)
  rw [h3] at this
  simpa using this.symm
def Rise (L : List ByteArray) : Prop := L.Pairwise fun a b => ltT a b = true
theorem rise_uniq : ∀ {L M : List ByteArray}, Rise L → Rise M → (∀ x, x ∈ L ↔ x ∈ M) → L = M
  | [], [], _, _, _ => rfl
  | [], y :: M, _, _, h => by have := (h y).2 List.mem_cons_self; cases this
  | x :: L, [], _, _, h => by have := (h x).1 List.mem_cons_self; cases this
  | x :: L, y :: M, hL, hM, h => by
    obtain ⟨hL1, hL2⟩ := List.pairwise_cons.1 hL
    obtain ⟨hM1, hM2⟩ := List.pairwise_cons.1 hM
    have e : x = y := by
      rcases List.mem_cons.1 ((h x).1 List.mem_cons_self) with e | hx
      · exact e
      · rcases List.mem_cons.1 ((h y).2 List.mem_cons_self) with e | hy
        · exact e.symm
        · have := ltT_trans (hL1 y hy) (hM1 x hx)
          rw [ltT_irr] at this; cases this
    subst e
    have hLM : ∀ z, z ∈ L ↔ z ∈ M := by
      intro z
      constructor
      · intro hz
        rcases List.mem_cons.1 ((h z).1 (List.mem_cons_of_mem _ hz)) with e | h2
        · subst e
          have := hL1 z hz
          rw [ltT_irr] at this; cases this
        · exact h2
      · intro hz
        rcases List.mem_cons.1 ((h z).2 (List.mem_cons_of_mem _ hz)) with e | h2
        · subst e
          have := hM1 z hz
          rw [ltT_irr] at this; cases this
        · exact h2
    rw [rise_uniq hL2 hM2 hLM]
theorem rise_get {L : List ByteArray} (h : Rise L) {i j : Nat} (hi : i < j) (hj : j < L.length) : ltT (L[i]'(by omega)) L[j] = true := List.pairwise_iff_getElem.1 h i j (by omega) hj hi
theorem ins_facts {L : List ByteArray} (hL : Rise L) (T : ByteArray) : Rise (insP L T) ∧ ∀ x, x ∈ insP L T ↔ x ∈ L ∨ x = T := by
  have hlt : ∀ k (hk : k < L.length), k < placeP L T → ltT L[k] T = true := by
    intro k hk hkp
    unfold placeP at hkp
    cases h : firstAt (stopP L T) L.length with
    | none =>
      unfold firstAt at h
      rw [List.find?_range_eq_none] at h
      have h1 := h k hk
      rw [stopP_get hk] at h1
      unfold ltT
      cases e : Op.bytesLess L[k].toList T.toList
      · rw [e] at h1; simp at h1
      · rfl
    | some p =>
      rw [h] at hkp
      unfold firstAt at h
      rw [List.find?_range_eq_some] at h
      have h1 := h.2.2 k hkp
      rw [stopP_get hk] at h1
      unfold ltT
      cases e : Op.bytesLess L[k].toList T.toList
      · rw [e] at h1; simp at h1
      · rfl
  by_cases hp : placeP L T < L.length
  · have hst : ltT L[placeP L T] T = false := by
      unfold placeP at hp
      cases h : firstAt (stopP L T) L.length with
      | none => rw [h] at hp; simp at hp
      | some p =>
        have e : placeP L T = p := by unfold placeP; rw [h]; rfl
        unfold firstAt at h
        rw [List.find?_range_eq_some] at h
        have h1 := h.1
        have hpl : p < L.length := by simpa using h.2.1
        rw [stopP_get hpl] at h1
        simp only [e]
        unfold ltT
        simpa using h1
    obtain ⟨k, hk⟩ : ∃ k, k = placeP L T := ⟨_, rfl⟩
    cases he : (L[placeP L T].toList == T.toList)
    · have e : insP L T = L.take k ++ [T] ++ L.drop k := by
        unfold insP
        simp only [dif_pos hp, he, Bool.false_eq_true, if_false, hk]
      have hgt : ltT T (L[k]'(by omega)) = true := by
        have := ltT_or (a := L[placeP L T]) (b := T) hst (fun e2 => by rw [e2] at he; simp at he)
        simpa only [hk] using this
      rw [e]
      refine ⟨?_, ?_⟩
      · unfold Rise
        rw [List.pairwise_append, List.pairwise_append]
        refine ⟨⟨List.Pairwise.sublist (List.take_sublist _ _) hL, by simp, ?_⟩, List.Pairwise.sublist (List.drop_sublist _ _) hL, ?_⟩
        · intro a ha b hb
          rw [List.mem_singleton.1 hb]
          rw [List.mem_take_iff_getElem] at ha
          obtain ⟨i, hi, rfl⟩ := ha
          exact hlt i (by omega) (by omega)
        · intro a ha b hb
          have hb2 : ltT T b = true := by
            rw [List.mem_drop_iff_getElem] at hb
            obtain ⟨i, hi, rfl⟩ := hb
            by_cases e0 : i = 0
            · subst e0; exact hgt
            · exact ltT_trans hgt (rise_get hL (by omega) (by omega))
          rcases List.mem_append.1 ha with ha | ha
          · rw [List.mem_take_iff_getElem] at ha
            obtain ⟨i, hi, rfl⟩ := ha
            exact ltT_trans (hlt i (by omega) (by omega)) hb2
          · rw [List.mem_singleton.1 ha]; exact hb2
      · intro x
        have hx : x ∈ L ↔ x ∈ L.take k ∨ x ∈ L.drop k := by rw [← List.mem_append, List.take_append_drop]
        rw [List.mem_append, List.mem_append, List.mem_singleton, hx]
        constructor
        · rintro ((h | h) | h)
          · exact .inl (.inl h)
          · exact .inr h
          · exact .inl (.inr h)
        · rintro ((h | h) | h)
          · exact .inl (.inl h)
          · exact .inr h
          · exact .inl (.inr h)
    · have e : insP L T = L := by
        unfold insP
        simp only [dif_pos hp, he, if_true]
      rw [e]
      refine ⟨hL, fun x => ⟨.inl, ?_⟩⟩
      rintro (h | h)
      · exact h
      · have : L[placeP L T] = T := ext_tl (by simpa using he)
        rw [h, ← this]
        exact List.getElem_mem hp
  · have e : insP L T = L ++ [T] := by unfold insP; rw [dif_neg hp]
    rw [e]
    refine ⟨?_, fun x => by simp⟩
    unfold Rise
    rw [List.pairwise_append]
    refine ⟨hL, by simp, ?_⟩
    intro a ha b hb
    rw [List.mem_singleton.1 hb]
    obtain ⟨i, hi, rfl⟩ := List.getElem_of_mem ha
    exact hlt i hi (by omega)

theorem less_iff : ∀ a b : List UInt8, Op.bytesLess a b = true ↔ a < b
  | [], [] => by simp [Op.bytesLess]
  | [], y :: b => by simp [Op.bytesLess]
  | x :: a, [] => by simp [Op.bytesLess]
  | x :: a, y :: b => by
    have ih := less_iff a b
    simp only [Op.bytesLess, Bool.or_eq_true, Bool.and_eq_true, decide_eq_true_eq, beq_iff_eq, List.cons_lt_cons_iff, ih]
theorem le_bool (a b : List UInt8) : decide (a ≤ b) = !(Op.bytesLess b a) := by
  have h : a ≤ b ↔ ¬ b < a := Iff.rfl
  cases e : Op.bytesLess b a
  · apply decide_eq_true
    rw [h, ← less_iff, e]; decide
  · apply decide_eq_false
    rw [h, ← less_iff, e]; simp
/-- texts, sorted -/
def sortB (L : List ByteArray) : List ByteArray := ((L.map (·.data.toList)).mergeSort fun x y => decide (x ≤ y)).map fun x => ⟨x.toArray⟩
theorem sortB_len (L : List ByteArray) : (sortB L).length = L.length := by simp [sortB, List.length_mergeSort]
theorem sortB_mem (L : List ByteArray) (x : ByteArray) : x ∈ sortB L ↔ x ∈ L := by
  unfold sortB
  rw [List.mem_map]
  constructor
  · rintro ⟨y, hy, rfl⟩
    rw [List.mem_mergeSort, List.mem_map] at hy
    obtain ⟨z, hz, rfl⟩ := hy
    have e : (⟨z.data.toList.toArray⟩ : ByteArray) = z := by cases z; simp
    rw [e]; exact hz
  · intro hx
    refine ⟨x.data.toList, ?_, by cases x; simp⟩
    rw [List.mem_mergeSort, List.mem_map]
    exact ⟨x, hx, rfl⟩
theorem data_tl (x : ByteArray) : x.data.toList = x.toList := (ByteArray.toList_eq x).symm
theorem arr_tl (l : List UInt8) : (⟨l.toArray⟩ : ByteArray).toList = l := by rw [ByteArray.toList_eq]
theorem sortB_rise {L : List ByteArray} (hn : L.Nodup) : Rise (sortB L) := by
  have hs := List.pairwise_mergeSort (le := fun x y : List UInt8 => decide (x ≤ y)) (fun a b c h1 h2 => by
    rw [le_bool] at *
    cases e : Op.bytesLess c a
    · rfl
    · have h3 := bytesLess_tri b a
      have h4 := bytesLess_tri c b
      simp only [Bool.not_eq_true'] at h1 h2
      by_cases hab : a = b
      · subst hab; rw [h2] at e; cases e
      · have hlt : Op.bytesLess a b = true := by
          rw [h1] at h3
          have : (a == b) = false := by simpa using hab
          rw [this] at h3; simpa using h3.symm
        have := bytesLess_trans c a b e hlt
        rw [h2] at this; cases this) (fun a b => by
    rw [le_bool, le_bool]
    cases h1 : Op.bytesLess b a
    · rfl
    · cases h2 : Op.bytesLess a b
      · rfl
      · have := bytesLess_trans _ _ _ h1 h2
        rw [bytesLess_irr] at this; cases this) (L.map (·.data.toList))
  have hnd : ((L.map (·.data.toList)).mergeSort fun x y => decide (x ≤ y)).Nodup := by
    rw [(List.mergeSort_perm _ _).nodup_iff]
    unfold List.Nodup
    rw [List.pairwise_map]
    exact hn.imp fun h e => h (ext_tl (by rw [← data_tl, ← data_tl, e]))
  unfold Rise sortB
  rw [List.pairwise_map]
  have hboth := hs.and hnd
  refine hboth.imp fun {a b} h => ?_
  obtain ⟨h1, h2⟩ := h
  rw [le_bool] at h1
  unfold ltT
  rw [arr_tl, arr_tl]
  have h3 := bytesLess_tri b a
  simp only [Bool.not_eq_true'] at h1
  rw [h1] at h3
  have : (a == b) = false := by simpa using h2
  rw [this] at h3
  simpa using h3.symm

section
variable {α : Type} [Inhabited α]
theorem grownBy_sorted (enc : α → Value) (w : World) (k g : Nat) (d : Array α) (os : Array Obj) : w.grownBy (grow (putRow enc (Sort.ahead w k) g 0 d) os) (some g) := by
  refine ⟨rfl, rfl, rfl, ?_, ?_⟩
  · rw [size_grow, size_putRow, heap_ahead]; omega
  · intro q hq hne
    rw [heap_grow_old _ _ (by rw [size_putRow, heap_ahead]; exact hq)]
    show ((Sort.ahead w k).heap.modify g (onCells (putCells enc 0 d)))[q]? = w.heap[q]?
    rw [Array.getElem?_modify, if_neg (fun e => hne (by rw [e]))]; rfl
theorem owns_sorted (enc : α → Value) {w : World} {B : Nat} {E : TypeId} {g n cap : Nat} {xs : List Value} (h : w.ownsRow B E 1 (.slice (some ⟨g, 0, none⟩) n cap) n xs) (k : Nat) (d : Array α) (os : Array Obj) (hd : d.size = n) :
    (grow (putRow enc (Sort.ahead w k) g 0 d) os).ownsRow B E 1 (.slice (some ⟨g, 0, none⟩) n cap) n (d.toList.map enc) := by
  have hlt := (h.lt g rfl).2
  refine ⟨by simp [hd], .inr ?_⟩
  rcases h.2 with ⟨hv, _⟩ | ⟨g', cap', cur, hv, hb, hg, h1, h2, h3, h4⟩
  · cases hv
  cases hv
  refine ⟨g, cap, putCells enc 0 d cur, rfl, hb, ?_, h1, h2, ?_, ?_⟩
  · rw [heap_grow_old _ _ (by rw [size_putRow, heap_ahead]; exact hlt)]
    show ((Sort.ahead w k).heap.modify g (onCells (putCells enc 0 d)))[g]? = _
    rw [Array.getElem?_modify, if_pos rfl, heap_ahead, hg]; rfl
  · simp [putCells, h3]
  · apply List.ext_getElem
    · simp [putCells]; omega
    · intro i h5 h6
      have hi : i < d.size := by simpa using h6
      simp [putCells, hi]
end


theorem strs_enc (l : List (List UInt8)) : strs (l.map fun x => ⟨x.toArray⟩) = l.map encStr := by simp [strs, encStr]
theorem strSort_any (B g cap n : Nat) (L : List ByteArray) (w : World) (hn : n = L.length) (hm : n ≤ 1048576) (hown : w.ownsRow B 9 1 (.slice (some ⟨g, 0, none⟩) n cap) n (strs L)) :
    Calls Try.prog 46 #[.slice (some ⟨g, 0, none⟩) n cap] w fun e w' => e = .returned (.tuple #[]) ∧ w'.ownsRow B 9 1 (.slice (some ⟨g, 0, none⟩) n cap) n (strs (sortB L)) ∧ w.grownBy w' (some g) := by
  obtain ⟨ss, hss⟩ : ∃ ss, ss = L.map (·.data.toList) := ⟨_, rfl⟩
  have hl : ss.length = n := by rw [hss, List.length_map, hn]
  have hH : Holds encStr w g 0 ss.toArray := by
    intro j hj
    have hj' : j < n := by rw [← hl]; simpa using hj
    have hjL : j < L.length := by omega
    refine ⟨?_, by rw [Nat.zero_add]; exact hown.frozenAt j⟩
    rw [Nat.zero_add, hown.cellAt j (by omega), List.getElem?_eq_getElem (by rw [strs_len]; exact hjL), strs_get]
    have e : ss.toArray[j]! = L[j].data.toList := by
      have hjs : j < ss.toArray.size := hj
      rw [getElem!_pos ss.toArray j hjs]
      simp [hss]
    rw [e]
  have hlt := (hown.lt g rfl).2
  rw [← hl]
  refine (shSort g 0 cap ss w hH hlt (by rw [hl]; omega)).mono ?_
  rintro e w' ⟨rfl, k, os, rfl⟩
  refine ⟨rfl, ?_, grownBy_sorted _ _ _ _ _ _⟩
  have hd : ((ss.mergeSort fun x y => decide (x ≤ y)).toArray).size = n := by simp [List.length_mergeSort, hl]
  have ho := owns_sorted encStr hown k (ss.mergeSort fun x y => decide (x ≤ y)).toArray os hd
  rw [hl]
  unfold sortB
  rw [strs_enc, ← hss]
  exact ho
end Go.Proofs.Ytnjdoedhhpkjhaa
