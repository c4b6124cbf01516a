/-
  Plain facts on layouts: where a letter stands first, which letters have been seen, which layouts are valid. No program in sight.
-/
import Derived.Test.YtaaffcffelkcdaaTextMath
import Derived.Test.YtaaffcffelkcdaaFind
import Derived.Test.YtaaffcffelkcdaaLetMath
namespace Go.Proofs.Ytaaffcffelkcdaa
set_option linter.unusedVariables false

theorem first_some {p : Nat → Bool} {n k : Nat} (h : firstAt p n = some k) : p k = true ∧ k < n ∧ NoneUpTo p k := by
  unfold firstAt at h
  rw [List.find?_range_eq_some] at h
  obtain ⟨h1, h2, h3⟩ := h
  exact ⟨h1, by simpa using h2, fun j hj => by simpa using h3 j hj⟩
theorem first_isNone {p : Nat → Bool} {n : Nat} (h : firstAt p n = none) : NoneUpTo p n := by
  unfold firstAt at h
  rw [List.find?_range_eq_none] at h
  intro j hj
  simpa using h j hj

def byteAt (s : ByteArray) (b : UInt8) (k : Nat) : Bool := if h : k < s.size then decide ((s[k].toNat : Int) = (b.toNat : Int)) else false
theorem byteAt_get {s : ByteArray} {b : UInt8} {k : Nat} (h : k < s.size) : byteAt s b k = decide ((s[k].toNat : Int) = (b.toNat : Int)) := by unfold byteAt; rw [dif_pos h]
def rowAt (rows : List ByteArray) (r : Nat) : ByteArray := rows.getD r ⟨#[]⟩
theorem rowAt_get {rows : List ByteArray} {r : Nat} (h : r < rows.length) : rowAt rows r = rows[r] := by
  unfold rowAt; rw [List.getD, List.getElem?_eq_getElem h]; rfl
def colOf (s : ByteArray) (b : UInt8) : Option Nat := firstAt (byteAt s b) s.size
def hasR (rows : List ByteArray) (b : UInt8) (r : Nat) : Bool := (colOf (rowAt rows r) b).isSome
def spotOf (rows : List ByteArray) (b : UInt8) : Option (Nat × Nat) :=
  match firstAt (hasR rows b) rows.length with
  | some r => (colOf (rowAt rows r) b).map (fun c => (r, c))
  | none => none
theorem hasR_none {rows : List ByteArray} {b : UInt8} {r : Nat} (h : NoneUpTo (byteAt (rowAt rows r) b) (rowAt rows r).size) : hasR rows b r = false := by
  unfold hasR colOf; rw [first_none h]; rfl
theorem hasR_false {rows : List ByteArray} {b : UInt8} {r : Nat} (h : hasR rows b r = false) : NoneUpTo (byteAt (rowAt rows r) b) (rowAt rows r).size := by
  unfold hasR at h
  have h1 : colOf (rowAt rows r) b = none := by simpa using h
  exact first_isNone h1
theorem spot_hit {rows : List ByteArray} {b : UInt8} {r c : Nat} (hr : r < rows.length) (hN : NoneUpTo (hasR rows b) r) (hc : c < (rowAt rows r).size) (hM : NoneUpTo (byteAt (rowAt rows r) b) c) (he : byteAt (rowAt rows r) b c = true) : spotOf rows b = some (r, c) := by
  have h1 : colOf (rowAt rows r) b = some c := first_hit hM he hc
  have h2 : hasR rows b r = true := by unfold hasR; rw [h1]; rfl
  unfold spotOf
  rw [first_hit hN h2 hr]
  simp only [h1]
  rfl
theorem spot_none {rows : List ByteArray} {b : UInt8} (hN : NoneUpTo (hasR rows b) rows.length) : spotOf rows b = none := by
  unfold spotOf; rw [first_none hN]
theorem spot_some {rows : List ByteArray} {b : UInt8} {r c : Nat} (h : spotOf rows b = some (r, c)) : r < rows.length ∧ c < (rowAt rows r).size ∧ NoneUpTo (hasR rows b) r ∧ NoneUpTo (byteAt (rowAt rows r) b) c ∧ byteAt (rowAt rows r) b c = true := by
  unfold spotOf at h
  cases h1 : firstAt (hasR rows b) rows.length with
  | none => rw [h1] at h; cases h
  | some r' =>
    rw [h1] at h
    simp only [Option.map_eq_some_iff, Prod.mk.injEq] at h
    obtain ⟨c', h2, rfl, rfl⟩ := h
    obtain ⟨_, hr, hN⟩ := first_some h1
    obtain ⟨he, hc, hM⟩ := first_some h2
    exact ⟨hr, hc, hN, hM, he⟩

/-- a row's bytes: letters, no slash -/
def rp (c : UInt8) : Bool := gb 33 c && !(decide ((c.toNat : Int) = 47))
def rowB (s : ByteArray) : Bool := s.data.toList.all rp && (decide (1 ≤ s.size) && decide (s.size ≤ 12))
theorem row_upto {s : ByteArray} (h : UpTo rp s s.size) (h1 : 1 ≤ s.size) (h2 : s.size ≤ 12) : rowB s = true := by
  unfold rowB; rw [upto_all h, decide_eq_true h1, decide_eq_true h2]; rfl
theorem row_len {s : ByteArray} (h : ¬ (1 ≤ s.size ∧ s.size ≤ 12)) : rowB s = false := by
  unfold rowB
  by_cases h1 : 1 ≤ s.size
  · rw [decide_eq_false (show ¬ s.size ≤ 12 by omega)]; simp
  · rw [decide_eq_false h1]; simp
theorem row_bad {s : ByteArray} {k : Nat} (h : k < s.size) (hb : rp s[k] = false) : rowB s = false := by
  unfold rowB; rw [upto_bad h hb]; rfl
theorem row_text {s : ByteArray} (h : textB s 33 12 = false) : rowB s = false := by
  by_cases h2 : s.size ≤ 12
  · unfold textB at h
    rw [decide_eq_true (show ((s.size : Int) ≤ 12) by omega), Bool.and_true] at h
    have : s.data.toList.all rp = false := by
      rw [List.all_eq_false] at h ⊢
      obtain ⟨x, hx, hg⟩ := h
      refine ⟨x, hx, ?_⟩
      unfold rp
      have : gb 33 x = false := by simpa using hg
      rw [this]; simp
    unfold rowB; rw [this]; rfl
  · exact row_len (by omega)
theorem text_row {s : ByteArray} (h : textB s 33 12 = true) : (∀ k (hk : k < s.size), gb 33 s[k] = true) ∧ s.size ≤ 12 := by
  unfold textB at h
  simp only [Bool.and_eq_true, decide_eq_true_eq] at h
  refine ⟨fun k hk => ?_, by omega⟩
  have := List.all_eq_true.1 h.1 s[k] (by show s.data[k] ∈ s.data.toList; simp)
  exact this

/-- a letter stands elsewhere first -/
def badC (rows : List ByteArray) (r c : Nat) : Bool := if h : c < (rowAt rows r).size then !(spotOf rows (rowAt rows r)[c] == some (r, c)) else false
theorem badC_get {rows : List ByteArray} {r c : Nat} (h : c < (rowAt rows r).size) : badC rows r c = !(spotOf rows (rowAt rows r)[c] == some (r, c)) := by unfold badC; rw [dif_pos h]
def badRow (rows : List ByteArray) (r : Nat) : Bool := !(rowB (rowAt rows r)) || (firstAt (badC rows r) (rowAt rows r).size).isSome
def layOk (rows : List ByteArray) : Bool := decide (1 ≤ rows.length) && (decide (rows.length ≤ 4) && (firstAt (badRow rows) rows.length).isNone)
theorem badRow_row {rows : List ByteArray} {r : Nat} (h : rowB (rowAt rows r) = false) : badRow rows r = true := by unfold badRow; rw [h]; rfl
theorem badRow_hit {rows : List ByteArray} {r c : Nat} (hc : c < (rowAt rows r).size) (hN : NoneUpTo (badC rows r) c) (h : badC rows r c = true) : badRow rows r = true := by
  unfold badRow; rw [first_hit hN h hc]; simp
theorem badRow_ok {rows : List ByteArray} {r : Nat} (h : rowB (rowAt rows r) = true) (hN : NoneUpTo (badC rows r) (rowAt rows r).size) : badRow rows r = false := by
  unfold badRow; rw [h, first_none hN]; rfl
theorem lay_bad {rows : List ByteArray} {r : Nat} (hr : r < rows.length) (hN : NoneUpTo (badRow rows) r) (h : badRow rows r = true) : layOk rows = false := by
  unfold layOk; rw [first_hit hN h hr]; simp
theorem lay_all {rows : List ByteArray} (hN : NoneUpTo (badRow rows) rows.length) : layOk rows = (decide (1 ≤ rows.length) && decide (rows.length ≤ 4)) := by
  unfold layOk; rw [first_none hN]; simp
theorem lay_len {rows : List ByteArray} (h : ¬ (1 ≤ rows.length ∧ rows.length ≤ 4)) : layOk rows = false := by
  unfold layOk
  by_cases h1 : 1 ≤ rows.length
  · rw [decide_eq_false (show ¬ rows.length ≤ 4 by omega)]; simp
  · rw [decide_eq_false h1]; simp
theorem lay_true {rows : List ByteArray} (h : layOk rows = true) : 1 ≤ rows.length ∧ rows.length ≤ 4 ∧ ∀ r, r < rows.length → rowB (rowAt rows r) = true ∧ ∀ c (hc : c < (rowAt rows r).size), spotOf rows (rowAt rows r)[c] = some (r, c) := by
  unfold layOk at h
  simp only [Bool.and_eq_true, decide_eq_true_eq] at h
  obtain ⟨h1, h2, h3⟩ := h
  refine ⟨h1, h2, fun r hr => ?_⟩
  have hN := first_isNone (show firstAt (badRow rows) rows.length = none by simpa using h3)
  have hb := hN r hr
  unfold badRow at hb
  simp only [Bool.or_eq_false_iff] at hb
  refine ⟨by simpa using hb.1, fun c hc => ?_⟩
  have hM := first_isNone (show firstAt (badC rows r) (rowAt rows r).size = none by simpa using hb.2)
  have := hM c hc
  rw [badC_get hc] at this
  simpa using this
theorem row_size {s : ByteArray} (h : rowB s = true) : 1 ≤ s.size ∧ s.size ≤ 12 := by
  unfold rowB at h
  simp only [Bool.and_eq_true, decide_eq_true_eq] at h
  exact h.2

/-- the marks of the letters ahead of a place -/
def SeenTo (rows : List ByteArray) (r c : Nat) (ms : List Bool) : Prop := ms.length = 256 ∧ ∀ b : UInt8, marked ms b.toNat = false ↔ (NoneUpTo (hasR rows b) r ∧ NoneUpTo (byteAt (rowAt rows r) b) c)
theorem seen_zero (rows : List ByteArray) : SeenTo rows 0 0 (List.replicate 256 false) := ⟨noMarks_len, fun b => ⟨fun _ => ⟨none_zero _, none_zero _⟩, fun _ => marked_none _⟩⟩
theorem seen_next {rows : List ByteArray} {r c : Nat} {ms : List Bool} (h : SeenTo rows r c ms) (hc : c < (rowAt rows r).size) : SeenTo rows r (c + 1) (ms.set (rowAt rows r)[c].toNat true) := by
  obtain ⟨hl, hm⟩ := h
  refine ⟨by rw [List.length_set]; exact hl, fun b => ?_⟩
  have hlt : (rowAt rows r)[c].toNat < ms.length := by rw [hl]; exact UInt8.toNat_lt _
  rw [marked_set hlt, Bool.or_eq_false_iff, hm b]
  constructor
  · rintro ⟨⟨h1, h2⟩, h3⟩
    refine ⟨h1, none_next h2 ?_⟩
    rw [byteAt_get hc]
    simp only [decide_eq_false_iff_not] at h3 ⊢
    omega
  · rintro ⟨h1, h2⟩
    refine ⟨⟨h1, fun j hj => h2 j (by omega)⟩, ?_⟩
    have := h2 c (by omega)
    rw [byteAt_get hc] at this
    simp only [decide_eq_false_iff_not] at this ⊢
    omega
theorem seen_row {rows : List ByteArray} {r : Nat} {ms : List Bool} (h : SeenTo rows r (rowAt rows r).size ms) : SeenTo rows (r + 1) 0 ms := by
  obtain ⟨hl, hm⟩ := h
  refine ⟨hl, fun b => ?_⟩
  rw [hm b]
  constructor
  · rintro ⟨h1, h2⟩
    exact ⟨none_next h1 (hasR_none h2), none_zero _⟩
  · rintro ⟨h1, _⟩
    exact ⟨fun j hj => h1 j (by omega), hasR_false (h1 r (by omega))⟩
theorem seen_new {rows : List ByteArray} {r c : Nat} {ms : List Bool} (hr : r < rows.length) (h : SeenTo rows r c ms) (hc : c < (rowAt rows r).size) (hm : marked ms (rowAt rows r)[c].toNat = false) : badC rows r c = false := by
  obtain ⟨h1, h2⟩ := (h.2 _).1 hm
  rw [badC_get hc, spot_hit hr h1 hc h2 (by rw [byteAt_get hc]; simp)]
  simp
theorem seen_old {rows : List ByteArray} {r c : Nat} {ms : List Bool} (h : SeenTo rows r c ms) (hc : c < (rowAt rows r).size) (hm : marked ms (rowAt rows r)[c].toNat = true) : badC rows r c = true := by
  rw [badC_get hc]
  cases hs : (spotOf rows (rowAt rows r)[c] == some (r, c))
  · rfl
  · exfalso
    have he : spotOf rows (rowAt rows r)[c] = some (r, c) := by simpa using hs
    obtain ⟨_, _, h1, h2, _⟩ := spot_some he
    have := (h.2 _).2 ⟨h1, h2⟩
    rw [hm] at this; cases this
end Go.Proofs.Ytaaffcffelkcdaa
