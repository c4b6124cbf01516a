/-
  Texts written out: the codes of a dictionary and a text, what a short word stands for, and both walks of ExpandText.
-/
import Derived.Test.YtnjdoedhhpkjhaaWoCode
namespace Go.Proofs.Ytnjdoedhhpkjhaa
open Go.RowKit Go.ChangeShapes Go.WideShapes Go.Maps
set_option linter.unusedVariables false
attribute [local go_sem ↓] Go.wp_at_zero Go.wp_at_succ

theorem noteWords_b {b : Bool} (s : ByteArray) (w : World) (hs : s.size ≤ 1048576) (h : noteB s = b) : Calls Try.prog 59 #[.string s] w (NoteRet w.heap.size w (wordsL s) b) := by
  subst h; exact noteWords_any s w hs
theorem sWords_b {b : Bool} (s : ByteArray) (w : World) (hs : s.size ≤ 1048576) (h : noteB s = b) : Calls Try.prog 57 #[.string s] w (NoteRet w.heap.size w (wordsL s) b) := by
  subst h; exact sWords_any s w hs

def noteW (l : List Ab) (s : ByteArray) : List ByteArray := if okL l = true then (if noteB s = true then wordsL s else []) else []
def noteC (l : List Ab) (s : ByteArray) : Int := if okL l = true then (if noteB s = true then 0 else 7) else 1
theorem note_inv {l : List Ab} {s : ByteArray} (h : okL l = false) : noteW l s = [] ∧ noteC l s = 1 := by simp [noteW, noteC, h]
theorem note_syn {l : List Ab} {s : ByteArray} (h : okL l = true) (h2 : noteB s = false) : noteW l s = [] ∧ noteC l s = 7 := by simp [noteW, noteC, h, h2]
theorem note_ok {l : List Ab} {s : ByteArray} (h : okL l = true) (h2 : noteB s = true) : noteW l s = wordsL s ∧ noteC l s = 0 := by simp [noteW, noteC, h, h2]
/-- texts in new memory, and a code -/
def StrRet (B : Nat) (w : World) (L : List ByteArray) (c : Int) (e : Ending) (w' : World) : Prop :=
  ∃ ao cap, e = .returned (.tuple #[.slice ao L.length cap, .int .i64 c]) ∧ w'.ownsRow B 9 1 (.slice ao L.length cap) L.length (strs L) ∧ Below B w w'
theorem strRet_nil {B : Nat} {w w' : World} {L : List ByteArray} {c d : Int} (hL : L = []) (hc : c = d) (h : Below B w w') : StrRet B w L c (.returned (.tuple #[.slice none 0 0, .int .i64 d])) w' := by
  subst hL; subst hc
  exact ⟨none, 0, rfl, World.ownsRow_nil _ _ _ _, h⟩

set_option maxHeartbeats 4000000 in
theorem noteCode_any (ao : Option Addr) (n cap : Nat) (l : List Ab) (s : ByteArray) (w : World) (hn : n = l.length) (hr : Rd w ao (abs l)) (hs : abSmall l) (hm : n ≤ 1048576) (hs2 : s.size ≤ 1048576) :
    Calls Try.prog 35 #[.slice ao n cap, .string s] w (StrRet w.heap.size w (noteW l s) (noteC l s)) := by
  have HN := hid hn
  clear hn
  cases hok : okL l
  · have hR := hid (note_inv (s := s) hok)
    go_enter Try.func35, Try.ntmps35
    go_wp2_with (go_at_call 58; refine (ok_any ao n cap l _ HN.out hr hs hm).mono ?_; rw [hok]; rintro e w1 ⟨rfl, hb1⟩)
    go_ret2
    exact strRet_nil hR.out.1 hR.out.2 hb1
  cases hno : noteB s
  · have hR := hid (note_syn hok hno)
    go_enter Try.func35, Try.ntmps35
    go_wp2_with (first | (go_at_call 58; refine (ok_any ao n cap l _ HN.out hr hs hm).mono ?_; rw [hok]; rintro e w1 ⟨rfl, hb1⟩) | (go_at_call 59; refine (noteWords_b s _ hs2 hno).mono ?_; rintro e w2 ⟨v, rfl, hb2, _⟩))
    go_ret2
    exact strRet_nil hR.out.1 hR.out.2 (hb1.trans (hb2.mono hb1.size))
  · have hR := hid (note_ok hok hno)
    go_enter Try.func35, Try.ntmps35
    go_wp2_with (first | (go_at_call 58; refine (ok_any ao n cap l _ HN.out hr hs hm).mono ?_; rw [hok]; rintro e w1 ⟨rfl, hb1⟩) | (go_at_call 59; refine (noteWords_b s _ hs2 hno).mono ?_; rintro e w2 ⟨v, rfl, hb2, hv⟩; obtain ⟨bo, c2, rfl, ho2⟩ := hv rfl; clear hv))
    go_ret2
    rw [hR.out.1, hR.out.2]
    exact ⟨bo, c2, rfl, owns_mono ho2 hb1.size, hb1.trans (hb2.mono hb1.size)⟩

set_option maxHeartbeats 4000000 in
theorem sCode_any (ao : Option Addr) (n cap : Nat) (l : List Ab) (s : ByteArray) (w : World) (hn : n = l.length) (hr : Rd w ao (abs l)) (hs : abSmall l) (hm : n ≤ 1048576) (hs2 : s.size ≤ 1048576) :
    Calls Try.prog 32 #[.slice ao n cap, .string s] w (StrRet w.heap.size w (noteW l s) (noteC l s)) := by
  have HN := hid hn
  clear hn
  cases hok : okL l
  · have hR := hid (note_inv (s := s) hok)
    go_enter Try.func32, Try.ntmps32
    go_wp2_with (go_at_call 56; refine (sOk_any ao n cap l _ HN.out hr hs hm).mono ?_; rw [hok]; rintro e w1 ⟨rfl, hb1⟩)
    go_ret2
    exact strRet_nil hR.out.1 hR.out.2 hb1
  cases hno : noteB s
  · have hR := hid (note_syn hok hno)
    go_enter Try.func32, Try.ntmps32
    go_wp2_with (first | (go_at_call 56; refine (sOk_any ao n cap l _ HN.out hr hs hm).mono ?_; rw [hok]; rintro e w1 ⟨rfl, hb1⟩) | (go_at_call 57; refine (sWords_b s _ hs2 hno).mono ?_; rintro e w2 ⟨v, rfl, hb2, _⟩))
    go_ret2
    exact strRet_nil hR.out.1 hR.out.2 (hb1.trans (hb2.mono hb1.size))
  · have hR := hid (note_ok hok hno)
    go_enter Try.func32, Try.ntmps32
    go_wp2_with (first | (go_at_call 56; refine (sOk_any ao n cap l _ HN.out hr hs hm).mono ?_; rw [hok]; rintro e w1 ⟨rfl, hb1⟩) | (go_at_call 57; refine (sWords_b s _ hs2 hno).mono ?_; rintro e w2 ⟨v, rfl, hb2, hv⟩; obtain ⟨bo, c2, rfl, ho2⟩ := hv rfl; clear hv))
    go_ret2
    rw [hR.out.1, hR.out.2]
    exact ⟨bo, c2, rfl, owns_mono ho2 hb1.size, hb1.trans (hb2.mono hb1.size)⟩

/-- what a short word stands for; the empty text if it is none -/
def longW (l : List Ab) (x : ByteArray) : ByteArray := match firstAt (sameS l x) l.length with | some k => if h : k < l.length then l[k].2 else ⟨#[]⟩ | none => ⟨#[]⟩
theorem long_hit {l : List Ab} {x : ByteArray} {k : Nat} (h : k < l.length) (hN : NoneUpTo (sameS l x) k) (he : sameS l x k = true) : longW l x = l[k].2 := by
  unfold longW; rw [first_hit hN he h]; simp [h]
theorem long_none {l : List Ab} {x : ByteArray} (hN : NoneUpTo (sameS l x) l.length) : longW l x = ⟨#[]⟩ := by
  unfold longW; rw [first_none hN]
theorem first_some {p : Nat → Bool} {n k : Nat} (h : firstAt p n = some k) : k < n ∧ p k = true := by
  unfold firstAt at h
  rw [List.find?_range_eq_some] at h
  exact ⟨by simpa using h.2.1, h.1⟩
theorem long_has (l : List Ab) (x : ByteArray) : (hasS l x = false ∧ shortI l x = -1 ∧ longW l x = ⟨#[]⟩) ∨ (hasS l x = true ∧ ∃ j : Nat, shortI l x = (j : Int) ∧ ∃ h : j < l.length, l[j].2 = longW l x) := by
  unfold hasS shortI longW
  cases h : firstAt (sameS l x) l.length with
  | none => exact .inl ⟨rfl, rfl, rfl⟩
  | some k => exact .inr ⟨rfl, k, rfl, (first_some h).1, by simp [(first_some h).1]⟩
def expW (l : List Ab) (x : ByteArray) : ByteArray := if hasS l x = true then longW l x else x
theorem exp_yes {l : List Ab} {x : ByteArray} (h : hasS l x = true) : expW l x = longW l x := by simp [expW, h]
theorem exp_no {l : List Ab} {x : ByteArray} (h : hasS l x = false) : expW l x = x := by simp [expW, h]
theorem long_size {l : List Ab} {x : ByteArray} (h : okL l = true) : (longW l x).size ≤ 30 := by
  rcases long_has l x with ⟨_, _, h2⟩ | ⟨_, j, _, hj, h2⟩
  · rw [h2]; decide
  · rw [← h2]; exact (abOk_true (okL_ab h hj)).2.2.2.2.2
theorem exp_size {l : List Ab} {x : ByteArray} (h : okL l = true) (hx : x.size ≤ 30) : (expW l x).size ≤ 30 := by
  unfold expW
  split
  · exact long_size h
  · exact hx

/-- so many words done, the rest as they were -/
def mixL (f : ByteArray → ByteArray) (L : List ByteArray) (k : Nat) : List ByteArray := (L.map f).take k ++ L.drop k
theorem mix_zero (f : ByteArray → ByteArray) (L : List ByteArray) : mixL f L 0 = L := by simp [mixL]
theorem mix_len (f : ByteArray → ByteArray) (L : List ByteArray) (k : Nat) : (mixL f L k).length = L.length := by
  unfold mixL
  rw [List.length_append, List.length_take, List.length_map, List.length_drop]; omega
theorem mix_all (f : ByteArray → ByteArray) (L : List ByteArray) : mixL f L L.length = L.map f := by
  unfold mixL
  rw [List.drop_length, List.append_nil, List.take_of_length_le (by simp)]
theorem mix_at {f : ByteArray → ByteArray} {L : List ByteArray} {k : Nat} (h : k < L.length) : (mixL f L k)[k]? = some L[k] := by
  unfold mixL
  rw [List.getElem?_append_right (by rw [List.length_take]; exact Nat.min_le_left _ _), List.length_take, List.length_map, List.getElem?_drop, Nat.min_eq_left (by omega), Nat.sub_self, Nat.add_zero, List.getElem?_eq_getElem h]
theorem mix_next {f : ByteArray → ByteArray} {L : List ByteArray} {k : Nat} (h : k < L.length) : (mixL f L k).set k (f L[k]) = mixL f L (k + 1) := by
  have h2 : k < (L.map f).length := by simpa using h
  have hl : ((L.map f).take k).length = k := by rw [List.length_take, List.length_map]; omega
  unfold mixL
  rw [List.set_append_right _ _ (by omega), hl, Nat.sub_self, List.drop_eq_getElem_cons h, List.set_cons_zero, List.take_succ_eq_append_getElem h2, List.append_assoc]
  simp
theorem mix_strs {f : ByteArray → ByteArray} {L : List ByteArray} {k : Nat} (h : k < L.length) : (strs (mixL f L k)).set k (.string (f L[k])) = strs (mixL f L (k + 1)) := by
  rw [← mix_next h]
  simp [strs, List.map_set]
theorem mix_same {f : ByteArray → ByteArray} {L : List ByteArray} {k : Nat} (h : k < L.length) (he : f L[k] = L[k]) : mixL f L (k + 1) = mixL f L k := by
  rw [← mix_next h, he]
  apply List.ext_getElem?
  intro j
  by_cases e : k = j
  · subst e
    rw [List.getElem?_set_self (by rw [mix_len]; exact h), mix_at h]
  · rw [List.getElem?_set_ne e]

def expR (l : List Ab) (s : ByteArray) : ByteArray × Int := if noteC l s = 0 then (joinB ((noteW l s).map (expW l)), 0) else (⟨#[]⟩, noteC l s)
theorem expR_ok {l : List Ab} {s : ByteArray} (h : okL l = true) (h2 : noteB s = true) : expR l s = (joinB ((wordsL s).map (expW l)), 0) := by simp [expR, (note_ok h h2).1, (note_ok h h2).2]
theorem expR_bad {l : List Ab} {s : ByteArray} (h : noteC l s ≠ 0) : expR l s = (⟨#[]⟩, noteC l s) := by simp [expR, h]
theorem note_three (l : List Ab) (s : ByteArray) : (okL l = true ∧ noteB s = true) ∨ noteC l s = 1 ∨ noteC l s = 7 := by
  cases h : okL l
  · exact .inr (.inl (note_inv h).2)
  · cases h2 : noteB s
    · exact .inr (.inr (note_syn h h2).2)
    · exact .inl ⟨rfl, rfl⟩
theorem words_facts {s : ByteArray} (h : noteB s = true) : (wordsL s).length ≤ 201 ∧ ∀ x ∈ wordsL s, 1 ≤ x.size ∧ x.size ≤ 30 := by
  have := words_len s
  have := note_200 h
  exact ⟨by omega, fun x hx => wd_size (note_okTo h x hx)⟩

end Go.Proofs.Ytnjdoedhhpkjhaa
