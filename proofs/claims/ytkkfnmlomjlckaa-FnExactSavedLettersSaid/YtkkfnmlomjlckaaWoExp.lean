/-
  Texts written out: the codes of a dictionary and a text, what a short word stands for, and both walks of ExpandText.
-/
import Derived.Test.YtkkfnmlomjlckaaWoCode
namespace Go.Proofs.Ytkkfnmlomjlckaa
open Go.RowKit Go.ChangeShapes Go.WideShapes Go.Maps
set_option linter.unusedVariables false
attribute [local go_sem ↓] Go.wp_at_zero Go.wp_at_succ

theorem noteWords_b {b : Bool} (s : ByteArray) (w : World) (hs : s.size ≤ 1048576) (h : noteB s = b) : Calls Try.prog 75 #[.string s] w (NoteRet w.heap.size w (wordsL s) b) := by
  subst h; exact noteWords_any s w hs
theorem sWords_b {b : Bool} (s : ByteArray) (w : World) (hs : s.size ≤ 1048576) (h : noteB s = b) : Calls Try.prog 74 #[.string s] w (NoteRet w.heap.size w (wordsL s) b) := by
  subst h; exact sWords_any s w hs

def noteW (l : List Ab) (s : ByteArray) : List ByteArray := if okL l = true then (if noteB s = true then wordsL s else []) else []
def noteC (l : List Ab) (s : ByteArray) : Int := if okL l = true then (if noteB s = true then 0 else 7) else 1
theorem note_inv {l : List Ab} {s : ByteArray} (h : okL l = false) : noteW l s = [] ∧ noteC l s = 1 := by simp [noteW, noteC, h]
theorem note_syn {l : List Ab} {s : ByteArray} (h : okL l = true) (h2 : noteB s = false) : noteW l s = [] ∧ noteC l s = 7 := by simp [noteW, noteC, h, h2]
theorem note_ok {l : List Ab} {s : ByteArray} (h : okL l = true) (h2 : noteB s = true) : noteW l s = wordsL s ∧ noteC l s = 0 := by simp [noteW, noteC, h, h2]
/-- texts in new memory, and a code -/
def StrRet (B : Nat) (w : World) (L : List ByteArray) (c : Int) (e : Ending) (w' : World) : Prop :=
  ∃ ao cap, e = .returned (.tuple #[.slice ao L.length cap, .int .i64 c]) ∧ w'.ownsRow B 9 1 (.slice ao L.length cap) L.length (strs L) ∧ Below B w w'
theorem strRet_nil {B : Nat} {w w' : World} {L : List ByteArray} {c d : Int} (hL : L = []) (hc : c = d) (h : Below B w w') : StrRet B w L c (.returned (.tuple #[.slice none 0 0, .int .i64 d])) w' := by
  subst hL; subst hc
  exact ⟨none, 0, rfl, World.ownsRow_nil _ _ _ _, h⟩

set_option maxHeartbeats 4000000 in
theorem noteCode_any (ao : Option Addr) (n cap : Nat) (l : List Ab) (s : ByteArray) (w : World) (hn : n = l.length) (hr : Rd w ao (abs l)) (hs : abSmall l) (hm : n ≤ 1048576) (hs2 : s.size ≤ 1048576) :
    Calls Try.prog 67 #[.slice ao n cap, .string s] w (StrRet w.heap.size w (noteW l s) (noteC l s)) := by
  have HN := hid hn
  clear hn
  cases hok : okL l
  · have hR := hid (note_inv (s := s) hok)
    go_enter Try.func67, Try.ntmps67
    go_wp2_with (go_at_call 24; refine (ok_any ao n cap l _ HN.out hr hs hm).mono ?_; rw [hok]; rintro e w1 ⟨rfl, hb1⟩)
    go_ret2
    exact strRet_nil hR.out.1 hR.out.2 hb1
  cases hno : noteB s
  · have hR := hid (note_syn hok hno)
    go_enter Try.func67, Try.ntmps67
    go_wp2_with (first | (go_at_call 24; refine (ok_any ao n cap l _ HN.out hr hs hm).mono ?_; rw [hok]; rintro e w1 ⟨rfl, hb1⟩) | (go_at_call 75; refine (noteWords_b s _ hs2 hno).mono ?_; rintro e w2 ⟨v, rfl, hb2, _⟩))
    go_ret2
    exact strRet_nil hR.out.1 hR.out.2 (hb1.trans (hb2.mono hb1.size))
  · have hR := hid (note_ok hok hno)
    go_enter Try.func67, Try.ntmps67
    go_wp2_with (first | (go_at_call 24; refine (ok_any ao n cap l _ HN.out hr hs hm).mono ?_; rw [hok]; rintro e w1 ⟨rfl, hb1⟩) | (go_at_call 75; refine (noteWords_b s _ hs2 hno).mono ?_; rintro e w2 ⟨v, rfl, hb2, hv⟩; obtain ⟨bo, c2, rfl, ho2⟩ := hv rfl; clear hv))
    go_ret2
    rw [hR.out.1, hR.out.2]
    exact ⟨bo, c2, rfl, owns_mono ho2 hb1.size, hb1.trans (hb2.mono hb1.size)⟩

set_option maxHeartbeats 4000000 in
theorem sCode_any (ao : Option Addr) (n cap : Nat) (l : List Ab) (s : ByteArray) (w : World) (hn : n = l.length) (hr : Rd w ao (abs l)) (hs : abSmall l) (hm : n ≤ 1048576) (hs2 : s.size ≤ 1048576) :
    Calls Try.prog 65 #[.slice ao n cap, .string s] w (StrRet w.heap.size w (noteW l s) (noteC l s)) := by
  have HN := hid hn
  clear hn
  cases hok : okL l
  · have hR := hid (note_inv (s := s) hok)
    go_enter Try.func65, Try.ntmps65
    go_wp2_with (go_at_call 55; refine (sOk_any ao n cap l _ HN.out hr hs hm).mono ?_; rw [hok]; rintro e w1 ⟨rfl, hb1⟩)
    go_ret2
    exact strRet_nil hR.out.1 hR.out.2 hb1
  cases hno : noteB s
  · have hR := hid (note_syn hok hno)
    go_enter Try.func65, Try.ntmps65
    go_wp2_with (first | (go_at_call 55; refine (sOk_any ao n cap l _ HN.out hr hs hm).mono ?_; rw [hok]; rintro e w1 ⟨rfl, hb1⟩) | (go_at_call 74; refine (sWords_b s _ hs2 hno).mono ?_; rintro e w2 ⟨v, rfl, hb2, _⟩))
    go_ret2
    exact strRet_nil hR.out.1 hR.out.2 (hb1.trans (hb2.mono hb1.size))
  · have hR := hid (note_ok hok hno)
    go_enter Try.func65, Try.ntmps65
    go_wp2_with (first | (go_at_call 55; refine (sOk_any ao n cap l _ HN.out hr hs hm).mono ?_; rw [hok]; rintro e w1 ⟨rfl, hb1⟩) | (go_at_call 74; refine (sWords_b s _ hs2 hno).mono ?_; rintro e w2 ⟨v, rfl, hb2, hv⟩; obtain ⟨bo, c2, rfl, ho2⟩ := hv rfl; clear hv))
    go_ret2
    rw [hR.out.1, hR.out.2]
    exact ⟨bo, c2, rfl, owns_mono ho2 hb1.size, hb1.trans (hb2.mono hb1.size)⟩

/-- what a short word stands for; the empty text if it is none -/
def longW (l : List Ab) (x : ByteArray) : ByteArray := match firstAt (sameS l x) l.length with | some k => if h : k < l.length then l[k].2 else ⟨#[]⟩ | none => ⟨#[]⟩
theorem long_hit {l : List Ab} {x : ByteArray} {k : Nat} (h : k < l.length) (hN : NoneUpTo (sameS l x) k) (he : sameS l x k = true) : longW l x = l[k].2 := by
  unfold longW; rw [first_hit hN he h]; simp [h]
theorem long_none {l : List Ab} {x : ByteArray} (hN : NoneUpTo (sameS l x) l.length) : longW l x = ⟨#[]⟩ := by
  unfold longW; rw [first_none hN]
theorem first_some {p : Nat → Bool} {n k : Nat} (h : firstAt p n = some k) : k < n ∧ p k = true := by
  unfold firstAt at h
  rw [List.find?_range_eq_some] at h
  exact ⟨by simpa using h.2.1, h.1⟩
theorem long_has (l : List Ab) (x : ByteArray) : (hasS l x = false ∧ shortI l x = -1 ∧ longW l x = ⟨#[]⟩) ∨ (hasS l x = true ∧ ∃ j : Nat, shortI l x = (j : Int) ∧ ∃ h : j < l.length, l[j].2 = longW l x) := by
  unfold hasS shortI longW
  cases h : firstAt (sameS l x) l.length with
  | none => exact .inl ⟨rfl, rfl, rfl⟩
  | some k => exact .inr ⟨rfl, k, rfl, (first_some h).1, by simp [(first_some h).1]⟩
def expW (l : List Ab) (x : ByteArray) : ByteArray := if hasS l x = true then longW l x else x
theorem exp_yes {l : List Ab} {x : ByteArray} (h : hasS l x = true) : expW l x = longW l x := by simp [expW, h]
theorem exp_no {l : List Ab} {x : ByteArray} (h : hasS l x = false) : expW l x = x := by simp [expW, h]
theorem long_size {l : List Ab} {x : ByteArray} (h : okL l = true) : (longW l x).size ≤ 30 := by
  rcases long_has l x with ⟨_, _, h2⟩ | ⟨_, j, _, hj, h2⟩
  · rw [h2]; decide
  · rw [← h2]; exact (abOk_true (okL_ab h hj)).2.2.2.2.2
theorem exp_size {l : List Ab} {x : ByteArray} (h : okL l = true) (hx : x.size ≤ 30) : (expW l x).size ≤ 30 := by
  unfold expW
  split
  · exact long_size h
  · exact hx

set_option maxHeartbeats 4000000 in
theorem longOf_any (ao : Option Addr) (n cap : Nat) (l : List Ab) (x : ByteArray) (w : World) (hn : n = l.length) (hr : Rd w ao (abs l)) (hm : n ≤ 1048576) :
    Calls Try.prog 68 #[.slice ao n cap, .string x] w fun e w' => e = .returned (.tuple #[.string (longW l x), .bool (hasS l x)]) ∧ Below w.heap.size w w' := by
  have HN := hid hn
  have hrd := rd_ab hr
  clear hn hr
  go_enter Try.func68, Try.ntmps68
  go_wp2_with fail
  go_loopw [7, 10] (fun _ i wr => ∃ k : Nat, k ≤ n ∧ i = .int .i64 k ∧ NoneUpTo (sameS l x) k ∧ Below w.heap.size w wr) (fun _ i _ => n - (intOf i).toNat)
  case atStart => exact ⟨0, Nat.zero_le _, rfl, none_zero _, Below.refl _ _⟩
  case round =>
    obtain ⟨k, hk, rfl, hN, hB⟩ := hrel
    have hz := hB.size
    by_cases hlt : k < n
    · rcases hrd with hnil | ⟨b, o, rfl, hbl, hcell⟩
      · exact absurd (by rw [HN.out, hnil]; rfl : n = 0) (by omega)
      have hkl : k < l.length := by rw [← HN.out]; exact hlt
      obtain ⟨h1, h2⟩ := hcell k hkl
      have g1 := (hB.cell (p := ⟨b, o + k * 2, none⟩) hbl).trans h1
      have g2 := (hB.cell (p := ⟨b, o + k * 2 + 1, none⟩) hbl).trans h2
      clear h1 h2 hcell
      have hk0 : (0 : Int) ≤ (k : Int) := by omega
      have hkn : (k : Int) < (n : Int) := by omega
      have hsg := hid (sameS_get (s := x) hkl)
      have hhit := hid (fun he => long_hit hkl hN he)
      have hhas := hid (fun he => has_hit hkl hN he)
      obtain ⟨y, hy⟩ : ∃ y, y = l[k] := ⟨_, rfl⟩
      rw [← hy] at g1 g2 hsg hhit
      clear hy
      cases he : (y.1.toList == x.toList)
      · have hgood := hid (none_next hN (hsg.out.trans he))
        go_wp2_with fail
        go_roundw
        case rel => exact ⟨k + 1, by omega, by go_num, hgood.out, by (repeat (first | with_reducible exact Below.refl _ _ | with_reducible assumption | refine Below.drew ?_ | refine below_drewN ?_ _ | (refine Below.alloc ?_ (by first | omega | (simp; done) | (simp; omega)) _) | (refine Below.setCell ?_ (by first | omega | (simp; done) | (simp; omega)) _) | (refine Below.trans ?_ (Below.mono (by assumption) (by first | omega | (simp; done) | (simp; omega))))))⟩
        case measure => simp [intOf]; omega
      · have hR := hid (hhit.out (hsg.out.trans he))
        have hR2 := hid (hhas.out (hsg.out.trans he))
        go_wp2_with fail
        go_ret2
        rw [hR.out, hR2.out]
        exact ⟨rfl, by (repeat (first | with_reducible exact Below.refl _ _ | with_reducible assumption | refine Below.drew ?_ | refine below_drewN ?_ _ | (refine Below.alloc ?_ (by first | omega | (simp; done) | (simp; omega)) _) | (refine Below.setCell ?_ (by first | omega | (simp; done) | (simp; omega)) _) | (refine Below.trans ?_ (Below.mono (by assumption) (by first | omega | (simp; done) | (simp; omega))))))⟩
    · obtain rfl : k = n := by omega
      have hN' : NoneUpTo (sameS l x) l.length := by rw [← HN.out]; exact hN
      have hR := hid (long_none hN')
      have hR2 := hid (has_none hN')
      go_wp2_with fail
      go_ret2
      rw [hR.out, hR2.out]
      exact ⟨rfl, hB⟩

/-- so many words done, the rest as they were -/
def mixL (f : ByteArray → ByteArray) (L : List ByteArray) (k : Nat) : List ByteArray := (L.map f).take k ++ L.drop k
theorem mix_zero (f : ByteArray → ByteArray) (L : List ByteArray) : mixL f L 0 = L := by simp [mixL]
theorem mix_len (f : ByteArray → ByteArray) (L : List ByteArray) (k : Nat) : (mixL f L k).length = L.length := by
  unfold mixL
  rw [List.length_append, List.length_take, List.length_map, List.length_drop]; omega
theorem mix_all (f : ByteArray → ByteArray) (L : List ByteArray) : mixL f L L.length = L.map f := by
  unfold mixL
  rw [List.drop_length, List.append_nil, List.take_of_length_le (by simp)]
theorem mix_at {f : ByteArray → ByteArray} {L : List ByteArray} {k : Nat} (h : k < L.length) : (mixL f L k)[k]? = some L[k] := by
  unfold mixL
  rw [List.getElem?_append_right (by rw [List.length_take]; exact Nat.min_le_left _ _), List.length_take, List.length_map, List.getElem?_drop, Nat.min_eq_left (by omega), Nat.sub_self, Nat.add_zero, List.getElem?_eq_getElem h]
theorem mix_next {f : ByteArray → ByteArray} {L : List ByteArray} {k : Nat} (h : k < L.length) : (mixL f L k).set k (f L[k]) = mixL f L (k + 1) := by
  have h2 : k < (L.map f).length := by simpa using h
  have hl : ((L.map f).take k).length = k := by rw [List.length_take, List.length_map]; omega
  unfold mixL
  rw [List.set_append_right _ _ (by omega), hl, Nat.sub_self, List.drop_eq_getElem_cons h, List.set_cons_zero, List.take_succ_eq_append_getElem h2, List.append_assoc]
  simp
theorem mix_strs {f : ByteArray → ByteArray} {L : List ByteArray} {k : Nat} (h : k < L.length) : (strs (mixL f L k)).set k (.string (f L[k])) = strs (mixL f L (k + 1)) := by
  rw [← mix_next h]
  simp [strs, List.map_set]
theorem mix_same {f : ByteArray → ByteArray} {L : List ByteArray} {k : Nat} (h : k < L.length) (he : f L[k] = L[k]) : mixL f L (k + 1) = mixL f L k := by
  rw [← mix_next h, he]
  apply List.ext_getElem?
  intro j
  by_cases e : k = j
  · subst e
    rw [List.getElem?_set_self (by rw [mix_len]; exact h), mix_at h]
  · rw [List.getElem?_set_ne e]

def expR (l : List Ab) (s : ByteArray) : ByteArray × Int := if noteC l s = 0 then (joinB ((noteW l s).map (expW l)), 0) else (⟨#[]⟩, noteC l s)
theorem expR_ok {l : List Ab} {s : ByteArray} (h : okL l = true) (h2 : noteB s = true) : expR l s = (joinB ((wordsL s).map (expW l)), 0) := by simp [expR, (note_ok h h2).1, (note_ok h h2).2]
theorem expR_bad {l : List Ab} {s : ByteArray} (h : noteC l s ≠ 0) : expR l s = (⟨#[]⟩, noteC l s) := by simp [expR, h]
theorem note_three (l : List Ab) (s : ByteArray) : (okL l = true ∧ noteB s = true) ∨ noteC l s = 1 ∨ noteC l s = 7 := by
  cases h : okL l
  · exact .inr (.inl (note_inv h).2)
  · cases h2 : noteB s
    · exact .inr (.inr (note_syn h h2).2)
    · exact .inl ⟨rfl, rfl⟩
theorem words_facts {s : ByteArray} (h : noteB s = true) : (wordsL s).length ≤ 201 ∧ ∀ x ∈ wordsL s, 1 ≤ x.size ∧ x.size ≤ 30 := by
  have := words_len s
  have := note_200 h
  exact ⟨by omega, fun x hx => wd_size (note_okTo h x hx)⟩

set_option maxRecDepth 100000 in
set_option maxHeartbeats 4000000 in
theorem expand_any (ao : Option Addr) (n cap : Nat) (l : List Ab) (s : ByteArray) (w : World) (hn : n = l.length) (hr : Rd w ao (abs l)) (hs : abSmall l) (hm : n ≤ 1048576) (hs2 : s.size ≤ 1048576) :
    Calls Try.prog 47 #[.slice ao n cap, .string s] w fun e w' => e = .returned (.tuple #[.string (expR l s).1, .int .i64 (expR l s).2]) ∧ Below w.heap.size w w' := by
  have HN := hid hn
  clear hn
  rcases note_three l s with ⟨hok, hno⟩ | hc | hc
  rotate_left
  · have hR := hid (expR_bad (l := l) (s := s) (by rw [hc]; decide))
    go_enter Try.func47, Try.ntmps47
    go_wp2_with (go_at_call 67; refine (noteCode_any ao n cap l s _ HN.out hr hs hm hs2).mono ?_; rw [hc]; rintro e w1 ⟨bo, c1, rfl, ho1, hb1⟩)
    go_ret2
    rw [hR.out, hc]
    exact ⟨rfl, hb1⟩
  · have hR := hid (expR_bad (l := l) (s := s) (by rw [hc]; decide))
    go_enter Try.func47, Try.ntmps47
    go_wp2_with (go_at_call 67; refine (noteCode_any ao n cap l s _ HN.out hr hs hm hs2).mono ?_; rw [hc]; rintro e w1 ⟨bo, c1, rfl, ho1, hb1⟩)
    go_ret2
    rw [hR.out, hc]
    exact ⟨rfl, hb1⟩
  have hR := hid (expR_ok hok hno)
  have HO := hid hok
  obtain ⟨hL201, hLs⟩ := words_facts hno
  have hcode := fun w hr => noteCode_any ao n cap l s w HN.out hr hs hm hs2
  rw [(note_ok hok hno).1, (note_ok hok hno).2] at hcode
  obtain ⟨L, hL⟩ : ∃ L, L = wordsL s := ⟨_, rfl⟩
  rw [← hL] at hL201 hLs hR
  simp only [← hL] at hcode
  clear hL hok hno
  obtain ⟨m, hm2⟩ : ∃ m, m = L.length := ⟨_, rfl⟩
  unfold StrRet at hcode
  simp only [← hm2] at hcode
  rw [← hm2] at hL201
  have HM := hid hm2
  have HC := hid (hcode _ hr)
  have HLS := hid hLs
  clear hm2 hcode hLs
  go_enter Try.func47, Try.ntmps47
  go_wp2_with (go_at_call 67; refine HC.out.mono ?_; rintro e w1 ⟨bo, c1, rfl, ho1, hb1⟩)
  have hcap := (owns_capW ho1).1
  have hform : m = 0 ∨ ∃ g, bo = some ⟨g, 0, none⟩ ∧ w.heap.size ≤ g := by
    rcases owns_form ho1 with ⟨_, h0, _⟩ | ⟨g, c, hv, hg, _⟩
    · exact .inl h0
    · simp only [Value.slice.injEq] at hv
      exact .inr ⟨g, hv.1, hg⟩
  go_loopw [8, 9, 10, 11, 23] (fun _ _ _ _ i wr => ∃ k : Nat, k ≤ m ∧ i = .int .i64 k ∧ wr.ownsRow w.heap.size 9 1 (.slice bo m c1) m (strs (mixL (expW l) L k)) ∧ Below w.heap.size w wr) (fun _ _ _ _ i _ => m - (intOf i).toNat)
  case atStart => exact ⟨0, Nat.zero_le _, rfl, by rw [mix_zero]; exact ho1, hb1⟩
  case round =>
    obtain ⟨k, hk, rfl, hown, hB⟩ := hrel
    have hz := hB.size
    by_cases hlt : k < m
    · rcases hform with h0 | ⟨g, rfl, hg⟩
      · omega
      have hkl : k < L.length := by rw [← HM.out]; exact hlt
      have hrw := rd_below hr hB
      have g1 : wr.cell? ⟨g, k, none⟩ = some (.string L[k]) := by
        rw [hown.cellAt k (by omega)]
        have := mix_at (f := expW l) hkl
        unfold strs
        rw [List.getElem?_map, this]; rfl
      have hf := hown.frozenAt k
      have hk0 : (0 : Int) ≤ (k : Int) := by omega
      have hkn : (k : Int) < (m : Int) := by omega
      have hms := hid (mix_strs (f := expW l) hkl)
      have hmx := hid (fun he => mix_same (f := expW l) hkl he)
      obtain ⟨x, hx⟩ : ∃ x, x = L[k] := ⟨_, rfl⟩
      rw [← hx] at g1 hms hmx
      clear hx
      cases hh : hasS l x
      · have hsm := hid (hmx.out (exp_no hh))
        go_wp2_with (go_at_call 68; refine (longOf_any ao n cap l x _ HN.out hrw hm).mono ?_; rw [hh]; rintro e w2 ⟨rfl, hb2⟩)
        go_roundw
        case rel => exact ⟨k + 1, by omega, by go_num, by rw [hsm.out]; exact owns_below hown hb2, hB.trans (hb2.mono hz)⟩
        case measure => simp [intOf]; omega
      · have hyes := hid (exp_yes hh)
        go_wp2_with (go_at_call 68; refine (longOf_any ao n cap l x _ HN.out hrw hm).mono ?_; rw [hh]; rintro e w2 ⟨rfl, hb2⟩; have ho2 := owns_below hown hb2; have g2 := (hb2.cell (p := ⟨g, k, none⟩) (owns_blk hown)).trans g1; have hf2 := ho2.frozenAt k; have hz2 := hb2.size)
        go_roundw
        case rel =>
          refine ⟨k + 1, by omega, by go_num, ?_, (hB.trans (hb2.mono hz)).setCell (by simp; omega) _⟩
          rw [← hms.out, hyes.out]
          exact (ho2.stored k _).1
        case measure => simp [intOf]; omega
    · obtain rfl : k = m := by omega
      have hd := hid (show mixL (expW l) L k = L.map (expW l) by rw [HM.out]; exact mix_all _ _)
      rw [hd.out] at hown
      have hmp : ∀ x ∈ L.map (expW l), x.size ≤ 30 := by
        intro x hx
        obtain ⟨y, hy, rfl⟩ := List.mem_map.1 hx
        exact exp_size HO.out (HLS.out y hy).2
      have hjl : (joinP (partsL (L.map (expW l)))).length ≤ 1000000 := by
        have := join_le hmp
        rw [List.length_map, ← HM.out] at this
        omega
      obtain ⟨M, hM⟩ : ∃ M, M = L.map (expW l) := ⟨_, rfl⟩
      rw [← hM] at hown hjl hR
      have hMn := hid (show k = M.length by rw [hM, List.length_map]; exact HM.out)
      clear hM hmp hd
      go_wp2_with (go_at_call 69; refine (join_any bo k c1 M _ hMn.out (owns_rdN hown) hcap (by omega) hjl).mono ?_; rintro e w2 ⟨rfl, hb2⟩)
      go_ret2
      rw [hR.out]
      exact ⟨rfl, hB.trans (hb2.mono hz)⟩

set_option maxRecDepth 100000 in
set_option maxHeartbeats 4000000 in
theorem sExpand_any (ao : Option Addr) (n cap : Nat) (l : List Ab) (s : ByteArray) (w : World) (hn : n = l.length) (hr : Rd w ao (abs l)) (hs : abSmall l) (hm : n ≤ 1048576) (hs2 : s.size ≤ 1048576) :
    Calls Try.prog 46 #[.slice ao n cap, .string s] w fun e w' => e = .returned (.tuple #[.string (expR l s).1, .int .i64 (expR l s).2]) ∧ Below w.heap.size w w' := by
  obtain ⟨i0, hi, hz0, hz1, hz2⟩ := info_parts Try.infoStr
  have HN := hid hn
  clear hn
  rcases note_three l s with ⟨hok, hno⟩ | hc | hc
  rotate_left
  · have hR := hid (expR_bad (l := l) (s := s) (by rw [hc]; decide))
    go_enter Try.func46, Try.ntmps46
    go_wp2_with (go_at_call 65; refine (sCode_any ao n cap l s _ HN.out hr hs hm hs2).mono ?_; rw [hc]; rintro e w1 ⟨bo, c1, rfl, ho1, hb1⟩)
    go_ret2
    rw [hR.out, hc]
    exact ⟨rfl, hb1⟩
  · have hR := hid (expR_bad (l := l) (s := s) (by rw [hc]; decide))
    go_enter Try.func46, Try.ntmps46
    go_wp2_with (go_at_call 65; refine (sCode_any ao n cap l s _ HN.out hr hs hm hs2).mono ?_; rw [hc]; rintro e w1 ⟨bo, c1, rfl, ho1, hb1⟩)
    go_ret2
    rw [hR.out, hc]
    exact ⟨rfl, hb1⟩
  have hR := hid (expR_ok hok hno)
  have HO := hid hok
  obtain ⟨hL201, hLs⟩ := words_facts hno
  have hcode := fun w hr => sCode_any ao n cap l s w HN.out hr hs hm hs2
  rw [(note_ok hok hno).1, (note_ok hok hno).2] at hcode
  obtain ⟨L, hL⟩ : ∃ L, L = wordsL s := ⟨_, rfl⟩
  rw [← hL] at hL201 hLs hR
  simp only [← hL] at hcode
  clear hL hok hno
  obtain ⟨m, hm2⟩ : ∃ m, m = L.length := ⟨_, rfl⟩
  unfold StrRet at hcode
  simp only [← hm2] at hcode
  rw [← hm2] at hL201
  have HM := hid hm2
  have HC := hid (hcode _ hr)
  have HLS := hid hLs
  clear hm2 hcode hLs
  go_enter Try.func46, Try.ntmps46
  go_wp2_with (go_at_call 65; refine HC.out.mono ?_; rintro e w1 ⟨bo, c1, rfl, ho1, hb1⟩)
  have hwrd := rd_str (owns_rdN ho1)
  have hr1 := rd_below hr hb1
  have hz1' := hb1.size
  clear hr
  go_loopw [8, 9, 10] (fun v i _ wr => ∃ k : Nat, k ≤ m ∧ i = .int .i64 k ∧ wr.ownsRow w1.heap.size 9 1 v ((L.map (expW l)).take k).length (strs ((L.map (expW l)).take k)) ∧ Below w1.heap.size w1 wr) (fun _ i _ _ => m - (intOf i).toNat)
  case atStart => exact ⟨0, Nat.zero_le _, rfl, World.ownsRow_made _ _ 0 (Nat.le_refl _) (by unfold maxLen; omega) rfl, (Below.refl _ _).alloc (Nat.le_refl _) _⟩
  case round =>
    obtain ⟨k, hk, rfl, hown, hB⟩ := hrel
    have hz := hB.size
    have hB' := hb1.trans (hB.mono hb1.size)
    by_cases hlt : k < m
    · rcases hwrd with hnil | ⟨b, o, rfl, hbl, hcell⟩
      · exact absurd (by rw [HM.out, hnil]; rfl : m = 0) (by omega)
      have hkl : k < L.length := by rw [← HM.out]; exact hlt
      have hrw := rd_below hr1 hB
      have g1 := (hB.cell (p := ⟨b, o + k, none⟩) hbl).trans (hcell k hkl)
      have hk0 : (0 : Int) ≤ (k : Int) := by omega
      have hkn : (k : Int) < (m : Int) := by omega
      have hnx := hid (show (L.map (expW l)).take (k + 1) = (L.map (expW l)).take k ++ [expW l L[k]] by rw [List.take_succ_eq_append_getElem (by simpa using hkl)]; simp)
      obtain ⟨x, hx⟩ : ∃ x, x = L[k] := ⟨_, rfl⟩
      rw [← hx] at g1 hnx
      clear hx hcell
      have hot : ((L.map (expW l)).take k).length ≤ k := by rw [List.length_take]; omega
      obtain ⟨out, hout⟩ : ∃ out, out = (L.map (expW l)).take k := ⟨_, rfl⟩
      rw [← hout] at hown hnx hot
      clear hout
      rcases long_has l x with ⟨hh, hsi, _⟩ | ⟨hh, j, hsi, hj, hlw⟩
      · have hno := hid (exp_no hh)
        have HSI := hid hsi
        clear hsi
        go_wp2_with (first | (go_at_call 56; refine (sShortI_b ao n cap l x _ HN.out hrw hm HSI.out).mono ?_; rintro e w2 ⟨rfl, rfl⟩) | (at_builtin; refine wpList_append_own _ rfl _ _ 50 rfl w1.heap.size 9 i0 (.string ByteArray.empty) 1 16 Try.underlying50 hi hz0 hz1 hz2 rfl (by decide) _ _ _ rfl (hown.alloc _) ⟨wr.heap.size, 0, none⟩ 1 1 [.string x] rfl rfl (one_new _ _ _) (one_okS _) (by unfold maxLen; omega) (by omega) (by simp; omega) ?_; intro v' w2 hown3 hgrow3 _))
        go_roundw
        case rel => exact ⟨k + 1, by omega, by go_num, by rw [hnx.out, hno.out, strs_snoc, List.length_append]; exact hown3, below_grown (hB.alloc (by omega) _) (by simp; omega) (hown.alloc _) hgrow3⟩
        case measure => simp [intOf]; omega
      · have hyes := hid (exp_yes hh)
        have HSI := hid hsi
        rcases rd_ab hrw with hnil | ⟨b2, o2, rfl, hbl2, hcell2⟩
        · subst hnil; simp at hj
        have g2 := (hcell2 j hj).2
        rw [hlw] at g2
        have hjn : j < n := by rw [HN.out]; exact hj
        have hj0 : (0 : Int) ≤ (j : Int) := by omega
        have hjn1 : (j : Int) < (n : Int) := by omega
        obtain ⟨y, hy⟩ : ∃ y, y = longW l x := ⟨_, rfl⟩
        rw [← hy] at g2 hyes
        clear hsi hcell2 hlw hy hj
        go_wp2_with (first | (go_at_call 56; refine (sShortI_b _ n cap l x _ HN.out hrw hm HSI.out).mono ?_; rintro e w2 ⟨rfl, rfl⟩) | (at_builtin; refine wpList_append_own _ rfl _ _ 50 rfl w1.heap.size 9 i0 (.string ByteArray.empty) 1 16 Try.underlying50 hi hz0 hz1 hz2 rfl (by decide) _ _ _ rfl (hown.alloc _) ⟨wr.heap.size, 0, none⟩ 1 1 [.string y] rfl rfl (one_new _ _ _) (one_okS _) (by unfold maxLen; omega) (by omega) (by simp; omega) ?_; intro v' w2 hown3 hgrow3 _))
        go_roundw
        case rel => exact ⟨k + 1, by omega, by go_num, by rw [hnx.out, hyes.out, strs_snoc, List.length_append]; exact hown3, below_grown (hB.alloc (by omega) _) (by simp; omega) (hown.alloc _) hgrow3⟩
        case measure => simp [intOf]; omega
    · obtain rfl : k = m := by omega
      have hd := hid (show (L.map (expW l)).take k = L.map (expW l) from List.take_of_length_le (by rw [List.length_map, HM.out]; exact Nat.le_refl _))
      rw [hd.out] at hown
      have hmp : ∀ x ∈ L.map (expW l), x.size ≤ 1000 := by
        intro x hx
        obtain ⟨y, hy, rfl⟩ := List.mem_map.1 hx
        have := exp_size HO.out (HLS.out y hy).2
        omega
      obtain ⟨M, hM⟩ : ∃ M, M = L.map (expW l) := ⟨_, rfl⟩
      rw [← hM] at hown hmp hR
      have hMn := hid (show k = M.length by rw [hM, List.length_map]; exact HM.out)
      rw [← hMn.out] at hown
      clear hM hd
      rcases owns_form hown with ⟨rfl, hn0, hx0⟩ | ⟨g, c2, rfl, hBg, hgl, hnc, hcm⟩
      · subst hn0
        go_wp2_with (go_at_call 66; refine (sJoin_any none 0 0 M _ hMn.out (owns_rdN hown) (by omega) hmp).mono ?_; rintro e w2 ⟨rfl, rfl⟩)
        go_ret2
        rw [hR.out]
        exact ⟨rfl, hB'⟩
      · go_wp2_with (go_at_call 66; refine (sJoin_any (some ⟨g, 0, none⟩) k c2 M _ hMn.out (owns_rdN hown) (by omega) hmp).mono ?_; rintro e w2 ⟨rfl, rfl⟩)
        go_ret2
        rw [hR.out]
        exact ⟨rfl, hB'⟩
end Go.Proofs.Ytkkfnmlomjlckaa
