/-
  The shortest words: both walks of ShortenText and SavedLetters.
-/
import Derived.Test.YtkkfnmlomjlckaaWoExp
namespace Go.Proofs.Ytkkfnmlomjlckaa
open Go.RowKit Go.ChangeShapes Go.WideShapes Go.Maps
set_option linter.unusedVariables false
attribute [local go_sem ↓] Go.wp_at_zero Go.wp_at_succ

def bestC (x t : ByteArray) (y : Ab) : Bool := (y.2.toList == x.toList) && ((t.toList == []) || decide ((y.1.size : Int) < (t.size : Int)))
def bestRun (l : List Ab) (x : ByteArray) : Nat → ByteArray
  | 0 => if hasS l x = true then ⟨#[]⟩ else x
  | k + 1 => if h : k < l.length then (if bestC x (bestRun l x k) l[k] = true then l[k].1 else bestRun l x k) else bestRun l x k
def bestW (l : List Ab) (x : ByteArray) : ByteArray := bestRun l x l.length
theorem best_zero_yes {l : List Ab} {x : ByteArray} (h : hasS l x = true) : bestRun l x 0 = ⟨#[]⟩ := by simp [bestRun, h]
theorem best_zero_no {l : List Ab} {x : ByteArray} (h : hasS l x = false) : bestRun l x 0 = x := by simp [bestRun, h]
theorem best_yes {l : List Ab} {x : ByteArray} {k : Nat} (h : k < l.length) (hc : bestC x (bestRun l x k) l[k] = true) : bestRun l x (k + 1) = l[k].1 := by rw [bestRun, dif_pos h, if_pos hc]
theorem best_no {l : List Ab} {x : ByteArray} {k : Nat} (h : k < l.length) (hc : bestC x (bestRun l x k) l[k] = false) : bestRun l x (k + 1) = bestRun l x k := by rw [bestRun, dif_pos h, if_neg (by rw [hc]; decide)]
theorem best_size {l : List Ab} {x : ByteArray} (hok : okL l = true) (hx : x.size ≤ 30) : ∀ k, (bestRun l x k).size ≤ 30
  | 0 => by
    rw [bestRun]; split
    · decide
    · exact hx
  | k + 1 => by
    have ih := best_size hok hx k
    rw [bestRun]
    split
    · rename_i h
      split
      · have := (abOk_true (okL_ab hok h)).2.2.2.2.1; omega
      · exact ih
    · exact ih

set_option maxRecDepth 100000 in
set_option maxHeartbeats 4000000 in
theorem sBest_any (ao : Option Addr) (n cap : Nat) (l : List Ab) (x : ByteArray) (w : World) (hn : n = l.length) (hr : Rd w ao (abs l)) (hs : abSmall l) (hm : n ≤ 1048576) (hok : okL l = true) (hx : x.size ≤ 30) :
    Calls Try.prog 79 #[.slice ao n cap, .string x] w fun e w' => e = .returned (.string (bestW l x)) ∧ w = w' := by
  have HN := hid hn
  have hsh := fun w hr r h => sShortI_b (r := r) ao n cap l x w hn hr hm h
  have HSH := hid hsh
  have hbs := hid (best_size hok hx)
  clear hn hsh
  have hw : ∀ r : Int, shortI l x = r → (bestRun l x 0 = (if r < 0 then x else ⟨#[]⟩)) := by
    intro r hr
    rcases long_has l x with ⟨h1, h2, _⟩ | ⟨h1, j, h2, _⟩
    · rw [h2] at hr; subst hr; rw [best_zero_no h1]; rfl
    · rw [h2] at hr; subst hr; rw [best_zero_yes h1, if_neg (by omega)]
  obtain ⟨r, hrr⟩ : ∃ r, shortI l x = r := ⟨_, rfl⟩
  have hz := hid (hw r hrr)
  have HR := hid hrr
  clear hrr hw
  have hloop : ∀ t : ByteArray, Hid (bestRun l x 0 = t) → True := fun _ _ => trivial
  clear hloop
  by_cases hneg : r < 0
  all_goals
    have hz0 : bestRun l x 0 = (if r < 0 then x else ⟨#[]⟩) := hz.out
    first | rw [if_pos hneg] at hz0 | rw [if_neg hneg] at hz0
    have HZ := hid hz0
    clear hz hz0
    go_enter Try.func79, Try.ntmps79
    go_wp2_with (go_at_call 56; refine (HSH.out _ hr r HR.out).mono ?_; rintro e w2 ⟨rfl, rfl⟩)
    have hrd := rd_ab hr
    clear hr
    go_loop [5, 6, 7] (fun t i _ => ∃ k : Nat, k ≤ n ∧ i = .int .i64 k ∧ t = .string (bestRun l x k)) (fun _ i _ => n - (intOf i).toNat)
    case atStart => exact ⟨0, Nat.zero_le _, rfl, by rw [HZ.out]⟩
    case round =>
      obtain ⟨k, hk, rfl, rfl⟩ := hrel
      by_cases hlt : k < n
      · rcases hrd with hnil | ⟨b, o, rfl, hbl, hcell⟩
        · exact absurd (by rw [HN.out, hnil]; rfl : n = 0) (by omega)
        have hkl : k < l.length := by rw [← HN.out]; exact hlt
        obtain ⟨g1, g2⟩ := hcell k hkl
        obtain ⟨hs1, hs2⟩ := abSmall_get hs k hkl
        unfold maxLen at hs1 hs2
        have hk0 : (0 : Int) ≤ (k : Int) := by omega
        have hkn : (k : Int) < (n : Int) := by omega
        have hy := hid (fun h => best_yes (x := x) hkl h)
        have hn := hid (fun h => best_no (x := x) hkl h)
        have hts := hbs.out k
        obtain ⟨t, ht⟩ : ∃ t, t = bestRun l x k := ⟨_, rfl⟩
        rw [← ht] at hy hn hts
        rw [← ht]
        obtain ⟨y, hyy⟩ : ∃ y, y = l[k] := ⟨_, rfl⟩
        rw [← hyy] at g1 g2 hs1 hs2 hy hn
        clear ht hyy hcell
        obtain ⟨c, hc⟩ : ∃ c, bestC x t y = c := ⟨_, rfl⟩
        cases e1 : (y.2.toList == x.toList) <;> cases e2 : (t.toList == []) <;> by_cases e3 : (y.1.size : Int) < (t.size : Int)
        all_goals
          have hc' := hc
          unfold bestC at hc'
          rw [e1, e2] at hc'
          simp [e3] at hc'
          subst hc'
          have HC := hc
          first | replace HC := hid (hy.out HC) | replace HC := hid (hn.out HC)
          clear hy hn hc
          go_wp2_with fail
          go_round
          case rel => exact ⟨k + 1, by omega, by go_num, by rw [HC.out]⟩
          case measure => simp [intOf]; omega
      · obtain rfl : k = n := by omega
        have hd := hid (show bestRun l x k = bestW l x by rw [HN.out]; rfl)
        rw [hd.out]
        go_wp2_with fail
        go_ret
        exact ⟨rfl, rfl⟩

def BsTo (l : List Ab) (L : List ByteArray) (k : Nat) : Prop := ∀ j (h : j < L.length), j < k → (bestW l L[j]).size ≠ 0
theorem bs_zero (l : List Ab) (L : List ByteArray) : BsTo l L 0 := fun j _ h => absurd h (Nat.not_lt_zero j)
theorem bs_next {l : List Ab} {L : List ByteArray} {k : Nat} (h : BsTo l L k) (hk : k < L.length) (hw : (bestW l L[k]).size ≠ 0) : BsTo l L (k + 1) := fun j hj hjk => by
  by_cases e : j = k
  · subst e; exact hw
  · exact h j hj (by omega)
def fullB (l : List Ab) (L : List ByteArray) : Bool := L.all fun x => decide ((bestW l x).size ≠ 0)
theorem full_yes {l : List Ab} {L : List ByteArray} (h : BsTo l L L.length) : fullB l L = true := by
  unfold fullB
  rw [List.all_eq_true]
  intro x hx
  obtain ⟨k, hk, rfl⟩ := List.getElem_of_mem hx
  exact decide_eq_true (h k hk hk)
theorem full_no {l : List Ab} {L : List ByteArray} {k : Nat} (hk : k < L.length) (hw : (bestW l L[k]).size = 0) : fullB l L = false := by
  cases h : fullB l L
  · rfl
  · unfold fullB at h
    rw [List.all_eq_true] at h
    have := of_decide_eq_true (h _ (List.getElem_mem hk))
    exact absurd hw this
def shW (l : List Ab) (s : ByteArray) : List ByteArray := if fullB l (noteW l s) = true then (noteW l s).map (bestW l) else []
def shC (l : List Ab) (s : ByteArray) : Int := if noteC l s = 0 then (if fullB l (noteW l s) = true then 0 else 3) else noteC l s
def shR (l : List Ab) (s : ByteArray) : ByteArray × Int := if shC l s = 0 then (joinB ((wordsL s).map (bestW l)), 0) else (⟨#[]⟩, shC l s)
theorem shR_ok {l : List Ab} {s : ByteArray} (h : okL l = true) (h2 : noteB s = true) (h3 : fullB l (wordsL s) = true) : shR l s = (joinB ((wordsL s).map (bestW l)), 0) := by
  simp [shR, shC, (note_ok h h2).1, (note_ok h h2).2, h3]
theorem shR_no {l : List Ab} {s : ByteArray} (h : okL l = true) (h2 : noteB s = true) (h3 : fullB l (wordsL s) = false) : shR l s = (⟨#[]⟩, 3) := by
  simp [shR, shC, (note_ok h h2).1, (note_ok h h2).2, h3]
theorem shR_bad {l : List Ab} {s : ByteArray} (h : noteC l s ≠ 0) : shR l s = (⟨#[]⟩, noteC l s) := by simp [shR, shC, h]
theorem size0_eq {s : ByteArray} (h : s.size = 0) : s = ⟨#[]⟩ := by
  apply ext_data
  have e : s.data.toList.length = s.size := by simp
  rw [List.eq_nil_of_length_eq_zero (l := s.data.toList) (by omega)]
theorem emptyB_cases (t : ByteArray) : (t.size = 0 ∧ (t.toList == []) = true) ∨ (t.size ≠ 0 ∧ (t.toList == []) = false) := by
  by_cases h : t.size = 0
  · exact .inl ⟨h, emptyS_yes h⟩
  · exact .inr ⟨h, emptyS_no h⟩

set_option maxRecDepth 100000 in
set_option maxHeartbeats 4000000 in
/-- spec.l16Shorten -/
theorem sShorten_any (ao : Option Addr) (n cap : Nat) (l : List Ab) (bo : Option Addr) (m c1 : Nat) (L : List ByteArray) (w : World) (hn : n = l.length) (hr : Rd w ao (abs l)) (hs : abSmall l) (hm : n ≤ 1048576) (hok : okL l = true) (hm2 : m = L.length) (hr2 : Rd w bo (strs L)) (hm1 : m ≤ 201) (hL : ∀ x ∈ L, 1 ≤ x.size ∧ x.size ≤ 30) :
    Calls Try.prog 70 #[.slice ao n cap, .slice bo m c1] w (NoteRet w.heap.size w (L.map (bestW l)) (fullB l L)) := by
  obtain ⟨i0, hi, hz0, hz1, hz2⟩ := info_parts Try.infoStr
  have HN := hid hn
  have HM := hid hm2
  have HL := hid hL
  have HO := hid hok
  have hwrd := rd_str hr2
  clear hn hm2 hL hr2 hok
  go_enter Try.func70, Try.ntmps70
  go_wp2_with fail
  go_loopw [6, 7, 8] (fun v i _ wr => ∃ k : Nat, k ≤ m ∧ i = .int .i64 k ∧ BsTo l L k ∧ wr.ownsRow w.heap.size 9 1 v ((L.map (bestW l)).take k).length (strs ((L.map (bestW l)).take k)) ∧ Below w.heap.size w wr) (fun _ i _ _ => m - (intOf i).toNat)
  case atStart => exact ⟨0, Nat.zero_le _, rfl, bs_zero _ _, World.ownsRow_made _ _ 0 (Nat.le_refl _) (by unfold maxLen; omega) rfl, (Below.refl _ _).alloc (Nat.le_refl _) _⟩
  case round =>
    obtain ⟨k, hk, rfl, hBs, hown, hB⟩ := hrel
    have hz := hB.size
    by_cases hlt : k < m
    · rcases hwrd with hnil | ⟨b, o, rfl, hbl, hcell⟩
      · exact absurd (by rw [HM.out, hnil]; rfl : m = 0) (by omega)
      have hkl : k < L.length := by rw [← HM.out]; exact hlt
      have hrw := rd_below hr hB
      have g1 := (hB.cell (p := ⟨b, o + k, none⟩) hbl).trans (hcell k hkl)
      have hk0 : (0 : Int) ≤ (k : Int) := by omega
      have hkn : (k : Int) < (m : Int) := by omega
      have hx30 := (HL.out _ (List.getElem_mem hkl)).2
      have hnx := hid (show (L.map (bestW l)).take (k + 1) = (L.map (bestW l)).take k ++ [bestW l L[k]] by rw [List.take_succ_eq_append_getElem (by simpa using hkl)]; simp)
      have hbn := hid (fun h => bs_next hBs hkl h)
      have hfn := hid (fun h => full_no (l := l) hkl h)
      obtain ⟨x, hx⟩ : ∃ x, x = L[k] := ⟨_, rfl⟩
      rw [← hx] at g1 hnx hx30 hbn hfn
      clear hx hcell
      have hot : ((L.map (bestW l)).take k).length ≤ k := by rw [List.length_take]; omega
      obtain ⟨out, hout⟩ : ∃ out, out = (L.map (bestW l)).take k := ⟨_, rfl⟩
      rw [← hout] at hown hnx hot
      clear hout
      have hcall := fun w hr => sBest_any ao n cap l x w HN.out hr hs hm HO.out hx30
      obtain ⟨t, ht⟩ : ∃ t, t = bestW l x := ⟨_, rfl⟩
      rw [← ht] at hnx hbn hfn
      simp only [← ht] at hcall
      have HC := hid (hcall _ hrw)
      clear hcall ht
      rcases emptyB_cases t with ⟨hz', he⟩ | ⟨hz', he⟩
      · have hR := hid (hfn.out hz')
        clear hnx hbn hfn hz'
        go_wp2_with (go_at_call 79; refine HC.out.mono ?_; rintro e w2 ⟨rfl, rfl⟩)
        go_ret2
        exact note_no hR.out _ hB
      · have hgood := hid (hbn.out hz')
        clear hbn hfn hz'
        go_wp2_with (first | (go_at_call 79; refine HC.out.mono ?_; rintro e w2 ⟨rfl, rfl⟩) | (at_builtin; refine wpList_append_own _ rfl _ _ 50 rfl w.heap.size 9 i0 (.string ByteArray.empty) 1 16 Try.underlying50 hi hz0 hz1 hz2 rfl (by decide) _ _ _ rfl (hown.alloc _) ⟨wr.heap.size, 0, none⟩ 1 1 [.string t] rfl rfl (one_new _ _ _) (one_okS _) (by unfold maxLen; omega) (by omega) (by simp; omega) ?_; intro v' w2 hown3 hgrow3 _))
        go_roundw
        case rel => exact ⟨k + 1, by omega, by go_num, hgood.out, by rw [hnx.out, strs_snoc, List.length_append]; exact hown3, below_grown (hB.alloc (by omega) _) (by simp; omega) (hown.alloc _) hgrow3⟩
        case measure => simp [intOf]; omega
    · obtain rfl : k = m := by omega
      have hd := hid (show (L.map (bestW l)).take k = L.map (bestW l) from List.take_of_length_le (by rw [List.length_map, HM.out]; exact Nat.le_refl _))
      have hR := hid (full_yes (by rw [← HM.out]; exact hBs))
      rw [hd.out] at hown
      go_wp2_with fail
      go_ret2
      rcases owns_form hown with ⟨rfl, hn0, hx0⟩ | ⟨g, c2, rfl, hBg, hgl, hnc, hcm⟩
      · rw [hn0] at hown
        exact note_row hR.out hn0.symm hB hown
      · exact note_row hR.out rfl hB hown

theorem best_map_size {l : List Ab} {L : List ByteArray} (hok : okL l = true) (hL : ∀ x ∈ L, 1 ≤ x.size ∧ x.size ≤ 30) : ∀ x ∈ L.map (bestW l), x.size ≤ 30 := by
  intro x hx
  obtain ⟨y, hy, rfl⟩ := List.mem_map.1 hx
  exact best_size hok (hL y hy).2 _

set_option maxRecDepth 100000 in
set_option maxHeartbeats 4000000 in
theorem sShort_any (ao : Option Addr) (n cap : Nat) (l : List Ab) (s : ByteArray) (w : World) (hn : n = l.length) (hr : Rd w ao (abs l)) (hs : abSmall l) (hm : n ≤ 1048576) (hs2 : s.size ≤ 1048576) :
    Calls Try.prog 48 #[.slice ao n cap, .string s] w fun e w' => e = .returned (.tuple #[.string (shR l s).1, .int .i64 (shR l s).2]) ∧ Below w.heap.size w w' := by
  have HN := hid hn
  clear hn
  rcases note_three l s with ⟨hok, hno⟩ | hc | hc
  rotate_left
  · have hR := hid (shR_bad (l := l) (s := s) (by rw [hc]; decide))
    go_enter Try.func48, Try.ntmps48
    go_wp2_with (go_at_call 65; refine (sCode_any ao n cap l s _ HN.out hr hs hm hs2).mono ?_; rw [hc]; rintro e w1 ⟨bo, c1, rfl, ho1, hb1⟩)
    go_ret2
    rw [hR.out, hc]
    exact ⟨rfl, hb1⟩
  · have hR := hid (shR_bad (l := l) (s := s) (by rw [hc]; decide))
    go_enter Try.func48, Try.ntmps48
    go_wp2_with (go_at_call 65; refine (sCode_any ao n cap l s _ HN.out hr hs hm hs2).mono ?_; rw [hc]; rintro e w1 ⟨bo, c1, rfl, ho1, hb1⟩)
    go_ret2
    rw [hR.out, hc]
    exact ⟨rfl, hb1⟩
  have hR1 := fun h => shR_ok hok hno h
  have hR0 := fun h => shR_no hok hno h
  have HO := hid hok
  obtain ⟨hL201, hLs⟩ := words_facts hno
  have hcode := fun w hr => sCode_any ao n cap l s w HN.out hr hs hm hs2
  rw [(note_ok hok hno).1, (note_ok hok hno).2] at hcode
  obtain ⟨L, hL⟩ : ∃ L, L = wordsL s := ⟨_, rfl⟩
  rw [← hL] at hL201 hLs hR1 hR0
  simp only [← hL] at hcode
  clear hL hok hno
  obtain ⟨m, hm2⟩ : ∃ m, m = L.length := ⟨_, rfl⟩
  unfold StrRet at hcode
  simp only [← hm2] at hcode
  rw [← hm2] at hL201
  have HM := hid hm2
  have HC := hid (hcode _ hr)
  have HLS := hid hLs
  have hmp := hid (best_map_size HO.out hLs)
  clear hm2 hcode hLs
  obtain ⟨M, hM⟩ : ∃ M, M = L.map (bestW l) := ⟨_, rfl⟩
  have hMn := hid (show m = M.length by rw [hM, List.length_map]; exact HM.out)
  have hshort := fun bo c1 w hr hr2 => sShorten_any ao n cap l bo m c1 L w HN.out hr hs hm HO.out HM.out hr2 hL201 HLS.out
  rw [← hM] at hR1 hmp
  simp only [← hM] at hshort
  clear hM
  have hM1000 := hid (fun x hx => Nat.le_trans (hmp.out x hx) (show 30 ≤ 1000 by omega))
  cases hf : fullB l L
  · have hR := hid (hR0 hf)
    rw [hf] at hshort
    have HS := hid hshort
    clear hR0 hR1 hshort
    go_enter Try.func48, Try.ntmps48
    go_wp2_with (first | (go_at_call 65; refine HC.out.mono ?_; rintro e w1 ⟨bo, c1, rfl, ho1, hb1⟩) | (go_at_call 70; refine (HS.out _ _ _ (rd_below hr hb1) (owns_rdN ho1)).mono ?_; rintro e w2 ⟨v, rfl, hb2, _⟩))
    go_ret2
    rw [hR.out]
    exact ⟨rfl, hb1.trans (hb2.mono hb1.size)⟩
  · have hR := hid (hR1 hf)
    rw [hf] at hshort
    unfold NoteRet at hshort
    simp only [← hMn.out] at hshort
    have HS := hid hshort
    clear hR0 hR1 hshort
    go_enter Try.func48, Try.ntmps48
    go_wp2_with (first | (go_at_call 65; refine HC.out.mono ?_; rintro e w1 ⟨bo, c1, rfl, ho1, hb1⟩) | (go_at_call 70; refine (HS.out _ _ _ (rd_below hr hb1) (owns_rdN ho1)).mono ?_; rintro e w2 ⟨v, rfl, hb2, hv⟩; obtain ⟨co, c2, rfl, ho2⟩ := hv trivial; clear hv) | (go_at_call 66; refine (sJoin_any co m c2 M _ hMn.out (owns_rdN ho2) (by omega) hM1000.out).mono ?_; rintro e w3 ⟨rfl, rfl⟩))
    go_ret2
    rw [hR.out]
    exact ⟨rfl, hb1.trans (hb2.mono hb1.size)⟩
end Go.Proofs.Ytkkfnmlomjlckaa
