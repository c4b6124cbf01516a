/-
  The shortest words, the program's walk; and how many letters are saved: both walks.
-/
import Derived.Test.YtkkfnmlomjlckaaWoShort
namespace Go.Proofs.Ytkkfnmlomjlckaa
open Go.RowKit Go.ChangeShapes Go.WideShapes Go.Maps
set_option linter.unusedVariables false
attribute [local go_sem ↓] Go.wp_at_zero Go.wp_at_succ

theorem own_cell {w : World} {B : Nat} {E : TypeId} {g m c : Nat} {xs : List Value} (h : w.ownsRow B E 1 (.slice (some ⟨g, 0, none⟩) m c) m xs) (k : Nat) (hk : k < m) (hx : k < xs.length) : ∃ v, w.cell? ⟨g, k, none⟩ = some v :=
  ⟨_, by rw [h.cellAt k (by omega), List.getElem?_eq_getElem hx]⟩
set_option maxRecDepth 100000 in
set_option maxHeartbeats 8000000 in
theorem short_any (ao : Option Addr) (n cap : Nat) (l : List Ab) (s : ByteArray) (w : World) (hn : n = l.length) (hr : Rd w ao (abs l)) (hs : abSmall l) (hm : n ≤ 1048576) (hs2 : s.size ≤ 1048576) :
    Calls Try.prog 49 #[.slice ao n cap, .string s] w fun e w' => e = .returned (.tuple #[.string (shR l s).1, .int .i64 (shR l s).2]) ∧ Below w.heap.size w w' := by
  have HN := hid hn
  clear hn
  rcases note_three l s with ⟨hok, hno⟩ | hc | hc
  rotate_left
  · have hR := hid (shR_bad (l := l) (s := s) (by rw [hc]; decide))
    go_enter Try.func49, Try.ntmps49
    go_wp2_with (go_at_call 67; refine (noteCode_any ao n cap l s _ HN.out hr hs hm hs2).mono ?_; rw [hc]; rintro e w1 ⟨bo, c1, rfl, ho1, hb1⟩)
    go_ret2
    rw [hR.out, hc]
    exact ⟨rfl, hb1⟩
  · have hR := hid (shR_bad (l := l) (s := s) (by rw [hc]; decide))
    go_enter Try.func49, Try.ntmps49
    go_wp2_with (go_at_call 67; refine (noteCode_any ao n cap l s _ HN.out hr hs hm hs2).mono ?_; rw [hc]; rintro e w1 ⟨bo, c1, rfl, ho1, hb1⟩)
    go_ret2
    rw [hR.out, hc]
    exact ⟨rfl, hb1⟩
  have hR1 := hid (fun h => shR_ok hok hno h)
  have hR0 := hid (fun h => shR_no hok hno h)
  have HO := hid hok
  obtain ⟨hL201, hLs⟩ := words_facts hno
  have hcode := fun w hr => noteCode_any ao n cap l s w HN.out hr hs hm hs2
  rw [(note_ok hok hno).1, (note_ok hok hno).2] at hcode
  obtain ⟨L, hL⟩ : ∃ L, L = wordsL s := ⟨_, rfl⟩
  rw [← hL] at hL201 hLs hR1 hR0
  simp only [← hL] at hcode
  clear hL hok hno
  obtain ⟨m, hm2⟩ : ∃ m, m = L.length := ⟨_, rfl⟩
  unfold StrRet at hcode
  simp only [← hm2] at hcode
  rw [← hm2] at hL201
  have HM := hid hm2
  have HC := hid (hcode _ hr)
  have HLS := hid hLs
  have hmp := hid (best_map_size HO.out hLs)
  clear hm2 hcode hLs
  go_enter Try.func49, Try.ntmps49
  go_wp2_with (go_at_call 67; refine HC.out.mono ?_; rintro e w1 ⟨bo, c1, rfl, ho1, hb1⟩)
  have hcap := (owns_capW ho1).1
  have hform : m = 0 ∨ ∃ g, bo = some ⟨g, 0, none⟩ ∧ w.heap.size ≤ g := by
    rcases owns_form ho1 with ⟨_, h0, _⟩ | ⟨g, c, hv, hg, _⟩
    · exact .inl h0
    · simp only [Value.slice.injEq] at hv
      exact .inr ⟨g, hv.1, hg⟩
  go_loopw [8, 9, 26] (fun _ _ i wr => ∃ k : Nat, k ≤ m ∧ i = .int .i64 k ∧ BsTo l L k ∧ wr.ownsRow w.heap.size 9 1 (.slice bo m c1) m (strs (mixL (bestW l) L k)) ∧ Below w.heap.size w wr) (fun _ _ i _ => m - (intOf i).toNat)
  case atStart => exact ⟨0, Nat.zero_le _, rfl, bs_zero _ _, by rw [mix_zero]; exact ho1, hb1⟩
  case round =>
    obtain ⟨k, hk, rfl, hBs, hown, hB⟩ := hrel
    have hz := hB.size
    by_cases hlt : k < m
    · rcases hform with h0 | ⟨g, rfl, hg⟩
      · omega
      have hkl : k < L.length := by rw [← HM.out]; exact hlt
      have hrw := rd_below hr hB
      have g1 : wr.cell? ⟨g, k, none⟩ = some (.string L[k]) := by
        rw [hown.cellAt k (by omega)]
        have := mix_at (f := bestW l) hkl
        unfold strs
        rw [List.getElem?_map, this]; rfl
      have hk0 : (0 : Int) ≤ (k : Int) := by omega
      have hkn : (k : Int) < (m : Int) := by omega
      have hx30 := (HLS.out _ (List.getElem_mem hkl)).2
      have hms := hid (mix_strs (f := bestW l) hkl)
      have hbn := hid (fun h => bs_next hBs hkl h)
      have hfn := hid (fun h => full_no (l := l) hkl h)
      obtain ⟨x, hx⟩ : ∃ x, x = L[k] := ⟨_, rfl⟩
      rw [← hx] at g1 hx30 hms hbn hfn
      clear hx
      have hbs := hid (best_size HO.out hx30)
      have hrun : ∀ b : Bool, hasS l x = b → bestRun l x 0 = (if b = true then ⟨#[]⟩ else x) := by
        intro b hb
        subst hb
        rfl
      obtain ⟨hh, hhe⟩ : ∃ b, hasS l x = b := ⟨_, rfl⟩
      have HRN := hid (hrun hh hhe)
      have hlong := fun w hr => longOf_any ao n cap l x w HN.out hr hm
      rw [hhe] at hlong
      have HLO := hid (hlong _ hrw)
      clear hrun hhe hlong hrw
      cases hh
      all_goals
        have HZ := HRN.out
        simp only [if_true, Bool.false_eq_true, if_false] at HZ
        replace HZ := hid HZ
        clear HRN
        go_wp2_with (go_at_call 68; refine HLO.out.mono ?_; rintro e w2 ⟨rfl, hb2⟩)
        clear HLO
        have hB2 := hB.trans (hb2.mono hz)
        have ho2 := owns_below hown hb2
        clear g1
        go_loopw [10, 14, 42] (fun t _ i wr2 => ∃ j : Nat, j ≤ n ∧ i = .int .i64 j ∧ t = .string (bestRun l x j) ∧ wr2.ownsRow w.heap.size 9 1 (.slice (some ⟨g, 0, none⟩) m c1) m (strs (mixL (bestW l) L k)) ∧ Below w.heap.size w wr2) (fun _ _ i _ => n - (intOf i).toNat)
        case atStart => exact ⟨0, Nat.zero_le _, rfl, by rw [HZ.out], ho2, hB2⟩
        case round =>
          clear hown hB hz hB2 ho2
          obtain ⟨j, hj, rfl, rfl, hown, hB⟩ := hrel
          have hz := hB.size
          by_cases hjn : j < n
          · have hrd := rd_ab (rd_below hr hB)
            rcases hrd with hnil | ⟨b, o, rfl, hbl, hcell⟩
            · exact absurd (by rw [HN.out, hnil]; rfl : n = 0) (by omega)
            have hjl : j < l.length := by rw [← HN.out]; exact hjn
            obtain ⟨f1, f2⟩ := hcell j hjl
            obtain ⟨hs1, hs3⟩ := abSmall_get hs j hjl
            unfold maxLen at hs1 hs3
            have hj0 : (0 : Int) ≤ (j : Int) := by omega
            have hjn1 : (j : Int) < (n : Int) := by omega
            have hy := hid (fun h => best_yes (x := x) hjl h)
            have hn := hid (fun h => best_no (x := x) hjl h)
            have hts := hbs.out j
            obtain ⟨t, ht⟩ : ∃ t, t = bestRun l x j := ⟨_, rfl⟩
            rw [← ht] at hy hn hts
            rw [← ht]
            obtain ⟨y, hyy⟩ : ∃ y, y = l[j] := ⟨_, rfl⟩
            rw [← hyy] at f1 f2 hs1 hs3 hy hn
            clear ht hyy hcell
            obtain ⟨c, hc⟩ : ∃ c, bestC x t y = c := ⟨_, rfl⟩
            cases e1 : (y.2.toList == x.toList) <;> cases e2 : (t.toList == []) <;> by_cases e3 : (y.1.size : Int) < (t.size : Int)
            all_goals
              have hc' := hc
              unfold bestC at hc'
              rw [e1, e2] at hc'
              simp [e3] at hc'
              subst hc'
              have HC := hc
              first | replace HC := hid (hy.out HC) | replace HC := hid (hn.out HC)
              clear hy hn hc
              go_wp2_with fail
              go_roundw
              case rel => exact ⟨j + 1, by omega, by go_num, by rw [HC.out], hown.alloc _, by (repeat (first | with_reducible exact Below.refl _ _ | with_reducible assumption | refine Below.drew ?_ | refine below_drewN ?_ _ | (refine Below.alloc ?_ (by first | omega | (simp; done) | (simp; omega)) _) | (refine Below.setCell ?_ (by first | omega | (simp; done) | (simp; omega)) _) | (refine Below.trans ?_ (Below.mono (by assumption) (by first | omega | (simp; done) | (simp; omega))))))⟩
              case measure => simp [intOf]; omega
          · obtain rfl : j = n := by omega
            have hd := hid (show bestRun l x j = bestW l x by rw [HN.out]; rfl)
            rw [hd.out]
            obtain ⟨t, ht⟩ : ∃ t, t = bestW l x := ⟨_, rfl⟩
            rw [← ht] at hms hbn hfn
            rw [← ht]
            clear ht hd
            have hgl := owns_blk hown
            obtain ⟨v2, g2⟩ := own_cell hown k hlt (by rw [strs_len, mix_len, ← HM.out]; exact hlt)
            have hf2 := hown.frozenAt k
            rcases emptyB_cases t with ⟨hz', he⟩ | ⟨hz', he⟩
            · have hR := hid (hR0.out (hfn.out hz'))
              clear hbn hfn hz' hms
              go_wp2_with fail
              go_ret2
              rw [hR.out]
              exact ⟨rfl, hB⟩
            · have hgood := hid (hbn.out hz')
              clear hbn hfn hz'
              go_wp2_with fail
              go_roundw
              case rel =>
                refine ⟨k + 1, by omega, by go_num, hgood.out, ?_, hB.setCell (by simp; omega) _⟩
                rw [← hms.out]
                exact (hown.stored k _).1
              case measure => simp [intOf]; omega
    · obtain rfl : k = m := by omega
      have hd := hid (show mixL (bestW l) L k = L.map (bestW l) by rw [HM.out]; exact mix_all _ _)
      have hR := hid (hR1.out (full_yes (by rw [← HM.out]; exact hBs)))
      rw [hd.out] at hown
      have hjl : (joinP (partsL (L.map (bestW l)))).length ≤ 1000000 := by
        have := join_le hmp.out
        rw [List.length_map, ← HM.out] at this
        omega
      obtain ⟨M, hM⟩ : ∃ M, M = L.map (bestW l) := ⟨_, rfl⟩
      rw [← hM] at hown hjl hR
      have hMn := hid (show k = M.length by rw [hM, List.length_map]; exact HM.out)
      clear hM hmp hd
      go_wp2_with (go_at_call 69; refine (join_any bo k c1 M _ hMn.out (owns_rdN hown) hcap (by omega) hjl).mono ?_; rintro e w2 ⟨rfl, hb2⟩)
      go_ret2
      rw [hR.out]
      exact ⟨rfl, hB.trans (hb2.mono hz)⟩

def savR (l : List Ab) (s : ByteArray) : Int × Int := if (shR l s).2 = 0 then ((s.size : Int) - ((shR l s).1.size : Int), 0) else (0, (shR l s).2)
theorem sav_ok {l : List Ab} {s t : ByteArray} (h : shR l s = (t, 0)) : savR l s = ((s.size : Int) - (t.size : Int), 0) := by simp [savR, h]
theorem sav_bad {l : List Ab} {s t : ByteArray} {c : Int} (h : shR l s = (t, c)) (hc : c ≠ 0) : savR l s = (0, c) := by simp [savR, h, hc]
theorem sh_size {l : List Ab} {s : ByteArray} : (shR l s).1.size ≤ 1000000 ∧ ((shR l s).2 = 0 ∨ (shR l s).2 = 1 ∨ (shR l s).2 = 3 ∨ (shR l s).2 = 7) := by
  rcases note_three l s with ⟨hok, hno⟩ | hc | hc
  · cases hf : fullB l (wordsL s)
    · rw [shR_no hok hno hf]; decide
    · rw [shR_ok hok hno hf]
      obtain ⟨h1, h2⟩ := words_facts hno
      have h3 := join_le (best_map_size hok h2)
      rw [List.length_map] at h3
      refine ⟨?_, .inl rfl⟩
      show (joinB _).size ≤ _
      rw [joinB_size]
      omega
  · rw [shR_bad (by rw [hc]; decide), hc]; decide
  · rw [shR_bad (by rw [hc]; decide), hc]; decide

set_option maxHeartbeats 4000000 in
theorem saved_any (ao : Option Addr) (n cap : Nat) (l : List Ab) (s : ByteArray) (w : World) (hn : n = l.length) (hr : Rd w ao (abs l)) (hs : abSmall l) (hm : n ≤ 1048576) (hs2 : s.size ≤ 1048576) :
    Calls Try.prog 51 #[.slice ao n cap, .string s] w fun e w' => e = .returned (.tuple #[.int .i64 (savR l s).1, .int .i64 (savR l s).2]) ∧ Below w.heap.size w w' := by
  have HC := fun w hr => short_any ao n cap l s w hn hr hs hm hs2
  obtain ⟨hz, hcc⟩ := sh_size (l := l) (s := s)
  obtain ⟨t, c, hsh⟩ : ∃ t c, shR l s = (t, c) := ⟨_, _, rfl⟩
  have hsok := hid (fun h => sav_ok (t := t) (hsh.trans h))
  have hsbad := hid (fun h => sav_bad hsh h)
  simp only [hsh] at HC hz hcc hsok
  have H := hid (HC _ hr)
  have e1 : IntKind.i64.wrap ((s.size : Int) - (t.size : Int)) = (s.size : Int) - (t.size : Int) := IntWalk.i64_in _ (by omega)
  clear HC hn hsh
  rcases hcc with rfl | rfl | rfl | rfl
  · have hR := hid (hsok.out rfl)
    go_enter Try.func51, Try.ntmps51
    go_wp2_with (go_at_call 49; refine H.out.mono ?_; rintro e w1 ⟨rfl, hb1⟩)
    go_ret2
    rw [hR.out]
    exact ⟨by simp, hb1⟩
  all_goals
    have hR := hid (hsbad.out (by decide))
    go_enter Try.func51, Try.ntmps51
    go_wp2_with (go_at_call 49; refine H.out.mono ?_; rintro e w1 ⟨rfl, hb1⟩)
    go_ret2
    rw [hR.out]
    exact ⟨by simp, hb1⟩

set_option maxRecDepth 100000 in
set_option maxHeartbeats 4000000 in
theorem sSaved_any (ao : Option Addr) (n cap : Nat) (l : List Ab) (s : ByteArray) (w : World) (hn : n = l.length) (hr : Rd w ao (abs l)) (hs : abSmall l) (hm : n ≤ 1048576) (hs2 : s.size ≤ 1048576) :
    Calls Try.prog 50 #[.slice ao n cap, .string s] w fun e w' => e = .returned (.tuple #[.int .i64 (savR l s).1, .int .i64 (savR l s).2]) ∧ Below w.heap.size w w' := by
  have HN := hid hn
  clear hn
  rcases note_three l s with ⟨hok, hno⟩ | hc | hc
  rotate_left
  · have hR := hid (sav_bad ((shR_bad (l := l) (s := s) (by rw [hc]; decide)).trans (by rw [hc])) (show (1 : Int) ≠ 0 by decide))
    go_enter Try.func50, Try.ntmps50
    go_wp2_with (go_at_call 65; refine (sCode_any ao n cap l s _ HN.out hr hs hm hs2).mono ?_; rw [hc]; rintro e w1 ⟨bo, c1, rfl, ho1, hb1⟩)
    go_ret2
    rw [hR.out]
    exact ⟨rfl, hb1⟩
  · have hR := hid (sav_bad ((shR_bad (l := l) (s := s) (by rw [hc]; decide)).trans (by rw [hc])) (show (7 : Int) ≠ 0 by decide))
    go_enter Try.func50, Try.ntmps50
    go_wp2_with (go_at_call 65; refine (sCode_any ao n cap l s _ HN.out hr hs hm hs2).mono ?_; rw [hc]; rintro e w1 ⟨bo, c1, rfl, ho1, hb1⟩)
    go_ret2
    rw [hR.out]
    exact ⟨rfl, hb1⟩
  have hR1 := fun h => sav_ok (shR_ok hok hno h)
  have hR0 := fun h => sav_bad (shR_no hok hno h) (by decide)
  have HO := hid hok
  obtain ⟨hL201, hLs⟩ := words_facts hno
  have hcode := fun w hr => sCode_any ao n cap l s w HN.out hr hs hm hs2
  rw [(note_ok hok hno).1, (note_ok hok hno).2] at hcode
  obtain ⟨L, hL⟩ : ∃ L, L = wordsL s := ⟨_, rfl⟩
  rw [← hL] at hL201 hLs hR1 hR0
  simp only [← hL] at hcode
  clear hL hok hno
  obtain ⟨m, hm2⟩ : ∃ m, m = L.length := ⟨_, rfl⟩
  unfold StrRet at hcode
  simp only [← hm2] at hcode
  rw [← hm2] at hL201
  have HM := hid hm2
  have HC := hid (hcode _ hr)
  have HLS := hid hLs
  have hmp := hid (best_map_size HO.out hLs)
  clear hm2 hcode hLs
  obtain ⟨M, hM⟩ : ∃ M, M = L.map (bestW l) := ⟨_, rfl⟩
  have hMn := hid (show m = M.length by rw [hM, List.length_map]; exact HM.out)
  have hshort := fun bo c1 w hr hr2 => sShorten_any ao n cap l bo m c1 L w HN.out hr hs hm HO.out HM.out hr2 hL201 HLS.out
  rw [← hM] at hR1 hmp
  simp only [← hM] at hshort
  clear hM
  have hM1000 := hid (fun x hx => Nat.le_trans (hmp.out x hx) (show 30 ≤ 1000 by omega))
  have hjz : (joinB M).size ≤ 1000000 := by
    have := join_le hmp.out
    rw [joinB_size]
    rw [← hMn.out] at this
    omega
  have e1 : IntKind.i64.wrap ((s.size : Int) - ((joinB M).size : Int)) = (s.size : Int) - ((joinB M).size : Int) := IntWalk.i64_in _ (by omega)
  cases hf : fullB l L
  · have hR := hid (hR0 hf)
    rw [hf] at hshort
    have HS := hid hshort
    clear hR0 hR1 hshort
    go_enter Try.func50, Try.ntmps50
    go_wp2_with (first | (go_at_call 65; refine HC.out.mono ?_; rintro e w1 ⟨bo, c1, rfl, ho1, hb1⟩) | (go_at_call 70; refine (HS.out _ _ _ (rd_below hr hb1) (owns_rdN ho1)).mono ?_; rintro e w2 ⟨v, rfl, hb2, _⟩))
    go_ret2
    rw [hR.out]
    exact ⟨rfl, hb1.trans (hb2.mono hb1.size)⟩
  · have hR := hid (hR1 hf)
    rw [hf] at hshort
    unfold NoteRet at hshort
    simp only [← hMn.out] at hshort
    have HS := hid hshort
    clear hR0 hR1 hshort
    obtain ⟨t, ht⟩ : ∃ t, t = joinB M := ⟨_, rfl⟩
    have hjn := hid (fun co c2 w hr => sJoin_any co m c2 M w hMn.out hr (by omega) hM1000.out)
    rw [← ht] at hjz e1 hR
    simp only [← ht] at hjn
    clear ht
    go_enter Try.func50, Try.ntmps50
    go_wp2_with (first | (go_at_call 65; refine HC.out.mono ?_; rintro e w1 ⟨bo, c1, rfl, ho1, hb1⟩) | (go_at_call 70; refine (HS.out _ _ _ (rd_below hr hb1) (owns_rdN ho1)).mono ?_; rintro e w2 ⟨v, rfl, hb2, hv⟩; obtain ⟨co, c2, rfl, ho2⟩ := hv trivial; clear hv) | (go_at_call 66; refine (hjn.out co c2 _ (owns_rdN ho2)).mono ?_; rintro e w3 ⟨rfl, rfl⟩))
    go_ret2
    rw [hR.out]
    exact ⟨by simp, hb1.trans (hb2.mono hb1.size)⟩
end Go.Proofs.Ytkkfnmlomjlckaa
