/-
  The abbreviations by what they save: the reference's walk.
-/
import Derived.Test.YtnjdoedhhpkjhaaUaO
import Derived.Test.YtnjdoedhhpkjhaaUaI
namespace Go.Proofs.Ytnjdoedhhpkjhaa
open Go.RowKit Go.ChangeShapes Go.WideShapes
set_option linter.unusedVariables false
attribute [local go_sem ↓] Go.wp_at_zero Go.wp_at_succ

theorem sv_pos {l : List Ab} (h : ∀ x ∈ l, x.1.size ≤ 30 ∧ x.2.size ≤ 30 ∧ x.1.size < x.2.size) (W : List ByteArray) (i : Nat) : 0 ≤ sv l W i := by
  unfold sv
  split
  · rename_i hi
    have := (h _ (List.getElem_mem hi)).2.2
    exact Int.mul_nonneg (by omega) (by omega)
  · exact Int.le_refl _
/-- the savings of the first i -/
def svL (l : List Ab) (W : List ByteArray) (i : Nat) : List Int := (List.range i).map (sv l W)
theorem svL_len (l : List Ab) (W : List ByteArray) (i : Nat) : (svL l W i).length = i := by simp [svL]
theorem svL_snoc (l : List Ab) (W : List ByteArray) (i : Nat) : i64s (svL l W i) ++ [.int .i64 (sv l W i)] = i64s (svL l W (i + 1)) := by
  simp [svL, i64s, List.range_succ]
theorem svL_get {l : List Ab} {W : List ByteArray} {i t : Nat} (h : t < i) : (svL l W i)[t]'(by rw [svL_len]; exact h) = sv l W t := by simp [svL]
theorem uN_put {S : Nat → Int} {k m j : Nat} (hk : 0 < S k) (hm : m = (uN S k).length) (h : kpos (uLt S k) (uN S k) m = j) : i64s ((natI (uN S k)).take j) ++ [.int .i64 (k : Int)] ++ i64s ((natI (uN S k)).drop j) = i64s (natI (uN S (k + 1))) := by
  subst hm
  rw [natI, natI, uN_yes hk, evStep, h]
  simp [i64s, List.map_take, List.map_drop]
theorem uN_put_len {S : Nat → Int} {k m : Nat} (hk : 0 < S k) (hm : m = (uN S k).length) : (uN S (k + 1)).length = m + 1 := by
  rw [uN_yes hk, evStep_len, hm]
theorem kposU_yes (S : Nat → Int) (k : Nat) (L : List Nat) (j : Nat) (hj : j < L.length) (h : S L[j] < S k) : kpos (uLt S k) L (j + 1) = kpos (uLt S k) L j := by
  rw [kpos, List.getElem?_eq_getElem hj]
  simp [uLt, h]
theorem kposU_no (S : Nat → Int) (k : Nat) (L : List Nat) (j : Nat) (hj : j < L.length) (h : ¬ S L[j] < S k) : kpos (uLt S k) L (j + 1) = j + 1 := by
  rw [kpos, List.getElem?_eq_getElem hj]
  simp [uLt, h]

set_option maxRecDepth 100000 in
set_option maxHeartbeats 8000000 in
theorem sUseful_any (ao : Option Addr) (n cap : Nat) (l : List Ab) (s : ByteArray) (w : World) (hn : n = l.length) (hr : Rd w ao (abs l)) (hs : abSmall l) (hm : n ≤ 1048576) (hs2 : s.size ≤ 1048576) :
    Calls Try.prog 7 #[.slice ao n cap, .string s] w (RowRet w.heap.size 2 w (i64s (uaL l s)) (noteC l s)) := by
  have HN := hid hn
  have hnc := hid (sCode_any ao n cap l s w hn hr hs hm hs2)
  have HR := hid hr
  clear hn hr hs
  by_cases hc : noteC l s = 0
  · obtain ⟨hok, hno, hnw⟩ := noteC_zero hc
    have hR := hid (uaL_yes hc)
    rw [hc] at hnc ⊢
    rw [hnw] at hnc
    obtain ⟨h30, hsm⟩ := okL_sizes hok
    have hwl := words_len s
    have hw200 := note_200 hno
    obtain ⟨W, hW⟩ : ∃ W, W = wordsL s := ⟨_, rfl⟩
    rw [← hW] at hnc hR hwl
    clear hW hc hnw hok hno
    obtain ⟨N, hNW⟩ : ∃ N, N = W.length := ⟨_, rfl⟩
    have hnc2 : Calls Try.prog 32 #[.slice ao n cap, .string s] w fun e w' => ∃ bo c2, e = .returned (.tuple #[.slice bo N c2, .int .i64 0]) ∧ w'.ownsRow w.heap.size 9 1 (.slice bo N c2) N (strs W) ∧ Below w.heap.size w w' := by
      rw [hNW]; exact hnc.out
    rw [← hNW] at hwl
    have HNW := hid hNW
    have HSM := hid hsm
    have HC2 := hid hnc2
    have hpos := hid (sv_pos hsm W)
    clear hnc hnc2 hNW hsm
    have hl30 : n ≤ 30 := by rw [HN.out]; exact h30
    clear h30
    obtain ⟨i0, hi, iz0, iz1, iz2⟩ := info_parts Try.infoInt64
    go_enter Try.func7, Try.ntmps7
    go_wp2_with (go_at_call 32; refine HC2.out.mono ?_; rintro e w1 ⟨bo, c2, rfl, ho2, hb1⟩)
    have hrw := rd_str (owns_rdN ho2)
    have hrl := rd_ab (rd_below HR.out hb1)
    have HB1 := hid hb1
    clear ho2 hb1
    have hlit := owns_lit w1 2 w1.heap.size (Nat.le_refl _)
    have hB0 : Below w1.heap.size w1 (w1.alloc (.cells #[] 2)) := (Below.refl _ _).alloc (Nat.le_refl _) _
    have hown0 : (w1.alloc (.cells #[] 2)).ownsRow w1.heap.size 2 1 (.slice (some ⟨w1.heap.size, 0, none⟩) 0 0) 0 (i64s (svL l W 0)) := by simpa [svL, i64s] using hlit
    clear hlit
    go_loopw [8, 9, 10, 11] (fun v i _ _ wr => ∃ (k g c : Nat), k ≤ n ∧ i = .int .i64 k ∧ v = .slice (some ⟨g, 0, none⟩) k c ∧ wr.ownsRow w1.heap.size 2 1 (.slice (some ⟨g, 0, none⟩) k c) k (i64s (svL l W k)) ∧ Below w1.heap.size w1 wr) (fun _ i _ _ _ => n - (intOf i).toNat)
    case atStart => exact ⟨0, _, _, Nat.zero_le _, rfl, rfl, hown0, hB0⟩
    case round =>
      clear hown0 hB0
      obtain ⟨i, g, c, hin, rfl, rfl, hown, hB⟩ := hrel
      have hi0 : (0 : Int) ≤ (i : Int) := by omega
      by_cases hlt : i < n
      · have hin2 : (i : Int) < (n : Int) := by omega
        rcases hrl with hnil | ⟨bl, ol, rfl, hbl, hcell⟩
        · exact absurd (by rw [HN.out, hnil]; rfl : n = 0) (by omega)
        have hil : i < l.length := by rw [← HN.out]; exact hlt
        obtain ⟨d1, d2⟩ := hcell i hil
        obtain ⟨e1, e2, e3⟩ := HSM.out _ (List.getElem_mem hil)
        have hsv := hid (sv_get (W := W) hil)
        have hsn := hid (svL_snoc l W i)
        obtain ⟨x, hx⟩ : ∃ x, x = l[i] := ⟨_, rfl⟩
        rw [← hx] at d1 d2 e1 e2 e3 hsv
        clear hx
        obtain ⟨p, q⟩ := x
        dsimp only at d1 d2 e1 e2 e3 hsv
        go_wp2_with fail
        go_loopw [10, 11] (fun a v wi => ∃ t : Nat, t ≤ N ∧ v = .int .i64 t ∧ a = .int .i64 ((cntB (W.take t) q : Int) * ((q.size : Int) - (p.size : Int))) ∧ wi.ownsRow w1.heap.size 2 1 (.slice (some ⟨g, 0, none⟩) i c) i (i64s (svL l W i)) ∧ Below w1.heap.size w1 wi) (fun _ v _ => N - (intOf v).toNat)
        case atStart => exact ⟨0, Nat.zero_le _, rfl, by rw [List.take_zero, cntB_zero]; simp, hown, hB⟩
        case round =>
          clear hown hB
          obtain ⟨t, htN, rfl, rfl, hown, hB⟩ := hrel
          have hcl := cntB_le (W.take t) q
          rw [List.length_take] at hcl
          by_cases htl : t < N
          · rcases hrw with hnil | ⟨b, o, rfl, hbw, hcw⟩
            · exact absurd (by rw [HNW.out, hnil]; rfl : N = 0) (by omega)
            have htW : t < W.length := by rw [← HNW.out]; exact htl
            have g1 := (hB.cell (p := ⟨b, o + t, none⟩) hbw).trans (hcw t htW)
            have g2 := (hB.cell (p := ⟨bl, ol + i * 2, none⟩) hbl).trans d1
            have g3 := (hB.cell (p := ⟨bl, ol + i * 2 + 1, none⟩) hbl).trans d2
            have ht0 : (0 : Int) ≤ (t : Int) := by omega
            have htn : (t : Int) < (N : Int) := by omega
            have hsc := hid (show cntB (W.take (t + 1)) q = cntB (W.take t) q + (if W[t].toList == q.toList then 1 else 0) by rw [List.take_succ_eq_append_getElem htW, cntB_snoc])
            obtain ⟨y, hy⟩ : ∃ y, y = W[t] := ⟨_, rfl⟩
            rw [← hy] at g1 hsc
            clear hy
            obtain ⟨u, hu⟩ : ∃ u, u = cntB (W.take t) q := ⟨_, rfl⟩
            rw [← hu] at hsc hcl ⊢
            clear hu
            obtain ⟨A, hA⟩ : ∃ A : Int, A = (u : Int) * ((q.size : Int) - (p.size : Int)) := ⟨_, rfl⟩
            have hA1 : A ≤ 30000 := by
              have h1 : (u : Int) * ((q.size : Int) - (p.size : Int)) ≤ (u : Int) * 30 := Int.mul_le_mul_of_nonneg_left (by omega) (by omega)
              omega
            have hA2 : 0 ≤ A := by rw [hA]; exact Int.mul_nonneg (by omega) (by omega)
            rw [← hA]
            have HA := hid hA
            clear hA
            cases he : (y.toList == q.toList)
            · have hn1 := hid (show (cntB (W.take (t + 1)) q : Int) * ((q.size : Int) - (p.size : Int)) = A by rw [hsc.out, he, HA.out]; simp)
              go_wp2_with fail
              go_quiet (fail)
              go_wp2_with fail
              go_roundw
              case rel => exact ⟨t + 1, by omega, by go_num, by rw [hn1.out], owns_drewN hown _, below_drewN hB _⟩
              case measure => simp [intOf]; omega
            · have hn1 := hid (show (cntB (W.take (t + 1)) q : Int) * ((q.size : Int) - (p.size : Int)) = A + ((q.size : Int) - (p.size : Int)) by rw [hsc.out, he, HA.out]; simp [Int.add_mul])
              go_wp2_with fail
              go_quiet (fail)
              go_wp2_with fail
              go_quiet (fail)
              go_wp2_with fail
              go_roundw
              case rel => exact ⟨t + 1, by omega, by go_num, by rw [hn1.out], owns_drewN hown _, below_drewN hB _⟩
              case measure => simp [intOf]; omega
          · have hts : N = t := by omega
            subst hts
            have hWt : W.take N = W := List.take_of_length_le (by rw [HNW.out]; exact Nat.le_refl _)
            rw [hWt]
            rw [← hsv.out]
            clear hWt hcl
            obtain ⟨Z, hZ⟩ : ∃ Z, Z = sv l W i := ⟨_, rfl⟩
            rw [← hZ] at hsn ⊢
            clear hZ
            have hzz := hB.size
            go_wp2_with (at_builtin; refine wpList_append_own _ rfl _ _ 24 rfl w1.heap.size 2 i0 (.int .i64 0) 1 8 Try.underlying24 hi iz0 iz1 iz2 rfl (by decide) (.slice (some ⟨g, 0, none⟩) i c) _ _ rfl (hown.alloc _) ⟨_, 0, none⟩ 1 1 [.int .i64 Z] rfl rfl (one_new _ _ _) (one_ok _ _) (by unfold maxLen; omega) (by omega) (by simp; omega) ?_; intro v7 w7 hown7 hgrow7 _; rcases owns_form hown7 with ⟨_, h00, _⟩ | ⟨g7, c7, rfl, _⟩; (exfalso; omega))
            have hB7 := below_grown (hB.alloc hzz _) (by simp; omega) (hown.alloc _) hgrow7
            rw [hsn.out] at hown7
            go_roundw
            case rel => exact ⟨i + 1, g7, c7, by omega, by go_num, rfl, hown7, hB7⟩
            case measure => simp [intOf]; omega
      · have hni : n = i := by omega
        subst hni
        have hgs := (hown.lt g rfl).2
        have HC := hid (fun t (ht : t < n) => (show wr.cell? ⟨g, t, none⟩ = some (.int .i64 (sv l W t)) by
          rw [hown.cellAt t (by omega), i64s_getD (by rw [svL_len]; exact ht)]
          have : (svL l W n).getD t 0 = sv l W t := by simp [svL, List.getD, ht]
          rw [this]))
        have HBW := hid hB
        obtain ⟨w2, hw2⟩ : ∃ w2, w2 = wr := ⟨_, rfl⟩
        subst hw2
        have hS0 := hid hpos.out
        obtain ⟨SS, hSS⟩ : ∃ SS, SS = sv l W := ⟨_, rfl⟩
        rw [← hSS] at HC hS0 hR
        clear hSS hown hB
        have hlit := owns_lit w2 2 w2.heap.size (Nat.le_refl _)
        have hB0 : Below w2.heap.size w2 (w2.alloc (.cells #[] 2)) := (Below.refl _ _).alloc (Nat.le_refl _) _
        have hown0 : (w2.alloc (.cells #[] 2)).ownsRow w2.heap.size 2 1 (.slice (some ⟨w2.heap.size, 0, none⟩) 0 0) (uN SS 0).length (i64s (natI (uN SS 0))) := by simpa [uN, uL, natI, i64s] using hlit
        clear hlit
        go_wp2_with fail
        go_loopw [12, 13, 14, 15] (fun v i _ _ wr => ∃ (k c g0 : Nat), k ≤ n ∧ i = .int .i64 k ∧ v = .slice (some ⟨g0, 0, none⟩) (uN SS k).length c ∧ wr.ownsRow w2.heap.size 2 1 (.slice (some ⟨g0, 0, none⟩) (uN SS k).length c) (uN SS k).length (i64s (natI (uN SS k))) ∧ Below w2.heap.size w2 wr) (fun _ i _ _ _ => n - (intOf i).toNat)
        case atStart => exact ⟨0, 0, w2.heap.size, Nat.zero_le _, rfl, rfl, hown0, hB0⟩
        case round =>
          clear hown0 hB0
          obtain ⟨k, c0, g0, hk, rfl, rfl, hown, hB⟩ := hrel
          have hk0 : (0 : Int) ≤ (k : Int) := by omega
          by_cases hlt2 : k < n
          · have hkn : (k : Int) < (n : Int) := by omega
            have c9 := (hB.cell (p := ⟨g, k, none⟩) hgs).trans (HC.out k hlt2)
            have hlek := Nat.le_trans (Nat.le_of_eq (uN_len SS k)) (uL_len SS k)
            by_cases hz : SS k = 0
            · have hnx := hid (uN_no (S := SS) (n := k) (by omega))
              rw [hz] at c9
              clear hz
              go_wp2_with fail
              go_roundw
              case rel => exact ⟨k + 1, c0, g0, by omega, by go_num, by rw [hnx.out], by rw [hnx.out]; exact hown, hB⟩
              case measure => simp [intOf]; omega
            · have hkp : 0 < SS k := by have := hS0.out k; omega
              have HKP := hid hkp
              have hml1 := hid (uN_put_len (S := SS) (k := k) hkp rfl)
              have HYL := hid (fun x (hx : x ∈ uN SS k) => uN_lt hx)
              have HML := hid (show (uN SS k).length = (natI (uN SS k)).length from (natI_len _).symm)
              obtain ⟨m, hmm⟩ : ∃ m, m = (uN SS k).length := ⟨_, rfl⟩
              rw [← hmm] at hown hml1 HML hlek ⊢
              have HM := hid hmm
              obtain ⟨zz, hzz⟩ : ∃ zz, zz = SS k := ⟨_, rfl⟩
              rw [← hzz] at c9 hz
              clear hmm hkp hzz
              obtain ⟨c, hc0⟩ : ∃ c, c = c0 := ⟨_, rfl⟩
              subst hc0
              go_wp2_with fail
              generalize wr = wo at *
              go_loopw [14] (fun q wr => ∃ j : Nat, j ≤ m ∧ q = .int .i64 j ∧ Hid (kpos (uLt SS k) (uN SS k) m = kpos (uLt SS k) (uN SS k) j) ∧ wr.ownsRow w2.heap.size 2 1 (.slice (some ⟨g0, 0, none⟩) m c) m (i64s (natI (uN SS k))) ∧ Below w2.heap.size w2 wr) (fun q _ => (intOf q).toNat)
              case atStart => exact ⟨m, Nat.le_refl _, rfl, hid rfl, hown, hB⟩
              case round =>
                clear hown hB
                obtain ⟨j, hj, rfl, hK, hown, hB⟩ := hrel
                have hg0 := (hown.lt g0 rfl).2
                have hkc : m ≤ c := by
                  rcases owns_form hown with ⟨h1, _⟩ | ⟨g1, c1, h1, _, _, h2, _⟩
                  · simp at h1
                  · simp at h1; omega
                have hj0 : (0 : Int) ≤ (j : Int) := by omega
                have hjk : (j : Int) ≤ (m : Int) := by omega
                have hjc : (j : Int) ≤ (c : Int) := by omega
                rcases Nat.eq_zero_or_pos j with hz0 | hpos
                · have hd : decide ((0 : Int) < (j : Int)) = false := by simp; omega
                  have hdN : decide (0 < j) = false := by simp; omega
                  have hat := hid (uN_put (j := j) HKP.out HM.out (by rw [hK.out, hz0]; rfl))
                  clear hz0
                  go_wp2_with fail
                  go_quiet (fail)
                  go_wp2_with fail
                  obtain ⟨wx, hwx⟩ : ∃ wx, wx = wr.drewN nq := ⟨_, rfl⟩
                  rw [← hwx]
                  have hownx : wx.ownsRow w2.heap.size 2 1 (.slice (some ⟨g0, 0, none⟩) m c) m (i64s (natI (uN SS k))) := by rw [hwx]; exact owns_drewN hown _
                  have hBx : Below w2.heap.size w2 wx := by rw [hwx]; exact below_drewN hB _
                  clear hwx hown hB hK
                  have hg0 := (hownx.lt g0 rfl).2
                  have hzx := hBx.size
                  have hC := cells_owned hownx HML.out
                  have htl : j = ((natI (uN SS k)).take j).length := by rw [List.length_take, ← HML.out]; omega
                  have HTL := hid htl
                  clear htl
                  go_wp2_with (first | (go_at_call 33; refine (own_any g0 0 j c ((natI (uN SS k)).take j) _ HTL.out (by omega) hC.take hg0).mono ?_; rintro e w3 ⟨g1, c1, rfl, hown1, hb1⟩; have hz1 := hb1.size) | (at_builtin; refine wpList_append_own _ rfl _ _ 24 rfl wx.heap.size 2 i0 (.int .i64 0) 1 8 Try.underlying24 hi iz0 iz1 iz2 rfl (by decide) (.slice (some ⟨g1, 0, none⟩) j c1) _ _ rfl (hown1.alloc _) ⟨_, 0, none⟩ 1 1 [.int .i64 (k : Int)] rfl rfl (one_new _ _ _) (one_ok _ _) (by unfold maxLen; omega) (by omega) (by simp; omega) ?_; intro v2 w4 hown2 hgrow2 _; have hb2 := hb1.trans (below_grown ((Below.refl wx.heap.size w3).alloc (by omega) _) (by simp; omega) (hown1.alloc _) hgrow2); have hz2 := hb2.size; have hC2 := hC.below hb2 hg0; rcases owns_form hown2 with ⟨_, h00, _⟩ | ⟨g2, c2, rfl, _⟩; (exfalso; omega)) | (at_builtin; refine wpList_append_src rfl _ _ 24 rfl wx.heap.size 2 i0 (.int .i64 0) 1 8 Try.underlying24 hi iz0 iz1 iz2 rfl (by decide) (.slice (some ⟨g2, 0, none⟩) (j + 1) c2) _ _ rfl hown2 _ (m - j) (i64s ((natI (uN SS k)).drop j)) rfl (src_tailI hC2 HML.out hj hkc) (by unfold maxLen; omega) (by omega) (by omega) ?_; intro v3 w5 hown3 hgrow3; have hb3 := hb2.trans (below_grown (Below.refl wx.heap.size w4) hz2 hown2 hgrow3)))
                  have hnum : j + 1 + (m - j) = m + 1 := by omega
                  rw [hnum, hat.out] at hown3
                  rcases owns_form hown3 with ⟨_, h00, _⟩ | ⟨g3, c3, rfl, _⟩
                  · omega
                  go_roundw
                  case rel => exact ⟨k + 1, c3, g3, by omega, by go_num, by rw [hml1.out], by rw [hml1.out]; exact owns_mono hown3 (by omega), hBx.trans (hb3.mono (by omega))⟩
                  case measure => simp [intOf]; omega
                · obtain ⟨i, hji⟩ : ∃ i, j = i + 1 := ⟨j - 1, by omega⟩
                  have hil : i < (uN SS k).length := by rw [← HM.out]; omega
                  have hd : decide ((0 : Int) < (j : Int)) = true := by simp; omega
                  have hdN : decide (0 < j) = true := by simp; omega
                  have e4 : IntKind.i64.wrap ((j : Int) - 1) = (i : Int) := by rw [hji]; simp; exact IntWalk.i64_in _ (by omega)
                  have e5 : (j : Int) - 1 = (i : Int) := by omega
                  have e6 : IntKind.i64.wrap (i : Int) = (i : Int) := IntWalk.i64_in _ (by omega)
                  have hi0 : (0 : Int) ≤ (i : Int) := by omega
                  have hik : (i : Int) < (m : Int) := by omega
                  have hikN : i < m := by omega
                  have hy := HYL.out _ (List.getElem_mem hil)
                  have c1 := cells_owned hown HML.out i (by rw [← HML.out]; omega)
                  have c1' : (natI (uN SS k))[i]'(by rw [← HML.out]; omega) = ((uN SS k)[i] : Int) := by simp [natI]
                  rw [c1', Nat.zero_add] at c1
                  have hyes := hid (fun h => kposU_yes SS k (uN SS k) i hil h)
                  have hno := hid (fun h => kposU_no SS k (uN SS k) i hil h)
                  obtain ⟨y, hyy⟩ : ∃ y, y = (uN SS k)[i] := ⟨_, rfl⟩
                  rw [← hyy] at hy c1 hyes hno
                  clear hyy c1' hil
                  have c2 := (hB.cell (p := ⟨g, y, none⟩) hgs).trans (HC.out y (by omega))
                  have c3 := (hB.cell (p := ⟨g, k, none⟩) hgs).trans (HC.out k hlt2)
                  have hy0 : (0 : Int) ≤ (y : Int) := by omega
                  have hyn : (y : Int) < (n : Int) := by omega
                  have hynN : y < n := by omega
                  obtain ⟨p, hp⟩ : ∃ p, p = SS y := ⟨_, rfl⟩
                  obtain ⟨q, hq⟩ : ∃ q, q = SS k := ⟨_, rfl⟩
                  rw [← hp] at c2 hyes hno
                  rw [← hq] at c3 hyes hno
                  clear hp hq
                  have HJ := hid hji
                  clear hji
                  by_cases hgt : p < q
                  · have hde : decide (p < q) = true := decide_eq_true hgt
                    have hnx := hid (hK.out.trans (show kpos (uLt SS k) (uN SS k) j = kpos (uLt SS k) (uN SS k) i from by rw [HJ.out]; exact hyes.out hgt))
                    clear hyes hno
                    go_wp2_with fail
                    go_quiet (fail)
                    go_wp2
                    go_roundw
                    case rel => exact ⟨i, by omega, by go_num, hnx, owns_drewN hown _, below_drewN hB _⟩
                    case measure => simp [intOf]; omega
                  · have hde : decide (p < q) = false := decide_eq_false hgt
                    have hat := hid (uN_put (j := j) HKP.out HM.out (hK.out.trans (show kpos (uLt SS k) (uN SS k) j = j from by rw [HJ.out]; exact hno.out hgt)))
                    clear hyes hno
                    go_wp2_with fail
                    go_quiet (fail)
                    go_wp2_with fail
                    obtain ⟨wx, hwx⟩ : ∃ wx, wx = wr.drewN nq := ⟨_, rfl⟩
                    rw [← hwx]
                    have hownx : wx.ownsRow w2.heap.size 2 1 (.slice (some ⟨g0, 0, none⟩) m c) m (i64s (natI (uN SS k))) := by rw [hwx]; exact owns_drewN hown _
                    have hBx : Below w2.heap.size w2 wx := by rw [hwx]; exact below_drewN hB _
                    clear hwx hown hB hK
                    have hg0 := (hownx.lt g0 rfl).2
                    have hzx := hBx.size
                    have hC := cells_owned hownx HML.out
                    have htl : j = ((natI (uN SS k)).take j).length := by rw [List.length_take, ← HML.out]; omega
                    have HTL := hid htl
                    clear htl
                    go_wp2_with (first | (go_at_call 33; refine (own_any g0 0 j c ((natI (uN SS k)).take j) _ HTL.out (by omega) hC.take hg0).mono ?_; rintro e w3 ⟨g1, c1, rfl, hown1, hb1⟩; have hz1 := hb1.size) | (at_builtin; refine wpList_append_own _ rfl _ _ 24 rfl wx.heap.size 2 i0 (.int .i64 0) 1 8 Try.underlying24 hi iz0 iz1 iz2 rfl (by decide) (.slice (some ⟨g1, 0, none⟩) j c1) _ _ rfl (hown1.alloc _) ⟨_, 0, none⟩ 1 1 [.int .i64 (k : Int)] rfl rfl (one_new _ _ _) (one_ok _ _) (by unfold maxLen; omega) (by omega) (by simp; omega) ?_; intro v2 w4 hown2 hgrow2 _; have hb2 := hb1.trans (below_grown ((Below.refl wx.heap.size w3).alloc (by omega) _) (by simp; omega) (hown1.alloc _) hgrow2); have hz2 := hb2.size; have hC2 := hC.below hb2 hg0; rcases owns_form hown2 with ⟨_, h00, _⟩ | ⟨g2, c2, rfl, _⟩; (exfalso; omega)) | (at_builtin; refine wpList_append_src rfl _ _ 24 rfl wx.heap.size 2 i0 (.int .i64 0) 1 8 Try.underlying24 hi iz0 iz1 iz2 rfl (by decide) (.slice (some ⟨g2, 0, none⟩) (j + 1) c2) _ _ rfl hown2 _ (m - j) (i64s ((natI (uN SS k)).drop j)) rfl (src_tailI hC2 HML.out hj hkc) (by unfold maxLen; omega) (by omega) (by omega) ?_; intro v3 w5 hown3 hgrow3; have hb3 := hb2.trans (below_grown (Below.refl wx.heap.size w4) hz2 hown2 hgrow3)))
                    have hnum : j + 1 + (m - j) = m + 1 := by omega
                    rw [hnum, hat.out] at hown3
                    rcases owns_form hown3 with ⟨_, h00, _⟩ | ⟨g3, c3, rfl, _⟩
                    · omega
                    go_roundw
                    case rel => exact ⟨k + 1, c3, g3, by omega, by go_num, by rw [hml1.out], by rw [hml1.out]; exact owns_mono hown3 (by omega), hBx.trans (hb3.mono (by omega))⟩
                    case measure => simp [intOf]; omega
          · have hnk : n = k := by omega
            subst hnk
            have hlen : (i64s (natI (uN SS n))).length = (uN SS n).length := by rw [i64s_len, natI_len]
            have hR3 := hid (show i64s (uaL l s) = i64s (natI (uN SS n)) by rw [hR.out, HN.out])
            have HL := hid hlen
            clear hlen
            have hzb := HBW.out.size
            have hzc := HB1.out.size
            go_wp2_with fail
            go_ret2
            rw [hR3.out]
            exact ⟨some ⟨g0, 0, none⟩, c0, by rw [HL.out]; rfl, by rw [HL.out]; exact owns_mono hown (by omega), HB1.out.trans ((HBW.out.trans (hB.mono hzb)).mono hzc)⟩
  · have hR := hid (uaL_no hc)
    obtain ⟨c, hcc⟩ : ∃ c, c = noteC l s := ⟨_, rfl⟩
    rw [← hcc] at hnc hc ⊢
    clear hcc
    go_enter Try.func7, Try.ntmps7
    go_wp2_with (go_at_call 32; refine hnc.out.mono ?_; rintro e w1 ⟨bo, c2, rfl, ho2, hb2⟩)
    go_ret2
    rw [hR.out]
    exact ⟨none, 0, rfl, World.ownsRow_nil _ _ _ _, hb2⟩
theorem uaL_len (l : List Ab) (s : ByteArray) : (uaL l s).length ≤ 1000 := by
  unfold uaL
  split
  · rename_i h
    obtain ⟨hok, _, _⟩ := noteC_zero h
    have h30 := (okL_sizes hok).1
    rw [natI_len, uN_len]
    have := uL_len (sv l (wordsL s)) l.length
    omega
  · simp
end Go.Proofs.Ytnjdoedhhpkjhaa
