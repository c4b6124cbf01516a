/-
  The machines that fit a page best: the walk of the reference.
-/
import Derived.Test.YthhpeanlpikjbaaBw
namespace Go.Proofs.Ythhpeanlpikjbaa
open Go.RowKit Go.ChangeShapes Go.WideShapes Go.Maps
set_option linter.unusedVariables false
attribute [local go_sem ↓] Go.wp_at_zero Go.wp_at_succ

theorem sMin_any (a b : Int) (w : World) : Calls Try.prog 75 #[.int .i64 a, .int .i64 b] w fun e w' => e = .returned (.int .i64 (min a b)) ∧ w = w' := by
  by_cases h : a < b
  all_goals
    go_enter Try.func75, Try.ntmps75
    go_wp2
    go_ret
    exact ⟨ret_int (by omega), rfl⟩
theorem eqsF_yes {f : Nat → Int} {m : Int} {k : Nat} (h : f k = m) : eqsF f m (k + 1) = eqsF f m k ++ [k] := by rw [eqsF_succ, if_pos h]
theorem eqsF_no {f : Nat → Int} {m : Int} {k : Nat} (h : ¬ f k = m) : eqsF f m (k + 1) = eqsF f m k := by rw [eqsF_succ, if_neg h, List.append_nil]
theorem eqsF_le (f : Nat → Int) (m : Int) : ∀ k, (eqsF f m k).length ≤ k
  | 0 => by simp [eqsF]
  | k + 1 => by
    have := eqsF_le f m k
    rw [eqsF_succ]; split <;> simp <;> omega

set_option maxRecDepth 100000 in
set_option maxHeartbeats 8000000 in
theorem sBestW_any (ao : Option Addr) (n cap : Nat) (l : List Ws) (bo : Option Addr) (n2 cap2 : Nat) (p : List Se) (w : World) (ha : WsArg w ao n cap l) (hs : WsSmall l) (hn2 : n2 = p.length) (hr2 : Rd w bo (ses p)) (hs2 : seSmall p) (hm2 : n2 ≤ 1048576) :
    Calls Try.prog 41 #[.slice ao n cap, .slice bo n2 cap2] w (RowRet3 w.heap.size 2 w (natI (bwAll l p).1) (bwAll l p).2.1 (bwAll l p).2.2) := by
  obtain ⟨i0, hi, iz0, iz1, iz2⟩ := info_parts Try.infoInt64
  have HN2 := hid hn2
  clear hn2
  cases h1 : okWs (l.map Ws.d)
  · have hR := hid (bwAll_bad (p := p) (show (okWs (l.map Ws.d) && pageOk p) = false by rw [h1]; rfl))
    go_enter Try.func41, Try.ntmps41
    go_wp2_with (go_at_call 55; refine (sOkWs_any ao n cap l _ ha hs).mono ?_; rw [h1]; rintro e w1 ⟨rfl, hb1⟩)
    go_ret3
    rw [hR.out]
    exact ⟨none, 0, by simp [natI], World.ownsRow_nil _ _ _ _, hb1⟩
  have H1 := hid h1
  cases h2 : pageOk p
  · have hR := hid (bwAll_bad (l := l) (p := p) (by rw [h2, Bool.and_false]))
    clear h1
    go_enter Try.func41, Try.ntmps41
    go_wp2_with (first | (go_at_call 55; refine (sOkWs_any ao n cap l _ ha hs).mono ?_; rw [H1.out]; rintro e w1 ⟨rfl, hb1⟩) | (go_at_call 50; refine (sPage_any bo n2 cap2 p _ HN2.out (rd_below hr2 hb1) hs2 hm2).mono ?_; rw [h2]; rintro e w2 ⟨rfl, hb2⟩))
    go_ret3
    rw [hR.out]
    exact ⟨none, 0, by simp [natI], World.ownsRow_nil _ _ _ _, hb1.trans (hb2.mono hb1.size)⟩
  have H2 := hid h2
  have hok : (okWs (l.map Ws.d) && pageOk p) = true := by rw [h1, h2]; rfl
  have h12 := okWs_len h1
  have hRn := hid (bwAll_none hok)
  have hRy := hid (bwAll_ok hok)
  clear h1 h2 hok
  have hnl : n = l.length := ha.1
  have HN := hid hnl
  rw [← hnl] at h12
  clear hnl
  by_cases h0 : n = 0
  · have hR := hid (hRn.out (by rw [← HN.out]; exact h0))
    subst h0
    go_enter Try.func41, Try.ntmps41
    go_wp2_with (first | (go_at_call 55; refine (sOkWs_any ao 0 cap l _ ha hs).mono ?_; rw [H1.out]; rintro e w1 ⟨rfl, hb1⟩) | (go_at_call 50; refine (sPage_any bo n2 cap2 p _ HN2.out (rd_below hr2 hb1) hs2 hm2).mono ?_; rw [H2.out]; rintro e w2 ⟨rfl, hb2⟩))
    go_ret3
    rw [hR.out]
    exact ⟨none, 0, by simp [natI], World.ownsRow_nil _ _ _ _, hb1.trans (hb2.mono hb1.size)⟩
  have hR := hid (hRy.out (by rw [← HN.out]; exact h0))
  have e0 : ((n : Int) == 0) = false := eqI_false (by omega)
  clear hRn hRy
  rw [← HN.out] at hR
  have hag := hid (fun k (h : k < l.length) => agF_get (p := p) h)
  have hbw := hid (bw_eq (agF l p) (agF_nn l p))
  have hel := hid (eqsF_le (agF l p))
  generalize agF l p = f at *
  have hn0 : (0 : Int) < (n : Int) := by omega
  have hrd := rd_ws ha.2.2.1
  have HS := hid hs.2
  have HG0 := hid ha.2.2.2
  rcases hrd with hnil | ⟨b, o, rfl, hl0, hcell⟩
  · exact absurd (by rw [HN.out, hnil]; rfl : n = 0) h0
  have HC0 := hid hcell
  clear hcell
  have HA := hid ha
  have HSM := hid hs
  clear ha hs
  go_enter Try.func41, Try.ntmps41
  go_wp2_with (first | (go_at_call 55; refine (sOkWs_any (some ⟨b, o, none⟩) n cap l _ HA.out HSM.out).mono ?_; rw [H1.out]; rintro e w1 ⟨rfl, hb1⟩) | (go_at_call 50; refine (sPage_any bo n2 cap2 p _ HN2.out (rd_below hr2 hb1) hs2 hm2).mono ?_; rw [H2.out]; rintro e w2 ⟨rfl, hb2⟩))
  have hb12 := hb1.trans (hb2.mono hb1.size)
  have hp2 := rd_below hr2 hb12
  have hl1 := Nat.lt_of_lt_of_le hl0 hb12.size
  have HG := hid (fun y hy => (HG0.out y hy).below hb12)
  have HC := hid (fun k hk => (HC0.out k hk).below hb12 hl0)
  have hBr : Below w2.heap.size w2 w2 := Below.refl _ _
  clear hr2 hb1 hb2 HG0 HC0 HA HSM hl0
  have hka : 0 < l.length := by rw [← HN.out]; omega
  have hnd := (HS.out _ (List.getElem_mem hka)).2
  have hgk := hid (hag.out (0) hka)
  obtain ⟨h1, h2⟩ := (HC.out (0) hka).below hBr hl1
  have R1 := hid (rd_below (HG.out _ (List.getElem_mem hka)).rd hBr)
  have P1 := rd_below hp2 hBr
  have hz1 := Nat.lt_of_lt_of_le hl1 (hBr).size
  obtain ⟨x, hx⟩ : ∃ x, x = l[0] := ⟨_, rfl⟩
  rw [← hx] at h1 h2 R1 hnd hgk
  clear hx hka
  obtain ⟨nx, ax, cx, fx⟩ := x
  dsimp only at h1 h2 R1 hnd hgk
  obtain ⟨mx, hmx⟩ : ∃ m, m = fx.length := ⟨_, rfl⟩
  rw [← hmx] at h2 hnd
  have HMX := hid hmx
  clear hmx
  have hwat : WrAt w2 b (o + 0 * 2) nx ax mx cx := ⟨hz1, h1, h2⟩
  clear h1 h2
  rw [show o + 0 * 2 = o by omega] at hwat
  refine (sAgainst_any b o nx ax mx cx fx bo n2 cap2 p _ hwat HMX.out R1.out hnd HN2.out P1 hm2).mono ?_
  rw [← hgk.out]
  rintro e w5 ⟨rfl, hb5⟩
  have hBS : Below w2.heap.size w2 w5 := hb5
  clear hwat HMX R1 hnd P1 hgk hb5 hz1 hBr
  clear nx ax cx fx mx
  go_wp2_with fail
  go_loopw [7, 8] (fun v i wr => ∃ j : Nat, j + 1 ≤ n ∧ i = .int .i64 ((j + 1 : Nat) : Int) ∧ v = .int .i64 (mnS f j) ∧ Below w2.heap.size w2 wr) (fun _ i _ => n - (intOf i).toNat)
  case atStart => exact ⟨0, by omega, rfl, rfl, hBS⟩
  case round =>
    clear hBS
    obtain ⟨j, hj, rfl, rfl, hB⟩ := hrel
    obtain ⟨k, hkj⟩ : ∃ k, k = j + 1 := ⟨_, rfl⟩
    have hmn : mnS f k = min (mnS f j) (f k) := by rw [hkj]; rfl
    have HKJ := hid hkj
    rw [← hkj]
    clear hkj
    have hk0 : (0 : Int) ≤ (k : Int) := by omega
    by_cases hlt : k < n
    · have hkn : (k : Int) < (n : Int) := by omega
      have hka : k < l.length := by rw [← HN.out]; omega
      have hnd := (HS.out _ (List.getElem_mem hka)).2
      have hgk := hid (hag.out (k) hka)
      obtain ⟨h1, h2⟩ := (HC.out (k) hka).below hB hl1
      have R1 := hid (rd_below (HG.out _ (List.getElem_mem hka)).rd hB)
      have P1 := rd_below hp2 hB
      have hz1 := Nat.lt_of_lt_of_le hl1 (hB).size
      obtain ⟨x, hx⟩ : ∃ x, x = l[k] := ⟨_, rfl⟩
      rw [← hx] at h1 h2 R1 hnd hgk
      clear hx hka
      obtain ⟨nx, ax, cx, fx⟩ := x
      dsimp only at h1 h2 R1 hnd hgk
      obtain ⟨mx, hmx⟩ : ∃ m, m = fx.length := ⟨_, rfl⟩
      rw [← hmx] at h2 hnd
      have HMX := hid hmx
      clear hmx
      have hwat : WrAt wr b (o + k * 2) nx ax mx cx := ⟨hz1, h1, h2⟩
      clear h1 h2
      have HMN := hid hmn
      clear hmn
      go_wp2_with (first | (go_at_call 68; refine (sAgainst_any b (o + k * 2) nx ax mx cx fx bo n2 cap2 p _ hwat HMX.out R1.out hnd HN2.out P1 hm2).mono ?_; rw [← hgk.out]; rintro e w5 ⟨rfl, hb5⟩) | (go_at_call 75; refine (sMin_any _ _ _).mono ?_; rintro e w' ⟨rfl, rfl⟩))
      go_roundw
      case rel => exact ⟨k, by omega, by go_num, by rw [HMN.out], hB.trans (hb5.mono hB.size)⟩
      case measure => simp [intOf]; omega
    · obtain rfl : k = n := by have := HKJ.out; omega
      have hbk := hid (show bw f k = (mnS f j, eqsF f (mnS f j) k) by rw [HKJ.out]; exact hbw.out j)
      have hel2 := hid (hel.out (mnS f j))
      generalize mnS f j = M at *
      have hlit := owns_lit wr 2 wr.heap.size (Nat.le_refl _)
      have hBL : Below wr.heap.size wr (wr.alloc (.cells #[] 2)) := (Below.refl _ _).alloc (Nat.le_refl _) _
      clear hmn hk0 hlt
      go_wp2_with fail
      generalize wr = wo at *
      go_loopw [9, 10] (fun v i wr => ∃ (q g c : Nat), q ≤ k ∧ i = .int .i64 q ∧ v = .slice (some ⟨g, 0, none⟩) (eqsF f M q).length c ∧ wr.ownsRow wo.heap.size 2 1 v (eqsF f M q).length (natI (eqsF f M q)) ∧ Below wo.heap.size wo wr) (fun _ i _ => k - (intOf i).toNat)
      case atStart => exact ⟨0, wo.heap.size, 0, Nat.zero_le _, rfl, rfl, hlit, hBL⟩
      case round =>
        clear hlit hBL
        obtain ⟨q, g, c, hq, rfl, rfl, hown, hBq⟩ := hrel
        have hq0 : (0 : Int) ≤ (q : Int) := by omega
        have hBB := hB.trans (hBq.mono hB.size)
        by_cases hqlt : q < k
        · have hqn : (q : Int) < (k : Int) := by omega
          have hka : q < l.length := by rw [← HN.out]; omega
          have hnd := (HS.out _ (List.getElem_mem hka)).2
          have hgk := hid (hag.out (q) hka)
          obtain ⟨h1, h2⟩ := (HC.out (q) hka).below hBB hl1
          have R1 := hid (rd_below (HG.out _ (List.getElem_mem hka)).rd hBB)
          have P1 := rd_below hp2 hBB
          have hz1 := Nat.lt_of_lt_of_le hl1 (hBB).size
          obtain ⟨x, hx⟩ : ∃ x, x = l[q] := ⟨_, rfl⟩
          rw [← hx] at h1 h2 R1 hnd hgk
          clear hx hka
          obtain ⟨nx, ax, cx, fx⟩ := x
          dsimp only at h1 h2 R1 hnd hgk
          obtain ⟨mx, hmx⟩ : ∃ m, m = fx.length := ⟨_, rfl⟩
          rw [← hmx] at h2 hnd
          have HMX := hid hmx
          clear hmx
          have hwat : WrAt wr b (o + q * 2) nx ax mx cx := ⟨hz1, h1, h2⟩
          clear h1 h2
          have hyes := hid (fun h => eqsF_yes (f := f) (m := M) (k := q) h)
          have hno := hid (fun h => eqsF_no (f := f) (m := M) (k := q) h)
          have hlq := hel2.out q
          obtain ⟨a, hae⟩ : ∃ a, a = f q := ⟨_, rfl⟩
          rw [← hae] at hyes hno hgk
          clear hae
          obtain ⟨L, hL⟩ : ∃ L, L = eqsF f M q := ⟨_, rfl⟩
          rw [← hL] at hyes hno hown hlq
          rw [← hL]
          have HL := hid hL
          clear hL
          obtain ⟨N, hN⟩ : ∃ N, N = L.length := ⟨_, rfl⟩
          rw [← hN] at hown hlq
          rw [← hN]
          have HNL := hid hN
          clear hN
          by_cases q3 : a = M
          · have d3 : (a == M) = true := eqI_true q3
            have hst := hid (hyes.out q3)
            clear hyes hno
            go_wp2_with (first | (go_at_call 68; refine (sAgainst_any b (o + q * 2) nx ax mx cx fx bo n2 cap2 p _ hwat HMX.out R1.out hnd HN2.out P1 hm2).mono ?_; rw [← hgk.out]; rintro e w5 ⟨rfl, hb5⟩; have hown5 := owns_below hown hb5; have hB5 := hBq.trans (hb5.mono hBq.size); have hz5 := hB5.size) | (at_builtin; refine wpList_append_own _ rfl _ _ 61 rfl wo.heap.size 2 i0 (.int .i64 0) 1 8 Try.underlying61 hi iz0 iz1 iz2 rfl (by decide) (.slice (some ⟨g, 0, none⟩) N c) _ _ rfl (hown5.alloc _) ⟨_, 0, none⟩ 1 1 [.int .i64 (q : Int)] rfl rfl (one_new _ _ _) (one_ok _ _) (by unfold maxLen; omega) (by omega) (by simp; omega) ?_; intro v7 w7 hown7 hgrow7 _))
            have hB7 := below_grown (hB5.alloc hz5 _) (by simp; omega) (hown5.alloc _) hgrow7
            rw [natI_snoc] at hown7
            rcases owns_form hown7 with ⟨_, h00, _⟩ | ⟨g7, c7, rfl, _⟩
            · omega
            have hnl1 : (L ++ [q]).length = N + 1 := by rw [List.length_append, ← HNL.out]; rfl
            go_roundw
            case rel => exact ⟨q + 1, g7, c7, by omega, by go_num, by rw [hst.out, hnl1], by rw [hst.out, hnl1]; exact hown7, hB7⟩
            case measure => simp [intOf]; omega
          · have d3 : (a == M) = false := eqI_false q3
            have hst := hid (hno.out q3)
            clear hyes hno
            go_wp2_with (go_at_call 68; refine (sAgainst_any b (o + q * 2) nx ax mx cx fx bo n2 cap2 p _ hwat HMX.out R1.out hnd HN2.out P1 hm2).mono ?_; rw [← hgk.out]; rintro e w5 ⟨rfl, hb5⟩)
            go_roundw
            case rel => exact ⟨q + 1, g, c, by omega, by go_num, by rw [hst.out, ← HNL.out], by rw [hst.out, ← HNL.out]; exact owns_below hown hb5, hBq.trans (hb5.mono hBq.size)⟩
            case measure => simp [intOf]; omega
        · obtain rfl : q = k := by omega
          go_wp2
          go_ret3
          rw [hR.out, hbk.out]
          exact ⟨some ⟨g, 0, none⟩, c, by rw [natI_len]; rfl, by rw [natI_len]; exact owns_mono hown (Nat.le_trans hb12.size hB.size), hb12.trans (hBB.mono hb12.size)⟩
end Go.Proofs.Ythhpeanlpikjbaa
