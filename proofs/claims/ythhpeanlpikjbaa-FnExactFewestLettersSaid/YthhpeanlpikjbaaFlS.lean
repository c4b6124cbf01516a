/-
  The letters that tell machines apart: the walk of the reference.
-/
import Derived.Test.YthhpeanlpikjbaaFlM
import Derived.Deep.RegionWith
namespace Go.Proofs.Ythhpeanlpikjbaa
open Go.RowKit Go.ChangeShapes Go.WideShapes Go.Maps
set_option linter.unusedVariables false
attribute [local go_sem ↓] Go.wp_at_zero Go.wp_at_succ

theorem wrDrew {w : World} {pb po : Nat} {x : ByteArray} {ao : Option Addr} {n cap : Nat} (h : WrAt w pb po x ao n cap) : WrAt w.drew pb po x ao n cap := ⟨h.lt, h.c0, h.c1⟩
theorem rdDrew {w : World} {ao : Option Addr} {xs : List Value} (h : Rd w ao xs) : Rd w.drew ao xs := h
theorem belowDrew {w w' : World} (h : Below w.drew.heap.size w.drew w') : Below w.heap.size w w' := ((Below.refl _ _).drew).trans (h.mono (Nat.le_refl _))
/-- two results, a row of texts (or nothing) and a code -/
def FewRet (B : Nat) (L : List ByteArray) (c : Int) (w : World) (e : Ending) (w' : World) : Prop :=
  ∃ ao cap, e = .returned (.tuple #[.slice ao L.length cap, .int .i64 c]) ∧ w'.ownsRow B 9 1 (.slice ao L.length cap) L.length (strs L) ∧ Below B w w'

theorem sAptN {N : Nat} {L : List ByteArray} (pa pao pb pbo : Nat) (xa : ByteArray) (aa : Option Addr) (na ca : Nat) (fa : List Se) (xb : ByteArray) (ab : Option Addr) (nb cb : Nat) (fb : List Se) (w : World) (hL : letL (apM noMk fa fb) = L) (hN : N = L.length) (pwA : WrAt w pa pao xa aa na ca) (pwB : WrAt w pb pbo xb ab nb cb)
    (hna : na = fa.length) (hra : Rd w aa (ses fa)) (hma : na ≤ 1048576) (hoA : Ones fa) (hnb : nb = fb.length) (hrb : Rd w ab (ses fb)) (hmb : nb ≤ 1048576) (hoB : Ones fb) :
    Calls Try.prog 73 #[.pointer (some ⟨pa, pao, none⟩), .pointer (some ⟨pb, pbo, none⟩)] w fun e w' => ∃ g c, e = .returned (.slice (some ⟨g, 0, none⟩) N c) ∧ w'.ownsRow w.heap.size 9 1 (.slice (some ⟨g, 0, none⟩) N c) N (strs L) ∧ Below w.heap.size w w' := by
  subst hL hN
  exact sApt_any pa pao pb pbo xa aa na ca fa xb ab nb cb fb w pwA pwB hna hra hma hoA hnb hrb hmb hoB
set_option maxRecDepth 100000 in
set_option maxHeartbeats 4000000 in
theorem sFew_any (ao : Option Addr) (n cap : Nat) (l : List Ws) (w : World) (ha : WsArg w ao n cap l) (hs : WsSmall l) :
    Calls Try.prog 47 #[.slice ao n cap] w (FewRet w.heap.size (fewAll l).1 (fewAll l).2 w) := by
  cases h1 : okWs (l.map Ws.d)
  · have hR := hid (few_bad h1)
    go_enter Try.func47, Try.ntmps47
    go_wp2_with (go_at_call 55; refine (sOkWs_any ao n cap l _ ha hs).mono ?_; rw [h1]; rintro e w1 ⟨rfl, hb1⟩)
    go_ret2
    rw [hR.out]
    exact ⟨none, 0, rfl, World.ownsRow_nil _ _ _ _, hb1⟩
  have H1 := hid h1
  obtain ⟨hones, h12⟩ := okWs_ones h1
  have HO := hid hones
  have hnl : n = l.length := ha.1
  have HN := hid hnl
  rw [← hnl] at h12
  clear hnl hones h1
  go_enter Try.func47, Try.ntmps47
  go_wp2_with (go_at_call 55; refine (sOkWs_any ao n cap l _ ha hs).mono ?_; rw [H1.out]; rintro e w1 ⟨rfl, hb1⟩)
  have ha1 := ha.below hb1
  have HA1 := hid ha1
  obtain ⟨hx1, hx2, hr, hg⟩ := ha1
  have HB1 := hid hb1
  have HG := hid hg
  have HSS := hid hs
  have HS := hid hs.2
  have hrd := rd_ws hr
  clear hx1 hx2 hr hg ha hs hb1
  have hlit := owns_lit w1 9 w1.heap.size (Nat.le_refl _)
  have hB0 : Below w1.heap.size w1 (w1.alloc (.cells #[] 9)) := (Below.refl _ _).alloc (Nat.le_refl _) _
  have hnol : letL (muI l 0) = [] := noMk_letL
  go_loopw [4, 5, 6, 7, 8] (fun v i _ _ _ wr => ∃ (k g c : Nat), k ≤ n ∧ i = .int .i64 k ∧ v = .slice (some ⟨g, 0, none⟩) (letL (muI l k)).length c ∧ wr.ownsRow w1.heap.size 9 1 (.slice (some ⟨g, 0, none⟩) (letL (muI l k)).length c) (letL (muI l k)).length (strs (letL (muI l k))) ∧ Hid (FreeTo l k) ∧ Below w1.heap.size w1 wr) (fun _ i _ _ _ _ => n - (intOf i).toNat)
  case atStart => exact ⟨0, w1.heap.size, 0, Nat.zero_le _, rfl, by rw [hnol]; rfl, by rw [hnol]; exact hlit, hid (fun a h => absurd h (Nat.not_lt_zero a)), hB0⟩
  case round =>
    clear hlit hB0 hnol
    obtain ⟨i, g, c, hik, rfl, rfl, hown, hfr, hB⟩ := hrel
    by_cases hlt : i < n
    · rcases hrd with hnil | ⟨b, o, rfl, hl1, hcell⟩
      · exact absurd (by rw [HN.out, hnil]; rfl : n = 0) (by omega)
      have hia : i < l.length := by rw [← HN.out]; exact hlt
      have hi0 : (0 : Int) ≤ (i : Int) := by omega
      have hin : (i : Int) < (n : Int) := by omega
      have hMI := muI_len l i
      have HNX := hid (show muI l (i + 1) = muK l i (muI l i) i from rfl)
      have HK0 := hid (show muK l i (muI l i) 0 = muI l i from rfl)
      have HKS := hid (fun k => (show muK l i (muI l i) (k + 1) = apM (muK l i (muI l i) k) (fsK l i) (fsK l k) from rfl))
      have HKL := hid (fun k => muK_len l i hMI k)
      obtain ⟨f, hf⟩ : ∃ f, f = muK l i (muI l i) := ⟨_, rfl⟩
      rw [← hf] at HNX HK0 HKS HKL
      clear hf hMI
      rw [← HK0.out] at hown ⊢
      obtain ⟨N0, hN0⟩ : ∃ N, N = (letL (f 0)).length := ⟨_, rfl⟩
      rw [← hN0] at hown ⊢
      have HN0 := hid hN0
      clear hN0
      go_wp2_with fail
      go_loopw [4, 6, 7, 8] (fun v q _ _ wi => ∃ (k g c : Nat), k ≤ i ∧ q = .int .i64 k ∧ v = .slice (some ⟨g, 0, none⟩) (letL (f k)).length c ∧ wi.ownsRow w1.heap.size 9 1 (.slice (some ⟨g, 0, none⟩) (letL (f k)).length c) (letL (f k)).length (strs (letL (f k))) ∧ Hid (∀ b, b < k → ¬ (ownL l i b).length = 0) ∧ Below w1.heap.size w1 wi) (fun _ q _ _ _ => i - (intOf q).toNat)
      case atStart => exact ⟨0, g, c, Nat.zero_le _, rfl, by rw [← HN0.out], by rw [← HN0.out]; exact hown, hid (fun a h => absurd h (Nat.not_lt_zero a)), hB⟩
      case round =>
        clear hown hB
        obtain ⟨k, g, c, hki, rfl, rfl, hown, hfk, hB⟩ := hrel
        by_cases hkt : k < i
        · have hka : k < l.length := by omega
          have hk0 : (0 : Int) ≤ (k : Int) := by omega
          have hkn : (k : Int) < (n : Int) := by omega
          have hki2 : (k : Int) < (i : Int) := by omega
          have hzz := hB.size
          have WA := wsAt (hcell i hia) hB hl1
          have WB := wsAt (hcell k hka) hB hl1
          have RA := hid (rd_below (HG.out _ (List.getElem_mem hia)).rd hB)
          have RB := hid (rd_below (HG.out _ (List.getElem_mem hka)).rd hB)
          have hma := (HS.out _ (List.getElem_mem hia)).2
          have hmb := (HS.out _ (List.getElem_mem hka)).2
          have hoA := HO.out i
          have hoB := HO.out k
          have hks := hid (HKS.out k)
          have hkl := HKL.out k
          have hol : ownL l i k = letL (apM noMk l[i].fs l[k].fs) := by unfold ownL; rw [fsK_get hia, fsK_get hka]
          rw [fsK_get hia] at hoA hks
          rw [fsK_get hka] at hoB hks
          have hclash := hid (fun h => clash_yes hia hkt h)
          obtain ⟨x, hx⟩ : ∃ x, x = l[i] := ⟨_, rfl⟩
          obtain ⟨y, hy⟩ : ∃ y, y = l[k] := ⟨_, rfl⟩
          rw [← hx] at WA RA hma hoA hks hol
          rw [← hy] at WB RB hmb hoB hks hol
          clear hx hy hcell
          obtain ⟨xa, pa, ca, fa⟩ := x
          obtain ⟨xb, pb, cb, fb⟩ := y
          dsimp only at WA WB RA RB hma hmb hoA hoB hks hol
          have hos := hid (ap_set hkl fa fb)
          obtain ⟨os, hose⟩ : ∃ os, os = apM noMk fa fb := ⟨_, rfl⟩
          have HOSE := hid hose
          rw [← hose] at hos hol
          clear hose
          obtain ⟨na, hna⟩ : ∃ m, m = fa.length := ⟨_, rfl⟩
          obtain ⟨nb, hnb⟩ : ∃ m, m = fb.length := ⟨_, rfl⟩
          rw [← hna] at WA hma
          rw [← hnb] at WB hmb
          have HNA := hid hna
          have HNB := hid hnb
          have HOL := hid hol
          clear hna hnb hol
          obtain ⟨wa0, wa1, wa2⟩ := id WA
          obtain ⟨wb0, wb1, wb2⟩ := id WB
          obtain ⟨M, hM⟩ : ∃ M, M = f k := ⟨_, rfl⟩
          rw [← hM] at hown hks hkl hos
          rw [← hM]
          clear hM
          obtain ⟨N1, hN1⟩ : ∃ N, N = (letL M).length := ⟨_, rfl⟩
          rw [← hN1] at hown ⊢
          have HN1 := hid hN1
          clear hN1
          obtain ⟨LO, hLO⟩ : ∃ LO, LO = letL os := ⟨_, rfl⟩
          rw [← hLO] at HOL
          have HLO := hid hLO
          have HLA := hid (show letL (apM noMk fa fb) = LO by rw [← HOSE.out]; exact hLO.symm)
          clear hLO
          obtain ⟨N2, hN2⟩ : ∃ N, N = LO.length := ⟨_, rfl⟩
          have HN2 := hid hN2
          clear hN2
          go_wp2_with fail
          go_region_with (go_at_call 73; refine (sAptN b (o + i * 2) b (o + k * 2) xa pa na ca fa xb pb nb cb fb _ HLA.out HN2.out (wrDrew WA) (wrDrew WB) HNA.out (rdDrew RA.out) hma hoA HNB.out (rdDrew RB.out) hmb hoB).mono ?_; rintro e w3 ⟨g3, c3, rfl, ho3, hb3⟩)
          have hb3 := belowDrew hb3
          have hB3 := hB.trans (hb3.mono hzz)
          have hown3 := owns_below hown hb3
          have hg3 := (ho3.lt g3 rfl).2
          by_cases hn0 : N2 = 0
          · have e0 : ((N2 : Int) == (0 : Int)) = true := eqI_true (by omega)
            have hR := hid (few_clash H1.out (hclash.out (by rw [HOL.out, ← HN2.out]; exact hn0)))
            go_wp2_with fail
            go_ret2
            rw [hR.out]
            exact ⟨none, 0, rfl, World.ownsRow_nil _ _ _ _, HB1.out.trans (hB3.mono HB1.out.size)⟩
          have e0 : ((N2 : Int) == (0 : Int)) = false := eqI_false (by omega)
          have hbl := hid (show (bytesOf os).length = N2 by rw [HN2.out, HLO.out, letL_len])
          have h256 : N2 ≤ 256 := by rw [← hbl.out]; exact bytes_len os
          have HC3 := hid (fun t (ht : t < LO.length) => (by rw [ho3.cellAt t (by rw [HN2.out]; omega), List.getElem?_eq_getElem (by rw [strs_len]; exact ht), strs_get] : w3.cell? ⟨g3, t, none⟩ = some (.string LO[t])))
          have HZ0 := hid (show setL M ((bytesOf os).take 0) = M by rw [List.take_zero]; rfl)
          have HZN := hid (show setL M ((bytesOf os).take N2) = f (k + 1) by rw [← hbl.out, List.take_length, hos.out, hks.out])
          have hfk2 := hid (show ∀ b, b < k + 1 → ¬ (ownL l i b).length = 0 from fun q hq => by
            rcases Nat.lt_or_ge q k with h | h
            · exact hfk.out q h
            · obtain rfl : q = k := by omega
              rw [HOL.out, ← HN2.out]; exact hn0)
          have hz3 := hB3.size
          clear hown ho3 hb3
          go_wp2_with fail
          go_loopw [4, 8] (fun v q wi => ∃ (t g c : Nat), t ≤ N2 ∧ q = .int .i64 t ∧ v = .slice (some ⟨g, 0, none⟩) (letL (setL M ((bytesOf os).take t))).length c ∧ wi.ownsRow w1.heap.size 9 1 (.slice (some ⟨g, 0, none⟩) (letL (setL M ((bytesOf os).take t))).length c) (letL (setL M ((bytesOf os).take t))).length (strs (letL (setL M ((bytesOf os).take t)))) ∧ Below w3.heap.size w3 wi) (fun _ q _ => N2 - (intOf q).toNat)
          case atStart => exact ⟨0, g, c, Nat.zero_le _, rfl, by rw [HZ0.out, ← HN1.out], by rw [HZ0.out, ← HN1.out]; exact hown3, Below.refl _ _⟩
          case round =>
            clear hown3
            obtain ⟨t, g, c, htn, rfl, rfl, hown, hBt⟩ := hrel
            by_cases htt : t < N2
            · have htb : t < (bytesOf os).length := by rw [hbl.out]; exact htt
              have htl : t < LO.length := by rw [← HN2.out]; exact htt
              have ht0 : (0 : Int) ≤ (t : Int) := by omega
              have htm : (t : Int) < (N2 : Int) := by omega
              have hle : LO[t] = oneT (bytesOf os)[t] := by
                have := letL_get (ms := os) (k := t) (by rw [← HLO.out]; exact htl)
                simp only [← HLO.out] at this
                exact this
              have gc := (hBt.cell (p := ⟨g3, t, none⟩) hg3).trans (HC3.out t htl)
              rw [hle] at gc
              have hc256 := bytes_lt htb
              have hsn := hid (show setL M ((bytesOf os).take (t + 1)) = (setL M ((bytesOf os).take t)).set (bytesOf os)[t] true by rw [List.take_succ_eq_append_getElem htb, setL_snoc])
              have hml : (setL M ((bytesOf os).take t)).length = 256 := by rw [setL_len]; exact hkl
              clear hle
              obtain ⟨Mt, hMt⟩ : ∃ Mt, Mt = setL M ((bytesOf os).take t) := ⟨_, rfl⟩
              rw [← hMt] at hown hsn hml
              rw [← hMt]
              clear hMt
              obtain ⟨q, hq⟩ : ∃ q, q = (bytesOf os)[t] := ⟨_, rfl⟩
              rw [← hq] at gc hc256 hsn
              clear hq
              have hzt : w1.heap.size ≤ wr.heap.size := Nat.le_trans hz3 hBt.size
              have hst := hBt.size
              go_wp2_with (go_at_call 64; refine (sPut_any w1.heap.size g c Mt q _ hc256 hml hzt hown).mono ?_; rintro e w5 ⟨g5, c5, rfl, ho5, hb5⟩)
              go_roundw
              case rel => exact ⟨t + 1, g5, c5, by omega, by go_num, by rw [hsn.out], by rw [hsn.out]; exact ho5, hBt.trans (hb5.mono hst)⟩
              case measure => simp [intOf]; omega
            · have htn2 : N2 = t := by omega
              subst htn2
              rw [HZN.out] at hown ⊢
              have hB5 := hB3.trans (hBt.mono hz3)
              go_wp2_with fail
              go_roundw
              case rel => exact ⟨k + 1, g, c, by omega, by go_num, rfl, hown, hfk2, hB5⟩
              case measure => simp [intOf]; omega
        · have hki3 : i = k := by omega
          subst hki3
          have hfr2 := hid (show FreeTo l (i + 1) from fun a ha q hq => by
            rcases Nat.lt_or_ge a i with h | h
            · exact hfr.out a h q hq
            · obtain rfl : a = i := by omega
              exact hfk.out q hq)
          rw [← HNX.out] at hown ⊢
          go_wp2_with fail
          go_roundw
          case rel => exact ⟨i + 1, g, c, by omega, by go_num, rfl, hown, hfr2, hB⟩
          case measure => simp [intOf]; omega
    · have hin2 : n = i := by omega
      subst hin2
      have hfree : FreeTo l l.length := by rw [← HN.out]; exact hfr.out
      have hnc := clash_no hfree
      have hgood := full_good HO.out hfree
      have hfull := hid (few_full H1.out hnc)
      have hok := hid (fun h3 s c hs h1 h2 => few_ok H1.out hnc h3 (s := s) (c := c) hs h1 h2)
      rw [HN.out] at hown
      rw [HN.out]
      have HALL := hid (choR_full hgood)
      obtain ⟨L, hL⟩ : ∃ L, L = letL (muI l l.length) := ⟨_, rfl⟩
      rw [← hL] at hown hfull hok HALL
      rw [← hL]
      clear hL hgood
      obtain ⟨N, hN⟩ : ∃ N, N = L.length := ⟨_, rfl⟩
      rw [← hN] at hown hfull hok
      rw [← hN]
      have HNL := hid hN
      rw [← HN.out]
      by_cases h16 : 16 < N
      · have hR := hid (hfull.out h16)
        have e0 : (16 : Int) < (N : Int) := by omega
        clear hN
        go_wp2_with fail
        go_ret2
        rw [hR.out]
        exact ⟨none, 0, rfl, World.ownsRow_nil _ _ _ _, HB1.out.trans (hB.mono HB1.out.size)⟩
      have hok2 := hid (hok.out h16)
      have e0 : ¬ (16 : Int) < (N : Int) := by omega
      have h16' : N ≤ 16 := by omega
      rw [← hN] at HALL
      clear hN hok hfull h16 hfree hnc
      obtain ⟨wq, hq⟩ : ∃ wq, wq = wr := ⟨_, rfl⟩
      subst hq
      have HRL := hid (show Rd wq (some ⟨g, 0, none⟩) (strs L) from owns_rdN hown)
      have HAQ := hid (HA1.out.below hB)
      go_wp2_with fail
      go_loopw [9, 10, 11] (fun i _ _ wr => ∃ s : Nat, s ≤ N ∧ i = .int .i64 s ∧ Hid (∀ t, t < s → choR l L [] t 0 = none) ∧ Below wq.heap.size wq wr) (fun i _ _ _ => N + 1 - (intOf i).toNat)
      case atStart => exact ⟨0, Nat.zero_le _, rfl, hid (fun t h => absurd h (Nat.not_lt_zero t)), Below.refl _ _⟩
      case round =>
        obtain ⟨s, hsN, rfl, hno, hBw⟩ := hrel
        have hzw := hBw.size
        have hlit := owns_lit wr 9 wr.heap.size (Nat.le_refl _)
        have hBl : Below wq.heap.size wq (wr.alloc (.cells #[] 9)) := hBw.alloc hzw _
        have hBr : Below wr.heap.size wr (wr.alloc (.cells #[] 9)) := (Below.refl _ _).alloc (Nat.le_refl _) _
        have hha := HAQ.out.below hBl
        have hrr := rd_below HRL.out hBl
        have hs40 : 0 + s ≤ 40 := by omega
        have hsz : wr.heap.size ≤ (wr.alloc (.cells #[] 9)).heap.size := by simp
        obtain ⟨r, hr⟩ : ∃ r, r = choR l L [] s 0 := ⟨_, rfl⟩
        have HCH := hid (choose_any l ao n cap L (some ⟨g, 0, none⟩) N c HSS.out HNL.out h16' s (s : Int) [] wr.heap.size wr.heap.size 0 0 0 0 _ rfl rfl hha hrr rfl hs40 (by omega) hsz hlit)
        rw [← hr] at HCH
        cases r with
        | none =>
          have hsN2 : s < N := by
            rcases Nat.lt_or_ge s N with h | h
            · exact h
            · obtain rfl : s = N := by omega
              obtain ⟨c, hc⟩ := HALL.out
              rw [← hr] at hc; cases hc
          have hno2 := hid (show ∀ t, t < s + 1 → choR l L [] t 0 = none from fun t ht => by
            rcases Nat.lt_or_ge t s with h | h
            · exact hno.out t h
            · obtain rfl : t = s := by omega
              exact hr.symm)
          clear hr hlit hha hrr
          go_wp2_with (go_at_call 76; refine HCH.out.mono ?_; rintro e w5 ⟨v, rfl, hb5, hv⟩; clear hv; have hB5 := hBl.trans (hb5.mono (Nat.le_trans hzw hsz)))
          go_roundw
          case rel => exact ⟨s + 1, by omega, by go_num, hno2, hB5⟩
          case measure => simp [intOf]; omega
        | some c2 =>
          have hR := hid (hok2.out s c2 hsN hno.out hr.symm)
          clear hr hlit hha hrr
          go_wp2_with (go_at_call 76; refine HCH.out.mono ?_; rintro e w5 ⟨v, rfl, hb5, hv⟩; obtain ⟨gr, kr, rfl, hor⟩ := hv c2 rfl; rw [List.nil_append] at hor; have hB5 := hBl.trans (hb5.mono (Nat.le_trans hzw hsz)))
          go_ret2
          rw [hR.out]
          have hz1 := HB1.out.size
          have hz2 := hB.size
          exact ⟨some ⟨gr, 0, none⟩, kr, by dsimp only; rw [List.length_map]; rfl, owns_mono hor (by omega), HB1.out.trans ((hB.trans (hB5.mono hz2)).mono hz1)⟩
end Go.Proofs.Ythhpeanlpikjbaa
