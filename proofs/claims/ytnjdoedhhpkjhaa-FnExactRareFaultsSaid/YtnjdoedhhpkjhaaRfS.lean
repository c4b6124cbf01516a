/-
  The faults that one machine alone has: the walk of the reference.
-/
import Derived.Test.YtnjdoedhhpkjhaaRfI
namespace Go.Proofs.Ytnjdoedhhpkjhaa
open Go.RowKit Go.ChangeShapes Go.WideShapes Go.Maps
set_option linter.unusedVariables false
attribute [local go_sem ↓] Go.wp_at_zero Go.wp_at_succ

theorem rfS_drewW {w : World} {pb po : Nat} {x : ByteArray} {ao : Option Addr} {n cap : Nat} (h : WrAt w pb po x ao n cap) (m : Nat) : WrAt (w.drewN m) pb po x ao n cap := ⟨h.lt, h.c0, h.c1⟩
theorem rfS_drewR {w : World} {ao : Option Addr} {xs : List Value} (h : Rd w ao xs) (m : Nat) : Rd (w.drewN m) ao xs := h
theorem rfS_of {r : Int} (pb po : Nat) (x : ByteArray) (ao : Option Addr) (n cap : Nat) (l : List Se) (s : ByteArray) (w : World) (hw : WrAt w pb po x ao n cap) (hn : n = l.length) (hr : Rd w ao (ses l)) (hm : n ≤ 1048576) (h : kindI l s = r) :
    Calls Try.prog 49 #[.pointer (some ⟨pb, po, none⟩), .string s] w fun e w' => e = .returned (.int .i64 r) ∧ w = w' := by
  subst h; exact sOf_any pb po x ao n cap l s w hw hn hr hm
/-- how many of the first t machines have the letter s at kind κ -/
def cntUp (l : List Ws) (s : ByteArray) (κ : Int) (t : Nat) : Nat := cntW ((l.take t).map Ws.d) s κ
theorem cntUp_zero (l : List Ws) (s : ByteArray) (κ : Int) : cntUp l s κ 0 = 0 := by simp [cntUp, cntW]
theorem cntUp_succ {l : List Ws} {s : ByteArray} {κ : Int} {t : Nat} (h : t < l.length) : cntUp l s κ (t + 1) = cntUp l s κ t + if kindI l[t].fs s = κ then 1 else 0 := by
  unfold cntUp cntW
  rw [List.take_succ_eq_append_getElem h, List.map_append, List.filter_append, List.length_append]
  congr 1
  by_cases hk : kindI l[t].fs s = κ
  · simp [Ws.d, hk]
  · simp [Ws.d, hk]
theorem cntUp_len (l : List Ws) (s : ByteArray) (κ : Int) (t : Nat) : cntUp l s κ t ≤ t := by
  unfold cntUp cntW
  have h1 := List.length_filter_le (fun x : WsD => decide (kindI x.2 s = κ)) ((l.take t).map Ws.d)
  have h2 := List.length_take_le t l
  rw [List.length_map] at h1
  omega
theorem cntUp_all (l : List Ws) (s : ByteArray) (κ : Int) : cntUp l s κ l.length = cntW (l.map Ws.d) s κ := by
  unfold cntUp; rw [List.take_length]
/-- what is handed back for the first k letters -/
def doneL (A : List WsD) (L : List ByteArray) (k : Nat) : List Se := (L.take k).flatMap fun s => rk1 A s 6
theorem doneL_succ {A : List WsD} {L : List ByteArray} {k : Nat} (h : k < L.length) : doneL A L (k + 1) = doneL A L k ++ rk1 A L[k] 6 := by
  unfold doneL
  rw [List.take_succ_eq_append_getElem h, List.flatMap_append]
  simp
theorem doneL_len (A : List WsD) (L : List ByteArray) : ∀ k, k ≤ L.length → (doneL A L k).length ≤ 6 * k
  | 0, _ => by simp [doneL]
  | k + 1, hk => by
    rw [doneL_succ (by omega), List.length_append]
    have := doneL_len A L k (by omega)
    have := rk1_len A (L[k]'(by omega)) 6
    omega
theorem doneL_all (A : List WsD) : doneL A (letsOf (allF A)) (letsOf (allF A)).length = rfS A := by
  unfold doneL rfS; rw [List.take_length]
theorem litSe (w : World) : (w.alloc (.cells #[] 82)).ownsRow w.heap.size 82 2 (.slice (some ⟨w.heap.size, 0, none⟩) 0 0) 0 [] := by
  have h := World.ownsRow_made (e := 82) (size := 2) (base := w.heap.size) w #[] 0 (Nat.le_refl _) (by unfold maxLen; omega) rfl
  simpa using h
theorem two_newR (w : World) (x y : Value) (t : TypeId) : ∀ j u, [x, y][j]? = some u → (w.alloc (.cells #[x, y] t)).cell? ((⟨w.heap.size, 0, none⟩ : Addr).add j) = some u := by
  intro j u hj
  match j, hj with
  | 0, hj => simpa [Addr.add] using hj
  | 1, hj => simpa [Addr.add] using hj

set_option maxRecDepth 100000 in
set_option maxHeartbeats 8000000 in
theorem sRare_any (ao : Option Addr) (n cap : Nat) (l : List Ws) (w : World) (ha : WsArg w ao n cap l) (hs : WsSmall l) :
    Calls Try.prog 23 #[.slice ao n cap] w (FlatRet w.heap.size 82 2 (rareAll l).1.length w (ses (rareAll l).1) (rareAll l).2) := by
  obtain ⟨i0, hi, iz0, iz1, iz2⟩ := info_parts Try.infoTf
  cases h1 : okWs (l.map Ws.d)
  · have hR := hid (rareAll_bad h1)
    go_enter Try.func23, Try.ntmps23
    go_wp2_with (go_at_call 48; refine (sOkWs_any ao n cap l _ ha hs).mono ?_; rw [h1]; rintro e w1 ⟨rfl, hb1⟩)
    go_ret2
    rw [hR.out]
    exact ⟨none, 0, rfl, World.ownsRow_nil _ _ _ _, hb1⟩
  have hR := hid (rareAll_ok h1)
  have H1 := hid h1
  obtain ⟨hA, h12⟩ := okWs_facts h1
  have h12 : l.length ≤ 12 := by simpa using h12
  have hF : ∀ x ∈ l, FsOk x.fs := fun x hx => fs_ok (hA x.d (List.mem_map.2 ⟨x, hx, rfl⟩))
  have HL := hid (upF_len (l := l) fun x hx => (hF x hx).len)
  have HF := hid hF
  have hnl : n = l.length := ha.1
  have HN := hid hnl
  rw [← hnl] at h12
  clear hnl hF hA h1
  go_enter Try.func23, Try.ntmps23
  go_wp2_with (go_at_call 48; refine (sOkWs_any ao n cap l _ ha hs).mono ?_; rw [H1.out]; rintro e w1 ⟨rfl, hb1⟩)
  have ha1 := ha.below hb1
  obtain ⟨hx1, hx2, hr, hg⟩ := ha1
  have HB1 := hid hb1
  have HG := hid hg
  have HS := hid hs.2
  have hrd := rd_ws hr
  clear hx1 hx2 hr hg ha hs hb1
  have hlit := owns_lit w1 9 w1.heap.size (Nat.le_refl _)
  have hB0 : Below w1.heap.size w1 (w1.alloc (.cells #[] 9)) := (Below.refl _ _).alloc (Nat.le_refl _) _
  go_loopw [4, 5, 6] (fun v i _ wr => ∃ (k g c : Nat), k ≤ n ∧ i = .int .i64 k ∧ v = .slice (some ⟨g, 0, none⟩) (letsOf (upF l k)).length c ∧ wr.ownsRow w1.heap.size 9 1 (.slice (some ⟨g, 0, none⟩) (letsOf (upF l k)).length c) (letsOf (upF l k)).length (strs (letsOf (upF l k))) ∧ Below w1.heap.size w1 wr) (fun _ i _ _ => n - (intOf i).toNat)
  case atStart => exact ⟨0, w1.heap.size, 0, Nat.zero_le _, rfl, rfl, hlit, hB0⟩
  case round =>
    clear hlit hB0
    obtain ⟨k, g, c, hk, rfl, rfl, hown, hB⟩ := hrel
    by_cases hlt : k < n
    · rcases hrd with hnil | ⟨b, o, rfl, hl1, hcell⟩
      · exact absurd (by rw [HN.out, hnil]; rfl : n = 0) (by omega)
      have hka : k < l.length := by rw [← HN.out]; exact hlt
      have hnd := (HS.out _ (List.getElem_mem hka)).2
      have hk0 : (0 : Int) ≤ (k : Int) := by omega
      have hkn : (k : Int) < (n : Int) := by omega
      have hup := hid (upF_succ hka)
      have hlen := HL.out k (by omega)
      have hfo := hid (HF.out _ (List.getElem_mem hka))
      obtain ⟨h1, h2⟩ := hcell k hka
      have R1 := hid (HG.out _ (List.getElem_mem hka)).rd
      clear hcell
      obtain ⟨x, hx⟩ : ∃ x, x = l[k] := ⟨_, rfl⟩
      rw [← hx] at h1 h2 R1 hnd hup hfo
      clear hx
      obtain ⟨nx, ax, cx, fx⟩ := x
      dsimp only at h1 h2 R1 hnd hup hfo
      have HC2 := hid h2
      clear h1 h2
      obtain ⟨U, hU⟩ : ∃ U, U = upF l k := ⟨_, rfl⟩
      rw [← hU] at hup hown hlen
      obtain ⟨mx, hmx⟩ : ∃ m, m = fx.length := ⟨_, rfl⟩
      rw [← hmx] at HC2 hnd
      have HMX := hid hmx
      have hm10 : mx ≤ 10 := by rw [hmx]; exact hfo.out.len
      clear hmx
      rw [← hU]
      clear hU
      have hup0 : U ++ fx.take 0 = U := by simp
      have hupm := hid (show upF l (k + 1) = U ++ fx.take mx by rw [hup.out, HMX.out, List.take_length])
      clear hup
      have c2 := (hB.cell (p := ⟨b, o + k * 2 + 1, none⟩) hl1).trans HC2.out
      obtain ⟨N0, hN0⟩ : ∃ N, N = (letsOf U).length := ⟨_, rfl⟩
      rw [← hN0] at hown ⊢
      go_wp2_with fail
      go_loopw [4, 6] (fun v i wi => ∃ (j g c : Nat), j ≤ mx ∧ i = .int .i64 j ∧ v = .slice (some ⟨g, 0, none⟩) (letsOf (U ++ fx.take j)).length c ∧ wi.ownsRow w1.heap.size 9 1 (.slice (some ⟨g, 0, none⟩) (letsOf (U ++ fx.take j)).length c) (letsOf (U ++ fx.take j)).length (strs (letsOf (U ++ fx.take j))) ∧ Below w1.heap.size w1 wi) (fun _ i _ => mx - (intOf i).toNat)
      case atStart => exact ⟨0, g, c, Nat.zero_le _, rfl, by rw [hup0, ← hN0], by rw [hup0, ← hN0]; exact hown, hB⟩
      case round =>
        clear hown hB c2 hN0
        obtain ⟨j, g, c, hj, rfl, rfl, hown, hB⟩ := hrel
        have c2 := (hB.cell (p := ⟨b, o + k * 2 + 1, none⟩) hl1).trans HC2.out
        by_cases hjt : j < mx
        · rcases rd_se R1.out with hnil | ⟨b2, o2, rfl, hl2, hcell2⟩
          · exact absurd (by rw [HMX.out, hnil]; rfl : mx = 0) (by omega)
          have hja : j < fx.length := by rw [← HMX.out]; exact hjt
          have hj0 : (0 : Int) ≤ (j : Int) := by omega
          have hjm : (j : Int) < (mx : Int) := by omega
          have c0 := (hB.cell (p := ⟨b2, o2 + j * 2, none⟩) hl2).trans (hcell2 j hja).1
          have hnx := hid (show U ++ fx.take (j + 1) = (U ++ fx.take j) ++ [fx[j]] by rw [take_one hja, List.append_assoc])
          have hul : (U ++ fx.take j).length ≤ 120 := by rw [List.length_append, List.length_take]; omega
          clear hcell2
          obtain ⟨y, hy⟩ : ∃ y, y = fx[j] := ⟨_, rfl⟩
          rw [← hy] at c0 hnx
          clear hy
          obtain ⟨V, hV⟩ : ∃ V, V = U ++ fx.take j := ⟨_, rfl⟩
          rw [← hV] at hown hnx hul
          rw [← hV]
          clear hV
          have hon := hid (letsOf_snoc V y)
          have hml := letsOf_len V
          obtain ⟨M, hM⟩ : ∃ M, M = letsOf V := ⟨_, rfl⟩
          rw [← hM] at hown hon hml
          rw [← hM]
          clear hM
          have hst := hid (show letsOf (U ++ fx.take (j + 1)) = insP M y.1 by rw [hnx.out, hon.out])
          have hzz := hB.size
          have hm1 : M.length ≤ 10000 := by omega
          go_wp2_with (go_at_call 43; refine (sPutG_any w1.heap.size g c M y.1 _ hzz hm1 hown).mono ?_; rintro e w3 ⟨g3, c3, rfl, ho3, hb3⟩)
          go_roundw
          case rel => exact ⟨j + 1, g3, c3, by omega, by go_num, by rw [hst.out], by rw [hst.out]; exact ho3, hB.trans (hb3.mono hzz)⟩
          case measure => simp [intOf]; omega
        · obtain rfl : j = mx := by omega
          go_wp2_with fail
          go_roundw
          case rel => exact ⟨k + 1, g, c, by omega, by go_num, by rw [hupm.out], by rw [hupm.out]; exact hown, hB⟩
          case measure => simp [intOf]; omega
    · have hkn : n = k := by omega
      subst hkn
      have hall := hid (show upF l n = allF (l.map Ws.d) by rw [HN.out]; exact upF_all l)
      have hl120 := HL.out n (by rw [← HN.out]; exact Nat.le_refl _)
      rw [hall.out] at hown hl120
      rw [hall.out]
      have hll := letsOf_len (allF (l.map Ws.d))
      have hdone := hid (doneL_all (l.map Ws.d))
      obtain ⟨A, hAe⟩ : ∃ A, A = l.map Ws.d := ⟨_, rfl⟩
      rw [← hAe] at hown hl120 hll hdone
      rw [← hAe]
      have HA := hid hAe
      clear hAe
      obtain ⟨L, hLe⟩ : ∃ L, L = letsOf (allF A) := ⟨_, rfl⟩
      rw [← hLe] at hown hll hdone
      rw [← hLe]
      clear hLe
      obtain ⟨NL, hNL⟩ : ∃ N, N = L.length := ⟨_, rfl⟩
      rw [← hNL] at hown hll hdone
      rw [← hNL]
      have HNL := hid hNL
      clear hNL
      obtain ⟨wq, hq⟩ : ∃ wq, wq = wr := ⟨_, rfl⟩
      subst hq
      have hzq := hB.size
      have hgl := (hown.lt g rfl).2
      have hlet := hid (fun t (ht : t < L.length) => (by rw [hown.cellAt t (by rw [HNL.out]; omega), List.getElem?_eq_getElem (by rw [strs_len]; exact ht), strs_get] : wq.cell? ⟨g, t, none⟩ = some (.string L[t])))
      have hlit := litSe wq
      have hBq : Below wq.heap.size wq (wq.alloc (.cells #[] 82)) := (Below.refl _ _).alloc (Nat.le_refl _) _
      have HDL := hid (doneL_len A L)
      have HRL := hid (rk1_len A)
      clear hown
      go_wp2_with fail
      go_loopw [7, 8, 9, 10, 11] (fun v i _ _ _ wr => ∃ (k g2 c2 : Nat), k ≤ NL ∧ i = .int .i64 k ∧ v = .slice (some ⟨g2, 0, none⟩) (doneL A L k).length c2 ∧ wr.ownsRow wq.heap.size 82 2 (.slice (some ⟨g2, 0, none⟩) (doneL A L k).length c2) (doneL A L k).length (ses (doneL A L k)) ∧ Below wq.heap.size wq wr) (fun _ i _ _ _ _ => NL - (intOf i).toNat)
      case atStart => exact ⟨0, _, _, Nat.zero_le _, rfl, rfl, hlit, hBq⟩
      case round =>
        clear hlit hBq
        obtain ⟨k, g2, c2, hk, rfl, rfl, hown, hBw⟩ := hrel
        by_cases hlt : k < NL
        · have hka : k < L.length := by rw [← HNL.out]; exact hlt
          have hk0 : (0 : Int) ≤ (k : Int) := by omega
          have hkn : (k : Int) < (NL : Int) := by omega
          have HLC := hid (hlet.out k hka)
          have hds := hid (doneL_succ (A := A) hka)
          have hdl := HDL.out k (by omega)
          obtain ⟨s, hse⟩ : ∃ s, s = L[k] := ⟨_, rfl⟩
          rw [← hse] at HLC hds
          clear hse
          obtain ⟨D0, hD0⟩ : ∃ D0, D0 = doneL A L k := ⟨_, rfl⟩
          rw [← hD0] at hown hds hdl
          rw [← hD0]
          clear hD0
          have h0 : D0 ++ rk1 A s 0 = D0 := by rw [rk1_zero, List.append_nil]
          go_wp2_with fail
          go_loopw [7, 9, 10, 11] (fun v i _ _ wi => ∃ (m g2 c2 : Nat), m ≤ 6 ∧ i = .int .i64 ((m : Int) + 1) ∧ v = .slice (some ⟨g2, 0, none⟩) (D0 ++ rk1 A s m).length c2 ∧ wi.ownsRow wq.heap.size 82 2 (.slice (some ⟨g2, 0, none⟩) (D0 ++ rk1 A s m).length c2) (D0 ++ rk1 A s m).length (ses (D0 ++ rk1 A s m)) ∧ Below wq.heap.size wq wi) (fun _ i _ _ _ => 7 - (intOf i).toNat)
          case atStart => exact ⟨0, g2, c2, by omega, rfl, by rw [h0], by rw [h0]; exact hown, hBw⟩
          case round =>
            clear hown hBw
            obtain ⟨m, g2, c2, hm, rfl, rfl, hown, hBw⟩ := hrel
            by_cases hm6 : m < 6
            · have e6 : (m : Int) + 1 ≤ 6 := by omega
              have hrs := hid (show D0 ++ rk1 A s (m + 1) = (D0 ++ rk1 A s m) ++ if cntW A s ((m : Int) + 1) = 1 then [(s, (m : Int) + 1)] else [] by rw [rk1_succ, List.append_assoc])
              have hrl : (D0 ++ rk1 A s m).length ≤ 760 := by have := HRL.out s m; rw [List.length_append]; omega
              obtain ⟨O, hO⟩ : ∃ O, O = D0 ++ rk1 A s m := ⟨_, rfl⟩
              rw [← hO] at hown hrs hrl
              rw [← hO]
              clear hO
              obtain ⟨N, hN⟩ : ∃ N, N = O.length := ⟨_, rfl⟩
              rw [← hN] at hown hrl
              rw [← hN]
              have HNN := hid hN
              clear hN
              obtain ⟨κ, hκ⟩ : ∃ κ : Int, κ = (m : Int) + 1 := ⟨_, rfl⟩
              rw [← hκ] at hrs e6
              rw [← hκ]
              have HK := hid hκ
              have hk1 : (1 : Int) ≤ κ := by omega
              clear hκ
              have hcz : ((cntUp l s κ 0 : Nat) : Int) = 0 := by rw [cntUp_zero]; rfl
              go_wp2_with fail
              go_loopw [10, 11] (fun v i wi => ∃ (t : Nat), t ≤ n ∧ i = .int .i64 t ∧ v = .int .i64 ((cntUp l s κ t : Nat) : Int) ∧ wi.ownsRow wq.heap.size 82 2 (.slice (some ⟨g2, 0, none⟩) N c2) N (ses O) ∧ Below wq.heap.size wq wi) (fun _ i _ => n - (intOf i).toNat)
              case atStart => exact ⟨0, Nat.zero_le _, rfl, by rw [hcz], hown, hBw⟩
              case round =>
                clear hown hBw
                obtain ⟨t, ht, rfl, rfl, hown, hBw⟩ := hrel
                have cl := (hBw.cell (p := ⟨g, k, none⟩) hgl).trans HLC.out
                have hcu := cntUp_len l s κ t
                by_cases htn : t < n
                · rcases hrd with hnil | ⟨b, o, rfl, hl1, hcell⟩
                  · exact absurd (by rw [HN.out, hnil]; rfl : n = 0) (by omega)
                  have hta : t < l.length := by rw [← HN.out]; exact htn
                  have ht0 : (0 : Int) ≤ (t : Int) := by omega
                  have htl : (t : Int) < (n : Int) := by omega
                  have hcs := hid (cntUp_succ (s := s) (κ := κ) hta)
                  have hnd := (HS.out _ (List.getElem_mem hta)).2
                  have hzw : wq.heap.size ≤ wr.heap.size := hBw.size
                  have hWA := (hcell t hta).below (hB.trans (hBw.mono hzq)) hl1
                  have R1 := hid (rd_below (HG.out _ (List.getElem_mem hta)).rd (hB.trans (hBw.mono hzq)))
                  clear hcell
                  obtain ⟨x, hx⟩ : ∃ x, x = l[t] := ⟨_, rfl⟩
                  rw [← hx] at hWA R1 hnd hcs
                  clear hx
                  obtain ⟨nx, ax, cx, fx⟩ := x
                  dsimp only at hWA R1 hnd hcs
                  obtain ⟨mx, hmx⟩ : ∃ m, m = fx.length := ⟨_, rfl⟩
                  have WA : WrAt wr b (o + t * 2) nx ax mx cx := ⟨by omega, hWA.c0, by rw [hmx]; exact hWA.c1⟩
                  rw [← hmx] at hnd
                  have HMX := hid hmx
                  clear hmx hWA
                  obtain ⟨q, hq⟩ : ∃ q, q = cntUp l s κ t := ⟨_, rfl⟩
                  rw [← hq] at hcu hcs
                  rw [← hq]
                  clear hq
                  obtain ⟨r, hr⟩ : ∃ r, r = kindI fx s := ⟨_, rfl⟩
                  rw [← hr] at hcs
                  have KR := hid hr.symm
                  clear hr
                  by_cases hrk : r = κ
                  · have d1 : (r == κ) = true := eqI_true hrk
                    have hst := hid (show cntUp l s κ (t + 1) = q + 1 by rw [hcs.out, if_pos hrk])
                    go_wp2_with fail
                    go_quiet ((go_at_call 49; exact qs (rfS_of _ _ nx ax mx cx fx s _ (rfS_drewW WA _) HMX.out (rfS_drewR R1.out _) hnd KR.out)))
                    go_wp2_with fail
                    go_roundw
                    case rel => exact ⟨t + 1, by omega, by go_num, by rw [hst.out]; go_num, owns_drewN hown _, below_drewN hBw _⟩
                    case measure => simp [intOf]; omega
                  · have d1 : (r == κ) = false := eqI_false hrk
                    have hst := hid (show cntUp l s κ (t + 1) = q by rw [hcs.out, if_neg hrk, Nat.add_zero])
                    go_wp2_with fail
                    go_quiet ((go_at_call 49; exact qs (rfS_of _ _ nx ax mx cx fx s _ (rfS_drewW WA _) HMX.out (rfS_drewR R1.out _) hnd KR.out)))
                    go_wp2_with fail
                    go_roundw
                    case rel => exact ⟨t + 1, by omega, by go_num, by rw [hst.out], owns_drewN hown _, below_drewN hBw _⟩
                    case measure => simp [intOf]; omega
                · have htn2 : n = t := by omega
                  subst htn2
                  have hca := hid (show cntUp l s κ n = cntW A s κ by rw [HN.out, HA.out]; exact cntUp_all l s κ)
                  rw [hca.out] at hcu
                  rw [hca.out]
                  have hzw : wq.heap.size ≤ wr.heap.size := hBw.size
                  obtain ⟨q, hq⟩ : ∃ q, q = cntW A s κ := ⟨_, rfl⟩
                  rw [← hq] at hcu hrs
                  rw [← hq]
                  clear hq
                  by_cases hq1 : q = 1
                  · have d1 : ((q : Int) == (1 : Int)) = true := eqI_true (by omega)
                    have hst := hid (show D0 ++ rk1 A s (m + 1) = O ++ [(s, κ)] by rw [hrs.out, if_pos hq1])
                    go_wp2_with (at_builtin; (refine wpList_append_own _ rfl _ _ 43 rfl wq.heap.size 82 i0 (.agg #[.string ByteArray.empty, .int .i64 0]) 2 24 Try.underlying43 hi iz0 iz1 iz2 rfl (by decide) (.slice (some ⟨g2, 0, none⟩) N c2) _ _ rfl (hown.alloc _) ⟨wr.heap.size, 0, none⟩ 1 1 [.string s, .int .i64 κ] rfl rfl (two_newR _ _ _ _) (two_okF _ _) (by unfold maxLen; omega) (by omega) (by simp; omega) ?_; intro v7 w7 hown7 hgrow7 _; rcases owns_form hown7 with ⟨_, h00, _⟩ | ⟨g7, c7, rfl, _⟩; (exfalso; omega)))
                    have hB7 := below_grown (hBw.alloc hzw _) (by simp; omega) (hown.alloc _) hgrow7
                    rw [ses_snoc] at hown7
                    have hNO : (O ++ [(s, κ)]).length = N + 1 := by rw [List.length_append, ← HNN.out]; rfl
                    go_roundw
                    case rel => exact ⟨m + 1, g7, c7, by omega, by rw [HK.out]; go_num, by rw [hst.out, hNO], by rw [hst.out, hNO]; exact hown7, hB7⟩
                    case measure => simp [intOf]; omega
                  · have d1 : ((q : Int) == (1 : Int)) = false := eqI_false (by omega)
                    have hst := hid (show D0 ++ rk1 A s (m + 1) = O by rw [hrs.out, if_neg hq1, List.append_nil])
                    go_wp2_with fail
                    go_roundw
                    case rel => exact ⟨m + 1, g2, c2, by omega, by rw [HK.out]; go_num, by rw [hst.out, ← HNN.out], by rw [hst.out, ← HNN.out]; exact hown, hBw⟩
                    case measure => simp [intOf]; omega
            · obtain rfl : m = 6 := by omega
              go_wp2_with fail
              go_roundw
              case rel => exact ⟨k + 1, g2, c2, by omega, by go_num, by rw [hds.out], by rw [hds.out]; exact hown, hBw⟩
              case measure => simp [intOf]; omega
        · have hkn : NL = k := by omega
          subst hkn
          have hd := hdone.out
          rw [hd] at hown
          rw [hd]
          go_wp2_with fail
          go_ret2
          rw [hR.out, ← HA.out]
          exact ⟨_, c2, rfl, owns_mono hown (Nat.le_trans HB1.out.size hzq), HB1.out.trans ((hB.trans (hBw.mono hzq)).mono HB1.out.size)⟩
end Go.Proofs.Ytnjdoedhhpkjhaa
