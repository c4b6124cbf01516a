/-
  Walks: machines are valid.
-/
import Derived.Test.YthhpeanlpikjbaaWs
namespace Go.Proofs.Ythhpeanlpikjbaa
open Go.RowKit Go.ChangeShapes Go.WideShapes Go.Maps
set_option linter.unusedVariables false
attribute [local go_sem ↓] Go.wp_at_zero Go.wp_at_succ

theorem Try.zeroBool (w : World) : (zeroValue 4).run Try.prog w = .ok (.bool false) w := by kernel_rfl
theorem isIn_more2 {l : List ByteArray} {j k : Nat} (h : j < k) (hk : k ≤ l.length) {x : ByteArray} (hx : (l[j]'(by omega)).toList == x.toList) : isIn (l.take k) x = true := by
  unfold isIn
  rw [List.any_eq_true]
  exact ⟨l[j]'(by omega), List.mem_take_iff_getElem.2 ⟨j, by omega, rfl⟩, hx⟩
def nmw (A : List WsD) : List ByteArray := A.map fun x => x.1
theorem nmw_get {l : List Ws} {k : Nat} (h : k < l.length) : (nmw (l.map Ws.d))[k]'(by simpa [nmw] using h) = l[k].nm := by simp [nmw, Ws.d]
theorem nmw_len (l : List Ws) : (nmw (l.map Ws.d)).length = l.length := by simp [nmw]
def badW (A : List WsD) (i : Nat) : Bool := if h : i < A.length then (!(oneB A[i].1 A[i].2) || isIn ((nmw A).take i) A[i].1) else false
theorem badW_get {l : List Ws} {i : Nat} (h : i < l.length) : badW (l.map Ws.d) i = (!(oneB l[i].nm l[i].fs) || isIn ((nmw (l.map Ws.d)).take i) l[i].nm) := by
  unfold badW
  rw [dif_pos (by simpa using h)]
  simp [Ws.d]
def okWs (A : List WsD) : Bool := (firstAt (badW A) A.length).isNone && decide (A.length ≤ 12)
theorem okWs_bad {l : List Ws} {k : Nat} (h : k < l.length) (hN : NoneUpTo (badW (l.map Ws.d)) k) (hb : badW (l.map Ws.d) k = true) : okWs (l.map Ws.d) = false := by
  unfold okWs; rw [first_hit hN hb (by simpa using h)]; rfl
theorem okWs_all {l : List Ws} (hN : NoneUpTo (badW (l.map Ws.d)) l.length) : okWs (l.map Ws.d) = decide (l.length ≤ 12) := by
  unfold okWs; rw [first_none (by simpa using hN)]; simp

set_option maxRecDepth 100000 in
set_option maxHeartbeats 8000000 in
theorem sOkWs_any (ao : Option Addr) (n cap : Nat) (l : List Ws) (w : World) (ha : WsArg w ao n cap l) (hs : WsSmall l) :
    Calls Try.prog 55 #[.slice ao n cap] w fun e w' => e = .returned (.bool (okWs (l.map Ws.d))) ∧ Below w.heap.size w w' := by
  obtain ⟨hn, _, hr, hg⟩ := ha
  have hm : n ≤ 1048576 := by rw [hn]; exact hs.1
  have HN := hid hn
  have HS := hid hs.2
  have HG := hid hg
  have hrd := rd_ws hr
  clear hn hr hs hg
  go_enter Try.func55, Try.ntmps55
  go_wp2
  go_loopw [3, 4] (fun i _ wr => ∃ k : Nat, k ≤ n ∧ i = .int .i64 k ∧ Hid (NoneUpTo (badW (l.map Ws.d)) k) ∧ Below w.heap.size w wr) (fun i _ _ => n - (intOf i).toNat)
  case atStart => exact ⟨0, Nat.zero_le _, rfl, hid (none_zero _), Below.refl _ _⟩
  case round =>
    obtain ⟨k, hk, rfl, hN, hB⟩ := hrel
    by_cases hlt : k < n
    · rcases hrd with hnil | ⟨b, o, rfl, hl1, hcell⟩
      · exact absurd (by rw [HN.out, hnil]; rfl : n = 0) (by omega)
      have hka : k < l.length := by rw [← HN.out]; exact hlt
      have hbad := hid (fun hb => okWs_bad hka hN.out hb)
      have hbg := hid (badW_get hka)
      have hnd := (HS.out _ (List.getElem_mem hka)).2
      have hn1 := (HG.out _ (List.getElem_mem hka)).n1
      have hsm := hid (HG.out _ (List.getElem_mem hka)).sm
      have hk0 : (0 : Int) ≤ (k : Int) := by omega
      have hkn : (k : Int) < (n : Int) := by omega
      have hng := hid (nmw_get hka)
      obtain ⟨h1, h2⟩ := (hcell k hka).below hB hl1
      have R1 := hid (rd_below (HG.out _ (List.getElem_mem hka)).rd hB)
      have hnames := hid (fun j (hj : j < l.length) => (hcell j hj).c0)
      clear hcell
      obtain ⟨x, hx⟩ : ∃ x, x = l[k] := ⟨_, rfl⟩
      rw [← hx] at h1 h2 R1 hnd hn1 hsm hbg hng
      clear hx
      obtain ⟨nx, ax, cx, fx⟩ := x
      dsimp only at h1 h2 R1 hnd hn1 hsm hbg hng
      obtain ⟨mx, hmx⟩ : ∃ m, m = fx.length := ⟨_, rfl⟩
      rw [← hmx] at h2 hnd
      have HMX := hid hmx
      clear hmx
      have hz1 := Nat.lt_of_lt_of_le hl1 hB.size
      have hwat : WrAt wr b (o + k * 2) nx ax mx cx := ⟨hz1, h1, h2⟩
      cases c1 : oneB nx fx
      case false =>
        have hR := hid (hbad.out (by rw [hbg.out, c1]; rfl))
        go_wp2_with fail
        refine (sOne_any b (o + k * 2) nx ax mx cx fx _ hwat hn1 HMX.out R1.out hsm.out hnd).mono ?_
        rw [c1]
        rintro e w5 ⟨rfl, hb5⟩
        go_wp2_with fail
        go_ret
        exact ⟨ret_bool hR.out.symm, hB.trans (hb5.mono hB.size)⟩
      have hbg2 := hid (hbg.out.trans (by rw [c1]; rfl : _ = isIn ((nmw (l.map Ws.d)).take k) nx))
      clear hbg
      go_wp2_with fail
      refine (sOne_any b (o + k * 2) nx ax mx cx fx _ hwat hn1 HMX.out R1.out hsm.out hnd).mono ?_
      rw [c1]
      rintro e w5 ⟨rfl, hb5⟩
      have hB5 := hB.trans (hb5.mono hB.size)
      have j1 := (hb5.cell (p := ⟨b, o + k * 2, none⟩) hz1).trans h1
      have hz6 := Nat.lt_of_lt_of_le hz1 hb5.size
      clear h1 h2 hz1 hwat c1 R1 hb5
      go_wp2_with fail
      generalize w5 = w3 at *
      go_loopw [4] (fun i wr => ∃ q : Nat, q ≤ k ∧ i = .int .i64 q ∧ Hid (isIn ((nmw (l.map Ws.d)).take q) nx = false) ∧ Below w3.heap.size w3 wr) (fun i _ => k - (intOf i).toNat)
      case atStart => exact ⟨0, Nat.zero_le _, rfl, hid (isIn_zero _ _), Below.refl _ _⟩
      case round =>
        obtain ⟨q, hq, rfl, hI, hB8⟩ := hrel
        have g1 := (hB8.cell (p := ⟨b, o + k * 2, none⟩) hz6).trans j1
        by_cases hql : q < k
        · have hqa : q < l.length := by omega
          have g2 := ((hB5.trans (hB8.mono hB5.size)).cell (p := ⟨b, o + q * 2, none⟩) hl1).trans (hnames.out q hqa)
          have hnx := hid (isIn_next (l := nmw (l.map Ws.d)) (k := q) (by rw [nmw_len]; exact hqa) nx)
          have hmr := hid (fun (h : (l[q].nm.toList == nx.toList) = true) => isIn_more2 (l := nmw (l.map Ws.d)) (j := q) (k := k) hql (by rw [nmw_len]; omega) (x := nx) (by rw [nmw_get hqa]; exact h))
          rw [nmw_get hqa] at hnx
          have hq0 : (0 : Int) ≤ (q : Int) := by omega
          have hqk : (q : Int) < (k : Int) := by omega
          have hqn : (q : Int) < (n : Int) := by omega
          generalize l[q].nm = y at *
          cases ce : (y.toList == nx.toList)
          case true =>
            have hR := hid (hbad.out (by rw [hbg2.out]; exact hmr.out ce))
            go_wp2_with fail
            go_quiet (fail)
            go_wp2
            go_ret
            exact ⟨ret_bool hR.out.symm, below_drewN (hB5.trans (hB8.mono hB5.size)) _⟩
          case false =>
            go_wp2_with fail
            go_quiet (fail)
            go_wp2
            go_roundw
            case rel => exact ⟨q + 1, by omega, by go_num, hid (by rw [hnx.out, hI.out, ce]; rfl), below_drewN hB8 _⟩
            case measure => simp [intOf]; omega
        · obtain rfl : q = k := by omega
          have hgood := hid (none_next hN.out (by rw [hbg2.out]; exact hI.out))
          go_wp2
          go_roundw
          case rel => exact ⟨q + 1, by omega, by go_num, hgood, hB5.trans (hB8.mono hB5.size)⟩
          case measure => simp [intOf]; omega
    · obtain rfl : k = n := by omega
      have ha := hid (show okWs (l.map Ws.d) = decide (l.length ≤ 12) from okWs_all (by rw [← HN.out]; exact hN.out))
      by_cases h12 : (k : Int) ≤ 12
      all_goals
        go_wp2
        go_ret
        exact ⟨ret_bool (by rw [ha.out, ← HN.out]; simp; omega), hB⟩
theorem sValidWs_any (ao : Option Addr) (n cap : Nat) (l : List Ws) (w : World) (ha : WsArg w ao n cap l) (hs : WsSmall l) :
    Calls Try.prog 18 #[.slice ao n cap] w fun e w' => e = .returned (.bool (okWs (l.map Ws.d))) ∧ Below w.heap.size w w' := by
  go_enter Try.func18, Try.ntmps18
  go_wp2_with fail
  refine (sOkWs_any ao n cap l _ ha hs).mono ?_
  rintro e w1 ⟨rfl, hb1⟩
  go_wp2_with fail
  go_ret
  exact ⟨rfl, hb1⟩
set_option maxRecDepth 100000 in
set_option maxHeartbeats 8000000 in
theorem okWs_any (ao : Option Addr) (n cap : Nat) (l : List Ws) (w : World) (ha : WsArg w ao n cap l) (hs : WsSmall l) :
    Calls Try.prog 20 #[.slice ao n cap] w fun e w' => e = .returned (.bool (okWs (l.map Ws.d))) ∧ Below w.heap.size w w' := by
  obtain ⟨hn, _, hr, hg⟩ := ha
  have hm : n ≤ 1048576 := by rw [hn]; exact hs.1
  have HN := hid hn
  have HS := hid hs.2
  have HG := hid hg
  have hrd := rd_ws hr
  clear hn hr hs hg
  have hmm := @run_makeMap Try.prog
  go_enter Try.func20, Try.ntmps20
  go_wp2_with fail
  go_loopw [5, 9] (fun _ i wr => ∃ k : Nat, k ≤ n ∧ i = .int .i64 k ∧ Hid (NoneUpTo (badW (l.map Ws.d)) k) ∧ wr.ownsMap (H := Unit) Try.prog 9 (plainElem Try.prog 4) w.heap.size k (markD ((nmw (l.map Ws.d)).take k)) ∧ Below w.heap.size w wr) (fun _ i _ => n - (intOf i).toNat)
  case atStart => exact ⟨0, Nat.zero_le _, rfl, hid (none_zero _), World.ownsMap_made _ _ _ _, (Below.refl _ _).alloc (Nat.le_refl _) _⟩
  case round =>
    obtain ⟨k, hk, rfl, hN, hown, hB⟩ := hrel
    by_cases hlt : k < n
    · rcases hrd with hnil | ⟨b, o, rfl, hl1, hcell⟩
      · exact absurd (by rw [HN.out, hnil]; rfl : n = 0) (by omega)
      have hka : k < l.length := by rw [← HN.out]; exact hlt
      have hbad := hid (fun hb => okWs_bad hka hN.out hb)
      have hbg := hid (badW_get hka)
      have hnd := (HS.out _ (List.getElem_mem hka)).2
      have hn1 := (HG.out _ (List.getElem_mem hka)).n1
      have hsm := hid (HG.out _ (List.getElem_mem hka)).sm
      have hk0 : (0 : Int) ≤ (k : Int) := by omega
      have hkn : (k : Int) < (n : Int) := by omega
      have hng := hid (nmw_get hka)
      obtain ⟨h1, h2⟩ := (hcell k hka).below hB hl1
      have R1 := hid (rd_below (HG.out _ (List.getElem_mem hka)).rd hB)
      have hmk := hid (markD_next (l := nmw (l.map Ws.d)) (k := k) (by rw [nmw_len]; exact hka))
      rw [hng.out] at hmk
      clear hcell
      obtain ⟨x, hx⟩ : ∃ x, x = l[k] := ⟨_, rfl⟩
      rw [← hx] at h1 h2 R1 hnd hn1 hsm hbg hng hmk
      clear hx
      obtain ⟨nx, ax, cx, fx⟩ := x
      dsimp only at h1 h2 R1 hnd hn1 hsm hbg hng hmk
      obtain ⟨mx, hmx⟩ : ∃ m, m = fx.length := ⟨_, rfl⟩
      rw [← hmx] at h2 hnd
      have HMX := hid hmx
      clear hmx
      have hat := markD_at ((nmw (l.map Ws.d)).take k) nx
      have hmb := hown.lt
      have hkey : keyOf Try.prog 9 (.string nx) = some (.string nx.data.toList) := WideMaps.keyOf_string_mk Try.underlying9 hn1
      have hown1 := hown.alloc (.cells #[.string nx, .slice ax mx cx] 44)
      have hB1 : Below wr.heap.size wr (wr.alloc (.cells #[.string nx, .slice ax mx cx] 44)) := (Below.refl _ _).alloc (Nat.le_refl _) _
      have hBB := hB.trans (hB1.mono hB.size)
      have R2 := hid (rd_below R1.out hB1)
      have q1 : (wr.alloc (.cells #[.string nx, .slice ax mx cx] 44)).cell? ⟨wr.heap.size, 0, none⟩ = some (.string nx) := by simp
      clear R1
      cases c1 : oneB nx fx
      case false =>
        have hR := hid (hbad.out (by rw [hbg.out, c1]; rfl))
        go_wp2_with (go_at_call 56; refine (one_any nx ax mx cx fx _ hn1 HMX.out R2.out hsm.out hnd).mono ?_; rw [c1]; rintro e w5 ⟨rfl, hb5⟩; have hown5 := hown1.kept (grown_of_below hb5 (row := none)) (by simp); have i1 := (hb5.cell (p := ⟨wr.heap.size, 0, none⟩) (by simp)).trans q1; have hz5 := hb5.size)
        go_ret
        exact ⟨ret_bool hR.out.symm, hBB.trans (hb5.mono hBB.size)⟩
      cases cI : isIn ((nmw (l.map Ws.d)).take k) nx
      case true =>
        have hR := hid (hbad.out (by rw [hbg.out, c1, cI]; rfl))
        rw [cI] at hat
        go_wp2_with (go_at_call 56; refine (one_any nx ax mx cx fx _ hn1 HMX.out R2.out hsm.out hnd).mono ?_; rw [c1]; rintro e w5 ⟨rfl, hb5⟩; have hown5 := hown1.kept (grown_of_below hb5 (row := none)) (by simp); have i1 := (hb5.cell (p := ⟨wr.heap.size, 0, none⟩) (by simp)).trans q1; have hz5 := hb5.size; have hlook := ownsMap_bool hown5 (string_keyed Try.underlying9) Try.underlying77 Try.underlying4 (Try.zeroBool _) hkey hat)
        go_ret
        exact ⟨ret_bool hR.out.symm, hBB.trans (hb5.mono hBB.size)⟩
      have hgood := hid (none_next hN.out (by rw [hbg.out, c1, cI]; rfl))
      rw [cI] at hat
      go_wp2_with (first | (go_at_call 56; refine (one_any nx ax mx cx fx _ hn1 HMX.out R2.out hsm.out hnd).mono ?_; rw [c1]; rintro e w5 ⟨rfl, hb5⟩; have hown5 := hown1.kept (grown_of_below hb5 (row := none)) (by simp); have i1 := (hb5.cell (p := ⟨wr.heap.size, 0, none⟩) (by simp)).trans q1; have hz5 := hb5.size; have hlook := ownsMap_bool hown5 (string_keyed Try.underlying9) Try.underlying77 Try.underlying4 (Try.zeroBool _) hkey hat) | (at_mapUpdate; refine wpList_mapUpdate_own _ rfl _ _ _ 77 rfl 9 4 (string_keyed Try.underlying9) Try.underlying77 _ w.heap.size k _ rfl hown5 (by unfold maxLen; omega) _ _ _ rfl rfl hkey _ [] (plainElem_bool Try.underlying4 true) ?_; intro w6 hown6 hgrow6))
      go_roundw
      case rel => exact ⟨k + 1, by omega, by go_num, hgood, by rw [hmk.out]; exact hown6, (hBB.trans (hb5.mono hBB.size)).grown hgrow6 (by have := hBB.size; omega) (by intro k hk; simp at hk; omega)⟩
      case measure => simp [intOf]; omega
    · obtain rfl : k = n := by omega
      have ha := hid (show okWs (l.map Ws.d) = decide (l.length ≤ 12) from okWs_all (by rw [← HN.out]; exact hN.out))
      by_cases h12 : (k : Int) ≤ 12
      all_goals
        go_wp2
        go_ret
        exact ⟨ret_bool (by rw [ha.out, ← HN.out]; simp; omega), hB⟩
end Go.Proofs.Ythhpeanlpikjbaa
