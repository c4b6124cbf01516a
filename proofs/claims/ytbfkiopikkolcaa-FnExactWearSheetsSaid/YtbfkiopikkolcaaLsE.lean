/-
  Walks: lessons are valid, the function that the program calls.
-/
import Derived.Test.YtbfkiopikkolcaaLsD
namespace Go.Proofs.Ytbfkiopikkolcaa
open Go.RowKit Go.ChangeShapes Go.WideShapes Go.Maps
set_option linter.unusedVariables false
attribute [local go_sem ↓] Go.wp_at_zero Go.wp_at_succ

theorem sValidLs_any (ao : Option Addr) (n cap : Nat) (l : List Ls) (w : World) (ha : LsArg w ao n cap l) (hs : LsSmall l) :
    Calls Try.prog 18 #[.slice ao n cap] w fun e w' => e = .returned (.bool (okLs (l.map Ls.d))) ∧ Below w.heap.size w w' := by
  go_enter Try.func18, Try.ntmps18
  go_wp2_with fail
  refine (sOkLs_any ao n cap l _ ha hs).mono ?_
  rintro e w1 ⟨rfl, hb1⟩
  go_wp2_with fail
  go_ret
  exact ⟨rfl, hb1⟩
set_option maxRecDepth 100000 in
set_option maxHeartbeats 8000000 in
theorem okLs_any (ao : Option Addr) (n cap : Nat) (l : List Ls) (w : World) (ha : LsArg w ao n cap l) (hs : LsSmall l) :
    Calls Try.prog 19 #[.slice ao n cap] w fun e w' => e = .returned (.bool (okLs (l.map Ls.d))) ∧ Below w.heap.size w w' := by
  obtain ⟨hn, _, hr, hg⟩ := ha
  have hm : n ≤ 1048576 := by rw [hn]; exact hs.1
  have HN := hid hn
  have HS := hid hs.2
  have HG := hid hg
  have hrd := rd_ls hr
  clear hn hr hs hg
  by_cases h12 : (12 : Int) < (n : Int)
  · have hR := hid (okLs_long (l := l) (by rw [← HN.out]; omega))
    go_enter Try.func19, Try.ntmps19
    go_wp2
    go_ret
    exact ⟨ret_bool hR.out.symm, Below.refl _ _⟩
  have hmm := @run_makeMap Try.prog
  go_enter Try.func19, Try.ntmps19
  go_wp2_with fail
  go_loopw [4, 5, 6, 13] (fun _ _ _ i wr => ∃ k : Nat, k ≤ n ∧ i = .int .i64 k ∧ Hid (NoneUpTo (badL (l.map Ls.d)) k) ∧ wr.ownsMap (H := Unit) Try.prog 9 (plainElem Try.prog 4) w.heap.size k (markD ((nms (l.map Ls.d)).take k)) ∧ Below w.heap.size w wr) (fun _ _ _ i _ => n - (intOf i).toNat)
  case atStart => exact ⟨0, Nat.zero_le _, rfl, hid (none_zero _), World.ownsMap_made _ _ _ _, (Below.refl _ _).alloc (Nat.le_refl _) _⟩
  case round =>
    obtain ⟨k, hk, rfl, hN, hown, hB⟩ := hrel
    by_cases hlt : k < n
    · rcases hrd with hnil | ⟨b, o, rfl, hl1, hcell⟩
      · exact absurd (by rw [HN.out, hnil]; rfl : n = 0) (by omega)
      have hka : k < l.length := by rw [← HN.out]; exact hlt
      have hbad := hid (fun hb => okLs_bad hka hN.out hb)
      have hbg := hid (badL_get hka)
      have hnd := (HS.out _ (List.getElem_mem hka)).2.2
      have hn1 : l[k].nm.size ≤ maxLen := by have := (HS.out _ (List.getElem_mem hka)).1; unfold maxLen; omega
      have hn2 : l[k].lt.size ≤ maxLen := by have := (HS.out _ (List.getElem_mem hka)).2.1; unfold maxLen; omega
      have hlt2 : l[k].lt.size ≤ 1048576 := (HS.out _ (List.getElem_mem hka)).2.1
      have hk0 : (0 : Int) ≤ (k : Int) := by omega
      have hkn : (k : Int) < (n : Int) := by omega
      have hng := hid (nms_get hka)
      have hLN := hid (show (l.length : Int) = n by rw [HN.out])
      rw [hLN.out] at hbg
      obtain ⟨h1, h2, h3, h4⟩ := (hcell k hka).below hB hl1
      have R0 := hid (HG.out _ (List.getElem_mem hka)).rd
      have R1 := hid (rd_below R0.out hB)
      have hmk := hid (markD_next (l := nms (l.map Ls.d)) (k := k) (by rw [nms_len]; exact hka))
      rw [hng.out] at hmk
      clear hcell
      obtain ⟨x, hx⟩ : ∃ x, x = l[k] := ⟨_, rfl⟩
      rw [← hx] at h1 h2 h3 h4 R1 hnd hn1 hn2 hlt2 hbg hng hmk R0
      clear hx
      obtain ⟨nx, lx, ax, cx, dx, qx⟩ := x
      dsimp only at h1 h2 h3 h4 R1 hnd hn1 hn2 hlt2 hbg hng hmk R0
      obtain ⟨mx, hmx⟩ : ∃ m, m = dx.length := ⟨_, rfl⟩
      rw [← hmx] at h3 hnd
      have HMX := hid hmx
      clear hmx
      have hat := markD_at ((nms (l.map Ls.d)).take k) nx
      have hmb := hown.lt
      have hkey : keyOf Try.prog 9 (.string nx) = some (.string nx.data.toList) := WideMaps.keyOf_string_mk Try.underlying9 hn1
      have hown1 := hown.alloc (.cells #[.string nx, .string lx, .slice ax mx cx, .int .i64 qx] 58)
      have hB1 : Below wr.heap.size wr (wr.alloc (.cells #[.string nx, .string lx, .slice ax mx cx, .int .i64 qx] 58)) := (Below.refl _ _).alloc (Nat.le_refl _) _
      have hBB := hB.trans (hB1.mono hB.size)
      have R2 := hid (rd_below R1.out hB1)
      clear R1
      cases c1 : nameB nx
      case false =>
        have hR := hid (hbad.out (by rw [hbg.out, c1]; simp))
        go_wp2_with (first | (go_at_call 44; refine (isName_b _ _ hn1 c1).mono ?_; rintro e w' ⟨rfl, rfl⟩))
        go_ret
        exact ⟨ret_bool hR.out.symm, hBB⟩
      cases cI : isIn ((nms (l.map Ls.d)).take k) nx
      case true =>
        have hR := hid (hbad.out (by rw [hbg.out, cI]; simp))
        rw [cI] at hat
        have hlook := ownsMap_bool hown1 (string_keyed Try.underlying9) Try.underlying61 Try.underlying4 (Try.zeroBool _) hkey hat
        go_wp2_with (first | (go_at_call 44; refine (isName_b _ _ hn1 c1).mono ?_; rintro e w' ⟨rfl, rfl⟩))
        go_ret
        exact ⟨ret_bool hR.out.symm, hBB⟩
      cases c2 : textB lx 33 100
      case false =>
        have hR := hid (hbad.out (by rw [hbg.out, c2]; simp))
        rw [cI] at hat
        have hlook := ownsMap_bool hown1 (string_keyed Try.underlying9) Try.underlying61 Try.underlying4 (Try.zeroBool _) hkey hat
        go_wp2_with (first | (go_at_call 44; refine (isName_b _ _ hn1 c1).mono ?_; rintro e w' ⟨rfl, rfl⟩) | (go_at_call 45; refine (isText_b _ _ _ _ hn2 (by omega) (by omega) c2).mono ?_; rintro e w' ⟨rfl, rfl⟩))
        go_ret
        exact ⟨ret_bool hR.out.symm, hBB⟩
      cases c5 : inB qx 0 100
      case false =>
        have hR := hid (hbad.out (by rw [hbg.out, c5]; simp))
        rw [cI] at hat
        have hlook := ownsMap_bool hown1 (string_keyed Try.underlying9) Try.underlying61 Try.underlying4 (Try.zeroBool _) hkey hat
        go_wp2_with (first | (go_at_call 44; refine (isName_b _ _ hn1 c1).mono ?_; rintro e w' ⟨rfl, rfl⟩) | (go_at_call 45; refine (isText_b _ _ _ _ hn2 (by omega) (by omega) c2).mono ?_; rintro e w' ⟨rfl, rfl⟩) | (go_at_call 36; refine (between_b _ _ _ _ c5).mono ?_; rintro e w' ⟨rfl, rfl⟩))
        go_ret
        exact ⟨ret_bool hR.out.symm, hBB⟩
      rw [cI] at hat
      have hlook := ownsMap_bool hown1 (string_keyed Try.underlying9) Try.underlying61 Try.underlying4 (Try.zeroBool _) hkey hat
      have hbg2 := hid (hbg.out.trans (by rw [c1, c2, c5, cI]; simp : _ = (!(riseN dx 0 ((n : Int) - 1)) || hasN dx k || !(ascT lx))))
      clear hbg
      go_wp2_with (first | (go_at_call 44; refine (isName_b _ _ hn1 c1).mono ?_; rintro e w' ⟨rfl, rfl⟩) | (go_at_call 45; refine (isText_b _ _ _ _ hn2 (by omega) (by omega) c2).mono ?_; rintro e w' ⟨rfl, rfl⟩) | (go_at_call 36; refine (between_b _ _ _ _ c5).mono ?_; rintro e w' ⟨rfl, rfl⟩) | (at_mapUpdate; refine wpList_mapUpdate_own _ rfl _ _ _ 61 rfl 9 4 (string_keyed Try.underlying9) Try.underlying61 _ w.heap.size k _ rfl hown1 (by unfold maxLen; omega) _ _ _ rfl rfl hkey _ [] (plainElem_bool Try.underlying4 true) ?_; intro w5 hown5 hgrow5))
      have hX : wr.heap.size < w5.heap.size := Nat.lt_of_lt_of_le (by simp) hgrow5.size
      have hne : (some wr.heap.size : Option Nat) ≠ some w.heap.size := by simp; omega
      have i2 : w5.cell? ⟨wr.heap.size, 1, none⟩ = some (.string lx) := (World.cell?_of_block (hgrow5.block wr.heap.size (by simp) hne)).trans (by simp)
      have i3 : w5.cell? ⟨wr.heap.size, 2, none⟩ = some (.slice ax mx cx) := (World.cell?_of_block (hgrow5.block wr.heap.size (by simp) hne)).trans (by simp)
      have hB5 : Below w.heap.size w w5 := hBB.grown hgrow5 hBB.size (by intro k hk; simp at hk; omega)
      have R5 : Rd w5 ax (i64s dx) := rd_below R0.out hB5
      clear h1 h2 h3 h4 hat hlook hkey hown1 hown hB1 hBB c1 c2 c5 cI
      obtain ⟨X, hXe⟩ : ∃ X, X = wr.heap.size := ⟨_, rfl⟩
      rw [← hXe] at hX i2 i3
      rw [← hXe]
      clear hXe hne hgrow5
      go_loopw [6] (fun i wr2 => ∃ c : Nat, 1 ≤ c ∧ c ≤ 1048577 ∧ i = .int .i64 c ∧ Hid (NoneUpTo (dipT lx) c) ∧ wr2.cell? ⟨X, 1, none⟩ = some (.string lx) ∧ wr2.cell? ⟨X, 2, none⟩ = some (.slice ax mx cx) ∧ Hid (Rd wr2 ax (i64s dx)) ∧ Below w.heap.size w wr2 ∧ wr2.ownsMap (H := Unit) Try.prog 9 (plainElem Try.prog 4) w.heap.size (k + 1) (markD ((nms (l.map Ls.d)).take (k + 1)))) (fun i _ => lx.size + 1 - (intOf i).toNat)
      case atStart => exact ⟨1, by omega, by omega, rfl, hid (fun j hj => by obtain rfl : j = 0 := (by omega); exact dipT_zero lx), i2, i3, hid R5, hB5, by rw [hmk.out]; exact hown5⟩
      case round =>
        obtain ⟨c, hc1, hcm, rfl, hD, j2, j3, R6, hB6, hown6⟩ := hrel
        by_cases hcl : c < lx.size
        · obtain ⟨j, hj⟩ : ∃ j, c = j + 1 := ⟨c - 1, by omega⟩
          have hjl : j < lx.size := by omega
          have hbj : dipT lx c = decide ((lx[c].toNat : Int) ≤ (lx[j].toNat : Int)) := by subst hj; exact dipT_next hcl
          have hhit := hid (fun h => ascT_hit (s := lx) hcl hD.out h)
          have hc0 : (0 : Int) ≤ (c : Int) := by omega
          have hcn : (c : Int) < (lx.size : Int) := by omega
          have e4 : IntKind.i64.wrap ((c : Int) - 1) = (j : Int) := by rw [hj]; simp; exact IntWalk.i64_in _ (by omega)
          have e5 : (c : Int) - 1 = (j : Int) := by omega
          have e6 : IntKind.i64.wrap (j : Int) = (j : Int) := IntWalk.i64_in _ (by omega)
          have hj0 : (0 : Int) ≤ (j : Int) := by omega
          have hjn : (j : Int) < (lx.size : Int) := by omega
          have HJ := hid hj
          clear hj
          by_cases hge : (lx[c].toNat : Int) ≤ (lx[j].toNat : Int)
          · have hasc := hid (hhit.out (hbj.trans (decide_eq_true hge)))
            have hR := hid (hbad.out (by rw [hbg2.out, hasc.out]; simp))
            clear hbj
            go_wp2_with fail
            go_quiet (fail)
            go_wp2
            go_ret
            exact ⟨ret_bool hR.out.symm, below_drewN hB6 _⟩
          · have hgo := hid (none_next hD.out (hbj.trans (decide_eq_false hge)))
            clear hbj
            go_wp2_with fail
            go_quiet (fail)
            go_wp2
            go_roundw
            case rel => exact ⟨c + 1, by omega, by omega, by go_num, hid hgo.out, j2, j3, R6, below_drewN hB6 _, hown6⟩
            case measure => simp [intOf]; omega
        · have hasc := hid (ascT_all (s := lx) (fun j hj => hD.out j (by omega)))
          have hbg3 := hid (hbg2.out.trans (by rw [hasc.out]; simp : _ = (!(riseN dx 0 ((n : Int) - 1)) || hasN dx k)))
          have hncl : ¬ (c : Int) < (lx.size : Int) := by omega
          cases c3 : riseN dx 0 ((n : Int) - 1)
          case false =>
            have hR := hid (hbad.out (by rw [hbg3.out, c3]; rfl))
            go_wp2_with (go_at_call 46; refine (areInd_b ax mx cx dx n hm _ HMX.out R6.out hnd c3).mono ?_; rintro e w' ⟨rfl, rfl⟩)
            go_ret
            exact ⟨ret_bool hR.out.symm, hB6⟩
          cases c4 : hasN dx k
          case true =>
            have hR := hid (hbad.out (by rw [hbg3.out, c3, c4]; rfl))
            go_wp2_with (first | (go_at_call 46; refine (areInd_b ax mx cx dx n hm _ HMX.out R6.out hnd c3).mono ?_; rintro e w' ⟨rfl, rfl⟩) | (go_at_call 47; refine (contains_b ax mx cx dx k _ HMX.out R6.out hnd c4).mono ?_; rintro e w' ⟨rfl, rfl⟩))
            go_ret
            exact ⟨ret_bool hR.out.symm, hB6⟩
          have hgood := hid (none_next hN.out (by rw [hbg3.out, c3, c4]; rfl))
          go_wp2_with (first | (go_at_call 46; refine (areInd_b ax mx cx dx n hm _ HMX.out R6.out hnd c3).mono ?_; rintro e w' ⟨rfl, rfl⟩) | (go_at_call 47; refine (contains_b ax mx cx dx k _ HMX.out R6.out hnd c4).mono ?_; rintro e w' ⟨rfl, rfl⟩))
          go_roundw
          case rel => exact ⟨k + 1, by omega, by go_num, hgood, hown6, hB6⟩
          case measure => simp [intOf]; omega
    · obtain rfl : k = n := by omega
      have ha := hid (show okLs (l.map Ls.d) = decide (l.length ≤ 12) from okLs_all (by rw [← HN.out]; exact hN.out))
      go_wp2
      go_ret
      exact ⟨ret_bool (by rw [ha.out, ← HN.out]; simp; omega), hB⟩
end Go.Proofs.Ytbfkiopikkolcaa
