/-
  Walks: the code of lessons and some of them; hours.
-/
import Derived.Test.YtbfkiopikkolcaaLsE
namespace Go.Proofs.Ytbfkiopikkolcaa
open Go.RowKit Go.ChangeShapes Go.WideShapes
set_option linter.unusedVariables false
attribute [local go_sem ↓] Go.wp_at_zero Go.wp_at_succ

theorem isNone_at {p : Nat → Bool} {n : Nat} (h : (firstAt p n).isNone = true) : ∀ j, j < n → p j = false := by
  intro j hj
  have h1 : firstAt p n = none := by simpa using h
  unfold firstAt at h1
  have := List.find?_eq_none.1 h1 j (List.mem_range.2 hj)
  simpa using this
theorem riseN_get {l : List Int} {lo hi : Int} (h : riseN l lo hi = true) {k : Nat} (hk : k < l.length) : lo ≤ l[k] ∧ l[k] ≤ hi := by
  have h1 := isNone_at h k hk
  cases h2 : inB l[k] lo hi
  · rw [badR_out hk h2] at h1; cases h1
  · exact inB_of h2
theorem okLs_get {l : List Ls} (h : okLs (l.map Ls.d) = true) : l.length ≤ 12 ∧ ∀ i (hi : i < l.length), (0 ≤ l[i].hr ∧ l[i].hr ≤ 100) ∧ textB l[i].lt 33 100 = true ∧ ascT l[i].lt = true := by
  unfold okLs at h
  simp only [Bool.and_eq_true, decide_eq_true_eq, List.length_map] at h
  refine ⟨h.2, fun i hi => ?_⟩
  have h1 := isNone_at h.1 i (by simpa using hi)
  rw [badL_get hi] at h1
  simp only [Bool.or_eq_false_iff, Bool.not_eq_false'] at h1
  exact ⟨inB_of h1.1.1.2, h1.1.1.1.1.1.2, h1.1.2⟩
def tkC (A : List LsD) (S : List Int) : Int := if okLs A = true then (if riseN S 0 ((A.length : Int) - 1) = true then 0 else 2) else 1
theorem tkC_bad {A : List LsD} {S : List Int} (h : okLs A = false) : tkC A S = 1 := by simp [tkC, h]
theorem tkC_two {A : List LsD} {S : List Int} (h : okLs A = true) (h2 : riseN S 0 ((A.length : Int) - 1) = false) : tkC A S = 2 := by simp [tkC, h, h2]
theorem tkC_ok {A : List LsD} {S : List Int} (h : okLs A = true) (h2 : riseN S 0 ((A.length : Int) - 1) = true) : tkC A S = 0 := by simp [tkC, h, h2]
theorem tkC_zero {l : List Ls} {S : List Int} (h : tkC (l.map Ls.d) S = 0) : okLs (l.map Ls.d) = true ∧ riseN S 0 ((l.length : Int) - 1) = true := by
  cases h1 : okLs (l.map Ls.d)
  · rw [tkC_bad h1] at h; cases h
  · cases h2 : riseN S 0 ((l.length : Int) - 1)
    · rw [tkC_two h1 (by simpa using h2)] at h; cases h
    · exact ⟨rfl, rfl⟩
/-- where the k-th taken lesson lies -/
theorem tk_at {l : List Ls} {S : List Int} (h : tkC (l.map Ls.d) S = 0) {k : Nat} (hk : k < S.length) : ∃ q : Nat, S[k] = (q : Int) ∧ q < l.length := by
  have := riseN_get (tkC_zero h).2 hk
  exact ⟨S[k].toNat, by omega, by omega⟩
def hrAt (A : List LsD) (q : Int) : Int := if h : q.toNat < A.length then A[q.toNat].2.2.2 else 0
theorem hrAt_get {l : List Ls} {q : Nat} (h : q < l.length) : hrAt (l.map Ls.d) (q : Int) = l[q].hr := by unfold hrAt; rw [dif_pos (by simpa using h)]; simp [Ls.d]
def hoursTo (A : List LsD) (S : List Int) : Nat → Int | 0 => 0 | k + 1 => hoursTo A S k + hrAt A (S.getD k 0)
theorem hours_next {l : List Ls} {S : List Int} {k q : Nat} (hk : k < S.length) (hq : q < l.length) (h : S[k] = (q : Int)) : hoursTo (l.map Ls.d) S (k + 1) = hoursTo (l.map Ls.d) S k + l[q].hr := by
  rw [hoursTo, List.getD, List.getElem?_eq_getElem hk, Option.getD_some, h, hrAt_get hq]
theorem hours_bd {l : List Ls} {S : List Int} (h : tkC (l.map Ls.d) S = 0) : ∀ k, k ≤ S.length → 0 ≤ hoursTo (l.map Ls.d) S k ∧ hoursTo (l.map Ls.d) S k ≤ 100 * k
  | 0, _ => by simp [hoursTo]
  | k + 1, hk => by
    have ih := hours_bd h k (by omega)
    obtain ⟨q, e, hq⟩ := tk_at h (k := k) (by omega)
    have := ((okLs_get (tkC_zero h).1).2 q hq).1
    rw [hours_next (by omega) hq e]
    omega
def hoursV (A : List LsD) (S : List Int) : Int := if tkC A S = 0 then hoursTo A S S.length else 0
theorem hoursV_no {A : List LsD} {S : List Int} (h : ¬ tkC A S = 0) : hoursV A S = 0 := if_neg h
theorem hoursV_yes {A : List LsD} {S : List Int} (h : tkC A S = 0) : hoursV A S = hoursTo A S S.length := if_pos h

set_option maxHeartbeats 2000000 in
theorem sTk_any (ao : Option Addr) (n cap : Nat) (l : List Ls) (so : Option Addr) (sn sc : Nat) (S : List Int) (w : World) (ha : LsArg w ao n cap l) (hs : LsSmall l) (hn2 : sn = S.length) (hr2 : Rd w so (i64s S)) (hm2 : sn ≤ 1048576) :
    Calls Try.prog 48 #[.slice ao n cap, .slice so sn sc] w fun e w' => e = .returned (.int .i64 (tkC (l.map Ls.d) S)) ∧ Below w.heap.size w w' := by
  have HN2 := hid hn2
  have hm : n ≤ 1048576 := by rw [ha.1]; exact hs.1
  have ew : IntKind.i64.wrap ((n : Int) - 1) = (n : Int) - 1 := IntWalk.i64_in _ (by omega)
  clear hn2
  have hL := hid (show ((l.map Ls.d).length : Int) = n by rw [List.length_map, ha.1])
  cases h1 : okLs (l.map Ls.d)
  · have hR := hid (tkC_bad (S := S) h1)
    go_enter Try.func48, Try.ntmps48
    go_wp2_with fail
    refine (sOkLs_any ao n cap l _ ha hs).mono ?_
    rw [h1]
    rintro e w1 ⟨rfl, hb1⟩
    go_wp2_with fail
    go_ret
    exact ⟨ret_int hR.out.symm, hb1⟩
  cases h2 : riseN S 0 ((n : Int) - 1)
  · have hR := hid (tkC_two h1 (by rw [hL.out]; exact h2))
    go_enter Try.func48, Try.ntmps48
    go_wp2_with fail
    refine (sOkLs_any ao n cap l _ ha hs).mono ?_
    rw [h1]
    rintro e w1 ⟨rfl, hb1⟩
    go_wp2_with (go_at_call 66; refine (sRise_b so sn sc S 0 ((n : Int) - 1) _ HN2.out (rd_below hr2 hb1) hm2 h2).mono ?_; rintro e w2 ⟨rfl, hb2⟩)
    go_ret
    exact ⟨ret_int hR.out.symm, hb1.trans (hb2.mono hb1.size)⟩
  have hR := hid (tkC_ok h1 (by rw [hL.out]; exact h2))
  go_enter Try.func48, Try.ntmps48
  go_wp2_with fail
  refine (sOkLs_any ao n cap l _ ha hs).mono ?_
  rw [h1]
  rintro e w1 ⟨rfl, hb1⟩
  go_wp2_with (go_at_call 66; refine (sRise_b so sn sc S 0 ((n : Int) - 1) _ HN2.out (rd_below hr2 hb1) hm2 h2).mono ?_; rintro e w2 ⟨rfl, hb2⟩)
  go_ret
  exact ⟨ret_int hR.out.symm, hb1.trans (hb2.mono hb1.size)⟩
set_option maxHeartbeats 2000000 in
theorem tk_any (ao : Option Addr) (n cap : Nat) (l : List Ls) (so : Option Addr) (sn sc : Nat) (S : List Int) (w : World) (ha : LsArg w ao n cap l) (hs : LsSmall l) (hn2 : sn = S.length) (hr2 : Rd w so (i64s S)) (hm2 : sn ≤ 1048576) :
    Calls Try.prog 50 #[.slice ao n cap, .slice so sn sc] w fun e w' => e = .returned (.int .i64 (tkC (l.map Ls.d) S)) ∧ Below w.heap.size w w' := by
  have HN2 := hid hn2
  have hm : n ≤ 1048576 := by rw [ha.1]; exact hs.1
  have ew : IntKind.i64.wrap ((n : Int) - 1) = (n : Int) - 1 := IntWalk.i64_in _ (by omega)
  clear hn2
  have hL := hid (show ((l.map Ls.d).length : Int) = n by rw [List.length_map, ha.1])
  cases h1 : okLs (l.map Ls.d)
  · have hR := hid (tkC_bad (S := S) h1)
    go_enter Try.func50, Try.ntmps50
    go_wp2_with fail
    refine (okLs_any ao n cap l _ ha hs).mono ?_
    rw [h1]
    rintro e w1 ⟨rfl, hb1⟩
    go_wp2_with fail
    go_ret
    exact ⟨ret_int hR.out.symm, hb1⟩
  cases h2 : riseN S 0 ((n : Int) - 1)
  · have hR := hid (tkC_two h1 (by rw [hL.out]; exact h2))
    go_enter Try.func50, Try.ntmps50
    go_wp2_with fail
    refine (okLs_any ao n cap l _ ha hs).mono ?_
    rw [h1]
    rintro e w1 ⟨rfl, hb1⟩
    go_wp2_with (go_at_call 46; refine (areInd_b so sn sc S n hm _ HN2.out (rd_below hr2 hb1) hm2 h2).mono ?_; rintro e w2 ⟨rfl, rfl⟩)
    go_ret
    exact ⟨ret_int hR.out.symm, hb1⟩
  have hR := hid (tkC_ok h1 (by rw [hL.out]; exact h2))
  go_enter Try.func50, Try.ntmps50
  go_wp2_with fail
  refine (okLs_any ao n cap l _ ha hs).mono ?_
  rw [h1]
  rintro e w1 ⟨rfl, hb1⟩
  go_wp2_with (go_at_call 46; refine (areInd_b so sn sc S n hm _ HN2.out (rd_below hr2 hb1) hm2 h2).mono ?_; rintro e w2 ⟨rfl, rfl⟩)
  go_ret
  exact ⟨ret_int hR.out.symm, hb1⟩
set_option maxHeartbeats 2000000 in
theorem sHours_any (ao : Option Addr) (n cap : Nat) (l : List Ls) (so : Option Addr) (sn sc : Nat) (S : List Int) (w : World) (ha : LsArg w ao n cap l) (hs : LsSmall l) (hn2 : sn = S.length) (hr2 : Rd w so (i64s S)) (hm2 : sn ≤ 1048576) (h0 : tkC (l.map Ls.d) S = 0) :
    Calls Try.prog 49 #[.slice ao n cap, .slice so sn sc] w fun e w' => e = .returned (.int .i64 (hoursTo (l.map Ls.d) S S.length)) ∧ Below w.heap.size w w' := by
  obtain ⟨hn, _, hr, _⟩ := ha
  have hm : n ≤ 1048576 := by rw [hn]; exact hs.1
  have HN := hid hn
  have HN2 := hid hn2
  have hrd := rd_ls hr
  have hrd2 := rd_i64 hr2
  have hbd := hid (fun k hk => hours_bd h0 k hk)
  have htk := hid (fun k hk => tk_at h0 (k := k) hk)
  have hhr := hid (fun q hq => ((okLs_get (tkC_zero h0).1).2 q hq).1)
  have hnx := hid (fun k q hk hq h => hours_next (l := l) (S := S) (k := k) (q := q) hk hq h)
  clear hn hn2 hr hr2 hs h0
  go_enter Try.func49, Try.ntmps49
  go_wp2
  go_loopw [5, 6] (fun s i wr => ∃ k : Nat, k ≤ sn ∧ i = .int .i64 k ∧ s = .int .i64 (hoursTo (l.map Ls.d) S k) ∧ Below w.heap.size w wr) (fun _ i _ => sn - (intOf i).toNat)
  case atStart => exact ⟨0, Nat.zero_le _, rfl, rfl, Below.refl _ _⟩
  case round =>
    obtain ⟨k, hk, rfl, rfl, hB⟩ := hrel
    by_cases hlt : k < sn
    · rcases hrd2 with hnil | ⟨g2, o2, rfl, hl2, hcell2⟩
      · exact absurd (by rw [HN2.out, hnil]; rfl : sn = 0) (by omega)
      have hks : k < S.length := by rw [← HN2.out]; exact hlt
      obtain ⟨q, hq, hql⟩ := htk.out k hks
      rcases hrd with hnil | ⟨b, o, rfl, hl1, hcell⟩
      · rw [hnil] at hql; simp at hql
      have g2 := (hB.cell (p := ⟨g2, o2 + k, none⟩) hl2).trans (hcell2 k hks)
      obtain ⟨h1, h2, h3, h4⟩ := (hcell q hql).below hB hl1
      have hn1 := hid (hnx.out k q hks hql hq)
      have hb1 := hhr.out q hql
      have hb2 := hbd.out k (by omega)
      rw [hq] at g2
      have hqn : q < n := by rw [HN.out]; exact hql
      clear hcell hcell2 hq h1 h2 h3 hks
      generalize l[q].hr = z at *
      obtain ⟨s, hsv⟩ : ∃ s, s = hoursTo (l.map Ls.d) S k := ⟨_, rfl⟩
      rw [← hsv] at hn1 hb2
      rw [← hsv]
      clear hsv hql
      have hk0 : (0 : Int) ≤ (k : Int) := by omega
      have hkn : (k : Int) < (sn : Int) := by omega
      have hq0 : (0 : Int) ≤ (q : Int) := by omega
      have hqn2 : (q : Int) < (n : Int) := by omega
      have ew : IntKind.i64.wrap (s + z) = s + z := IntWalk.i64_in _ (by omega)
      have ew2 : IntKind.i64.wrap (q : Int) = (q : Int) := IntWalk.i64_in _ (by omega)
      go_wp2
      go_roundw
      case rel => exact ⟨k + 1, by omega, by go_num, by rw [hn1.out], hB⟩
      case measure => simp [intOf]; omega
    · obtain rfl : k = sn := by omega
      have hS := hid (show hoursTo (l.map Ls.d) S S.length = hoursTo (l.map Ls.d) S k by rw [← HN2.out])
      go_wp2
      go_ret
      exact ⟨ret_int hS.out.symm, hB⟩
set_option maxHeartbeats 2000000 in
theorem hours_any (ao : Option Addr) (n cap : Nat) (l : List Ls) (so : Option Addr) (sn sc : Nat) (S : List Int) (w : World) (ha : LsArg w ao n cap l) (hs : LsSmall l) (hn2 : sn = S.length) (hr2 : Rd w so (i64s S)) (hm2 : sn ≤ 1048576) (h0 : tkC (l.map Ls.d) S = 0) :
    Calls Try.prog 51 #[.slice ao n cap, .slice so sn sc] w fun e w' => e = .returned (.int .i64 (hoursTo (l.map Ls.d) S S.length)) ∧ Below w.heap.size w w' := by
  obtain ⟨hn, _, hr, _⟩ := ha
  have hm : n ≤ 1048576 := by rw [hn]; exact hs.1
  have HN := hid hn
  have HN2 := hid hn2
  have hrd := rd_ls hr
  have hrd2 := rd_i64 hr2
  have hbd := hid (fun k hk => hours_bd h0 k hk)
  have htk := hid (fun k hk => tk_at h0 (k := k) hk)
  have hhr := hid (fun q hq => ((okLs_get (tkC_zero h0).1).2 q hq).1)
  have hnx := hid (fun k q hk hq h => hours_next (l := l) (S := S) (k := k) (q := q) hk hq h)
  clear hn hn2 hr hr2 hs h0
  go_enter Try.func51, Try.ntmps51
  go_wp2
  go_loopw [5, 7, 10] (fun s _ i wr => ∃ k : Nat, k ≤ sn ∧ i = .int .i64 k ∧ s = .int .i64 (hoursTo (l.map Ls.d) S k) ∧ Below w.heap.size w wr) (fun _ _ i _ => sn - (intOf i).toNat)
  case atStart => exact ⟨0, Nat.zero_le _, rfl, rfl, Below.refl _ _⟩
  case round =>
    obtain ⟨k, hk, rfl, rfl, hB⟩ := hrel
    by_cases hlt : k < sn
    · rcases hrd2 with hnil | ⟨g2, o2, rfl, hl2, hcell2⟩
      · exact absurd (by rw [HN2.out, hnil]; rfl : sn = 0) (by omega)
      have hks : k < S.length := by rw [← HN2.out]; exact hlt
      obtain ⟨q, hq, hql⟩ := htk.out k hks
      rcases hrd with hnil | ⟨b, o, rfl, hl1, hcell⟩
      · rw [hnil] at hql; simp at hql
      have g2 := (hB.cell (p := ⟨g2, o2 + k, none⟩) hl2).trans (hcell2 k hks)
      obtain ⟨h1, h2, h3, h4⟩ := (hcell q hql).below hB hl1
      have hn1 := hid (hnx.out k q hks hql hq)
      have hb1 := hhr.out q hql
      have hb2 := hbd.out k (by omega)
      rw [hq] at g2
      have hqn : q < n := by rw [HN.out]; exact hql
      clear hcell hcell2 hq h1 h2 h3 hks
      generalize l[q].hr = z at *
      obtain ⟨s, hsv⟩ : ∃ s, s = hoursTo (l.map Ls.d) S k := ⟨_, rfl⟩
      rw [← hsv] at hn1 hb2
      rw [← hsv]
      clear hsv hql
      have hk0 : (0 : Int) ≤ (k : Int) := by omega
      have hkn : (k : Int) < (sn : Int) := by omega
      have hq0 : (0 : Int) ≤ (q : Int) := by omega
      have hqn2 : (q : Int) < (n : Int) := by omega
      have ew : IntKind.i64.wrap (s + z) = s + z := IntWalk.i64_in _ (by omega)
      have ew2 : IntKind.i64.wrap (q : Int) = (q : Int) := IntWalk.i64_in _ (by omega)
      go_wp2
      go_roundw
      case rel => exact ⟨k + 1, by omega, by go_num, by rw [hn1.out], hB⟩
      case measure => simp [intOf]; omega
    · obtain rfl : k = sn := by omega
      have hS := hid (show hoursTo (l.map Ls.d) S S.length = hoursTo (l.map Ls.d) S k by rw [← HN2.out])
      go_wp2
      go_ret
      exact ⟨ret_int hS.out.symm, hB⟩
set_option maxHeartbeats 2000000 in
theorem sHoursOf_any (ao : Option Addr) (n cap : Nat) (l : List Ls) (so : Option Addr) (sn sc : Nat) (S : List Int) (w : World) (ha : LsArg w ao n cap l) (hs : LsSmall l) (hn2 : sn = S.length) (hr2 : Rd w so (i64s S)) (hm2 : sn ≤ 1048576) :
    Calls Try.prog 20 #[.slice ao n cap, .slice so sn sc] w fun e w' => e = .returned (.tuple #[.int .i64 (hoursV (l.map Ls.d) S), .int .i64 (tkC (l.map Ls.d) S)]) ∧ Below w.heap.size w w' := by
  have HN2 := hid hn2
  clear hn2
  obtain ⟨v, hv⟩ : ∃ v, v = tkC (l.map Ls.d) S := ⟨_, rfl⟩
  have HV := hid hv
  obtain ⟨L, hL⟩ : ∃ L, L = hoursV (l.map Ls.d) S := ⟨_, rfl⟩
  have HL := hid hL
  rw [← hv, ← hL]
  clear hv hL
  go_enter Try.func20, Try.ntmps20
  go_wp2_with fail
  refine (sTk_any ao n cap l so sn sc S _ ha hs HN2.out hr2 hm2).mono ?_
  rw [← HV.out]
  rintro e w1 ⟨rfl, hb1⟩
  by_cases h0 : v = 0
  · have H0 : tkC (l.map Ls.d) S = 0 := HV.out.symm.trans h0
    have hR := hid (HL.out.trans (hoursV_yes H0))
    subst h0
    go_wp2_with fail
    refine (sHours_any ao n cap l so sn sc S _ (ha.below hb1) hs HN2.out (rd_below hr2 hb1) hm2 H0).mono ?_
    rw [← hR.out]
    rintro e w2 ⟨rfl, hb2⟩
    go_wp2_with fail
    go_ret2
    exact ⟨rfl, hb1.trans (hb2.mono hb1.size)⟩
  · have hR := HL.out.trans (hoursV_no (show ¬ tkC (l.map Ls.d) S = 0 by rw [← HV.out]; exact h0))
    subst hR
    have e1 : (v != 0) = true := neI_true h0
    clear h0
    go_wp2_with fail
    go_ret2
    exact ⟨rfl, hb1⟩
set_option maxHeartbeats 2000000 in
theorem hoursOf_any (ao : Option Addr) (n cap : Nat) (l : List Ls) (so : Option Addr) (sn sc : Nat) (S : List Int) (w : World) (ha : LsArg w ao n cap l) (hs : LsSmall l) (hn2 : sn = S.length) (hr2 : Rd w so (i64s S)) (hm2 : sn ≤ 1048576) :
    Calls Try.prog 22 #[.slice ao n cap, .slice so sn sc] w fun e w' => e = .returned (.tuple #[.int .i64 (hoursV (l.map Ls.d) S), .int .i64 (tkC (l.map Ls.d) S)]) ∧ Below w.heap.size w w' := by
  have HN2 := hid hn2
  clear hn2
  obtain ⟨v, hv⟩ : ∃ v, v = tkC (l.map Ls.d) S := ⟨_, rfl⟩
  have HV := hid hv
  obtain ⟨L, hL⟩ : ∃ L, L = hoursV (l.map Ls.d) S := ⟨_, rfl⟩
  have HL := hid hL
  rw [← hv, ← hL]
  clear hv hL
  go_enter Try.func22, Try.ntmps22
  go_wp2_with fail
  refine (tk_any ao n cap l so sn sc S _ ha hs HN2.out hr2 hm2).mono ?_
  rw [← HV.out]
  rintro e w1 ⟨rfl, hb1⟩
  by_cases h0 : v = 0
  · have H0 : tkC (l.map Ls.d) S = 0 := HV.out.symm.trans h0
    have hR := hid (HL.out.trans (hoursV_yes H0))
    subst h0
    go_wp2_with fail
    refine (hours_any ao n cap l so sn sc S _ (ha.below hb1) hs HN2.out (rd_below hr2 hb1) hm2 H0).mono ?_
    rw [← hR.out]
    rintro e w2 ⟨rfl, hb2⟩
    go_wp2_with fail
    go_ret2
    exact ⟨rfl, hb1.trans (hb2.mono hb1.size)⟩
  · have hR := HL.out.trans (hoursV_no (show ¬ tkC (l.map Ls.d) S = 0 by rw [← HV.out]; exact h0))
    subst hR
    have e1 : (v != 0) = true := neI_true h0
    clear h0
    go_wp2_with fail
    go_ret2
    exact ⟨rfl, hb1⟩
end Go.Proofs.Ytbfkiopikkolcaa
