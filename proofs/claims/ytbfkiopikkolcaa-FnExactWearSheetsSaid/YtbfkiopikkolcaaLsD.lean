/-
  Walks: lessons are valid.
-/
import Derived.Test.YtbfkiopikkolcaaLsB
import Derived.Test.YtbfkiopikkolcaaRise
import Derived.Test.YtbfkiopikkolcaaPre
import Derived.Test.YtbfkiopikkolcaaName
namespace Go.Proofs.Ytbfkiopikkolcaa
open Go.RowKit Go.ChangeShapes Go.WideShapes Go.Maps
set_option linter.unusedVariables false
attribute [local go_sem ↓] Go.wp_at_zero Go.wp_at_succ

theorem Try.zeroBool (w : World) : (zeroValue 4).run Try.prog w = .ok (.bool false) w := by kernel_rfl
/-- a byte that is no greater than the one ahead of it -/
def dipT (s : ByteArray) (k : Nat) : Bool := if h : 0 < k ∧ k < s.size then decide ((s[k].toNat : Int) ≤ ((s[k - 1]'(by omega)).toNat : Int)) else false
theorem dipT_zero (s : ByteArray) : dipT s 0 = false := by unfold dipT; rw [dif_neg (by omega)]
theorem dipT_next {s : ByteArray} {j : Nat} (h : j + 1 < s.size) : dipT s (j + 1) = decide ((s[j + 1].toNat : Int) ≤ (s[j].toNat : Int)) := by unfold dipT; rw [dif_pos ⟨by omega, h⟩]; rfl
def ascT (s : ByteArray) : Bool := (firstAt (dipT s) s.size).isNone
theorem ascT_hit {s : ByteArray} {k : Nat} (h : k < s.size) (hN : NoneUpTo (dipT s) k) (hk : dipT s k = true) : ascT s = false := by unfold ascT; rw [first_hit hN hk h]; rfl
theorem ascT_all {s : ByteArray} (hN : NoneUpTo (dipT s) s.size) : ascT s = true := by unfold ascT; rw [first_none hN]; rfl
def nms (A : List LsD) : List ByteArray := A.map fun x => x.1
theorem nms_get {l : List Ls} {k : Nat} (h : k < l.length) : (nms (l.map Ls.d))[k]'(by simpa [nms] using h) = l[k].nm := by simp [nms, Ls.d]
theorem nms_len (l : List Ls) : (nms (l.map Ls.d)).length = l.length := by simp [nms]
def badL (A : List LsD) (i : Nat) : Bool := if h : i < A.length then (!(nameB A[i].1) || !(textB A[i].2.1 33 100) || !(riseN A[i].2.2.1 0 ((A.length : Int) - 1)) || hasN A[i].2.2.1 i || !(inB A[i].2.2.2 0 100) || !(ascT A[i].2.1) || isIn ((nms A).take i) A[i].1) else false
theorem badL_get {l : List Ls} {i : Nat} (h : i < l.length) : badL (l.map Ls.d) i = (!(nameB l[i].nm) || !(textB l[i].lt 33 100) || !(riseN l[i].nd 0 ((l.length : Int) - 1)) || hasN l[i].nd i || !(inB l[i].hr 0 100) || !(ascT l[i].lt) || isIn ((nms (l.map Ls.d)).take i) l[i].nm) := by
  unfold badL
  rw [dif_pos (by simpa using h)]
  simp [Ls.d]
def okLs (A : List LsD) : Bool := (firstAt (badL A) A.length).isNone && decide (A.length ≤ 12)
theorem okLs_bad {l : List Ls} {k : Nat} (h : k < l.length) (hN : NoneUpTo (badL (l.map Ls.d)) k) (hb : badL (l.map Ls.d) k = true) : okLs (l.map Ls.d) = false := by
  unfold okLs; rw [first_hit hN hb (by simpa using h)]; rfl
theorem okLs_all {l : List Ls} (hN : NoneUpTo (badL (l.map Ls.d)) l.length) : okLs (l.map Ls.d) = decide (l.length ≤ 12) := by
  unfold okLs; rw [first_none (by simpa using hN)]; simp
theorem okLs_long {l : List Ls} (h : ¬ l.length ≤ 12) : okLs (l.map Ls.d) = false := by unfold okLs; rw [decide_eq_false (by simpa using h)]; simp
theorem sText2_any (s : ByteArray) (w : World) (hs : s.size ≤ maxLen) : Calls Try.prog 65 #[.string s] w fun e w' => e = .returned (.bool (textB s 33 100)) ∧ w = w' := by
  unfold maxLen at hs
  go_enter Try.func65, Try.ntmps65
  go_wp2
  go_loop [3] (fun i => ∃ k : Nat, k ≤ s.size ∧ i = .int .i64 k ∧ UpTo (gb 33) s k) (fun i => s.size - (intOf i).toNat)
  case atStart => exact ⟨0, Nat.zero_le _, rfl, upto_zero _ _⟩
  case round =>
    obtain ⟨k, hk, rfl, hu⟩ := hrel
    by_cases hlt : k < s.size
    · by_cases h1 : ((s[k].toNat : Nat) : Int) < 33
      · go_wp2
        go_ret
        exact ⟨ret_bool (by simp [textB, upto_bad hlt (gb_lo h1)]), rfl⟩
      · by_cases h2 : (126 : Int) < ((s[k].toNat : Nat) : Int)
        · go_wp2
          go_ret
          exact ⟨ret_bool (by simp [textB, upto_bad hlt (gb_hi h2)]), rfl⟩
        · go_wp2
          go_round
          case rel => exact ⟨k + 1, by omega, by go_num, upto_next hlt (gb_true (by omega) (by omega)) hu⟩
          case measure => simp [intOf]; omega
    · obtain rfl : k = s.size := by omega
      have ha := hid (upto_all hu)
      by_cases hm : (s.size : Int) ≤ 100
      all_goals
        go_wp2
        go_ret
        exact ⟨ret_bool (by simp [textB, ha.out]; omega), rfl⟩
theorem sText2_b {r : Bool} (s : ByteArray) (w : World) (hs : s.size ≤ maxLen) (h : textB s 33 100 = r) : Calls Try.prog 65 #[.string s] w fun e w' => e = .returned (.bool r) ∧ w = w' := by
  rw [← h]; exact sText2_any s w hs
theorem isIn_more2 {l : List ByteArray} {j k : Nat} (h : j < k) (hk : k ≤ l.length) {x : ByteArray} (hx : (l[j]'(by omega)).toList == x.toList) : isIn (l.take k) x = true := by
  unfold isIn
  rw [List.any_eq_true]
  exact ⟨l[j]'(by omega), List.mem_take_iff_getElem.2 ⟨j, by omega, rfl⟩, hx⟩
theorem sRise_b {r : Bool} (ao : Option Addr) (n cap : Nat) (l : List Int) (lo hi : Int) (w : World) (hn : n = l.length) (hr : Rd w ao (i64s l)) (hm : n ≤ 1048576) (h : riseN l lo hi = r) :
    Calls Try.prog 66 #[.slice ao n cap, .int .i64 lo, .int .i64 hi] w fun e w' => e = .returned (.bool r) ∧ Below w.heap.size w w' := by rw [← h]; exact sRise_any ao n cap l lo hi w hn hr hm
theorem areInd_b {r : Bool} (ao : Option Addr) (n cap : Nat) (l : List Int) (m : Nat) (hmm : m ≤ 1048576) (w : World) (hn : n = l.length) (hr : Rd w ao (i64s l)) (hm : n ≤ 1048576) (h : riseN l 0 ((m : Int) - 1) = r) :
    Calls Try.prog 46 #[.slice ao n cap, .int .i64 m] w fun e w' => e = .returned (.bool r) ∧ w = w' := by rw [← h]; exact areInd_any ao n cap l m hmm w hn hr hm

set_option maxRecDepth 100000 in
set_option maxHeartbeats 8000000 in
theorem sOkLs_any (ao : Option Addr) (n cap : Nat) (l : List Ls) (w : World) (ha : LsArg w ao n cap l) (hs : LsSmall l) :
    Calls Try.prog 43 #[.slice ao n cap] w fun e w' => e = .returned (.bool (okLs (l.map Ls.d))) ∧ Below w.heap.size w w' := by
  obtain ⟨hn, _, hr, hg⟩ := ha
  have hm : n ≤ 1048576 := by rw [hn]; exact hs.1
  have HN := hid hn
  have HS := hid hs.2
  have HG := hid hg
  have hrd := rd_ls hr
  clear hn hr hs hg
  go_enter Try.func43, Try.ntmps43
  go_wp2
  go_loopw [4, 5, 6, 7] (fun i _ _ _ wr => ∃ k : Nat, k ≤ n ∧ i = .int .i64 k ∧ Hid (NoneUpTo (badL (l.map Ls.d)) k) ∧ Below w.heap.size w wr) (fun i _ _ _ _ => n - (intOf i).toNat)
  case atStart => exact ⟨0, Nat.zero_le _, rfl, hid (none_zero _), Below.refl _ _⟩
  case round =>
    obtain ⟨k, hk, rfl, hN, hB⟩ := hrel
    by_cases hlt : k < n
    · rcases hrd with hnil | ⟨b, o, rfl, hl1, hcell⟩
      · exact absurd (by rw [HN.out, hnil]; rfl : n = 0) (by omega)
      have hka : k < l.length := by rw [← HN.out]; exact hlt
      have hbad := hid (fun hb => okLs_bad hka hN.out hb)
      have hbg := hid (badL_get hka)
      have hnd := (HS.out _ (List.getElem_mem hka)).2.2
      have hn1 : l[k].nm.size ≤ maxLen := by have := (HS.out _ (List.getElem_mem hka)).1; unfold maxLen; omega
      have hn2 : l[k].lt.size ≤ maxLen := by have := (HS.out _ (List.getElem_mem hka)).2.1; unfold maxLen; omega
      have hlt2 : l[k].lt.size ≤ 1048576 := (HS.out _ (List.getElem_mem hka)).2.1
      have hk0 : (0 : Int) ≤ (k : Int) := by omega
      have hkn : (k : Int) < (n : Int) := by omega
      have hng := hid (nms_get hka)
      have hLN := hid (show (l.length : Int) = n by rw [HN.out])
      rw [hLN.out] at hbg
      obtain ⟨h1, h2, h3, h4⟩ := (hcell k hka).below hB hl1
      have R1 := hid (rd_below (HG.out _ (List.getElem_mem hka)).rd hB)
      have hnames := hid (fun j (hj : j < l.length) => (hcell j hj).c0)
      clear hcell
      obtain ⟨x, hx⟩ : ∃ x, x = l[k] := ⟨_, rfl⟩
      rw [← hx] at h1 h2 h3 h4 R1 hnd hn1 hn2 hlt2 hbg hng
      clear hx
      obtain ⟨nx, lx, ax, cx, dx, qx⟩ := x
      dsimp only at h1 h2 h3 h4 R1 hnd hn1 hn2 hlt2 hbg hng
      obtain ⟨mx, hmx⟩ : ∃ m, m = dx.length := ⟨_, rfl⟩
      rw [← hmx] at h3 hnd
      have HMX := hid hmx
      clear hmx
      have ew : IntKind.i64.wrap ((n : Int) - 1) = (n : Int) - 1 := IntWalk.i64_in _ (by omega)
      have hz1 := Nat.lt_of_lt_of_le hl1 hB.size
      cases c1 : nameB nx
      case false =>
        have hR := hid (hbad.out (by rw [hbg.out, c1]; simp))
        go_wp2_with (first | (go_at_call 64; refine (sName_b _ _ hn1 c1).mono ?_; rintro e w' ⟨rfl, rfl⟩))
        go_ret
        exact ⟨ret_bool hR.out.symm, hB⟩
      cases c2 : textB lx 33 100
      case false =>
        have hR := hid (hbad.out (by rw [hbg.out, c2]; simp))
        go_wp2_with (first | (go_at_call 64; refine (sName_b _ _ hn1 c1).mono ?_; rintro e w' ⟨rfl, rfl⟩) | (go_at_call 65; refine (sText2_b _ _ hn2 c2).mono ?_; rintro e w' ⟨rfl, rfl⟩))
        go_ret
        exact ⟨ret_bool hR.out.symm, hB⟩
      cases c3 : riseN dx 0 ((n : Int) - 1)
      case false =>
        have hR := hid (hbad.out (by rw [hbg.out, c3]; simp))
        go_wp2_with (first | (go_at_call 64; refine (sName_b _ _ hn1 c1).mono ?_; rintro e w' ⟨rfl, rfl⟩) | (go_at_call 65; refine (sText2_b _ _ hn2 c2).mono ?_; rintro e w' ⟨rfl, rfl⟩) | (go_at_call 66; refine (sRise_b ax mx cx dx 0 ((n : Int) - 1) _ HMX.out R1.out hnd c3).mono ?_; rintro e w5 ⟨rfl, hb5⟩))
        go_ret
        exact ⟨ret_bool hR.out.symm, hB.trans (hb5.mono hB.size)⟩
      cases c4 : hasN dx k
      case true =>
        have hR := hid (hbad.out (by rw [hbg.out, c4]; simp))
        go_wp2_with (first | (go_at_call 64; refine (sName_b _ _ hn1 c1).mono ?_; rintro e w' ⟨rfl, rfl⟩) | (go_at_call 65; refine (sText2_b _ _ hn2 c2).mono ?_; rintro e w' ⟨rfl, rfl⟩) | (go_at_call 66; refine (sRise_b ax mx cx dx 0 ((n : Int) - 1) _ HMX.out R1.out hnd c3).mono ?_; rintro e w5 ⟨rfl, hb5⟩; have i1 := (hb5.cell (p := ⟨b, o + k * 4, none⟩) hz1).trans h1; have i2 := (hb5.cell (p := ⟨b, o + k * 4 + 1, none⟩) hz1).trans h2; have i3 := (hb5.cell (p := ⟨b, o + k * 4 + 2, none⟩) hz1).trans h3; have i4 := (hb5.cell (p := ⟨b, o + k * 4 + 3, none⟩) hz1).trans h4) | (go_at_call 67; refine (sHas_b ax mx cx dx k _ HMX.out (rd_below R1.out hb5) hnd c4).mono ?_; rintro e w' ⟨rfl, rfl⟩))
        go_ret
        exact ⟨ret_bool hR.out.symm, hB.trans (hb5.mono hB.size)⟩
      cases c5 : inB qx 0 100
      case false =>
        have hR := hid (hbad.out (by rw [hbg.out, c5]; simp))
        go_wp2_with (first | (go_at_call 64; refine (sName_b _ _ hn1 c1).mono ?_; rintro e w' ⟨rfl, rfl⟩) | (go_at_call 65; refine (sText2_b _ _ hn2 c2).mono ?_; rintro e w' ⟨rfl, rfl⟩) | (go_at_call 66; refine (sRise_b ax mx cx dx 0 ((n : Int) - 1) _ HMX.out R1.out hnd c3).mono ?_; rintro e w5 ⟨rfl, hb5⟩; have i1 := (hb5.cell (p := ⟨b, o + k * 4, none⟩) hz1).trans h1; have i2 := (hb5.cell (p := ⟨b, o + k * 4 + 1, none⟩) hz1).trans h2; have i3 := (hb5.cell (p := ⟨b, o + k * 4 + 2, none⟩) hz1).trans h3; have i4 := (hb5.cell (p := ⟨b, o + k * 4 + 3, none⟩) hz1).trans h4) | (go_at_call 67; refine (sHas_b ax mx cx dx k _ HMX.out (rd_below R1.out hb5) hnd c4).mono ?_; rintro e w' ⟨rfl, rfl⟩) | (go_at_call 59; refine (in_b _ _ _ _ c5).mono ?_; rintro e w' ⟨rfl, rfl⟩))
        go_ret
        exact ⟨ret_bool hR.out.symm, hB.trans (hb5.mono hB.size)⟩
      have hbg2 := hid (hbg.out.trans (by rw [c1, c2, c3, c4, c5]; rfl : _ = (!(ascT lx) || isIn ((nms (l.map Ls.d)).take k) nx)))
      clear hbg
      go_wp2_with (first | (go_at_call 64; refine (sName_b _ _ hn1 c1).mono ?_; rintro e w' ⟨rfl, rfl⟩) | (go_at_call 65; refine (sText2_b _ _ hn2 c2).mono ?_; rintro e w' ⟨rfl, rfl⟩) | (go_at_call 66; refine (sRise_b ax mx cx dx 0 ((n : Int) - 1) _ HMX.out R1.out hnd c3).mono ?_; rintro e w5 ⟨rfl, hb5⟩; have i1 := (hb5.cell (p := ⟨b, o + k * 4, none⟩) hz1).trans h1; have i2 := (hb5.cell (p := ⟨b, o + k * 4 + 1, none⟩) hz1).trans h2; have i3 := (hb5.cell (p := ⟨b, o + k * 4 + 2, none⟩) hz1).trans h3; have i4 := (hb5.cell (p := ⟨b, o + k * 4 + 3, none⟩) hz1).trans h4) | (go_at_call 67; refine (sHas_b ax mx cx dx k _ HMX.out (rd_below R1.out hb5) hnd c4).mono ?_; rintro e w' ⟨rfl, rfl⟩) | (go_at_call 59; refine (in_b _ _ _ _ c5).mono ?_; rintro e w' ⟨rfl, rfl⟩))
      have hB5 := hB.trans (hb5.mono hB.size)
      have hz5 := Nat.lt_of_lt_of_le hz1 hb5.size
      clear h1 h2 h3 h4 hb5 hz1 c1 c2 c3 c4 c5 i3 i4 R1
      go_loopw [6] (fun i wr2 => ∃ c : Nat, 1 ≤ c ∧ c ≤ 1048577 ∧ i = .int .i64 c ∧ Hid (NoneUpTo (dipT lx) c) ∧ Below w5.heap.size w5 wr2) (fun i _ => lx.size + 1 - (intOf i).toNat)
      case atStart => exact ⟨1, by omega, by omega, rfl, hid (fun j hj => by obtain rfl : j = 0 := (by omega); exact dipT_zero lx), Below.refl _ _⟩
      case round =>
        obtain ⟨c, hc1, hcm, rfl, hD, hB6⟩ := hrel
        have j1 := (hB6.cell (p := ⟨b, o + k * 4, none⟩) hz5).trans i1
        have j2 := (hB6.cell (p := ⟨b, o + k * 4 + 1, none⟩) hz5).trans i2
        by_cases hcl : c < lx.size
        · obtain ⟨j, hj⟩ : ∃ j, c = j + 1 := ⟨c - 1, by omega⟩
          have hjl : j < lx.size := by omega
          have hbj : dipT lx c = decide ((lx[c].toNat : Int) ≤ (lx[j].toNat : Int)) := by subst hj; exact dipT_next hcl
          have hhit := hid (fun h => ascT_hit (s := lx) hcl hD.out h)
          have hc0 : (0 : Int) ≤ (c : Int) := by omega
          have hcn : (c : Int) < (lx.size : Int) := by omega
          have e4 : IntKind.i64.wrap ((c : Int) - 1) = (j : Int) := by rw [hj]; simp; exact IntWalk.i64_in _ (by omega)
          have e5 : (c : Int) - 1 = (j : Int) := by omega
          have e6 : IntKind.i64.wrap (j : Int) = (j : Int) := IntWalk.i64_in _ (by omega)
          have hj0 : (0 : Int) ≤ (j : Int) := by omega
          have hjn : (j : Int) < (lx.size : Int) := by omega
          have HJ := hid hj
          clear hj
          by_cases hge : (lx[c].toNat : Int) ≤ (lx[j].toNat : Int)
          · have hasc := hid (hhit.out (hbj.trans (decide_eq_true hge)))
            have hR := hid (hbad.out (by rw [hbg2.out, hasc.out]; simp))
            clear hbj
            go_wp2_with fail
            go_quiet (fail)
            go_wp2
            go_ret
            exact ⟨ret_bool hR.out.symm, below_drewN (hB5.trans (hB6.mono hB5.size)) _⟩
          · have hgo := hid (none_next hD.out (hbj.trans (decide_eq_false hge)))
            clear hbj
            go_wp2_with fail
            go_quiet (fail)
            go_wp2
            go_roundw
            case rel => exact ⟨c + 1, by omega, by omega, by go_num, hid hgo.out, below_drewN hB6 _⟩
            case measure => simp [intOf]; omega
        · have hasc := hid (ascT_all (s := lx) (fun j hj => hD.out j (by omega)))
          have hbg3 := hid (hbg2.out.trans (by rw [hasc.out]; rfl : _ = isIn ((nms (l.map Ls.d)).take k) nx))
          have hB7 := hB5.trans (hB6.mono hB5.size)
          have hz6 := Nat.lt_of_lt_of_le hz5 hB6.size
          have hncl : ¬ (c : Int) < (lx.size : Int) := by omega
          go_wp2_with fail
          clear hcl hncl hD hc1 hcm j2 i1 i2
          generalize wr = w3 at *
          go_loopw [7] (fun i wr => ∃ q : Nat, q ≤ k ∧ i = .int .i64 q ∧ Hid (isIn ((nms (l.map Ls.d)).take q) nx = false) ∧ Below w3.heap.size w3 wr) (fun i _ => k - (intOf i).toNat)
          case atStart => exact ⟨0, Nat.zero_le _, rfl, hid (isIn_zero _ _), Below.refl _ _⟩
          case round =>
            obtain ⟨q, hq, rfl, hI, hB8⟩ := hrel
            have g1 := (hB8.cell (p := ⟨b, o + k * 4, none⟩) hz6).trans j1
            by_cases hql : q < k
            · have hqa : q < l.length := by omega
              have g2 := ((hB7.trans (hB8.mono hB7.size)).cell (p := ⟨b, o + q * 4, none⟩) hl1).trans (hnames.out q hqa)
              have hnx := hid (isIn_next (l := nms (l.map Ls.d)) (k := q) (by rw [nms_len]; exact hqa) nx)
              have hmr := hid (fun (h : (l[q].nm.toList == nx.toList) = true) => isIn_more2 (l := nms (l.map Ls.d)) (j := q) (k := k) hql (by rw [nms_len]; omega) (x := nx) (by rw [nms_get hqa]; exact h))
              rw [nms_get hqa] at hnx
              have hq0 : (0 : Int) ≤ (q : Int) := by omega
              have hqk : (q : Int) < (k : Int) := by omega
              have hqn : (q : Int) < (n : Int) := by omega
              generalize l[q].nm = y at *
              cases ce : (y.toList == nx.toList)
              case true =>
                have hR := hid (hbad.out (by rw [hbg3.out]; exact hmr.out ce))
                go_wp2_with fail
                go_quiet (fail)
                go_wp2
                go_ret
                exact ⟨ret_bool hR.out.symm, below_drewN (hB7.trans (hB8.mono hB7.size)) _⟩
              case false =>
                go_wp2_with fail
                go_quiet (fail)
                go_wp2
                go_roundw
                case rel => exact ⟨q + 1, by omega, by go_num, hid (by rw [hnx.out, hI.out, ce]; rfl), below_drewN hB8 _⟩
                case measure => simp [intOf]; omega
            · obtain rfl : q = k := by omega
              have hgood := hid (none_next hN.out (by rw [hbg3.out]; exact hI.out))
              go_wp2
              go_roundw
              case rel => exact ⟨q + 1, by omega, by go_num, hgood, hB7.trans (hB8.mono hB7.size)⟩
              case measure => simp [intOf]; omega
    · obtain rfl : k = n := by omega
      have ha := hid (show okLs (l.map Ls.d) = decide (l.length ≤ 12) from okLs_all (by rw [← HN.out]; exact hN.out))
      by_cases h12 : (k : Int) ≤ 12
      all_goals
        go_wp2
        go_ret
        exact ⟨ret_bool (by rw [ha.out, ← HN.out]; simp; omega), hB⟩
end Go.Proofs.Ytbfkiopikkolcaa
