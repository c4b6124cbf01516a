/-
  Walks: is a machine valid? What is the kind of a letter of a machine?
-/
import Derived.Test.YthhpeanlpikjbaaFaceC
import Derived.Test.YthhpeanlpikjbaaSlTf
import Derived.Test.YthhpeanlpikjbaaName
namespace Go.Proofs.Ythhpeanlpikjbaa
open Go.RowKit Go.ChangeShapes Go.WideShapes
set_option linter.unusedVariables false
attribute [local go_sem ↓] Go.wp_at_zero Go.wp_at_succ

/-- is something wrong with fault k? -/
def badF (l : List Se) (k : Nat) : Bool := if h : k < l.length then (!(letB l[k].1) || !(inB l[k].2 1 6)) || (if h0 : 0 < k then geB (l[k - 1]'(by omega)).1 l[k].1 else false) else false
def oneB (x : ByteArray) (l : List Se) : Bool := nameB x && (decide (l.length ≤ 10) && (firstAt (badF l) l.length).isNone)
theorem badF_one {l : List Se} {k : Nat} (h : k < l.length) (ho : (!(letB l[k].1) || !(inB l[k].2 1 6)) = true) : badF l k = true := by
  unfold badF; rw [dif_pos h, ho]; rfl
theorem badF_first {l : List Se} (h : 0 < l.length) (ho : (!(letB l[0].1) || !(inB l[0].2 1 6)) = false) : badF l 0 = false := by
  unfold badF; rw [dif_pos h, ho]; rfl
theorem badF_next {l : List Se} {j : Nat} (h : j + 1 < l.length) (ho : (!(letB l[j + 1].1) || !(inB l[j + 1].2 1 6)) = false) : badF l (j + 1) = geB l[j].1 l[j + 1].1 := by
  unfold badF; rw [dif_pos h, ho, dif_pos (by omega)]; simp
theorem one_bad {x : ByteArray} {l : List Se} {k : Nat} (h : k < l.length) (hN : NoneUpTo (badF l) k) (hb : badF l k = true) : oneB x l = false := by
  unfold oneB; rw [first_hit hN hb h]; simp
theorem one_all {x : ByteArray} {l : List Se} (hN : NoneUpTo (badF l) l.length) : oneB x l = (nameB x && decide (l.length ≤ 10)) := by
  unfold oneB; rw [first_none hN]; simp
theorem one_name {x : ByteArray} {l : List Se} (h : nameB x = false) : oneB x l = false := by unfold oneB; rw [h]; rfl
theorem one_len {x : ByteArray} {l : List Se} (h : ¬ l.length ≤ 10) : oneB x l = false := by unfold oneB; rw [decide_eq_false h]; simp

/-- a machine that came in, or a copy: the name and the row of faults -/
structure WrAt (w : World) (pb po : Nat) (x : ByteArray) (ao : Option Addr) (n cap : Nat) : Prop where
  lt : pb < w.heap.size
  c0 : w.cell? ⟨pb, po, none⟩ = some (.string x)
  c1 : w.cell? ⟨pb, po + 1, none⟩ = some (.slice ao n cap)
theorem WrAt.below {w w' : World} {B pb po : Nat} {x : ByteArray} {ao : Option Addr} {n cap : Nat} (h : WrAt w pb po x ao n cap) (hb : Below B w w') (hB : pb < B) (hz : w.heap.size ≤ w'.heap.size) : WrAt w' pb po x ao n cap :=
  ⟨Nat.lt_of_lt_of_le h.lt hz, (hb.cell (p := ⟨pb, po, none⟩) hB).trans h.c0, (hb.cell (p := ⟨pb, po + 1, none⟩) hB).trans h.c1⟩

set_option maxRecDepth 10000 in
set_option maxHeartbeats 8000000 in
theorem sOne_any (pb po : Nat) (x : ByteArray) (ao : Option Addr) (n cap : Nat) (l : List Se) (w : World) (hw : WrAt w pb po x ao n cap) (hx : x.size ≤ maxLen) (hn : n = l.length) (hr : Rd w ao (ses l)) (hs : seSmall l) (hm : n ≤ 1048576) :
    Calls Try.prog 58 #[.pointer (some ⟨pb, po, none⟩)] w fun e w' => e = .returned (.bool (oneB x l)) ∧ Below w.heap.size w w' := by
  have HN := hid hn
  have hrd := rd_se hr
  obtain ⟨hpl, p0, p1⟩ := hw
  clear hn hr
  go_enter Try.func58, Try.ntmps58
  go_wp2_with fail
  go_loopw [3] (fun i wr => ∃ k : Nat, k ≤ n ∧ i = .int .i64 k ∧ NoneUpTo (badF l) k ∧ Below w.heap.size w wr) (fun i _ => n - (intOf i).toNat)
  case atStart => exact ⟨0, Nat.zero_le _, rfl, none_zero _, Below.refl _ _⟩
  case round =>
    obtain ⟨k, hk, rfl, hN, hB⟩ := hrel
    have hz := hB.size
    have q0 := (hB.cell (p := ⟨pb, po, none⟩) hpl).trans p0
    have q1 := (hB.cell (p := ⟨pb, po + 1, none⟩) hpl).trans p1
    have hpw : pb < wr.heap.size := by omega
    by_cases hlt : k < n
    · rcases hrd with hnil | ⟨b, o, rfl, hbl, hcell⟩
      · exact absurd (by rw [HN.out, hnil]; rfl : n = 0) (by omega)
      have hkl : k < l.length := by rw [← HN.out]; exact hlt
      obtain ⟨h1, h2⟩ := hcell k hkl
      have hs1 := seSmall_get hs k hkl
      have g1 := (hB.cell (p := ⟨b, o + k * 2, none⟩) hbl).trans h1
      have g2 := (hB.cell (p := ⟨b, o + k * 2 + 1, none⟩) hbl).trans h2
      have hbw : b < wr.heap.size := by omega
      clear h1 h2
      have hk0 : (0 : Int) ≤ (k : Int) := by omega
      have hkn : (k : Int) < (n : Int) := by omega
      have hone := hid (fun h => one_bad (x := x) hkl hN h)
      have hb1 := hid (fun h => badF_one hkl h)
      have hkind : inB l[k].2 1 6 = inB l[k].2 1 6 := rfl
      cases e1 : letB l[k].1
      · have hbad := hid (hone.out (hb1.out (by rw [e1]; rfl)))
        clear hcell
        generalize l[k] = z at *
        go_wp2_with fail
        refine wp_region_over (by kernel_rfl) (by kernel_rfl) (fun hov => ?_)
        repeat (go_big_quiet_step ((first | (go_at_call 59; with_reducible exact overSame (sLet_b _ _ hs1 e1)))))
        refine wpQuiet_nil ?_
        intro w5 hb5
        clear hov
        obtain ⟨hc5, hf5, hz5⟩ := bcell hb5
        go_wp2
        go_ret
        exact ⟨ret_bool hbad.out.symm, by (repeat (first | with_reducible exact Below.refl _ _ | with_reducible assumption | refine Below.drew ?_ | refine below_drewN ?_ _ | (refine Below.alloc ?_ (by first | omega | (simp; done) | (simp; omega)) _) | (refine Below.setCell ?_ (by first | omega | (simp; done) | (simp; omega)) _) | (refine Below.trans ?_ (Below.mono (by assumption) (by first | omega | (simp; done) | (simp; omega))))))⟩
      cases e2 : inB l[k].2 1 6
      · have hbad := hid (hone.out (hb1.out (by rw [e2]; simp)))
        clear hcell
        generalize l[k] = z at *
        go_wp2_with fail
        refine wp_region_over (by kernel_rfl) (by kernel_rfl) (fun hov => ?_)
        repeat (go_big_quiet_step ((first | (go_at_call 59; with_reducible exact overSame (sLet_b _ _ hs1 e1)) | (go_at_call 79; with_reducible exact overSame (kind_b _ _ e2)))))
        refine wpQuiet_nil ?_
        intro w5 hb5
        clear hov
        obtain ⟨hc5, hf5, hz5⟩ := bcell hb5
        go_wp2
        go_ret
        exact ⟨ret_bool hbad.out.symm, by (repeat (first | with_reducible exact Below.refl _ _ | with_reducible assumption | refine Below.drew ?_ | refine below_drewN ?_ _ | (refine Below.alloc ?_ (by first | omega | (simp; done) | (simp; omega)) _) | (refine Below.setCell ?_ (by first | omega | (simp; done) | (simp; omega)) _) | (refine Below.trans ?_ (Below.mono (by assumption) (by first | omega | (simp; done) | (simp; omega))))))⟩
      have hg : (!(letB l[k].1) || !(inB l[k].2 1 6)) = false := by rw [e1, e2]; rfl
      rcases Nat.eq_zero_or_pos k with hz0 | hpos
      · have hgood := hid (none_next hN (by subst hz0; exact badF_first hkl hg))
        have hd : decide ((0 : Int) < (k : Int)) = false := by simp; omega
        have hdN : decide (0 < k) = false := by simp; omega
        clear hz0 hcell hg
        generalize l[k] = z at *
        go_wp2_with fail
        refine wp_region_over (by kernel_rfl) (by kernel_rfl) (fun hov => ?_)
        repeat (go_big_quiet_step ((first | (go_at_call 59; with_reducible exact overSame (sLet_b _ _ hs1 e1)) | (go_at_call 79; with_reducible exact overSame (kind_b _ _ e2)))))
        refine wpQuiet_nil ?_
        intro w5 hb5
        clear hov
        obtain ⟨hc5, hf5, hz5⟩ := bcell hb5
        go_wp2
        go_roundw
        case rel => exact ⟨k + 1, by omega, by go_num, hgood.out, by (repeat (first | with_reducible exact Below.refl _ _ | with_reducible assumption | refine Below.drew ?_ | refine below_drewN ?_ _ | (refine Below.alloc ?_ (by first | omega | (simp; done) | (simp; omega)) _) | (refine Below.setCell ?_ (by first | omega | (simp; done) | (simp; omega)) _) | (refine Below.trans ?_ (Below.mono (by assumption) (by first | omega | (simp; done) | (simp; omega))))))⟩
        case measure => simp [intOf]; omega
      · obtain ⟨j, hj⟩ : ∃ j, k = j + 1 := ⟨k - 1, by omega⟩
        have hjl : j < l.length := by omega
        have hbj : badF l k = geB l[j].1 l[k].1 := by subst hj; exact badF_next hkl hg
        obtain ⟨f1, f2⟩ := hcell j hjl
        have g3 := (hB.cell (p := ⟨b, o + j * 2, none⟩) hbl).trans f1
        clear f1 f2 hcell hg
        have hd : decide ((0 : Int) < (k : Int)) = true := by simp; omega
        have hdN : decide (0 < k) = true := by simp; omega
        have e4 : IntKind.i64.wrap ((k : Int) - 1) = (j : Int) := by rw [hj]; simp; exact IntWalk.i64_in _ (by omega)
        have e5 : (k : Int) - 1 = (j : Int) := by omega
        have e6 : IntKind.i64.wrap (j : Int) = (j : Int) := IntWalk.i64_in _ (by omega)
        have hj0 : (0 : Int) ≤ (j : Int) := by omega
        have hjn : (j : Int) < (n : Int) := by omega
        have HJ := hid hj
        clear hj
        cases hge : Op.bytesLess l[j].1.toList l[k].1.toList
        · have hbad := hid (hone.out (by rw [hbj]; simp [geB, hge]))
          clear hbj
          generalize l[k] = z at *
          generalize l[j] = y at *
          go_wp2_with fail
          refine wp_region_over (by kernel_rfl) (by kernel_rfl) (fun hov => ?_)
          repeat (go_big_quiet_step ((first | (go_at_call 59; with_reducible exact overSame (sLet_b _ _ hs1 e1)) | (go_at_call 79; with_reducible exact overSame (kind_b _ _ e2)))))
          refine wpQuiet_nil ?_
          intro w5 hb5
          clear hov
          obtain ⟨hc5, hf5, hz5⟩ := bcell hb5
          go_wp2
          go_ret
          exact ⟨ret_bool hbad.out.symm, by (repeat (first | with_reducible exact Below.refl _ _ | with_reducible assumption | refine Below.drew ?_ | refine below_drewN ?_ _ | (refine Below.alloc ?_ (by first | omega | (simp; done) | (simp; omega)) _) | (refine Below.setCell ?_ (by first | omega | (simp; done) | (simp; omega)) _) | (refine Below.trans ?_ (Below.mono (by assumption) (by first | omega | (simp; done) | (simp; omega))))))⟩
        · have hgood := hid (none_next hN (by rw [hbj]; simp [geB, hge]))
          clear hbj
          generalize l[k] = z at *
          generalize l[j] = y at *
          go_wp2_with fail
          refine wp_region_over (by kernel_rfl) (by kernel_rfl) (fun hov => ?_)
          repeat (go_big_quiet_step ((first | (go_at_call 59; with_reducible exact overSame (sLet_b _ _ hs1 e1)) | (go_at_call 79; with_reducible exact overSame (kind_b _ _ e2)))))
          refine wpQuiet_nil ?_
          intro w5 hb5
          clear hov
          obtain ⟨hc5, hf5, hz5⟩ := bcell hb5
          go_wp2
          go_roundw
          case rel => exact ⟨k + 1, by omega, by go_num, hgood.out, by (repeat (first | with_reducible exact Below.refl _ _ | with_reducible assumption | refine Below.drew ?_ | refine below_drewN ?_ _ | (refine Below.alloc ?_ (by first | omega | (simp; done) | (simp; omega)) _) | (refine Below.setCell ?_ (by first | omega | (simp; done) | (simp; omega)) _) | (refine Below.trans ?_ (Below.mono (by assumption) (by first | omega | (simp; done) | (simp; omega))))))⟩
          case measure => simp [intOf]; omega
    · obtain rfl : k = n := by omega
      have ha := hid (show oneB x l = (nameB x && decide (l.length ≤ 10)) by rw [HN.out] at hN; exact one_all hN)
      cases hnm : nameB x
      · go_wp2_with (go_at_call 82; refine (sName_b _ _ hx hnm).mono ?_; rintro e w' ⟨rfl, rfl⟩)
        go_ret
        exact ⟨ret_bool (by rw [ha.out, hnm]; rfl), hB⟩
      · by_cases h10 : (k : Int) ≤ 10
        all_goals
          go_wp2_with (go_at_call 82; refine (sName_b _ _ hx hnm).mono ?_; rintro e w' ⟨rfl, rfl⟩)
          go_ret
          exact ⟨ret_bool (by rw [ha.out, hnm, ← HN.out]; simp; omega), hB⟩

set_option maxRecDepth 10000 in
set_option maxHeartbeats 8000000 in
theorem one_any (x : ByteArray) (ao : Option Addr) (n cap : Nat) (l : List Se) (w : World) (hx : x.size ≤ maxLen) (hn : n = l.length) (hr : Rd w ao (ses l)) (hs : seSmall l) (hm : n ≤ 1048576) :
    Calls Try.prog 56 #[.agg #[.string x, .slice ao n cap]] w fun e w' => e = .returned (.bool (oneB x l)) ∧ Below w.heap.size w w' := by
  have HN := hid hn
  have hrd := rd_se hr
  clear hn hr
  cases hnm : nameB x
  · have hbad := hid (one_name (l := l) hnm)
    go_enter Try.func56, Try.ntmps56
    go_wp2_with (go_at_call 80; refine (isName_b _ _ hx hnm).mono ?_; rintro e w' ⟨rfl, rfl⟩)
    go_ret
    exact ⟨ret_bool hbad.out.symm, by (repeat (first | with_reducible exact Below.refl _ _ | with_reducible assumption | refine Below.drew ?_ | refine below_drewN ?_ _ | (refine Below.alloc ?_ (by first | omega | (simp; done) | (simp; omega)) _) | (refine Below.setCell ?_ (by first | omega | (simp; done) | (simp; omega)) _) | (refine Below.trans ?_ (Below.mono (by assumption) (by first | omega | (simp; done) | (simp; omega))))))⟩
  by_cases h10 : (10 : Int) < (n : Int)
  · have hbad := hid (one_len (x := x) (l := l) (by rw [← HN.out]; omega))
    go_enter Try.func56, Try.ntmps56
    go_wp2_with (go_at_call 80; refine (isName_b _ _ hx hnm).mono ?_; rintro e w' ⟨rfl, rfl⟩)
    go_ret
    exact ⟨ret_bool hbad.out.symm, by (repeat (first | with_reducible exact Below.refl _ _ | with_reducible assumption | refine Below.drew ?_ | refine below_drewN ?_ _ | (refine Below.alloc ?_ (by first | omega | (simp; done) | (simp; omega)) _) | (refine Below.setCell ?_ (by first | omega | (simp; done) | (simp; omega)) _) | (refine Below.trans ?_ (Below.mono (by assumption) (by first | omega | (simp; done) | (simp; omega))))))⟩
  have hall := hid (fun h => (one_all (x := x) (l := l) h).trans (by rw [hnm, ← HN.out]; simp; omega : (nameB x && decide (l.length ≤ 10)) = true))
  go_enter Try.func56, Try.ntmps56
  go_wp2_with (go_at_call 80; refine (isName_b _ _ hx hnm).mono ?_; rintro e w' ⟨rfl, rfl⟩)
  obtain ⟨wb, hwb⟩ : ∃ wb, wb = w.alloc (.cells #[.string x, .slice ao n cap] 44) := ⟨_, rfl⟩
  have b0 : wb.cell? ⟨w.heap.size, 0, none⟩ = some (.string x) := by rw [hwb]; simp
  have b1 : wb.cell? ⟨w.heap.size, 1, none⟩ = some (.slice ao n cap) := by rw [hwb]; simp
  have hBw : Below w.heap.size w wb := by rw [hwb]; exact (Below.refl _ _).alloc (Nat.le_refl _) _
  have hzb : wb.heap.size = w.heap.size + 1 := by rw [hwb]; simp
  have HZB := hid hzb
  rw [← hwb]
  clear hwb hzb
  go_loopw [3, 4, 18] (fun _ _ i wr => ∃ k : Nat, k ≤ n ∧ i = .int .i64 k ∧ NoneUpTo (badF l) k ∧ Below wb.heap.size wb wr) (fun _ _ i _ => n - (intOf i).toNat)
  case atStart => exact ⟨0, Nat.zero_le _, rfl, none_zero _, Below.refl _ _⟩
  case round =>
    obtain ⟨k, hk, rfl, hN, hB⟩ := hrel
    have hz := hB.size
    have hz0 := HZB.out
    have hzl : w.heap.size < wr.heap.size := by omega
    have q1 := (hB.cell (p := ⟨w.heap.size, 1, none⟩) (by show w.heap.size < wb.heap.size; omega)).trans b1
    have hBB := hBw.trans (hB.mono (by omega))
    clear hz0
    by_cases hlt : k < n
    · rcases hrd with hnil | ⟨b, o, rfl, hbl, hcell⟩
      · exact absurd (by rw [HN.out, hnil]; rfl : n = 0) (by omega)
      have hkl : k < l.length := by rw [← HN.out]; exact hlt
      obtain ⟨h1, h2⟩ := hcell k hkl
      have hs1 := seSmall_get hs k hkl
      have g1 := (hBB.cell (p := ⟨b, o + k * 2, none⟩) hbl).trans h1
      have g2 := (hBB.cell (p := ⟨b, o + k * 2 + 1, none⟩) hbl).trans h2
      have hbw : b < wr.heap.size := by omega
      clear h1 h2
      have hk0 : (0 : Int) ≤ (k : Int) := by omega
      have hkn : (k : Int) < (n : Int) := by omega
      have hone := hid (fun h => one_bad (x := x) hkl hN h)
      have hb1 := hid (fun h => badF_one hkl h)
      cases e1 : letB l[k].1
      · have hbad := hid (hone.out (hb1.out (by rw [e1]; rfl)))
        clear hcell
        generalize l[k] = z at *
        go_wp2_with fail
        refine wp_region_over (by kernel_rfl) (by kernel_rfl) (fun hov => ?_)
        repeat (go_big_quiet_step ((first | (go_at_call 52; with_reducible exact overSame (isLet_b _ _ hs1 e1)))))
        refine wpQuiet_nil ?_
        intro w5 hb5
        clear hov
        obtain ⟨hc5, hf5, hz5⟩ := bcell hb5
        go_wp2
        go_ret
        exact ⟨ret_bool hbad.out.symm, by (repeat (first | with_reducible exact Below.refl _ _ | with_reducible assumption | refine Below.drew ?_ | refine below_drewN ?_ _ | (refine Below.alloc ?_ (by first | omega | (simp; done) | (simp; omega)) _) | (refine Below.setCell ?_ (by first | omega | (simp; done) | (simp; omega)) _) | (refine Below.trans ?_ (Below.mono (by assumption) (by first | omega | (simp; done) | (simp; omega))))))⟩
      cases e2 : inB l[k].2 1 6
      · have hbad := hid (hone.out (hb1.out (by rw [e2]; simp)))
        clear hcell
        generalize l[k] = z at *
        go_wp2_with fail
        refine wp_region_over (by kernel_rfl) (by kernel_rfl) (fun hov => ?_)
        repeat (go_big_quiet_step ((first | (go_at_call 52; with_reducible exact overSame (isLet_b _ _ hs1 e1)) | (go_at_call 53; with_reducible exact overSame (between_b _ _ _ _ e2)))))
        refine wpQuiet_nil ?_
        intro w5 hb5
        clear hov
        obtain ⟨hc5, hf5, hz5⟩ := bcell hb5
        go_wp2
        go_ret
        exact ⟨ret_bool hbad.out.symm, by (repeat (first | with_reducible exact Below.refl _ _ | with_reducible assumption | refine Below.drew ?_ | refine below_drewN ?_ _ | (refine Below.alloc ?_ (by first | omega | (simp; done) | (simp; omega)) _) | (refine Below.setCell ?_ (by first | omega | (simp; done) | (simp; omega)) _) | (refine Below.trans ?_ (Below.mono (by assumption) (by first | omega | (simp; done) | (simp; omega))))))⟩
      have hg : (!(letB l[k].1) || !(inB l[k].2 1 6)) = false := by rw [e1, e2]; rfl
      rcases Nat.eq_zero_or_pos k with hz0 | hpos
      · have hgood := hid (none_next hN (by subst hz0; exact badF_first hkl hg))
        have hd : decide ((0 : Int) < (k : Int)) = false := by simp; omega
        have hdN : decide (0 < k) = false := by simp; omega
        clear hz0 hcell hg
        generalize l[k] = z at *
        go_wp2_with fail
        refine wp_region_over (by kernel_rfl) (by kernel_rfl) (fun hov => ?_)
        repeat (go_big_quiet_step ((first | (go_at_call 52; with_reducible exact overSame (isLet_b _ _ hs1 e1)) | (go_at_call 53; with_reducible exact overSame (between_b _ _ _ _ e2)))))
        refine wpQuiet_nil ?_
        intro w5 hb5
        clear hov
        obtain ⟨hc5, hf5, hz5⟩ := bcell hb5
        go_wp2
        go_roundw
        case rel => exact ⟨k + 1, by omega, by go_num, hgood.out, by (repeat (first | with_reducible exact Below.refl _ _ | with_reducible assumption | refine Below.drew ?_ | refine below_drewN ?_ _ | (refine Below.alloc ?_ (by first | omega | (simp; done) | (simp; omega)) _) | (refine Below.setCell ?_ (by first | omega | (simp; done) | (simp; omega)) _) | (refine Below.trans ?_ (Below.mono (by assumption) (by first | omega | (simp; done) | (simp; omega))))))⟩
        case measure => simp [intOf]; omega
      · obtain ⟨j, hj⟩ : ∃ j, k = j + 1 := ⟨k - 1, by omega⟩
        have hjl : j < l.length := by omega
        have hbj : badF l k = geB l[j].1 l[k].1 := by subst hj; exact badF_next hkl hg
        rw [← geB_leq] at hbj
        obtain ⟨f1, f2⟩ := hcell j hjl
        have g3 := (hBB.cell (p := ⟨b, o + j * 2, none⟩) hbl).trans f1
        clear f1 f2 hcell hg
        have hd : decide ((0 : Int) < (k : Int)) = true := by simp; omega
        have hdN : decide (0 < k) = true := by simp; omega
        have e4 : IntKind.i64.wrap ((k : Int) - 1) = (j : Int) := by rw [hj]; simp; exact IntWalk.i64_in _ (by omega)
        have e5 : (k : Int) - 1 = (j : Int) := by omega
        have e6 : IntKind.i64.wrap (j : Int) = (j : Int) := IntWalk.i64_in _ (by omega)
        have hj0 : (0 : Int) ≤ (j : Int) := by omega
        have hjn : (j : Int) < (n : Int) := by omega
        have HJ := hid hj
        clear hj
        cases hle : Op.bytesLess l[k].1.toList l[j].1.toList <;> cases heq : (l[k].1.toList == l[j].1.toList)
        case false.false =>
          have hgood := hid (none_next hN (by rw [hbj, hle, heq]; rfl))
          clear hbj
          generalize l[k] = z at *
          generalize l[j] = y at *
          go_wp2_with fail
          refine wp_region_over (by kernel_rfl) (by kernel_rfl) (fun hov => ?_)
          repeat (go_big_quiet_step ((first | (go_at_call 52; with_reducible exact overSame (isLet_b _ _ hs1 e1)) | (go_at_call 53; with_reducible exact overSame (between_b _ _ _ _ e2)))))
          refine wpQuiet_nil ?_
          intro w5 hb5
          clear hov
          obtain ⟨hc5, hf5, hz5⟩ := bcell hb5
          go_wp2
          go_roundw
          case rel => exact ⟨k + 1, by omega, by go_num, hgood.out, by (repeat (first | with_reducible exact Below.refl _ _ | with_reducible assumption | refine Below.drew ?_ | refine below_drewN ?_ _ | (refine Below.alloc ?_ (by first | omega | (simp; done) | (simp; omega)) _) | (refine Below.setCell ?_ (by first | omega | (simp; done) | (simp; omega)) _) | (refine Below.trans ?_ (Below.mono (by assumption) (by first | omega | (simp; done) | (simp; omega))))))⟩
          case measure => simp [intOf]; omega
        all_goals
          have hbad := hid (hone.out (by rw [hbj, hle, heq]; rfl))
          clear hbj
          generalize l[k] = z at *
          generalize l[j] = y at *
          go_wp2_with fail
          refine wp_region_over (by kernel_rfl) (by kernel_rfl) (fun hov => ?_)
          repeat (go_big_quiet_step ((first | (go_at_call 52; with_reducible exact overSame (isLet_b _ _ hs1 e1)) | (go_at_call 53; with_reducible exact overSame (between_b _ _ _ _ e2)))))
          refine wpQuiet_nil ?_
          intro w5 hb5
          clear hov
          obtain ⟨hc5, hf5, hz5⟩ := bcell hb5
          go_wp2
          go_ret
          exact ⟨ret_bool hbad.out.symm, by (repeat (first | with_reducible exact Below.refl _ _ | with_reducible assumption | refine Below.drew ?_ | refine below_drewN ?_ _ | (refine Below.alloc ?_ (by first | omega | (simp; done) | (simp; omega)) _) | (refine Below.setCell ?_ (by first | omega | (simp; done) | (simp; omega)) _) | (refine Below.trans ?_ (Below.mono (by assumption) (by first | omega | (simp; done) | (simp; omega))))))⟩
    · obtain rfl : k = n := by omega
      have ha := hid (hall.out (by rw [← HN.out]; exact hN))
      go_wp2
      go_ret
      exact ⟨ret_bool ha.out.symm, hBB⟩
end Go.Proofs.Ythhpeanlpikjbaa
