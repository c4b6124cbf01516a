/-
  Walks: how many letters of a page do not fit to a machine?
-/
import Derived.Test.YthhpeanlpikjbaaFaceE
namespace Go.Proofs.Ythhpeanlpikjbaa
open Go.RowKit Go.ChangeShapes Go.WideShapes
set_option linter.unusedVariables false
attribute [local go_sem ↓] Go.wp_at_zero Go.wp_at_succ

def fitsAt (l p : List Se) (k : Nat) : Bool := if h : k < p.length then decide (kindI l p[k].1 = p[k].2) else true
theorem fitsAt_get {l p : List Se} {k : Nat} (h : k < p.length) : fitsAt l p k = decide (kindI l p[k].1 = p[k].2) := by unfold fitsAt; rw [dif_pos h]
def againstUp (l p : List Se) : Nat → Int
  | 0 => 0
  | k + 1 => if fitsAt l p k = true then againstUp l p k else againstUp l p k + 1
theorem against_fit {l p : List Se} {k : Nat} (h : fitsAt l p k = true) : againstUp l p (k + 1) = againstUp l p k := by rw [againstUp, if_pos h]
theorem against_not {l p : List Se} {k : Nat} (h : fitsAt l p k = false) : againstUp l p (k + 1) = againstUp l p k + 1 := by rw [againstUp, if_neg (by simp [h])]
theorem against_bd (l p : List Se) (k : Nat) : 0 ≤ againstUp l p k ∧ againstUp l p k ≤ k := by
  induction k with
  | zero => simp [againstUp]
  | succ k ih => rw [againstUp]; split <;> omega
def againstI (l p : List Se) : Int := againstUp l p p.length

theorem rd_drewN {w : World} {ao : Option Addr} {xs : List Value} (h : Rd w ao xs) (m : Nat) : Rd (w.drewN m) ao xs := h
theorem wrAt_drewN {w : World} {pb po : Nat} {x : ByteArray} {ao : Option Addr} {n cap : Nat} (h : WrAt w pb po x ao n cap) (m : Nat) : WrAt (w.drewN m) pb po x ao n cap := ⟨h.lt, h.c0, h.c1⟩
theorem sOf_b {r : Int} (pb po : Nat) (x : ByteArray) (ao : Option Addr) (n cap : Nat) (l : List Se) (s : ByteArray) (w : World) (hw : WrAt w pb po x ao n cap) (hn : n = l.length) (hr : Rd w ao (ses l)) (hm : n ≤ 1048576) (h : kindI l s = r) :
    Calls Try.prog 60 #[.pointer (some ⟨pb, po, none⟩), .string s] w fun e w' => e = .returned (.int .i64 r) ∧ w = w' := by
  subst h; exact sOf_any pb po x ao n cap l s w hw hn hr hm
theorem kindW_b {r : Int} (x : ByteArray) (ao : Option Addr) (n cap : Nat) (l : List Se) (s : ByteArray) (w : World) (hn : n = l.length) (hr : Rd w ao (ses l)) (hm : n ≤ 1048576) (h : kindI l s = r) :
    Calls Try.prog 62 #[.agg #[.string x, .slice ao n cap], .string s] w fun e w' => e = .returned (.int .i64 r) ∧ Below w.heap.size w w' := by
  subst h; exact kindW_any x ao n cap l s w hn hr hm

set_option maxHeartbeats 4000000 in
theorem sAgainst_any (pb po : Nat) (x : ByteArray) (ao : Option Addr) (n cap : Nat) (l : List Se) (bo : Option Addr) (n2 cap2 : Nat) (p : List Se) (w : World) (hw : WrAt w pb po x ao n cap) (hn : n = l.length) (hr : Rd w ao (ses l)) (hm : n ≤ 1048576) (hn2 : n2 = p.length) (hr2 : Rd w bo (ses p)) (hm2 : n2 ≤ 1048576) :
    Calls Try.prog 68 #[.pointer (some ⟨pb, po, none⟩), .slice bo n2 cap2] w fun e w' => e = .returned (.int .i64 (againstI l p)) ∧ Below w.heap.size w w' := by
  have HN := hid hn
  have HN2 := hid hn2
  have hrd := rd_se hr2
  clear hn hn2 hr2
  go_enter Try.func68, Try.ntmps68
  go_wp2_with fail
  go_loopw [5, 6] (fun c i wr => ∃ k : Nat, k ≤ n2 ∧ i = .int .i64 k ∧ c = .int .i64 (againstUp l p k) ∧ Below w.heap.size w wr) (fun _ i _ => n2 - (intOf i).toNat)
  case atStart => exact ⟨0, Nat.zero_le _, rfl, rfl, Below.refl _ _⟩
  case round =>
    obtain ⟨k, hk, rfl, rfl, hB⟩ := hrel
    have hz := hB.size
    obtain ⟨hc0, hc1⟩ := against_bd l p k
    by_cases hlt : k < n2
    · rcases hrd with hnil | ⟨b, o, rfl, hbl, hcell⟩
      · exact absurd (by rw [HN2.out, hnil]; rfl : n2 = 0) (by omega)
      have hkl : k < p.length := by rw [← HN2.out]; exact hlt
      obtain ⟨h1, h2⟩ := hcell k hkl
      have g1 := (hB.cell (p := ⟨b, o + k * 2, none⟩) hbl).trans h1
      have g2 := (hB.cell (p := ⟨b, o + k * 2 + 1, none⟩) hbl).trans h2
      clear hcell h1 h2
      have hk0 : (0 : Int) ≤ (k : Int) := by omega
      have hkn : (k : Int) < (n2 : Int) := by omega
      have hfg := hid (fitsAt_get (l := l) hkl)
      have hyes := hid (fun h => against_fit (l := l) (p := p) (k := k) h)
      have hno := hid (fun h => against_not (l := l) (p := p) (k := k) h)
      have hww := hw.below hB hw.lt hz
      have hrw := rd_below hr hB
      obtain ⟨c, hc⟩ : ∃ c, c = againstUp l p k := ⟨_, rfl⟩
      rw [← hc] at hc0 hc1 hyes hno
      rw [← hc]
      clear hc
      obtain ⟨z, hz⟩ : ∃ z, z = p[k] := ⟨_, rfl⟩
      rw [← hz] at g1 g2 hfg
      clear hz
      obtain ⟨v, hv⟩ : ∃ v, v = kindI l z.1 := ⟨_, rfl⟩
      rw [← hv] at hfg
      have HV := hid hv.symm
      clear hv
      by_cases he : v = z.2
      · have hs := hid (hyes.out (by rw [hfg.out]; exact decide_eq_true he))
        have e1 : (v != z.2) = false := neI_false he
        clear he
        go_wp2_with fail
        go_quiet ((go_at_call 60; exact qs (sOf_b _ _ x ao n cap l z.1 _ (wrAt_drewN hww _) HN.out (rd_drewN hrw _) hm HV.out)))
        go_wp2
        go_roundw
        case rel => exact ⟨k + 1, by omega, by go_num, by rw [hs.out], below_drewN hB _⟩
        case measure => simp [intOf]; omega
      · have hs := hid (hno.out (by rw [hfg.out]; exact decide_eq_false he))
        have e1 : (v != z.2) = true := neI_true he
        clear he
        go_wp2_with fail
        go_quiet ((go_at_call 60; exact qs (sOf_b _ _ x ao n cap l z.1 _ (wrAt_drewN hww _) HN.out (rd_drewN hrw _) hm HV.out)))
        go_wp2
        go_roundw
        case rel => exact ⟨k + 1, by omega, by go_num, by rw [hs.out], below_drewN hB _⟩
        case measure => simp [intOf]; omega
    · obtain rfl : k = n2 := by omega
      have ha := hid (show againstI l p = againstUp l p k by unfold againstI; rw [← HN2.out])
      go_wp2
      go_ret
      exact ⟨ret_int ha.out.symm, hB⟩

set_option maxHeartbeats 4000000 in
theorem against_any (x : ByteArray) (ao : Option Addr) (n cap : Nat) (l : List Se) (bo : Option Addr) (n2 cap2 : Nat) (p : List Se) (w : World) (hn : n = l.length) (hr : Rd w ao (ses l)) (hm : n ≤ 1048576) (hn2 : n2 = p.length) (hr2 : Rd w bo (ses p)) (hm2 : n2 ≤ 1048576) :
    Calls Try.prog 69 #[.agg #[.string x, .slice ao n cap], .slice bo n2 cap2] w fun e w' => e = .returned (.int .i64 (againstI l p)) ∧ Below w.heap.size w w' := by
  have HN := hid hn
  have HN2 := hid hn2
  have hrd := rd_se hr2
  clear hn hn2 hr2
  go_enter Try.func69, Try.ntmps69
  go_wp2_with fail
  obtain ⟨wb, hwb⟩ : ∃ wb, wb = w.alloc (.cells #[.string x, .slice ao n cap] 44) := ⟨_, rfl⟩
  have b0 : wb.cell? ⟨w.heap.size, 0, none⟩ = some (.string x) := by rw [hwb]; simp
  have b1 : wb.cell? ⟨w.heap.size, 1, none⟩ = some (.slice ao n cap) := by rw [hwb]; simp
  have hBw : Below w.heap.size w wb := by rw [hwb]; exact (Below.refl _ _).alloc (Nat.le_refl _) _
  have hlb : w.heap.size < wb.heap.size := by rw [hwb]; simp
  rw [← hwb]
  clear hwb
  go_loopw [5, 7, 10] (fun c _ i wr => ∃ k : Nat, k ≤ n2 ∧ i = .int .i64 k ∧ c = .int .i64 (againstUp l p k) ∧ Below wb.heap.size wb wr) (fun _ _ i _ => n2 - (intOf i).toNat)
  case atStart => exact ⟨0, Nat.zero_le _, rfl, rfl, Below.refl _ _⟩
  case round =>
    obtain ⟨k, hk, rfl, rfl, hB⟩ := hrel
    have hz := hB.size
    obtain ⟨hc0, hc1⟩ := against_bd l p k
    have hBB := hBw.trans (hB.mono (by omega))
    have q0 := (hB.cell (p := ⟨w.heap.size, 0, none⟩) hlb).trans b0
    have q1 := (hB.cell (p := ⟨w.heap.size, 1, none⟩) hlb).trans b1
    have hlw : w.heap.size < wr.heap.size := by omega
    by_cases hlt : k < n2
    · rcases hrd with hnil | ⟨b, o, rfl, hbl, hcell⟩
      · exact absurd (by rw [HN2.out, hnil]; rfl : n2 = 0) (by omega)
      have hkl : k < p.length := by rw [← HN2.out]; exact hlt
      obtain ⟨h1, h2⟩ := hcell k hkl
      have g1 := (hBB.cell (p := ⟨b, o + k * 2, none⟩) hbl).trans h1
      have g2 := (hBB.cell (p := ⟨b, o + k * 2 + 1, none⟩) hbl).trans h2
      clear hcell h1 h2
      have hk0 : (0 : Int) ≤ (k : Int) := by omega
      have hkn : (k : Int) < (n2 : Int) := by omega
      have hfg := hid (fitsAt_get (l := l) hkl)
      have hyes := hid (fun h => against_fit (l := l) (p := p) (k := k) h)
      have hno := hid (fun h => against_not (l := l) (p := p) (k := k) h)
      have hrw := rd_below hr hBB
      obtain ⟨c, hc⟩ : ∃ c, c = againstUp l p k := ⟨_, rfl⟩
      rw [← hc] at hc0 hc1 hyes hno
      rw [← hc]
      clear hc
      obtain ⟨z, hz⟩ : ∃ z, z = p[k] := ⟨_, rfl⟩
      rw [← hz] at g1 g2 hfg
      clear hz
      obtain ⟨v, hv⟩ : ∃ v, v = kindI l z.1 := ⟨_, rfl⟩
      rw [← hv] at hfg
      have HV := hid hv.symm
      clear hv
      have hra := fun (y : Over (wr.alloc (.cells #[.string z.1, .int .i64 z.2] 72))) => rd_over (x := y) (rd_below hrw ((Below.refl _ _).alloc (Nat.le_refl _) _))
      by_cases he : v = z.2
      · have hs := hid (hyes.out (by rw [hfg.out]; exact decide_eq_true he))
        have e1 : (z.2 != v) = false := neI_false he.symm
        clear he
        go_wp2_with fail
        refine wp_region_over (by kernel_rfl) (by kernel_rfl) (fun hov => ?_)
        repeat (go_big_quiet_step (((go_at_call 62; exact overCall (kindW_b x ao n cap l z.1 _ HN.out (hra _) hm HV.out)))))
        refine wpQuiet_nil ?_
        intro w5 hb5
        clear hov
        obtain ⟨hc5, hf5, hz5⟩ := bcell hb5
        go_wp2
        go_roundw
        case rel => exact ⟨k + 1, by omega, by go_num, by rw [hs.out], (hB.alloc hz _).trans (hb5.mono (by simp; omega))⟩
        case measure => simp [intOf]; omega
      · have hs := hid (hno.out (by rw [hfg.out]; exact decide_eq_false he))
        have e1 : (z.2 != v) = true := neI_true (fun h => he h.symm)
        clear he
        go_wp2_with fail
        refine wp_region_over (by kernel_rfl) (by kernel_rfl) (fun hov => ?_)
        repeat (go_big_quiet_step (((go_at_call 62; exact overCall (kindW_b x ao n cap l z.1 _ HN.out (hra _) hm HV.out)))))
        refine wpQuiet_nil ?_
        intro w5 hb5
        clear hov
        obtain ⟨hc5, hf5, hz5⟩ := bcell hb5
        go_wp2
        go_roundw
        case rel => exact ⟨k + 1, by omega, by go_num, by rw [hs.out], (hB.alloc hz _).trans (hb5.mono (by simp; omega))⟩
        case measure => simp [intOf]; omega
    · obtain rfl : k = n2 := by omega
      have ha := hid (show againstI l p = againstUp l p k by unfold againstI; rw [← HN2.out])
      go_wp2
      go_ret
      exact ⟨ret_int ha.out.symm, hBB⟩

def contraR (x : ByteArray) (l p : List Se) : Int × Int := if (oneB x l && pageOk p) = true then (againstI l p, 0) else (0, 1)
theorem contra_bad {x : ByteArray} {l p : List Se} (h : (oneB x l && pageOk p) = false) : contraR x l p = (0, 1) := by simp only [contraR, h]; rfl
theorem contra_ok {x : ByteArray} {l p : List Se} (h : (oneB x l && pageOk p) = true) : contraR x l p = (againstI l p, 0) := by simp only [contraR, h]; rfl
set_option maxHeartbeats 4000000 in
theorem sContra_any (x : ByteArray) (ao : Option Addr) (n cap : Nat) (l : List Se) (bo : Option Addr) (n2 cap2 : Nat) (p : List Se) (w : World) (hx : x.size ≤ maxLen) (hn : n = l.length) (hr : Rd w ao (ses l)) (hs : seSmall l) (hm : n ≤ 1048576) (hn2 : n2 = p.length) (hr2 : Rd w bo (ses p)) (hs2 : seSmall p) (hm2 : n2 ≤ 1048576) :
    Calls Try.prog 33 #[.agg #[.string x, .slice ao n cap], .slice bo n2 cap2] w fun e w' => e = .returned (.tuple #[.int .i64 (contraR x l p).1, .int .i64 (contraR x l p).2]) ∧ Below w.heap.size w w' := by
  have HN := hid hn
  have HN2 := hid hn2
  clear hn hn2
  have hB0 : Below w.heap.size w (w.alloc (.cells #[.string x, .slice ao n cap] 44)) := (Below.refl _ _).alloc (Nat.le_refl _) _
  have hr0 := rd_below hr hB0
  have hp0 := rd_below hr2 hB0
  have hwa := wrAt_new w x ao n cap 44
  cases h1 : oneB x l
  · have hR := hid (contra_bad (x := x) (l := l) (p := p) (by rw [h1]; rfl))
    go_enter Try.func33, Try.ntmps33
    go_wp2_with (go_at_call 58; refine (sOne_any _ _ x ao n cap l _ hwa hx HN.out hr0 hs hm).mono ?_; rw [h1]; rintro e w1 ⟨rfl, hb1⟩)
    go_ret2
    exact ⟨by simp [hR.out], hB0.trans (hb1.mono (by simp))⟩
  cases h2 : pageOk p
  · have hR := hid (contra_bad (x := x) (l := l) (p := p) (by rw [h1, h2]; rfl))
    go_enter Try.func33, Try.ntmps33
    go_wp2_with (first | (go_at_call 58; refine (sOne_any _ _ x ao n cap l _ hwa hx HN.out hr0 hs hm).mono ?_; rw [h1]; rintro e w1 ⟨rfl, hb1⟩) | (go_at_call 50; refine (sPage_any bo n2 cap2 p _ HN2.out (rd_below hp0 hb1) hs2 hm2).mono ?_; rw [h2]; rintro e w2 ⟨rfl, hb2⟩))
    go_ret2
    exact ⟨by simp [hR.out], hB0.trans ((hb1.trans (hb2.mono hb1.size)).mono (by simp))⟩
  have hR := hid (contra_ok (x := x) (l := l) (p := p) (by rw [h1, h2]; rfl))
  obtain ⟨v, hv⟩ : ∃ v, v = againstI l p := ⟨_, rfl⟩
  rw [← hv] at hR
  have HV := hid hv
  clear hv
  go_enter Try.func33, Try.ntmps33
  go_wp2_with (first | (go_at_call 58; refine (sOne_any _ _ x ao n cap l _ hwa hx HN.out hr0 hs hm).mono ?_; rw [h1]; rintro e w1 ⟨rfl, hb1⟩) | (go_at_call 50; refine (sPage_any bo n2 cap2 p _ HN2.out (rd_below hp0 hb1) hs2 hm2).mono ?_; rw [h2]; rintro e w2 ⟨rfl, hb2⟩))
  have hb12 := hb1.trans (hb2.mono hb1.size)
  refine (sAgainst_any _ _ x ao n cap l bo n2 cap2 p _ (hwa.below hb12 (by simp) hb12.size) HN.out (rd_below hr0 hb12) hm HN2.out (rd_below hp0 hb12) hm2).mono ?_
  rw [← HV.out]
  rintro e w3 ⟨rfl, hb3⟩
  go_wp2_with fail
  go_ret2
  exact ⟨by simp [hR.out], hB0.trans ((hb12.trans (hb3.mono hb12.size)).mono (by simp))⟩
set_option maxHeartbeats 4000000 in
theorem contra_any (x : ByteArray) (ao : Option Addr) (n cap : Nat) (l : List Se) (bo : Option Addr) (n2 cap2 : Nat) (p : List Se) (w : World) (hx : x.size ≤ maxLen) (hn : n = l.length) (hr : Rd w ao (ses l)) (hs : seSmall l) (hm : n ≤ 1048576) (hn2 : n2 = p.length) (hr2 : Rd w bo (ses p)) (hs2 : seSmall p) (hm2 : n2 ≤ 1048576) :
    Calls Try.prog 34 #[.agg #[.string x, .slice ao n cap], .slice bo n2 cap2] w fun e w' => e = .returned (.tuple #[.int .i64 (contraR x l p).1, .int .i64 (contraR x l p).2]) ∧ Below w.heap.size w w' := by
  have HN := hid hn
  have HN2 := hid hn2
  clear hn hn2
  have hB0 : Below w.heap.size w (w.alloc (.cells #[.string x, .slice ao n cap] 44)) := (Below.refl _ _).alloc (Nat.le_refl _) _
  have hr0 := rd_below hr hB0
  have hp0 := rd_below hr2 hB0
  have hwa := wrAt_new w x ao n cap 44
  cases h1 : oneB x l
  · have hR := hid (contra_bad (x := x) (l := l) (p := p) (by rw [h1]; rfl))
    go_enter Try.func34, Try.ntmps34
    go_wp2_with (go_at_call 56; refine (one_any x ao n cap l _ hx HN.out hr0 hs hm).mono ?_; rw [h1]; rintro e w1 ⟨rfl, hb1⟩)
    go_ret2
    exact ⟨by simp [hR.out], hB0.trans (hb1.mono (by simp))⟩
  cases h2 : pageOk p
  · have hR := hid (contra_bad (x := x) (l := l) (p := p) (by rw [h1, h2]; rfl))
    go_enter Try.func34, Try.ntmps34
    go_wp2_with (first | (go_at_call 56; refine (one_any x ao n cap l _ hx HN.out hr0 hs hm).mono ?_; rw [h1]; rintro e w1 ⟨rfl, hb1⟩) | (go_at_call 15; refine (page_any bo n2 cap2 p _ HN2.out (rd_below hp0 hb1) hs2 hm2).mono ?_; rw [h2]; rintro e w2 ⟨rfl, hb2⟩))
    go_ret2
    exact ⟨by simp [hR.out], hB0.trans ((hb1.trans (hb2.mono hb1.size)).mono (by simp))⟩
  have hR := hid (contra_ok (x := x) (l := l) (p := p) (by rw [h1, h2]; rfl))
  obtain ⟨v, hv⟩ : ∃ v, v = againstI l p := ⟨_, rfl⟩
  rw [← hv] at hR
  have HV := hid hv
  clear hv
  go_enter Try.func34, Try.ntmps34
  go_wp2_with (first | (go_at_call 56; refine (one_any x ao n cap l _ hx HN.out hr0 hs hm).mono ?_; rw [h1]; rintro e w1 ⟨rfl, hb1⟩) | (go_at_call 15; refine (page_any bo n2 cap2 p _ HN2.out (rd_below hp0 hb1) hs2 hm2).mono ?_; rw [h2]; rintro e w2 ⟨rfl, hb2⟩; have hb12 := hb1.trans (hb2.mono hb1.size); obtain ⟨q0, q1, q2⟩ := hwa.below hb12 (by simp) hb12.size))
  refine (against_any x ao n cap l bo n2 cap2 p _ HN.out (rd_below hr0 hb12) hm HN2.out (rd_below hp0 hb12) hm2).mono ?_
  rw [← HV.out]
  rintro e w3 ⟨rfl, hb3⟩
  go_wp2_with fail
  go_ret2
  exact ⟨by simp [hR.out], hB0.trans ((hb12.trans (hb3.mono hb12.size)).mono (by simp))⟩
end Go.Proofs.Ythhpeanlpikjbaa
