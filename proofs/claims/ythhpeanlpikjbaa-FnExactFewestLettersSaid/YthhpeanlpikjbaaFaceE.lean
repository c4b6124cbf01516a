/-
  Walks: the kind of a letter of a machine; its code; and the laws' helpers over one machine.
-/
import Derived.Test.YthhpeanlpikjbaaFaceD
namespace Go.Proofs.Ythhpeanlpikjbaa
open Go.RowKit Go.ChangeShapes Go.WideShapes
set_option linter.unusedVariables false
attribute [local go_sem ↓] Go.wp_at_zero Go.wp_at_succ

def sameAt (l : List Se) (s : ByteArray) (k : Nat) : Bool := if h : k < l.length then l[k].1.toList == s.toList else false
def kindAt (l : List Se) (k : Nat) : Int := if h : k < l.length then l[k].2 else 0
theorem sameAt_get {l : List Se} {s : ByteArray} {k : Nat} (h : k < l.length) : sameAt l s k = (l[k].1.toList == s.toList) := by unfold sameAt; rw [dif_pos h]
theorem kindAt_get {l : List Se} {k : Nat} (h : k < l.length) : kindAt l k = l[k].2 := by unfold kindAt; rw [dif_pos h]
def kindI (l : List Se) (s : ByteArray) : Int := match firstAt (sameAt l s) l.length with | some k => kindAt l k | none => 0
theorem kind_hit {l : List Se} {s : ByteArray} {k : Nat} (h : k < l.length) (hN : NoneUpTo (sameAt l s) k) (he : sameAt l s k = true) : kindI l s = l[k].2 := by
  unfold kindI; rw [first_hit hN he h]; exact kindAt_get h
theorem kind_none {l : List Se} {s : ByteArray} (hN : NoneUpTo (sameAt l s) l.length) : kindI l s = 0 := by
  unfold kindI; rw [first_none hN]

set_option maxHeartbeats 4000000 in
theorem sOf_any (pb po : Nat) (x : ByteArray) (ao : Option Addr) (n cap : Nat) (l : List Se) (s : ByteArray) (w : World) (hw : WrAt w pb po x ao n cap) (hn : n = l.length) (hr : Rd w ao (ses l)) (hm : n ≤ 1048576) :
    Calls Try.prog 60 #[.pointer (some ⟨pb, po, none⟩), .string s] w fun e w' => e = .returned (.int .i64 (kindI l s)) ∧ w = w' := by
  have HN := hid hn
  have hrd := rd_se hr
  obtain ⟨hpl, p0, p1⟩ := hw
  clear hn hr
  go_enter Try.func60, Try.ntmps60
  go_wp2_with fail
  go_loop [5] (fun i => ∃ k : Nat, k ≤ n ∧ i = .int .i64 k ∧ NoneUpTo (sameAt l s) k) (fun i => n - (intOf i).toNat)
  case atStart => exact ⟨0, Nat.zero_le _, rfl, none_zero _⟩
  case round =>
    obtain ⟨k, hk, rfl, hN⟩ := hrel
    by_cases hlt : k < n
    · rcases hrd with hnil | ⟨b, o, rfl, hbl, hcell⟩
      · exact absurd (by rw [HN.out, hnil]; rfl : n = 0) (by omega)
      have hkl : k < l.length := by rw [← HN.out]; exact hlt
      obtain ⟨g1, g2⟩ := hcell k hkl
      clear hcell
      have hk0 : (0 : Int) ≤ (k : Int) := by omega
      have hkn : (k : Int) < (n : Int) := by omega
      have hsg := hid (sameAt_get (s := s) hkl)
      have hhit := hid (fun h => kind_hit hkl hN h)
      obtain ⟨z, hz⟩ : ∃ z, z = l[k] := ⟨_, rfl⟩
      rw [← hz] at g1 g2 hsg hhit
      clear hz
      cases he : (z.1.toList == s.toList)
      · go_wp2
        go_round
        case rel => exact ⟨k + 1, by omega, by go_num, none_next hN (by rw [hsg.out, he])⟩
        case measure => simp [intOf]; omega
      · go_wp2
        go_ret
        exact ⟨ret_int (hhit.out (by rw [hsg.out, he])).symm, rfl⟩
    · obtain rfl : k = n := by omega
      have ha := hid (kind_none (l := l) (s := s) (by rw [← HN.out]; exact hN))
      go_wp2
      go_ret
      exact ⟨ret_int ha.out.symm, rfl⟩

set_option maxHeartbeats 4000000 in
theorem kindW_any (x : ByteArray) (ao : Option Addr) (n cap : Nat) (l : List Se) (s : ByteArray) (w : World) (hn : n = l.length) (hr : Rd w ao (ses l)) (hm : n ≤ 1048576) :
    Calls Try.prog 62 #[.agg #[.string x, .slice ao n cap], .string s] w fun e w' => e = .returned (.int .i64 (kindI l s)) ∧ Below w.heap.size w w' := by
  have HN := hid hn
  have hrd := rd_se hr
  clear hn hr
  go_enter Try.func62, Try.ntmps62
  go_wp2_with fail
  go_loopw [6, 10] (fun _ i wr => ∃ k : Nat, k ≤ n ∧ i = .int .i64 k ∧ NoneUpTo (sameAt l s) k ∧ Below w.heap.size w wr) (fun _ i _ => n - (intOf i).toNat)
  case atStart => exact ⟨0, Nat.zero_le _, rfl, none_zero _, by (repeat (first | with_reducible exact Below.refl _ _ | with_reducible assumption | refine Below.drew ?_ | refine below_drewN ?_ _ | (refine Below.alloc ?_ (by first | omega | (simp; done) | (simp; omega)) _) | (refine Below.setCell ?_ (by first | omega | (simp; done) | (simp; omega)) _) | (refine Below.trans ?_ (Below.mono (by assumption) (by first | omega | (simp; done) | (simp; omega))))))⟩
  case round =>
    obtain ⟨k, hk, rfl, hN, hB⟩ := hrel
    have hz := hB.size
    by_cases hlt : k < n
    · rcases hrd with hnil | ⟨b, o, rfl, hbl, hcell⟩
      · exact absurd (by rw [HN.out, hnil]; rfl : n = 0) (by omega)
      have hkl : k < l.length := by rw [← HN.out]; exact hlt
      obtain ⟨h1, h2⟩ := hcell k hkl
      have g1 := (hB.cell (p := ⟨b, o + k * 2, none⟩) hbl).trans h1
      have g2 := (hB.cell (p := ⟨b, o + k * 2 + 1, none⟩) hbl).trans h2
      clear hcell h1 h2
      have hk0 : (0 : Int) ≤ (k : Int) := by omega
      have hkn : (k : Int) < (n : Int) := by omega
      have hsg := hid (sameAt_get (s := s) hkl)
      have hhit := hid (fun h => kind_hit hkl hN h)
      obtain ⟨z, hz⟩ : ∃ z, z = l[k] := ⟨_, rfl⟩
      rw [← hz] at g1 g2 hsg hhit
      clear hz
      cases he : (z.1.toList == s.toList)
      · go_wp2
        go_roundw
        case rel => exact ⟨k + 1, by omega, by go_num, none_next hN (by rw [hsg.out, he]), by (repeat (first | with_reducible exact Below.refl _ _ | with_reducible assumption | refine Below.drew ?_ | refine below_drewN ?_ _ | (refine Below.alloc ?_ (by first | omega | (simp; done) | (simp; omega)) _) | (refine Below.setCell ?_ (by first | omega | (simp; done) | (simp; omega)) _) | (refine Below.trans ?_ (Below.mono (by assumption) (by first | omega | (simp; done) | (simp; omega))))))⟩
        case measure => simp [intOf]; omega
      · go_wp2
        go_ret
        exact ⟨ret_int (hhit.out (by rw [hsg.out, he])).symm, by (repeat (first | with_reducible exact Below.refl _ _ | with_reducible assumption | refine Below.drew ?_ | refine below_drewN ?_ _ | (refine Below.alloc ?_ (by first | omega | (simp; done) | (simp; omega)) _) | (refine Below.setCell ?_ (by first | omega | (simp; done) | (simp; omega)) _) | (refine Below.trans ?_ (Below.mono (by assumption) (by first | omega | (simp; done) | (simp; omega))))))⟩
    · obtain rfl : k = n := by omega
      have ha := hid (kind_none (l := l) (s := s) (by rw [← HN.out]; exact hN))
      go_wp2
      go_ret
      exact ⟨ret_int ha.out.symm, hB⟩

def kindR (x : ByteArray) (l : List Se) (s : ByteArray) : Int × Int := if oneB x l = true then (if letB s = true then (kindI l s, 0) else (0, 2)) else (0, 1)
theorem kindR_bad {x : ByteArray} {l : List Se} {s : ByteArray} (h : oneB x l = false) : kindR x l s = (0, 1) := by simp [kindR, h]
theorem kindR_let {x : ByteArray} {l : List Se} {s : ByteArray} (h : oneB x l = true) (h2 : letB s = false) : kindR x l s = (0, 2) := by simp [kindR, h, h2]
theorem kindR_ok {x : ByteArray} {l : List Se} {s : ByteArray} (h : oneB x l = true) (h2 : letB s = true) : kindR x l s = (kindI l s, 0) := by simp [kindR, h, h2]

theorem wrAt_new (w : World) (x : ByteArray) (ao : Option Addr) (n cap : Nat) (t : TypeId) : WrAt (w.alloc (.cells #[.string x, .slice ao n cap] t)) w.heap.size 0 x ao n cap :=
  ⟨by simp, by simp, by simp⟩
set_option maxHeartbeats 4000000 in
theorem sKindOf_any (x : ByteArray) (ao : Option Addr) (n cap : Nat) (l : List Se) (s : ByteArray) (w : World) (hx : x.size ≤ maxLen) (hs2 : s.size ≤ maxLen) (hn : n = l.length) (hr : Rd w ao (ses l)) (hs : seSmall l) (hm : n ≤ 1048576) :
    Calls Try.prog 23 #[.agg #[.string x, .slice ao n cap], .string s] w fun e w' => e = .returned (.tuple #[.int .i64 (kindR x l s).1, .int .i64 (kindR x l s).2]) ∧ Below w.heap.size w w' := by
  have HN := hid hn
  clear hn
  have hB0 : Below w.heap.size w (w.alloc (.cells #[.string x, .slice ao n cap] 44)) := (Below.refl _ _).alloc (Nat.le_refl _) _
  have hr0 := rd_below hr hB0
  cases h1 : oneB x l
  · have hR := hid (kindR_bad (s := s) h1)
    go_enter Try.func23, Try.ntmps23
    go_wp2_with (go_at_call 58; refine (sOne_any _ _ x ao n cap l _ (wrAt_new _ _ _ _ _ _) hx HN.out hr0 hs hm).mono ?_; rw [h1]; rintro e w1 ⟨rfl, hb1⟩)
    go_ret2
    exact ⟨by simp [hR.out], hB0.trans (hb1.mono (by simp))⟩
  cases h2 : letB s
  · have hR := hid (kindR_let h1 h2)
    go_enter Try.func23, Try.ntmps23
    go_wp2_with (first | (go_at_call 58; refine (sOne_any _ _ x ao n cap l _ (wrAt_new _ _ _ _ _ _) hx HN.out hr0 hs hm).mono ?_; rw [h1]; rintro e w1 ⟨rfl, hb1⟩) | (go_at_call 59; refine (sLet_b _ _ hs2 h2).mono ?_; rintro e w' ⟨rfl, rfl⟩))
    go_ret2
    exact ⟨by simp [hR.out], hB0.trans (hb1.mono (by simp))⟩
  · have hR := hid (kindR_ok h1 h2)
    obtain ⟨v, hv⟩ : ∃ v, v = kindI l s := ⟨_, rfl⟩
    rw [← hv] at hR
    have HV := hid hv
    clear hv
    go_enter Try.func23, Try.ntmps23
    go_wp2_with (first | (go_at_call 58; refine (sOne_any _ _ x ao n cap l _ (wrAt_new _ _ _ _ _ _) hx HN.out hr0 hs hm).mono ?_; rw [h1]; rintro e w1 ⟨rfl, hb1⟩) | (go_at_call 59; refine (sLet_b _ _ hs2 h2).mono ?_; rintro e w' ⟨rfl, rfl⟩))
    refine (sOf_any _ _ x ao n cap l s _ ((wrAt_new _ _ _ _ _ _).below hb1 (by simp) hb1.size) HN.out (rd_below hr0 hb1) hm).mono ?_
    rw [← HV.out]
    rintro e w2 ⟨rfl, rfl⟩
    go_wp2_with fail
    go_ret2
    exact ⟨by simp [hR.out], hB0.trans (hb1.mono (by simp))⟩
set_option maxHeartbeats 4000000 in
theorem kindOf_any (x : ByteArray) (ao : Option Addr) (n cap : Nat) (l : List Se) (s : ByteArray) (w : World) (hx : x.size ≤ maxLen) (hs2 : s.size ≤ maxLen) (hn : n = l.length) (hr : Rd w ao (ses l)) (hs : seSmall l) (hm : n ≤ 1048576) :
    Calls Try.prog 25 #[.agg #[.string x, .slice ao n cap], .string s] w fun e w' => e = .returned (.tuple #[.int .i64 (kindR x l s).1, .int .i64 (kindR x l s).2]) ∧ Below w.heap.size w w' := by
  have HN := hid hn
  clear hn
  have hB0 : Below w.heap.size w (w.alloc (.cells #[.string x, .slice ao n cap] 44)) := (Below.refl _ _).alloc (Nat.le_refl _) _
  have hr0 := rd_below hr hB0
  have hwa := wrAt_new w x ao n cap 44
  cases h1 : oneB x l
  · have hR := hid (kindR_bad (s := s) h1)
    go_enter Try.func25, Try.ntmps25
    go_wp2_with (go_at_call 56; refine (one_any x ao n cap l _ hx HN.out hr0 hs hm).mono ?_; rw [h1]; rintro e w1 ⟨rfl, hb1⟩)
    go_ret2
    exact ⟨by simp [hR.out], hB0.trans (hb1.mono (by simp))⟩
  cases h2 : letB s
  · have hR := hid (kindR_let h1 h2)
    go_enter Try.func25, Try.ntmps25
    go_wp2_with (first | (go_at_call 56; refine (one_any x ao n cap l _ hx HN.out hr0 hs hm).mono ?_; rw [h1]; rintro e w1 ⟨rfl, hb1⟩) | (go_at_call 52; refine (isLet_b _ _ hs2 h2).mono ?_; rintro e w' ⟨rfl, rfl⟩))
    go_ret2
    exact ⟨by simp [hR.out], hB0.trans (hb1.mono (by simp))⟩
  · have hR := hid (kindR_ok h1 h2)
    obtain ⟨v, hv⟩ : ∃ v, v = kindI l s := ⟨_, rfl⟩
    rw [← hv] at hR
    have HV := hid hv
    clear hv
    go_enter Try.func25, Try.ntmps25
    go_wp2_with (first | (go_at_call 56; refine (one_any x ao n cap l _ hx HN.out hr0 hs hm).mono ?_; rw [h1]; rintro e w1 ⟨rfl, hb1⟩; obtain ⟨q0, q1, q2⟩ := hwa.below hb1 (by simp) hb1.size) | (go_at_call 52; refine (isLet_b _ _ hs2 h2).mono ?_; rintro e w' ⟨rfl, rfl⟩))
    refine (kindW_any x ao n cap l s _ HN.out (rd_below hr0 hb1) hm).mono ?_
    rw [← HV.out]
    rintro e w2 ⟨rfl, hb2⟩
    go_wp2_with fail
    go_ret2
    exact ⟨by simp [hR.out], hB0.trans ((hb1.mono (by simp)).trans (hb2.mono (by have := hb1.size; simp at this; omega)))⟩
end Go.Proofs.Ythhpeanlpikjbaa
