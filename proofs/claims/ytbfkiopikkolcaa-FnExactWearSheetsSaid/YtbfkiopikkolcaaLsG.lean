/-
  Walks: the letters that are known after some lessons.
-/
import Derived.Test.YtbfkiopikkolcaaLsF
import Derived.Test.YtbfkiopikkolcaaAsc
namespace Go.Proofs.Ytbfkiopikkolcaa
open Go.RowKit Go.ChangeShapes Go.WideShapes
set_option linter.unusedVariables false
attribute [local go_sem ↓] Go.wp_at_zero Go.wp_at_succ

def byteN (s : ByteArray) (c : Nat) : Nat := if h : c < s.size then s[c].toNat else 0
theorem byteN_get {s : ByteArray} {c : Nat} (h : c < s.size) : byteN s c = s[c].toNat := by unfold byteN; rw [dif_pos h]
def markRow (ms : List Bool) (s : ByteArray) : Nat → List Bool | 0 => ms | c + 1 => (markRow ms s c).set (byteN s c) true
theorem markRow_next {ms : List Bool} {s : ByteArray} {c : Nat} (h : c < s.size) : markRow ms s (c + 1) = (markRow ms s c).set s[c].toNat true := by rw [markRow, byteN_get h]
theorem markRow_len (ms : List Bool) (s : ByteArray) : ∀ c, (markRow ms s c).length = ms.length
  | 0 => rfl
  | c + 1 => by rw [markRow, List.length_set]; exact markRow_len ms s c
def ltAt (A : List LsD) (q : Int) : ByteArray := if h : q.toNat < A.length then A[q.toNat].2.1 else ⟨#[]⟩
theorem ltAt_get {l : List Ls} {q : Nat} (h : q < l.length) : ltAt (l.map Ls.d) (q : Int) = l[q].lt := by unfold ltAt; rw [dif_pos (by simpa using h)]; simp [Ls.d]
def knTo (A : List LsD) (S : List Int) : Nat → List Bool | 0 => List.replicate 256 false | k + 1 => markRow (knTo A S k) (ltAt A (S.getD k 0)) (ltAt A (S.getD k 0)).size
theorem knTo_len (A : List LsD) (S : List Int) : ∀ k, (knTo A S k).length = 256
  | 0 => List.length_replicate
  | k + 1 => by rw [knTo, markRow_len]; exact knTo_len A S k
theorem knTo_next {l : List Ls} {S : List Int} {k q : Nat} (hk : k < S.length) (hq : q < l.length) (h : S[k] = (q : Int)) : knTo (l.map Ls.d) S (k + 1) = markRow (knTo (l.map Ls.d) S k) l[q].lt l[q].lt.size := by
  rw [knTo, List.getD, List.getElem?_eq_getElem hk, Option.getD_some, h, ltAt_get hq]
def knV (A : List LsD) (S : List Int) : ByteArray := if tkC A S = 0 then ascB (knTo A S S.length) else ⟨#[]⟩
theorem knV_no {A : List LsD} {S : List Int} (h : ¬ tkC A S = 0) : knV A S = ⟨#[]⟩ := if_neg h
theorem knV_yes {A : List LsD} {S : List Int} (h : tkC A S = 0) : knV A S = ascB (knTo A S S.length) := if_pos h
theorem small_lt {l : List Ls} (hs : LsSmall l) {q : Nat} (h : q < l.length) : l[q].lt.size ≤ 1048576 := (hs.2 _ (List.getElem_mem h)).2.1

set_option maxRecDepth 100000 in
set_option maxHeartbeats 4000000 in
theorem sKnown_any (ao : Option Addr) (n cap : Nat) (l : List Ls) (so : Option Addr) (sn sc : Nat) (S : List Int) (w : World) (ha : LsArg w ao n cap l) (hs : LsSmall l) (hn2 : sn = S.length) (hr2 : Rd w so (i64s S)) (hm2 : sn ≤ 1048576) (h0 : tkC (l.map Ls.d) S = 0) :
    Calls Try.prog 52 #[.slice ao n cap, .slice so sn sc] w fun e w' => e = .returned (.string (ascB (knTo (l.map Ls.d) S S.length))) ∧ Below w.heap.size w w' := by
  obtain ⟨hn, _, hr, _⟩ := ha
  have hm : n ≤ 1048576 := by rw [hn]; exact hs.1
  have HN := hid hn
  have HN2 := hid hn2
  have hrd := rd_ls hr
  have hrd2 := rd_i64 hr2
  have htk := hid (fun k hk => tk_at h0 (k := k) hk)
  have hnx := hid (fun k q hk hq h => knTo_next (l := l) (S := S) (k := k) (q := q) hk hq h)
  have hsl := hid (fun q hq => small_lt hs (q := q) hq)
  have hkl := hid (fun k => knTo_len (l.map Ls.d) S k)
  clear hn hn2 hr hr2 hs h0
  have hemp := hid (asc_none)
  go_enter Try.func52, Try.ntmps52
  go_wp2
  go_loopw [5, 6, 7, 8] (fun s i _ _ wr => ∃ k : Nat, k ≤ sn ∧ i = .int .i64 k ∧ s = .string (ascB (knTo (l.map Ls.d) S k)) ∧ Below w.heap.size w wr) (fun _ i _ _ _ => sn - (intOf i).toNat)
  case atStart => exact ⟨0, Nat.zero_le _, rfl, by rw [knTo, hemp.out], Below.refl _ _⟩
  case round =>
    obtain ⟨k, hk, rfl, rfl, hB⟩ := hrel
    by_cases hlt : k < sn
    · rcases hrd2 with hnil | ⟨g2, o2, rfl, hl2, hcell2⟩
      · exact absurd (by rw [HN2.out, hnil]; rfl : sn = 0) (by omega)
      have hks : k < S.length := by rw [← HN2.out]; exact hlt
      obtain ⟨q, hq, hql⟩ := htk.out k hks
      rcases hrd with hnil | ⟨b, o, rfl, hl1, hcell⟩
      · rw [hnil] at hql; simp at hql
      have g2 := (hB.cell (p := ⟨g2, o2 + k, none⟩) hl2).trans (hcell2 k hks)
      have G1 := hid (hcell q hql).c1
      have h2 := (hB.cell (p := ⟨b, o + q * 4 + 1, none⟩) hl1).trans G1.out
      have hn1 := hid (hnx.out k q hks hql hq)
      have hls := hsl.out q hql
      rw [hq] at g2
      have hqn : q < n := by rw [HN.out]; exact hql
      clear hcell hcell2 hq hks
      obtain ⟨x, hx⟩ : ∃ x, x = l[q].lt := ⟨_, rfl⟩
      rw [← hx] at hn1 h2 hls G1
      have hM0 := hkl.out k
      obtain ⟨M, hM⟩ : ∃ M, M = knTo (l.map Ls.d) S k := ⟨_, rfl⟩
      rw [← hM] at hn1 hM0
      clear hql hx
      have hk0 : (0 : Int) ≤ (k : Int) := by omega
      have hkn : (k : Int) < (sn : Int) := by omega
      have hq0 : (0 : Int) ≤ (q : Int) := by omega
      have hqn2 : (q : Int) < (n : Int) := by omega
      have ew2 : IntKind.i64.wrap (q : Int) = (q : Int) := IntWalk.i64_in _ (by omega)
      rw [← hM]
      clear hM
      go_wp2_with fail
      go_loopw [5, 8] (fun s i wr2 => ∃ c : Nat, c ≤ x.size ∧ i = .int .i64 c ∧ s = .string (ascB (markRow M x c)) ∧ Below w.heap.size w wr2) (fun _ i _ => x.size - (intOf i).toNat)
      case atStart => exact ⟨0, Nat.zero_le _, rfl, rfl, hB⟩
      case round =>
        clear hB g2 h2
        obtain ⟨c, hc, rfl, rfl, hB⟩ := hrel
        by_cases hcl : c < x.size
        · have hc0 : (0 : Int) ≤ (c : Int) := by omega
          have hc1 : (0 : Int) ≤ (c : Int) + 1 := by omega
          have hcn : (c : Int) < (x.size : Int) := by omega
          have hcn1 : (c : Int) + 1 ≤ (x.size : Int) := by omega
          have hcc : (c : Int) ≤ (c : Int) + 1 := by omega
          have ew : IntKind.i64.wrap ((c : Int) + 1) = (c : Int) + 1 := IntWalk.i64_in _ (by omega)
          have htn : ((c : Int) + 1).toNat = c + 1 := by omega
          have hmn := hid (markRow_next (ms := M) hcl)
          have hml : (markRow M x c).length = 256 := by rw [markRow_len]; exact hM0
          have HML := hid hml
          clear hml
          obtain ⟨MC, hMC⟩ : ∃ MC, MC = markRow M x c := ⟨_, rfl⟩
          rw [← hMC] at hmn HML
          rw [← hMC]
          clear hMC
          go_wp2_with (go_at_call 69; refine (put_at _ x c hcl _ HML.out).mono ?_; rintro e w5 ⟨rfl, hb5⟩)
          go_roundw
          case rel => exact ⟨c + 1, by omega, by go_num, by rw [hmn.out], hB.trans (hb5.mono hB.size)⟩
          case measure => simp [intOf]; omega
        · obtain rfl : c = x.size := by omega
          go_wp2
          go_roundw
          case rel => exact ⟨k + 1, by omega, by go_num, by rw [hn1.out], hB⟩
          case measure => simp [intOf]; omega
    · obtain rfl : k = sn := by omega
      have hS := hid (show knTo (l.map Ls.d) S S.length = knTo (l.map Ls.d) S k by rw [← HN2.out])
      go_wp2
      go_ret
      exact ⟨by rw [hS.out]; rfl, hB⟩

/-- the result: a new row of marks -/
def MkRet (B : Nat) (w : World) (ms : List Bool) (e : Ending) (w' : World) : Prop := ∃ g, e = .returned (.pointer (some ⟨g, 0, none⟩)) ∧ HoldsM w' B g ms ∧ Below B w w'
set_option maxRecDepth 100000 in
set_option maxHeartbeats 4000000 in
theorem known_any (ao : Option Addr) (n cap : Nat) (l : List Ls) (so : Option Addr) (sn sc : Nat) (S : List Int) (w : World) (ha : LsArg w ao n cap l) (hs : LsSmall l) (hn2 : sn = S.length) (hr2 : Rd w so (i64s S)) (hm2 : sn ≤ 1048576) (h0 : tkC (l.map Ls.d) S = 0) :
    Calls Try.prog 54 #[.slice ao n cap, .slice so sn sc] w (MkRet w.heap.size w (knTo (l.map Ls.d) S S.length)) := by
  obtain ⟨hn, _, hr, _⟩ := ha
  have hm : n ≤ 1048576 := by rw [hn]; exact hs.1
  have HN := hid hn
  have HN2 := hid hn2
  have hrd := rd_ls hr
  have hrd2 := rd_i64 hr2
  have htk := hid (fun k hk => tk_at h0 (k := k) hk)
  have hnx := hid (fun k q hk hq h => knTo_next (l := l) (S := S) (k := k) (q := q) hk hq h)
  have hsl := hid (fun q hq => small_lt hs (q := q) hq)
  have hkl := hid (fun k => knTo_len (l.map Ls.d) S k)
  clear hn hn2 hr hr2 hs h0
  have hzv := zero256
  have hsv := store256
  have hzs := zb_size
  go_enter Try.func54, Try.ntmps54
  go_wp2_with fail
  clear hzv hsv hzs
  have hH0 := holds_new w w.heap.size (Nat.le_refl _)
  have hB0 : Below w.heap.size w (w.alloc (.cells zb256 77)) := (Below.refl _ _).alloc (Nat.le_refl _) _
  obtain ⟨w4, hw4⟩ : ∃ w4, w4 = w.alloc (.cells zb256 77) := ⟨_, rfl⟩
  rw [← hw4] at hH0 hB0 ⊢
  clear hw4
  go_loopw [7, 8, 13, 23] (fun _ _ i _ wr => ∃ k : Nat, k ≤ sn ∧ i = .int .i64 k ∧ HoldsM wr w.heap.size w.heap.size (knTo (l.map Ls.d) S k) ∧ Below w.heap.size w wr) (fun _ _ i _ _ => sn - (intOf i).toNat)
  case atStart => exact ⟨0, Nat.zero_le _, rfl, hH0, hB0⟩
  case round =>
    clear hH0 hB0
    obtain ⟨k, hk, rfl, hH, hB⟩ := hrel
    by_cases hlt : k < sn
    · rcases hrd2 with hnil | ⟨g2, o2, rfl, hl2, hcell2⟩
      · exact absurd (by rw [HN2.out, hnil]; rfl : sn = 0) (by omega)
      have hks : k < S.length := by rw [← HN2.out]; exact hlt
      obtain ⟨q, hq, hql⟩ := htk.out k hks
      rcases hrd with hnil | ⟨b, o, rfl, hl1, hcell⟩
      · rw [hnil] at hql; simp at hql
      have g2 := (hB.cell (p := ⟨g2, o2 + k, none⟩) hl2).trans (hcell2 k hks)
      have G1 := hid (hcell q hql).c1
      have h2 := (hB.cell (p := ⟨b, o + q * 4 + 1, none⟩) hl1).trans G1.out
      have hn1 := hid (hnx.out k q hks hql hq)
      have hls := hsl.out q hql
      rw [hq] at g2
      have hqn : q < n := by rw [HN.out]; exact hql
      clear hcell hcell2 hq hks
      obtain ⟨x, hx⟩ : ∃ x, x = l[q].lt := ⟨_, rfl⟩
      rw [← hx] at hn1 h2 hls G1
      have hM0 := hkl.out k
      obtain ⟨M, hM⟩ : ∃ M, M = knTo (l.map Ls.d) S k := ⟨_, rfl⟩
      rw [← hM] at hn1 hM0
      clear hql hx
      have hk0 : (0 : Int) ≤ (k : Int) := by omega
      have hkn : (k : Int) < (sn : Int) := by omega
      have hq0 : (0 : Int) ≤ (q : Int) := by omega
      have hqn2 : (q : Int) < (n : Int) := by omega
      have ew2 : IntKind.i64.wrap (q : Int) = (q : Int) := IntWalk.i64_in _ (by omega)
      rw [← hM] at hH
      clear hM
      go_wp2_with fail
      go_loopw [8, 23] (fun _ i wr2 => ∃ c : Nat, c ≤ x.size ∧ i = .int .i64 c ∧ HoldsM wr2 w.heap.size w.heap.size (markRow M x c) ∧ Below w.heap.size w wr2) (fun _ i _ => x.size - (intOf i).toNat)
      case atStart => exact ⟨0, Nat.zero_le _, rfl, hH, hB⟩
      case round =>
        clear hB g2 h2 hH
        obtain ⟨c, hc, rfl, hH, hB⟩ := hrel
        have h2 := (hB.cell (p := ⟨b, o + q * 4 + 1, none⟩) hl1).trans G1.out
        by_cases hcl : c < x.size
        · have hc0 : (0 : Int) ≤ (c : Int) := by omega
          have hcn : (c : Int) < (x.size : Int) := by omega
          have hb256 : x[c].toNat < 256 := UInt8.toNat_lt _
          have hi0 : (0 : Int) ≤ ((x[c].toNat : Nat) : Int) := by omega
          have hi1 : ((x[c].toNat : Nat) : Int) < 256 := by omega
          have hcm := hH.cell hb256
          have hfz := hH.frozen x[c].toNat
          have hmn := hid (markRow_next (ms := M) hcl)
          go_wp2_with fail
          go_region
          go_wp2
          go_roundw
          case rel => exact ⟨c + 1, by omega, by go_num, by rw [hmn.out]; exact hH.store _ _, (hB.setCell (by simp) _).drew⟩
          case measure => simp [intOf]; omega
        · obtain rfl : c = x.size := by omega
          go_wp2
          go_roundw
          case rel => exact ⟨k + 1, by omega, by go_num, by rw [hn1.out]; exact hH, hB⟩
          case measure => simp [intOf]; omega
    · obtain rfl : k = sn := by omega
      have hS := hid (show knTo (l.map Ls.d) S S.length = knTo (l.map Ls.d) S k by rw [← HN2.out])
      go_wp2
      go_ret
      exact ⟨w.heap.size, rfl, by rw [hS.out]; exact hH, hB⟩
set_option maxHeartbeats 2000000 in
theorem sKnownAf_any (ao : Option Addr) (n cap : Nat) (l : List Ls) (so : Option Addr) (sn sc : Nat) (S : List Int) (w : World) (ha : LsArg w ao n cap l) (hs : LsSmall l) (hn2 : sn = S.length) (hr2 : Rd w so (i64s S)) (hm2 : sn ≤ 1048576) :
    Calls Try.prog 24 #[.slice ao n cap, .slice so sn sc] w fun e w' => e = .returned (.tuple #[.string (knV (l.map Ls.d) S), .int .i64 (tkC (l.map Ls.d) S)]) ∧ Below w.heap.size w w' := by
  have HN2 := hid hn2
  clear hn2
  obtain ⟨v, hv⟩ : ∃ v, v = tkC (l.map Ls.d) S := ⟨_, rfl⟩
  have HV := hid hv
  obtain ⟨L, hL⟩ : ∃ L, L = knV (l.map Ls.d) S := ⟨_, rfl⟩
  have HL := hid hL
  rw [← hv, ← hL]
  clear hv hL
  go_enter Try.func24, Try.ntmps24
  go_wp2_with fail
  refine (sTk_any ao n cap l so sn sc S _ ha hs HN2.out hr2 hm2).mono ?_
  rw [← HV.out]
  rintro e w1 ⟨rfl, hb1⟩
  by_cases h0 : v = 0
  · have H0 : tkC (l.map Ls.d) S = 0 := HV.out.symm.trans h0
    have hR := hid (HL.out.trans (knV_yes H0))
    subst h0
    go_wp2_with fail
    refine (sKnown_any ao n cap l so sn sc S _ (ha.below hb1) hs HN2.out (rd_below hr2 hb1) hm2 H0).mono ?_
    rw [← hR.out]
    rintro e w2 ⟨rfl, hb2⟩
    go_wp2_with fail
    go_ret2
    exact ⟨rfl, hb1.trans (hb2.mono hb1.size)⟩
  · have hR := HL.out.trans (knV_no (show ¬ tkC (l.map Ls.d) S = 0 by rw [← HV.out]; exact h0))
    subst hR
    have e1 : (v != 0) = true := neI_true h0
    clear h0
    go_wp2_with fail
    go_ret2
    exact ⟨rfl, hb1⟩
set_option maxHeartbeats 2000000 in
theorem knownAf_any (ao : Option Addr) (n cap : Nat) (l : List Ls) (so : Option Addr) (sn sc : Nat) (S : List Int) (w : World) (ha : LsArg w ao n cap l) (hs : LsSmall l) (hn2 : sn = S.length) (hr2 : Rd w so (i64s S)) (hm2 : sn ≤ 1048576) :
    Calls Try.prog 25 #[.slice ao n cap, .slice so sn sc] w fun e w' => e = .returned (.tuple #[.string (knV (l.map Ls.d) S), .int .i64 (tkC (l.map Ls.d) S)]) ∧ Below w.heap.size w w' := by
  have HN2 := hid hn2
  clear hn2
  obtain ⟨v, hv⟩ : ∃ v, v = tkC (l.map Ls.d) S := ⟨_, rfl⟩
  have HV := hid hv
  obtain ⟨L, hL⟩ : ∃ L, L = knV (l.map Ls.d) S := ⟨_, rfl⟩
  have HL := hid hL
  rw [← hv, ← hL]
  clear hv hL
  go_enter Try.func25, Try.ntmps25
  go_wp2_with fail
  refine (tk_any ao n cap l so sn sc S _ ha hs HN2.out hr2 hm2).mono ?_
  rw [← HV.out]
  rintro e w1 ⟨rfl, hb1⟩
  by_cases h0 : v = 0
  · have H0 : tkC (l.map Ls.d) S = 0 := HV.out.symm.trans h0
    have hR := hid (HL.out.trans (knV_yes H0))
    subst h0
    go_wp2_with fail
    refine (known_any ao n cap l so sn sc S _ (ha.below hb1) hs HN2.out (rd_below hr2 hb1) hm2 H0).mono ?_
    rintro e w2 ⟨g, rfl, hH, hb2⟩
    have hB2 := hb1.trans (hb2.mono hb1.size)
    go_wp2_with fail
    refine (asc_any _ _ _ _ hH).mono ?_
    rw [← hR.out]
    rintro e w3 ⟨rfl, hb3⟩
    go_wp2_with fail
    go_ret2
    exact ⟨rfl, hB2.trans (hb3.mono hB2.size)⟩
  · have hR := HL.out.trans (knV_no (show ¬ tkC (l.map Ls.d) S = 0 by rw [← HV.out]; exact h0))
    subst hR
    have e1 : (v != 0) = true := neI_true h0
    clear h0
    go_wp2_with fail
    go_ret2
    exact ⟨rfl, hb1⟩
end Go.Proofs.Ytbfkiopikkolcaa
