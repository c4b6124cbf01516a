/-
  Walks: the code of two layouts of one shape with the same letters.
-/
import Derived.Test.YtaaffcffelkcdaaLayD
namespace Go.Proofs.Ytaaffcffelkcdaa
open Go.RowKit Go.ChangeShapes Go.WideShapes
set_option linter.unusedVariables false
attribute [local go_sem ↓] Go.wp_at_zero Go.wp_at_succ

def missC (ra rb : List ByteArray) (r c : Nat) : Bool := if h : c < (rowAt ra r).size then (spotOf rb (rowAt ra r)[c]).isNone else false
theorem missC_get {ra rb : List ByteArray} {r c : Nat} (h : c < (rowAt ra r).size) : missC ra rb r c = (spotOf rb (rowAt ra r)[c]).isNone := by unfold missC; rw [dif_pos h]
def badP (ra rb : List ByteArray) (r : Nat) : Bool := !(decide ((rowAt ra r).size = (rowAt rb r).size)) || (firstAt (missC ra rb r) (rowAt ra r).size).isSome
theorem badP_size {ra rb : List ByteArray} {r : Nat} (h : ¬ (rowAt ra r).size = (rowAt rb r).size) : badP ra rb r = true := by unfold badP; rw [decide_eq_false h]; rfl
theorem badP_hit {ra rb : List ByteArray} {r c : Nat} (hc : c < (rowAt ra r).size) (hN : NoneUpTo (missC ra rb r) c) (h : missC ra rb r c = true) : badP ra rb r = true := by
  unfold badP; rw [first_hit hN h hc]; simp
theorem badP_ok {ra rb : List ByteArray} {r : Nat} (h : (rowAt ra r).size = (rowAt rb r).size) (hN : NoneUpTo (missC ra rb r) (rowAt ra r).size) : badP ra rb r = false := by
  unfold badP; rw [decide_eq_true h, first_none hN]; rfl
def bothC (ra rb : List ByteArray) : Int := if (layOk ra && layOk rb) = true then (if ra.length = rb.length then (if (firstAt (badP ra rb) ra.length).isNone = true then 0 else 9) else 9) else 1
theorem both_bad {ra rb : List ByteArray} (h : (layOk ra && layOk rb) = false) : bothC ra rb = 1 := by unfold bothC; rw [h]; rfl
theorem both_len {ra rb : List ByteArray} (h : layOk ra = true) (h2 : layOk rb = true) (h3 : ¬ ra.length = rb.length) : bothC ra rb = 9 := by unfold bothC; rw [h, h2, if_pos (show (true && true) = true from rfl), if_neg h3]
theorem both_row {ra rb : List ByteArray} {r : Nat} (h : layOk ra = true) (h2 : layOk rb = true) (h3 : ra.length = rb.length) (hr : r < ra.length) (hN : NoneUpTo (badP ra rb) r) (hb : badP ra rb r = true) : bothC ra rb = 9 := by
  unfold bothC; rw [h, h2, if_pos (show (true && true) = true from rfl), if_pos h3, first_hit hN hb hr]; rfl
theorem both_all {ra rb : List ByteArray} (h : layOk ra = true) (h2 : layOk rb = true) (h3 : ra.length = rb.length) (hN : NoneUpTo (badP ra rb) ra.length) : bothC ra rb = 0 := by
  unfold bothC; rw [h, h2, if_pos (show (true && true) = true from rfl), if_pos h3, first_none hN]; rfl
theorem both_zero {ra rb : List ByteArray} (h : bothC ra rb = 0) : layOk ra = true ∧ layOk rb = true ∧ ra.length = rb.length ∧ ∀ r, r < ra.length → (rowAt ra r).size = (rowAt rb r).size ∧ ∀ c (hc : c < (rowAt ra r).size), ∃ rc, spotOf rb (rowAt ra r)[c] = some rc := by
  cases h1 : layOk ra
  · rw [both_bad (by rw [h1]; rfl)] at h; cases h
  cases h2 : layOk rb
  · rw [both_bad (by rw [h1, h2]; rfl)] at h; cases h
  by_cases h3 : ra.length = rb.length
  · refine ⟨rfl, rfl, h3, fun r hr => ?_⟩
    have hno : firstAt (badP ra rb) ra.length = none := by
      cases h4 : firstAt (badP ra rb) ra.length with
      | none => rfl
      | some q => simp [bothC, h1, h2, h3] at h; rw [← h3, h4] at h; cases h
    have hb := first_isNone hno r hr
    unfold badP at hb
    simp only [Bool.or_eq_false_iff, Bool.not_eq_false', decide_eq_true_eq] at hb
    refine ⟨hb.1, fun c hc => ?_⟩
    have hM := first_isNone (show firstAt (missC ra rb r) (rowAt ra r).size = none by simpa using hb.2)
    have := hM c hc
    rw [missC_get hc] at this
    cases hs : spotOf rb (rowAt ra r)[c] with
    | none => rw [hs] at this; cases this
    | some rc => exact ⟨rc, rfl⟩
  · rw [both_len h1 h2 h3] at h; cases h

/-- the cells of a row of texts, by the rows' own names -/
theorem rows_cell {w : World} {g o : Nat} {rows : List ByteArray} (h : ∀ j (hj : j < rows.length), w.cell? ⟨g, o + j, none⟩ = some (.string rows[j])) {k : Nat} (hk : k < rows.length) : w.cell? ⟨g, o + k, none⟩ = some (.string (rowAt rows k)) := by
  rw [rowAt_get hk]; exact h k hk
theorem rows_size {rows : List ByteArray} (hs : ∀ x ∈ rows, x.size ≤ maxLen) {k : Nat} (hk : k < rows.length) : (rowAt rows k).size ≤ maxLen := by
  rw [rowAt_get hk]; exact hs _ (List.getElem_mem hk)

set_option maxRecDepth 100000 in
set_option maxHeartbeats 8000000 in
theorem sBoth_any (pa pb : Nat) (ao : Option Addr) (n cap : Nat) (ra : List ByteArray) (bo : Option Addr) (n2 cap2 : Nat) (rb : List ByteArray) (w : World) (hwa : LyAt w pa 0 ao n cap) (hwb : LyAt w pb 0 bo n2 cap2)
    (hn : n = ra.length) (hr : Rd w ao (strs ra)) (hs : ∀ x ∈ ra, x.size ≤ maxLen) (hm : n ≤ 1048576) (hn2 : n2 = rb.length) (hr2 : Rd w bo (strs rb)) (hs2 : ∀ x ∈ rb, x.size ≤ maxLen) (hm2 : n2 ≤ 1048576) :
    Calls Try.prog 43 #[.pointer (some ⟨pa, 0, none⟩), .pointer (some ⟨pb, 0, none⟩)] w fun e w' => e = .returned (.int .i64 (bothC ra rb)) ∧ Below w.heap.size w w' := by
  have HN := hid hn
  have HN2 := hid hn2
  clear hn hn2
  cases h1 : layOk ra
  · have hR := hid (both_bad (ra := ra) (rb := rb) (by rw [h1]; rfl))
    go_enter Try.func43, Try.ntmps43
    go_wp2_with (go_at_call 36; refine (sLay_any _ _ ao n cap ra _ hwa HN.out hr hs hm).mono ?_; rw [h1]; rintro e w1 ⟨rfl, hb1⟩)
    go_ret
    exact ⟨ret_int hR.out.symm, hb1⟩
  cases h2 : layOk rb
  · have hR := hid (both_bad (ra := ra) (rb := rb) (by rw [h1, h2]; rfl))
    go_enter Try.func43, Try.ntmps43
    go_wp2_with fail
    refine (sLay_any _ _ ao n cap ra _ hwa HN.out hr hs hm).mono ?_
    rw [h1]
    rintro e w1 ⟨rfl, hb1⟩
    go_wp2_with fail
    refine (sLay_any _ _ bo n2 cap2 rb _ (hwb.below hb1 hwb.lt hb1.size) HN2.out (rd_below hr2 hb1) hs2 hm2).mono ?_
    rw [h2]
    rintro e w2 ⟨rfl, hb2⟩
    go_wp2_with fail
    go_ret
    exact ⟨ret_int hR.out.symm, hb1.trans (hb2.mono hb1.size)⟩
  have hlen := hid (fun h3 => both_len h1 h2 h3)
  have hrowb := hid (fun h3 r hr hN hb => both_row (r := r) h1 h2 h3 hr hN hb)
  have hall := hid (fun h3 hN => both_all h1 h2 h3 hN)
  go_enter Try.func43, Try.ntmps43
  go_wp2_with fail
  refine (sLay_any _ _ ao n cap ra _ hwa HN.out hr hs hm).mono ?_
  rw [h1]
  rintro e w1 ⟨rfl, hb1⟩
  go_wp2_with fail
  refine (sLay_any _ _ bo n2 cap2 rb _ (hwb.below hb1 hwb.lt hb1.size) HN2.out (rd_below hr2 hb1) hs2 hm2).mono ?_
  rw [h2]
  rintro e w2 ⟨rfl, hb2⟩
  have hb12 := hb1.trans (hb2.mono hb1.size)
  have hz12 := hb12.size
  obtain ⟨hla, a0⟩ := hwa.below hb12 hwa.lt hz12
  obtain ⟨hlb, b0⟩ := hwb.below hb12 hwb.lt hz12
  have hra2 := rd_below hr hb12
  have hrb2 := rd_below hr2 hb12
  clear hb1 hb2 hwa hwb hr hr2
  by_cases hnn : n = n2
  case neg =>
    have hR := hid (hlen.out (by rw [← HN.out, ← HN2.out]; exact hnn))
    have e1 : ((n : Int) != (n2 : Int)) = true := neI_true (by omega)
    have HNN := hid hnn
    clear hnn
    go_wp2_with fail
    go_quiet (fail)
    go_wp2
    go_ret
    exact ⟨ret_int hR.out.symm, below_drewN hb12 _⟩
  subst hnn
  have H3 := hid (show ra.length = rb.length by rw [← HN.out, ← HN2.out])
  have e1 : ((n : Int) != (n : Int)) = false := neI_false rfl
  go_wp2_with fail
  go_quiet (fail)
  go_wp2_with fail
  obtain ⟨w3, hw3⟩ : ∃ w3, w3 = w2.drewN nq := ⟨_, rfl⟩
  rw [← hw3]
  have hb3 : Below w2.heap.size w2 w3 := by rw [hw3]; exact below_drewN (Below.refl _ _) _
  clear hw3
  have hb13 := hb12.trans (hb3.mono hz12)
  have hz13 := hb13.size
  have hz23 := hb3.size
  have a3 := (hb3.cell (p := ⟨pa, 0, none⟩) hla).trans a0
  have b3 := (hb3.cell (p := ⟨pb, 0, none⟩) hlb).trans b0
  have hra3 := rd_below hra2 hb3
  have hrb3 := rd_below hrb2 hb3
  have hla3 := Nat.lt_of_lt_of_le hla hz23
  have hlb3 := Nat.lt_of_lt_of_le hlb hz23
  clear a0 b0 hra2 hrb2 hla hlb hb3 hz23 hz12 hb12
  have hrda := rd_str hra3
  have hrdb := rd_str hrb3
  have A3 := hid a3
  have B3 := hid b3
  go_loopw [5] (fun i wr => ∃ k : Nat, k ≤ n ∧ i = .int .i64 k ∧ NoneUpTo (badP ra rb) k ∧ Below w3.heap.size w3 wr) (fun i _ => n - (intOf i).toNat)
  case atStart => exact ⟨0, Nat.zero_le _, rfl, none_zero _, Below.refl _ _⟩
  case round =>
    obtain ⟨k, hk, rfl, hN, hB⟩ := hrel
    clear a3 b3
    have hz := hB.size
    have qa := (hB.cell (p := ⟨pa, 0, none⟩) hla3).trans A3.out
    have qb := (hB.cell (p := ⟨pb, 0, none⟩) hlb3).trans B3.out
    by_cases hlt : k < n
    · rcases hrda with hnil | ⟨g, o, rfl, hbl, hcell⟩
      · exact absurd (by rw [HN.out, hnil]; rfl : n = 0) (by omega)
      rcases hrdb with hnil | ⟨g2, o2, rfl, hbl2, hcell2⟩
      · exact absurd (by rw [HN2.out, hnil]; rfl : n = 0) (by omega)
      have hka : k < ra.length := by rw [← HN.out]; exact hlt
      have hkb : k < rb.length := by rw [← HN2.out]; exact hlt
      have GA := hid (rows_cell hcell hka)
      have GB := hid (rows_cell hcell2 hkb)
      have hsa := rows_size hs hka
      have hsb := rows_size hs2 hkb
      have g1 := (hB.cell (p := ⟨g, o + k, none⟩) hbl).trans GA.out
      have g2c := (hB.cell (p := ⟨g2, o2 + k, none⟩) hbl2).trans GB.out
      have hk0 : (0 : Int) ≤ (k : Int) := by omega
      have hkn : (k : Int) < (n : Int) := by omega
      have hbad := hid (fun h => hrowb.out H3.out k hka hN h)
      have hbsz := hid (fun h => badP_size (ra := ra) (rb := rb) (r := k) h)
      have hbhit := hid (fun c (hc : c < (rowAt ra k).size) hM h => badP_hit (ra := ra) (rb := rb) (r := k) hc hM h)
      have hbok := hid (fun h hM => badP_ok (ra := ra) (rb := rb) (r := k) h hM)
      have hmget := hid (fun c (hc : c < (rowAt ra k).size) => missC_get (ra := ra) (rb := rb) (r := k) hc)
      obtain ⟨x, hx⟩ : ∃ x, x = rowAt ra k := ⟨_, rfl⟩
      obtain ⟨y, hy⟩ : ∃ y, y = rowAt rb k := ⟨_, rfl⟩
      rw [← hx] at g1 hsa hbsz hbhit hbok hmget GA
      rw [← hy] at g2c hsb hbsz hbok GB
      clear hx hy hcell hcell2
      have hsa' := hsa
      unfold maxLen at hsa' hsb
      by_cases hxy : x.size = y.size
      case neg =>
        have hb := hid (hbad.out (hbsz.out hxy))
        have e2 : ((x.size : Int) != (y.size : Int)) = true := neI_true (by omega)
        have HXY := hid hxy
        clear hxy
        go_wp2_with fail
        go_quiet (fail)
        go_wp2
        go_ret
        exact ⟨ret_int hb.out.symm, hb13.trans ((below_drewN hB _).mono hz13)⟩
      have e2 : ((x.size : Int) != (y.size : Int)) = false := neI_false (by omega)
      have HXY := hid hxy
      clear hxy
      go_wp2_with fail
      go_quiet (fail)
      go_wp2_with fail
      obtain ⟨w4, hw4⟩ : ∃ w4, w4 = wr.drewN nq := ⟨_, rfl⟩
      rw [← hw4]
      have hB4 : Below w3.heap.size w3 w4 := by rw [hw4]; exact below_drewN hB _
      clear hw4 e2
      go_loopw [6, 7, 8] (fun i _ _ wr2 => ∃ c : Nat, c ≤ x.size ∧ i = .int .i64 c ∧ NoneUpTo (missC ra rb k) c ∧ Below w3.heap.size w3 wr2) (fun i _ _ _ => x.size - (intOf i).toNat)
      case atStart => exact ⟨0, Nat.zero_le _, rfl, none_zero _, hB4⟩
      case round =>
        clear hB hz qa qb g1 g2c hB4
        obtain ⟨c, hc, rfl, hM, hB⟩ := hrel
        have hz := hB.size
        have qa := (hB.cell (p := ⟨pa, 0, none⟩) hla3).trans A3.out
        have qb := (hB.cell (p := ⟨pb, 0, none⟩) hlb3).trans B3.out
        have g1 := (hB.cell (p := ⟨g, o + k, none⟩) hbl).trans GA.out
        have hrw := rd_below hrb3 hB
        by_cases hcl : c < x.size
        · have hc0 : (0 : Int) ≤ (c : Int) := by omega
          have hcn : (c : Int) < (x.size : Int) := by omega
          have hmg := hid (hmget.out c hcl)
          cases hsp : spotOf rb x[c] with
          | none =>
            have hb := hid (hbad.out (hbhit.out c hcl hM (by rw [hmg.out, hsp]; rfl)))
            have HSP := hid hsp
            clear hsp
            go_wp2_with fail
            go_quiet ((go_at_call 38; exact qs (sAt_none _ n cap2 rb x[c] _ HN2.out (rd_drewN hrw _) hs2 hm HSP.out)))
            go_wp2
            go_ret
            exact ⟨ret_int hb.out.symm, hb13.trans ((below_drewN hB _).mono hz13)⟩
          | some rc =>
            obtain ⟨r, c2⟩ := rc
            have hnx := hid (none_next hM (show missC ra rb k c = false by rw [hmg.out, hsp]; rfl))
            have HSP := hid hsp
            clear hsp
            have hr00 : (0 : Int) ≤ (r : Int) := by omega
            go_wp2_with fail
            go_quiet ((go_at_call 38; exact qs (sAt_some _ n cap2 rb x[c] _ HN2.out (rd_drewN hrw _) hs2 hm HSP.out)))
            go_wp2
            go_roundw
            case rel => exact ⟨c + 1, by omega, by go_num, hnx.out, below_drewN hB _⟩
            case measure => simp [intOf]; omega
        · obtain rfl : c = x.size := by omega
          have hgood := hid (none_next hN (hbok.out HXY.out hM))
          go_wp2
          go_roundw
          case rel => exact ⟨k + 1, by omega, by go_num, hgood.out, hB⟩
          case measure => simp [intOf]; omega
    · obtain rfl : k = n := by omega
      have ha := hid (hall.out H3.out (by rw [← HN.out]; exact hN))
      go_wp2
      go_ret
      exact ⟨ret_int ha.out.symm, hb13.trans (hB.mono hz13)⟩

set_option maxRecDepth 100000 in
set_option maxHeartbeats 8000000 in
theorem both_any (ao : Option Addr) (n cap : Nat) (ra : List ByteArray) (bo : Option Addr) (n2 cap2 : Nat) (rb : List ByteArray) (w : World)
    (hn : n = ra.length) (hr : Rd w ao (strs ra)) (hs : ∀ x ∈ ra, x.size ≤ maxLen) (hm : n ≤ 1048576) (hn2 : n2 = rb.length) (hr2 : Rd w bo (strs rb)) (hs2 : ∀ x ∈ rb, x.size ≤ maxLen) (hm2 : n2 ≤ 1048576) :
    Calls Try.prog 45 #[.agg #[.slice ao n cap], .agg #[.slice bo n2 cap2]] w fun e w' => e = .returned (.int .i64 (bothC ra rb)) ∧ Below w.heap.size w w' := by
  have HN := hid hn
  have HN2 := hid hn2
  clear hn hn2
  have hlen := hid (fun h1 h2 h3 => both_len (ra := ra) (rb := rb) h1 h2 h3)
  have hrowb := hid (fun h1 h2 h3 r hr hN hb => both_row (ra := ra) (rb := rb) (r := r) h1 h2 h3 hr hN hb)
  have hall := hid (fun h1 h2 h3 hN => both_all (ra := ra) (rb := rb) h1 h2 h3 hN)
  go_enter Try.func45, Try.ntmps45
  go_wp2_with fail
  obtain ⟨w1, hw1⟩ : ∃ w1, w1 = (w.alloc (.cells #[.slice ao n cap] 28)).alloc (.cells #[.slice bo n2 cap2] 28) := ⟨_, rfl⟩
  have hb1 : Below w.heap.size w w1 := by
    rw [hw1]
    (repeat (first | with_reducible exact Below.refl _ _ | with_reducible assumption | refine Below.drew ?_ | refine below_drewN ?_ _ | (refine Below.alloc ?_ (by first | omega | (simp; done) | (simp; omega)) _) | (refine Below.setCell ?_ (by first | omega | (simp; done) | (simp; omega)) _) | (refine Below.trans ?_ (Below.mono (by assumption) (by first | omega | (simp; done) | (simp; omega))))))
  have a1 : w1.cell? ⟨w.heap.size, 0, none⟩ = some (.slice ao n cap) := by rw [hw1]; simp
  have b1 : w1.cell? ⟨w.heap.size + 1, 0, none⟩ = some (.slice bo n2 cap2) := by rw [hw1]; simp
  have hl1 : w.heap.size + 1 < w1.heap.size := by rw [hw1]; simp
  rw [← hw1]
  clear hw1
  have hl0 : w.heap.size < w1.heap.size := by omega
  refine (lay_any ao n cap ra _ HN.out (rd_below hr hb1) hs hm).mono ?_
  rintro e w2 ⟨rfl, hb2⟩
  have hB2 := hb1.trans (hb2.mono hb1.size)
  have a2 := (hb2.cell (p := ⟨w.heap.size, 0, none⟩) hl0).trans a1
  have b2 := (hb2.cell (p := ⟨w.heap.size + 1, 0, none⟩) hl1).trans b1
  have hl2 := Nat.lt_of_lt_of_le hl1 hb2.size
  clear a1 b1 hl1
  cases h1 : layOk ra
  · have hR := hid (both_bad (ra := ra) (rb := rb) (by rw [h1]; rfl))
    go_wp2_with fail
    go_ret
    exact ⟨ret_int hR.out.symm, hB2⟩
  go_wp2_with fail
  refine (lay_any bo n2 cap2 rb _ HN2.out (rd_below hr2 hB2) hs2 hm2).mono ?_
  rintro e w3 ⟨rfl, hb3⟩
  have hB3 := hB2.trans (hb3.mono hB2.size)
  have hz3 := hB3.size
  have hl2' : w.heap.size < w2.heap.size := by omega
  have a3 := (hb3.cell (p := ⟨w.heap.size, 0, none⟩) hl2').trans a2
  have b3 := (hb3.cell (p := ⟨w.heap.size + 1, 0, none⟩) hl2).trans b2
  have hl3 := Nat.lt_of_lt_of_le hl2 hb3.size
  clear a2 b2 hb1 hb2 hb3
  cases h2 : layOk rb
  · have hR := hid (both_bad (ra := ra) (rb := rb) (by rw [h1, h2]; rfl))
    go_wp2_with fail
    go_ret
    exact ⟨ret_int hR.out.symm, hB3⟩
  have hra3 := rd_below hr hB3
  have hrb3 := rd_below hr2 hB3
  clear hr hr2
  by_cases hnn : n = n2
  case neg =>
    have hR := hid (hlen.out h1 h2 (by rw [← HN.out, ← HN2.out]; exact hnn))
    have e1 : ((n : Int) != (n2 : Int)) = true := neI_true (by omega)
    have HNN := hid hnn
    clear hnn
    go_wp2_with fail
    go_ret
    exact ⟨ret_int hR.out.symm, hB3⟩
  subst hnn
  have H3 := hid (show ra.length = rb.length by rw [← HN.out, ← HN2.out])
  have e1 : ((n : Int) != (n : Int)) = false := neI_false rfl
  have H1 := hid h1
  have H2 := hid h2
  clear h1 h2
  have hrda := rd_str hra3
  have hrdb := rd_str hrb3
  go_wp2_with fail
  have B3 := hid b3
  go_loopw [5, 6, 7, 8, 9, 10, 29] (fun _ _ _ _ _ _ i wr => ∃ k : Nat, k ≤ n ∧ i = .int .i64 k ∧ NoneUpTo (badP ra rb) k ∧ Below w3.heap.size w3 wr) (fun _ _ _ _ _ _ i _ => n - (intOf i).toNat)
  case atStart => exact ⟨0, Nat.zero_le _, rfl, none_zero _, Below.refl _ _⟩
  case round =>
    obtain ⟨k, hk, rfl, hN, hB⟩ := hrel
    clear a3 b3
    have hz := hB.size
    have qb := (hB.cell (p := ⟨w.heap.size + 1, 0, none⟩) hl3).trans B3.out
    by_cases hlt : k < n
    · rcases hrda with hnil | ⟨g, o, rfl, hbl, hcell⟩
      · exact absurd (by rw [HN.out, hnil]; rfl : n = 0) (by omega)
      rcases hrdb with hnil | ⟨g2, o2, rfl, hbl2, hcell2⟩
      · exact absurd (by rw [HN2.out, hnil]; rfl : n = 0) (by omega)
      have hka : k < ra.length := by rw [← HN.out]; exact hlt
      have hkb : k < rb.length := by rw [← HN2.out]; exact hlt
      have GA := hid (rows_cell hcell hka)
      have GB := hid (rows_cell hcell2 hkb)
      have hsa := rows_size hs hka
      have hsb := rows_size hs2 hkb
      have g1 := (hB.cell (p := ⟨g, o + k, none⟩) hbl).trans GA.out
      have g2c := (hB.cell (p := ⟨g2, o2 + k, none⟩) hbl2).trans GB.out
      have hk0 : (0 : Int) ≤ (k : Int) := by omega
      have hkn : (k : Int) < (n : Int) := by omega
      have hbad := hid (fun h => hrowb.out H1.out H2.out H3.out k hka hN h)
      have hbsz := hid (fun h => badP_size (ra := ra) (rb := rb) (r := k) h)
      have hbhit := hid (fun c (hc : c < (rowAt ra k).size) hM h => badP_hit (ra := ra) (rb := rb) (r := k) hc hM h)
      have hbok := hid (fun h hM => badP_ok (ra := ra) (rb := rb) (r := k) h hM)
      have hmget := hid (fun c (hc : c < (rowAt ra k).size) => missC_get (ra := ra) (rb := rb) (r := k) hc)
      obtain ⟨x, hx⟩ : ∃ x, x = rowAt ra k := ⟨_, rfl⟩
      obtain ⟨y, hy⟩ : ∃ y, y = rowAt rb k := ⟨_, rfl⟩
      rw [← hx] at g1 hsa hbsz hbhit hbok hmget GA
      rw [← hy] at g2c hsb hbsz hbok GB
      clear hx hy hcell hcell2
      have hsa' := hsa
      unfold maxLen at hsa' hsb
      by_cases hxy : x.size = y.size
      case neg =>
        have hb := hid (hbad.out (hbsz.out hxy))
        have e2 : ((x.size : Int) != (y.size : Int)) = true := neI_true (by omega)
        have HXY := hid hxy
        clear hxy
        go_wp2_with fail
        go_ret
        exact ⟨ret_int hb.out.symm, hB3.trans (hB.mono hz3)⟩
      have e2 : ((x.size : Int) != (y.size : Int)) = false := neI_false (by omega)
      have HXY := hid hxy
      clear hxy
      go_wp2_with fail
      clear e2
      go_loopw [7, 8, 9, 10, 45] (fun _ _ _ _ i wr2 => ∃ c : Nat, c ≤ x.size ∧ i = .int .i64 c ∧ NoneUpTo (missC ra rb k) c ∧ Below w3.heap.size w3 wr2) (fun _ _ _ _ i _ => x.size - (intOf i).toNat)
      case atStart => exact ⟨0, Nat.zero_le _, rfl, none_zero _, hB⟩
      case round =>
        clear hB hz qb g1 g2c
        obtain ⟨c, hc, rfl, hM, hB⟩ := hrel
        have hz := hB.size
        have qb := (hB.cell (p := ⟨w.heap.size + 1, 0, none⟩) hl3).trans B3.out
        have hbw : w.heap.size + 1 < wr.heap.size := by omega
        have hrw := rd_below hrb3 hB
        by_cases hcl : c < x.size
        · have hc0 : (0 : Int) ≤ (c : Int) := by omega
          have hcn : (c : Int) < (x.size : Int) := by omega
          have hmg := hid (hmget.out c hcl)
          cases hsp : spotOf rb x[c] with
          | none =>
            have hb := hid (hbad.out (hbhit.out c hcl hM (by rw [hmg.out, hsp]; rfl)))
            have HSP := hid hsp
            clear hsp
            go_wp2_with fail
            refine wp_region_over (by kernel_rfl) (by kernel_rfl) (fun hov => ?_)
            repeat (go_big_quiet_step (((go_at_call 42; exact overCall (spot_no _ n cap2 rb x[c] _ HN2.out (rd_over hrw) hs2 hm HSP.out)))))
            refine wpQuiet_nil ?_
            intro w5 hb5
            clear hov
            obtain ⟨hc5, hf5, hz5⟩ := bcell hb5
            go_wp2
            go_ret
            exact ⟨ret_int hb.out.symm, hB3.trans ((hB.trans (hb5.mono hz)).mono hz3)⟩
          | some rc =>
            obtain ⟨r, c2⟩ := rc
            have hnx := hid (none_next hM (show missC ra rb k c = false by rw [hmg.out, hsp]; rfl))
            have HSP := hid hsp
            clear hsp
            go_wp2_with fail
            refine wp_region_over (by kernel_rfl) (by kernel_rfl) (fun hov => ?_)
            repeat (go_big_quiet_step (((go_at_call 42; exact overCall (spot_yes _ n cap2 rb x[c] _ HN2.out (rd_over hrw) hs2 hm HSP.out)))))
            refine wpQuiet_nil ?_
            intro w5 hb5
            clear hov
            obtain ⟨hc5, hf5, hz5⟩ := bcell hb5
            go_wp2
            go_roundw
            case rel => exact ⟨c + 1, by omega, by go_num, hnx.out, hB.trans (hb5.mono hz)⟩
            case measure => simp [intOf]; omega
        · obtain rfl : c = x.size := by omega
          have hgood := hid (none_next hN (hbok.out HXY.out hM))
          go_wp2
          go_roundw
          case rel => exact ⟨k + 1, by omega, by go_num, hgood.out, hB⟩
          case measure => simp [intOf]; omega
    · obtain rfl : k = n := by omega
      have ha := hid (hall.out H1.out H2.out H3.out (by rw [← HN.out]; exact hN))
      go_wp2
      go_ret
      exact ⟨ret_int ha.out.symm, hB3.trans (hB.mono hz3)⟩
end Go.Proofs.Ytaaffcffelkcdaa
