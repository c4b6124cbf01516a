/-
  Walks: which letters have moved between two layouts.
-/
import Derived.Test.YtaaffcffelkcdaaMvMath
namespace Go.Proofs.Ytaaffcffelkcdaa
open Go.RowKit Go.ChangeShapes Go.WideShapes
set_option linter.unusedVariables false
attribute [local go_sem ↓] Go.wp_at_zero Go.wp_at_succ

theorem put_at (ms : List Bool) (x : ByteArray) (c : Nat) (hc : c < x.size) (w : World) (hl : ms.length = 256) :
    Calls Try.prog 47 #[.string (ascB ms), .string (x.extract c (c + 1))] w fun e w' => e = .returned (.string (ascB (ms.set x[c].toNat true))) ∧ Below w.heap.size w w' := by
  obtain ⟨h, e⟩ := one_at hc
  have := put_any ms (x.extract c (c + 1)) w hl h
  rw [e] at this
  exact this

set_option maxRecDepth 100000 in
set_option maxHeartbeats 8000000 in
theorem mvd_any (ao : Option Addr) (n cap : Nat) (ra : List ByteArray) (bo : Option Addr) (n2 cap2 : Nat) (rb : List ByteArray) (w : World)
    (hn : n = ra.length) (hr : Rd w ao (strs ra)) (hs : ∀ x ∈ ra, x.size ≤ maxLen) (hm : n ≤ 1048576) (hn2 : n2 = rb.length) (hr2 : Rd w bo (strs rb)) (hs2 : ∀ x ∈ rb, x.size ≤ maxLen) (hm2 : n2 ≤ 1048576) :
    Calls Try.prog 18 #[.agg #[.slice ao n cap], .agg #[.slice bo n2 cap2]] w fun e w' => e = .returned (.tuple #[.string (mvV ra rb), .int .i64 (bothC ra rb)]) ∧ Below w.heap.size w w' := by
  have HN := hid hn
  have HN2 := hid hn2
  clear hn hn2
  go_enter Try.func18, Try.ntmps18
  go_wp2_with fail
  obtain ⟨w1, hw1⟩ : ∃ w1, w1 = (w.alloc (.cells #[.slice ao n cap] 28)).alloc (.cells #[.slice bo n2 cap2] 28) := ⟨_, rfl⟩
  have hb1 : Below w.heap.size w w1 := by
    rw [hw1]
    (repeat (first | with_reducible exact Below.refl _ _ | with_reducible assumption | refine Below.drew ?_ | refine below_drewN ?_ _ | (refine Below.alloc ?_ (by first | omega | (simp; done) | (simp; omega)) _) | (refine Below.setCell ?_ (by first | omega | (simp; done) | (simp; omega)) _) | (refine Below.trans ?_ (Below.mono (by assumption) (by first | omega | (simp; done) | (simp; omega))))))
  have a1 : w1.cell? ⟨w.heap.size, 0, none⟩ = some (.slice ao n cap) := by rw [hw1]; simp
  have b1 : w1.cell? ⟨w.heap.size + 1, 0, none⟩ = some (.slice bo n2 cap2) := by rw [hw1]; simp
  have hl1 : w.heap.size + 1 < w1.heap.size := by rw [hw1]; simp
  rw [← hw1]
  clear hw1
  have hl0 : w.heap.size < w1.heap.size := by omega
  refine (both_any ao n cap ra bo n2 cap2 rb _ HN.out (rd_below hr hb1) hs hm HN2.out (rd_below hr2 hb1) hs2 hm2).mono ?_
  rintro e w3 ⟨rfl, hb2⟩
  have hB3 := hb1.trans (hb2.mono hb1.size)
  have a3 := (hb2.cell (p := ⟨w.heap.size, 0, none⟩) hl0).trans a1
  have b3 := (hb2.cell (p := ⟨w.heap.size + 1, 0, none⟩) hl1).trans b1
  have hl3 := Nat.lt_of_lt_of_le hl1 hb2.size
  have hl30 : w.heap.size < w3.heap.size := by omega
  have hra3 := rd_below hr hB3
  have hrb3 := rd_below hr2 hB3
  clear a1 b1 hl1 hl0 hb1 hb2 hr hr2
  by_cases h0 : bothC ra rb = 0
  case neg =>
    have hR := hid (mvV_no h0)
    obtain ⟨v, hv⟩ : ∃ v, v = bothC ra rb := ⟨_, rfl⟩
    rw [← hv] at h0
    rw [← hv]
    have HV := hid hv
    clear hv
    have e1 : (v != 0) = true := neI_true h0
    have H0 := hid h0
    clear h0
    go_wp2_with fail
    go_ret2
    exact ⟨by simp [hR.out, HV.out.symm], hB3⟩
  rw [h0]
  have hR := hid (mvV_yes h0)
  have hz3 := hB3.size
  have hstep := hid (fun r (hr : r < ra.length) => mv_all (rb := rb) (both_zero h0).1 hr)
  have hsizes := hid (fun r (hr : r < ra.length) => ((both_zero h0).2.2.2 r hr).1)
  have H3 := hid (both_zero h0).2.2.1
  have H0 := hid h0
  clear h0
  have hrda := rd_str hra3
  have hrdb := rd_str hrb3
  have hzv := zero256
  have hsv := store256
  have hzs := zb_size
  go_wp2_with fail
  clear hzv hsv hzs
  have hH0 := holds_new w3 w3.heap.size (Nat.le_refl _)
  have hB0 : Below w3.heap.size w3 (w3.alloc (.cells zb256 62)) := (Below.refl _ _).alloc (Nat.le_refl _) _
  obtain ⟨w4, hw4⟩ : ∃ w4, w4 = w3.alloc (.cells zb256 62) := ⟨_, rfl⟩
  rw [← hw4] at hH0 hB0 ⊢
  clear hw4
  have B3 := hid b3
  go_loopw [8, 9, 10, 21] (fun _ _ _ i wr => ∃ k : Nat, k ≤ n ∧ i = .int .i64 k ∧ HoldsM wr w3.heap.size w3.heap.size (mvTo ra rb k) ∧ Below w3.heap.size w3 wr) (fun _ _ _ i _ => n - (intOf i).toNat)
  case atStart => exact ⟨0, Nat.zero_le _, rfl, hH0, hB0⟩
  case round =>
    clear hH0 hB0
    obtain ⟨k, hk, rfl, hH, hB⟩ := hrel
    clear a3 b3
    have hz := hB.size
    by_cases hlt : k < n
    · rcases hrda with hnil | ⟨g, o, rfl, hbl, hcell⟩
      · exact absurd (by rw [HN.out, hnil]; rfl : n = 0) (by omega)
      have hka : k < ra.length := by rw [← HN.out]; exact hlt
      have hkb : k < rb.length := by rw [← H3.out]; exact hka
      have hkn2 : k < n2 := by rw [HN2.out]; exact hkb
      rcases hrdb with hnil | ⟨g2, o2, rfl, hbl2, hcell2⟩
      · exact absurd (by rw [HN2.out, hnil]; rfl : n2 = 0) (by omega)
      have GA := hid (rows_cell hcell hka)
      have GB := hid (rows_cell hcell2 hkb)
      have hsa := rows_size hs hka
      have hsz := hsizes.out k hka
      have g1 := (hB.cell (p := ⟨g, o + k, none⟩) hbl).trans GA.out
      have hk0 : (0 : Int) ≤ (k : Int) := by omega
      have hkn : (k : Int) < (n : Int) := by omega
      have hknb : (k : Int) < (n2 : Int) := by omega
      have hst := hid (hstep.out k hka)
      obtain ⟨x, hx⟩ : ∃ x, x = rowAt ra k := ⟨_, rfl⟩
      obtain ⟨y, hy⟩ : ∃ y, y = rowAt rb k := ⟨_, rfl⟩
      obtain ⟨f, hf⟩ : ∃ f, f = mvRow ra rb k (mvTo ra rb k) := ⟨_, rfl⟩
      rw [← hf, ← hx, ← hy] at hst
      rw [← hx] at g1 hsa GA
      rw [← hx, ← hy] at hsz
      rw [← hy] at GB
      clear hx hy hf hcell hcell2
      obtain ⟨hf0, hf1, hflen, hyes, hno⟩ := hst.out
      rw [← hf0] at hH
      have HF1 := hid hf1
      have HY := hid hyes
      have HNo := hid hno
      have hsa' := hsa
      unfold maxLen at hsa'
      clear hst hf0 hf1 hflen hyes hno
      go_wp2_with fail
      go_loopw [10, 28] (fun _ i wr2 => ∃ c : Nat, c ≤ x.size ∧ i = .int .i64 c ∧ HoldsM wr2 w3.heap.size w3.heap.size (f c) ∧ Below w3.heap.size w3 wr2) (fun _ i _ => x.size - (intOf i).toNat)
      case atStart => exact ⟨0, Nat.zero_le _, rfl, hH, hB⟩
      case round =>
        clear hB hz g1 hH
        obtain ⟨c, hc, rfl, hH, hB⟩ := hrel
        have hz := hB.size
        have qb := (hB.cell (p := ⟨w.heap.size + 1, 0, none⟩) hl3).trans B3.out
        have g2c := (hB.cell (p := ⟨g2, o2 + k, none⟩) hbl2).trans GB.out
        by_cases hcl : c < x.size
        · have hc0 : (0 : Int) ≤ (c : Int) := by omega
          have hcn : (c : Int) < (x.size : Int) := by omega
          have hcl2 : c < y.size := by omega
          have hcn2 : (c : Int) < (y.size : Int) := by omega
          have hb256 : x[c].toNat < 256 := UInt8.toNat_lt _
          have hi0 : (0 : Int) ≤ ((x[c].toNat : Nat) : Int) := by omega
          have hi1 : ((x[c].toNat : Nat) : Int) < 256 := by omega
          have hcm := hH.cell hb256
          have hfz := hH.frozen x[c].toNat
          by_cases heq : (y[c].toNat : Int) = (x[c].toNat : Int)
          · have hfn := hid (HNo.out c hcl hcl2 heq).1
            have e1 := neI_false heq
            clear heq
            go_wp2_with fail
            go_region
            go_wp2
            go_roundw
            case rel => exact ⟨c + 1, by omega, by go_num, by rw [hfn.out]; exact hH.store _ _, (hB.setCell (by simp) _).drew⟩
            case measure => simp [intOf]; omega
          · have hfn := hid (HY.out c hcl hcl2 heq)
            have e1 := neI_true heq
            clear heq
            go_wp2_with fail
            go_region
            go_wp2
            go_roundw
            case rel => exact ⟨c + 1, by omega, by go_num, by rw [hfn.out]; exact hH.store _ _, (hB.setCell (by simp) _).drew⟩
            case measure => simp [intOf]; omega
        · obtain rfl : c = x.size := by omega
          go_wp2
          go_roundw
          case rel => exact ⟨k + 1, by omega, by go_num, by rw [HF1.out]; exact hH, hB⟩
          case measure => simp [intOf]; omega
    · obtain rfl : k = n := by omega
      have hR2 := hid (hR.out.trans (by rw [← HN.out]))
      go_wp2_with (go_at_call 48; refine (asc_any _ _ _ _ hH).mono ?_; rintro e w5 ⟨rfl, hb5⟩)
      go_ret2
      exact ⟨by simp [hR2.out, H0.out], hB3.trans ((hB.trans (hb5.mono hz)).mono hz3)⟩

set_option maxRecDepth 100000 in
set_option maxHeartbeats 8000000 in
theorem sMvd_any (ao : Option Addr) (n cap : Nat) (ra : List ByteArray) (bo : Option Addr) (n2 cap2 : Nat) (rb : List ByteArray) (w : World)
    (hn : n = ra.length) (hr : Rd w ao (strs ra)) (hs : ∀ x ∈ ra, x.size ≤ maxLen) (hm : n ≤ 1048576) (hn2 : n2 = rb.length) (hr2 : Rd w bo (strs rb)) (hs2 : ∀ x ∈ rb, x.size ≤ maxLen) (hm2 : n2 ≤ 1048576) :
    Calls Try.prog 17 #[.agg #[.slice ao n cap], .agg #[.slice bo n2 cap2]] w fun e w' => e = .returned (.tuple #[.string (mvV ra rb), .int .i64 (bothC ra rb)]) ∧ Below w.heap.size w w' := by
  have HN := hid hn
  have HN2 := hid hn2
  clear hn hn2
  go_enter Try.func17, Try.ntmps17
  go_wp2_with fail
  obtain ⟨w1, hw1⟩ : ∃ w1, w1 = (w.alloc (.cells #[.slice ao n cap] 28)).alloc (.cells #[.slice bo n2 cap2] 28) := ⟨_, rfl⟩
  have hb1 : Below w.heap.size w w1 := by
    rw [hw1]
    (repeat (first | with_reducible exact Below.refl _ _ | with_reducible assumption | refine Below.drew ?_ | refine below_drewN ?_ _ | (refine Below.alloc ?_ (by first | omega | (simp; done) | (simp; omega)) _) | (refine Below.setCell ?_ (by first | omega | (simp; done) | (simp; omega)) _) | (refine Below.trans ?_ (Below.mono (by assumption) (by first | omega | (simp; done) | (simp; omega))))))
  have a1 : w1.cell? ⟨w.heap.size, 0, none⟩ = some (.slice ao n cap) := by rw [hw1]; simp
  have b1 : w1.cell? ⟨w.heap.size + 1, 0, none⟩ = some (.slice bo n2 cap2) := by rw [hw1]; simp
  have hl1 : w.heap.size + 1 < w1.heap.size := by rw [hw1]; simp
  rw [← hw1]
  clear hw1
  have hl0 : w.heap.size < w1.heap.size := by omega
  refine (sBoth_any _ _ ao n cap ra bo n2 cap2 rb _ ⟨hl0, a1⟩ ⟨hl1, b1⟩ HN.out (rd_below hr hb1) hs hm HN2.out (rd_below hr2 hb1) hs2 hm2).mono ?_
  rintro e w3 ⟨rfl, hb2⟩
  have hB3 := hb1.trans (hb2.mono hb1.size)
  have a3 := (hb2.cell (p := ⟨w.heap.size, 0, none⟩) hl0).trans a1
  have b3 := (hb2.cell (p := ⟨w.heap.size + 1, 0, none⟩) hl1).trans b1
  have hl3 := Nat.lt_of_lt_of_le hl1 hb2.size
  have hl30 : w.heap.size < w3.heap.size := by omega
  have hra3 := rd_below hr hB3
  have hrb3 := rd_below hr2 hB3
  clear a1 b1 hl1 hl0 hb1 hb2 hr hr2
  by_cases h0 : bothC ra rb = 0
  case neg =>
    have hR := hid (mvV_no h0)
    obtain ⟨v, hv⟩ : ∃ v, v = bothC ra rb := ⟨_, rfl⟩
    rw [← hv] at h0
    rw [← hv]
    have HV := hid hv
    clear hv
    have e1 : (v != 0) = true := neI_true h0
    have H0 := hid h0
    clear h0
    go_wp2_with fail
    go_ret2
    exact ⟨by simp [hR.out, HV.out.symm], hB3⟩
  rw [h0]
  have hR := hid (mvV_yes h0)
  have hz3 := hB3.size
  have hstep := hid (fun r (hr : r < ra.length) => mv_all (rb := rb) (both_zero h0).1 hr)
  have hsizes := hid (fun r (hr : r < ra.length) => ((both_zero h0).2.2.2 r hr).1)
  have H3 := hid (both_zero h0).2.2.1
  have H0 := hid h0
  clear h0
  have hrda := rd_str hra3
  have hrdb := rd_str hrb3
  go_wp2_with fail
  have A3 := hid a3
  have B3 := hid b3
  go_loopw [7, 8, 9] (fun s i _ wr => ∃ k : Nat, k ≤ n ∧ i = .int .i64 k ∧ s = .string (ascB (mvTo ra rb k)) ∧ Below w3.heap.size w3 wr) (fun _ i _ _ => n - (intOf i).toNat)
  case atStart => exact ⟨0, Nat.zero_le _, rfl, congrArg Value.string asc_none.symm, Below.refl _ _⟩
  case round =>
    obtain ⟨k, hk, rfl, rfl, hB⟩ := hrel
    clear a3 b3
    have hz := hB.size
    have qa := (hB.cell (p := ⟨w.heap.size, 0, none⟩) hl30).trans A3.out
    by_cases hlt : k < n
    · rcases hrda with hnil | ⟨g, o, rfl, hbl, hcell⟩
      · exact absurd (by rw [HN.out, hnil]; rfl : n = 0) (by omega)
      have hka : k < ra.length := by rw [← HN.out]; exact hlt
      have hkb : k < rb.length := by rw [← H3.out]; exact hka
      have hkn2 : k < n2 := by rw [HN2.out]; exact hkb
      rcases hrdb with hnil | ⟨g2, o2, rfl, hbl2, hcell2⟩
      · exact absurd (by rw [HN2.out, hnil]; rfl : n2 = 0) (by omega)
      have GA := hid (rows_cell hcell hka)
      have GB := hid (rows_cell hcell2 hkb)
      have hsa := rows_size hs hka
      have hsz := hsizes.out k hka
      have hk0 : (0 : Int) ≤ (k : Int) := by omega
      have hkn : (k : Int) < (n : Int) := by omega
      have hknb : (k : Int) < (n2 : Int) := by omega
      have hst := hid (hstep.out k hka)
      obtain ⟨x, hx⟩ : ∃ x, x = rowAt ra k := ⟨_, rfl⟩
      obtain ⟨y, hy⟩ : ∃ y, y = rowAt rb k := ⟨_, rfl⟩
      obtain ⟨f, hf⟩ : ∃ f, f = mvRow ra rb k (mvTo ra rb k) := ⟨_, rfl⟩
      rw [← hf, ← hx, ← hy] at hst
      rw [← hx] at hsa GA
      rw [← hx, ← hy] at hsz
      rw [← hy] at GB
      clear hx hy hf hcell hcell2
      obtain ⟨hf0, hf1, hflen, hyes, hno⟩ := hst.out
      rw [← hf0]
      have HF1 := hid hf1
      have HY := hid hyes
      have HNo := hid hno
      have HL := hid hflen
      have hsa' := hsa
      unfold maxLen at hsa'
      clear hst hf0 hf1 hflen hyes hno
      go_wp2_with fail
      go_loopw [7, 9] (fun s i wr2 => ∃ c : Nat, c ≤ x.size ∧ i = .int .i64 c ∧ s = .string (ascB (f c)) ∧ Below w3.heap.size w3 wr2) (fun _ i _ => x.size - (intOf i).toNat)
      case atStart => exact ⟨0, Nat.zero_le _, rfl, rfl, hB⟩
      case round =>
        clear hB hz qa
        obtain ⟨c, hc, rfl, rfl, hB⟩ := hrel
        have hz := hB.size
        have qa := (hB.cell (p := ⟨w.heap.size, 0, none⟩) hl30).trans A3.out
        have qb := (hB.cell (p := ⟨w.heap.size + 1, 0, none⟩) hl3).trans B3.out
        have g1 := (hB.cell (p := ⟨g, o + k, none⟩) hbl).trans GA.out
        have g2c := (hB.cell (p := ⟨g2, o2 + k, none⟩) hbl2).trans GB.out
        by_cases hcl : c < x.size
        · have hc0 : (0 : Int) ≤ (c : Int) := by omega
          have hcn : (c : Int) < (x.size : Int) := by omega
          have hcl2 : c < y.size := by omega
          have hcn2 : (c : Int) < (y.size : Int) := by omega
          by_cases heq : (y[c].toNat : Int) = (x[c].toNat : Int)
          · have hfn := hid (HNo.out c hcl hcl2 heq).2
            have e1 := neI_false heq.symm
            clear heq
            go_wp2_with fail
            go_quiet (fail)
            go_wp2
            go_roundw
            case rel => exact ⟨c + 1, by omega, by go_num, by rw [hfn.out], below_drewN hB _⟩
            case measure => simp [intOf]; omega
          · have hfn := hid (HY.out c hcl hcl2 heq)
            have e1 : ((x[c].toNat : Int) != (y[c].toNat : Int)) = true := neI_true (fun h => heq h.symm)
            clear heq
            go_wp2_with fail
            go_quiet (fail)
            obtain ⟨w4, hw4⟩ : ∃ w4, w4 = wr.drewN nq := ⟨_, rfl⟩
            rw [← hw4]
            have hB4 : Below w3.heap.size w3 w4 := by rw [hw4]; exact below_drewN hB _
            clear hw4 qa qb g1 g2c
            have hz4 := hB4.size
            have qa := (hB4.cell (p := ⟨w.heap.size, 0, none⟩) hl30).trans A3.out
            have g1 := (hB4.cell (p := ⟨g, o + k, none⟩) hbl).trans GA.out
            go_wp2_with (go_at_call 47; refine (put_at _ x c hcl _ (HL.out c)).mono ?_; rintro e w5 ⟨rfl, hb5⟩)
            go_roundw
            case rel => exact ⟨c + 1, by omega, by go_num, by rw [hfn.out], hB4.trans (hb5.mono hz4)⟩
            case measure => simp [intOf]; omega
        · obtain rfl : c = x.size := by omega
          go_wp2
          go_roundw
          case rel => exact ⟨k + 1, by omega, by go_num, by rw [HF1.out], hB⟩
          case measure => simp [intOf]; omega
    · obtain rfl : k = n := by omega
      have hR2 := hid (hR.out.trans (by rw [← HN.out]))
      go_wp2
      go_ret2
      exact ⟨by simp [hR2.out, H0.out], hB3.trans (hB.mono hz3)⟩
end Go.Proofs.Ytaaffcffelkcdaa
