/-
  Walks: the fewest exchanges and a plan of exchanges.
-/
import Derived.Test.YtaaffcffelkcdaaLayM
namespace Go.Proofs.Ytaaffcffelkcdaa
open Go.RowKit Go.ChangeShapes Go.WideShapes
set_option linter.unusedVariables false
attribute [local go_sem ↓] Go.wp_at_zero Go.wp_at_succ

theorem plV_no {ra rb : List ByteArray} (h : ¬ bothC ra rb = 0) : plV ra rb = [] := if_neg h
theorem plV_yes {ra rb : List ByteArray} (h : bothC ra rb = 0) : plV ra rb = (plTo ra rb rb.length).2 := if_pos h
theorem plV_len (ra rb : List ByteArray) : (plV ra rb).length ≤ 48 := by
  by_cases h : bothC ra rb = 0
  · rw [plV_yes h]
    have h1 := (both_rows h).1
    have h2 := (both_rows h).2.1
    have := (shape_to h rb.length (by omega)).2
    omega
  · rw [plV_no h]; simp
set_option maxRecDepth 100000 in
set_option maxHeartbeats 4000000 in
theorem few_any (ao : Option Addr) (n cap : Nat) (ra : List ByteArray) (bo : Option Addr) (n2 cap2 : Nat) (rb : List ByteArray) (w : World)
    (hn : n = ra.length) (hr : Rd w ao (strs ra)) (hs : ∀ x ∈ ra, x.size ≤ maxLen) (hm : n ≤ 1048576) (hn2 : n2 = rb.length) (hr2 : Rd w bo (strs rb)) (hs2 : ∀ x ∈ rb, x.size ≤ maxLen) (hm2 : n2 ≤ 1048576) :
    Calls Try.prog 29 #[.agg #[.slice ao n cap], .agg #[.slice bo n2 cap2]] w fun e w' => e = .returned (.tuple #[.int .i64 ((plV ra rb).length : Int), .int .i64 (bothC ra rb)]) ∧ Below w.heap.size w w' := by
  have HN := hid hn
  have HN2 := hid hn2
  clear hn hn2
  obtain ⟨v, hv⟩ : ∃ v, v = bothC ra rb := ⟨_, rfl⟩
  have HV := hid hv
  obtain ⟨L, hL⟩ : ∃ L, L = plV ra rb := ⟨_, rfl⟩
  have HL := hid hL
  rw [← hv, ← hL]
  clear hv hL
  go_enter Try.func29, Try.ntmps29
  go_wp2_with fail
  obtain ⟨w1, hw1⟩ : ∃ w1, w1 = (w.alloc (.cells #[.slice ao n cap] 28)).alloc (.cells #[.slice bo n2 cap2] 28) := ⟨_, rfl⟩
  have hb1 : Below w.heap.size w w1 := by
    rw [hw1]
    (repeat (first | with_reducible exact Below.refl _ _ | with_reducible assumption | refine Below.drew ?_ | refine below_drewN ?_ _ | (refine Below.alloc ?_ (by first | omega | (simp; done) | (simp; omega)) _) | (refine Below.setCell ?_ (by first | omega | (simp; done) | (simp; omega)) _) | (refine Below.trans ?_ (Below.mono (by assumption) (by first | omega | (simp; done) | (simp; omega))))))
  have a1 : w1.cell? ⟨w.heap.size, 0, none⟩ = some (.slice ao n cap) := by rw [hw1]; simp
  have b1 : w1.cell? ⟨w.heap.size + 1, 0, none⟩ = some (.slice bo n2 cap2) := by rw [hw1]; simp
  have hl1 : w.heap.size + 1 < w1.heap.size := by rw [hw1]; simp
  rw [← hw1]
  clear hw1
  have hl0 : w.heap.size < w1.heap.size := by omega
  refine (both_any ao n cap ra bo n2 cap2 rb _ HN.out (rd_below hr hb1) hs hm HN2.out (rd_below hr2 hb1) hs2 hm2).mono ?_
  rintro e w3 ⟨rfl, hb2⟩
  have hB3 := hb1.trans (hb2.mono hb1.size)
  have a3 := (hb2.cell (p := ⟨w.heap.size, 0, none⟩) hl0).trans a1
  have b3 := (hb2.cell (p := ⟨w.heap.size + 1, 0, none⟩) hl1).trans b1
  have hl3 := Nat.lt_of_lt_of_le hl1 hb2.size
  have hl30 : w.heap.size < w3.heap.size := by omega
  have hra3 := rd_below hr hB3
  have hrb3 := rd_below hr2 hB3
  clear a1 b1 hl1 hl0 hb1 hb2 hr hr2
  rw [← HV.out]
  by_cases h0 : v = 0
  case neg =>
    have hR := hid (HL.out.trans (plV_no (show ¬ bothC ra rb = 0 by rw [← HV.out]; exact h0)))
    have e1 : (v != 0) = true := neI_true h0
    clear h0
    obtain rfl : L = [] := hR.out
    go_wp2_with fail
    go_ret2
    exact ⟨rfl, hB3⟩
  subst h0
  have H0 := hid HV.out.symm
  have hR := hid (HL.out.trans (plV_yes H0.out)).symm
  have hnn : n = n2 := by rw [HN.out, HN2.out]; exact (both_rows H0.out).1
  subst hnn
  go_wp2_with fail
  refine (plan_any ao n cap ra bo cap2 rb _ H0.out HN.out hra3 hrb3).mono ?_
  rw [hR.out]
  rintro e w4 ⟨po, pc, rfl, hown, hb4⟩
  go_wp2_with fail
  go_ret2
  exact ⟨by simp [strs_len], hB3.trans (hb4.mono hB3.size)⟩
set_option maxRecDepth 100000 in
set_option maxHeartbeats 4000000 in
theorem sFew_any (ao : Option Addr) (n cap : Nat) (ra : List ByteArray) (bo : Option Addr) (n2 cap2 : Nat) (rb : List ByteArray) (w : World)
    (hn : n = ra.length) (hr : Rd w ao (strs ra)) (hs : ∀ x ∈ ra, x.size ≤ maxLen) (hm : n ≤ 1048576) (hn2 : n2 = rb.length) (hr2 : Rd w bo (strs rb)) (hs2 : ∀ x ∈ rb, x.size ≤ maxLen) (hm2 : n2 ≤ 1048576) :
    Calls Try.prog 28 #[.agg #[.slice ao n cap], .agg #[.slice bo n2 cap2]] w fun e w' => e = .returned (.tuple #[.int .i64 ((plV ra rb).length : Int), .int .i64 (bothC ra rb)]) ∧ Below w.heap.size w w' := by
  have HN := hid hn
  have HN2 := hid hn2
  clear hn hn2
  obtain ⟨v, hv⟩ : ∃ v, v = bothC ra rb := ⟨_, rfl⟩
  have HV := hid hv
  obtain ⟨L, hL⟩ : ∃ L, L = plV ra rb := ⟨_, rfl⟩
  have HL := hid hL
  rw [← hv, ← hL]
  clear hv hL
  go_enter Try.func28, Try.ntmps28
  go_wp2_with fail
  obtain ⟨w1, hw1⟩ : ∃ w1, w1 = (w.alloc (.cells #[.slice ao n cap] 28)).alloc (.cells #[.slice bo n2 cap2] 28) := ⟨_, rfl⟩
  have hb1 : Below w.heap.size w w1 := by
    rw [hw1]
    (repeat (first | with_reducible exact Below.refl _ _ | with_reducible assumption | refine Below.drew ?_ | refine below_drewN ?_ _ | (refine Below.alloc ?_ (by first | omega | (simp; done) | (simp; omega)) _) | (refine Below.setCell ?_ (by first | omega | (simp; done) | (simp; omega)) _) | (refine Below.trans ?_ (Below.mono (by assumption) (by first | omega | (simp; done) | (simp; omega))))))
  have a1 : w1.cell? ⟨w.heap.size, 0, none⟩ = some (.slice ao n cap) := by rw [hw1]; simp
  have b1 : w1.cell? ⟨w.heap.size + 1, 0, none⟩ = some (.slice bo n2 cap2) := by rw [hw1]; simp
  have hl1 : w.heap.size + 1 < w1.heap.size := by rw [hw1]; simp
  rw [← hw1]
  clear hw1
  have hl0 : w.heap.size < w1.heap.size := by omega
  refine (sBoth_any _ _ ao n cap ra bo n2 cap2 rb _ ⟨hl0, a1⟩ ⟨hl1, b1⟩ HN.out (rd_below hr hb1) hs hm HN2.out (rd_below hr2 hb1) hs2 hm2).mono ?_
  rintro e w3 ⟨rfl, hb2⟩
  have hB3 := hb1.trans (hb2.mono hb1.size)
  have a3 := (hb2.cell (p := ⟨w.heap.size, 0, none⟩) hl0).trans a1
  have b3 := (hb2.cell (p := ⟨w.heap.size + 1, 0, none⟩) hl1).trans b1
  have hl3 := Nat.lt_of_lt_of_le hl1 hb2.size
  have hl30 : w.heap.size < w3.heap.size := by omega
  have hra3 := rd_below hr hB3
  have hrb3 := rd_below hr2 hB3
  clear a1 b1 hl1 hl0 hb1 hb2 hr hr2
  rw [← HV.out]
  by_cases h0 : v = 0
  case neg =>
    have hR := hid (HL.out.trans (plV_no (show ¬ bothC ra rb = 0 by rw [← HV.out]; exact h0)))
    have e1 : (v != 0) = true := neI_true h0
    clear h0
    obtain rfl : L = [] := hR.out
    go_wp2_with fail
    go_ret2
    exact ⟨rfl, hB3⟩
  subst h0
  have H0 := hid HV.out.symm
  have hR := hid (HL.out.trans (plV_yes H0.out)).symm
  have hnn : n = n2 := by rw [HN.out, HN2.out]; exact (both_rows H0.out).1
  subst hnn
  go_wp2_with fail
  refine (sPlan_any w.heap.size (w.heap.size + 1) ao n cap ra bo cap2 rb _ ⟨hl30, a3⟩ ⟨hl3, b3⟩ H0.out HN.out hra3 hrb3).mono ?_
  rw [hR.out]
  rintro e w4 ⟨po, pc, rfl, hown, hb4⟩
  go_wp2_with fail
  go_ret2
  exact ⟨by simp [strs_len], hB3.trans (hb4.mono hB3.size)⟩
set_option maxRecDepth 100000 in
set_option maxHeartbeats 4000000 in
theorem exPlan_any (ao : Option Addr) (n cap : Nat) (ra : List ByteArray) (bo : Option Addr) (n2 cap2 : Nat) (rb : List ByteArray) (w : World)
    (hn : n = ra.length) (hr : Rd w ao (strs ra)) (hs : ∀ x ∈ ra, x.size ≤ maxLen) (hm : n ≤ 1048576) (hn2 : n2 = rb.length) (hr2 : Rd w bo (strs rb)) (hs2 : ∀ x ∈ rb, x.size ≤ maxLen) (hm2 : n2 ≤ 1048576) :
    Calls Try.prog 31 #[.agg #[.slice ao n cap], .agg #[.slice bo n2 cap2]] w (RowRet w.heap.size 9 w (strs (plV ra rb)) (bothC ra rb)) := by
  have HN := hid hn
  have HN2 := hid hn2
  clear hn hn2
  obtain ⟨v, hv⟩ : ∃ v, v = bothC ra rb := ⟨_, rfl⟩
  have HV := hid hv
  obtain ⟨L, hL⟩ : ∃ L, L = plV ra rb := ⟨_, rfl⟩
  have HL := hid hL
  rw [← hv, ← hL]
  clear hv hL
  go_enter Try.func31, Try.ntmps31
  go_wp2_with fail
  obtain ⟨w1, hw1⟩ : ∃ w1, w1 = (w.alloc (.cells #[.slice ao n cap] 28)).alloc (.cells #[.slice bo n2 cap2] 28) := ⟨_, rfl⟩
  have hb1 : Below w.heap.size w w1 := by
    rw [hw1]
    (repeat (first | with_reducible exact Below.refl _ _ | with_reducible assumption | refine Below.drew ?_ | refine below_drewN ?_ _ | (refine Below.alloc ?_ (by first | omega | (simp; done) | (simp; omega)) _) | (refine Below.setCell ?_ (by first | omega | (simp; done) | (simp; omega)) _) | (refine Below.trans ?_ (Below.mono (by assumption) (by first | omega | (simp; done) | (simp; omega))))))
  have a1 : w1.cell? ⟨w.heap.size, 0, none⟩ = some (.slice ao n cap) := by rw [hw1]; simp
  have b1 : w1.cell? ⟨w.heap.size + 1, 0, none⟩ = some (.slice bo n2 cap2) := by rw [hw1]; simp
  have hl1 : w.heap.size + 1 < w1.heap.size := by rw [hw1]; simp
  rw [← hw1]
  clear hw1
  have hl0 : w.heap.size < w1.heap.size := by omega
  refine (both_any ao n cap ra bo n2 cap2 rb _ HN.out (rd_below hr hb1) hs hm HN2.out (rd_below hr2 hb1) hs2 hm2).mono ?_
  rintro e w3 ⟨rfl, hb2⟩
  have hB3 := hb1.trans (hb2.mono hb1.size)
  have a3 := (hb2.cell (p := ⟨w.heap.size, 0, none⟩) hl0).trans a1
  have b3 := (hb2.cell (p := ⟨w.heap.size + 1, 0, none⟩) hl1).trans b1
  have hl3 := Nat.lt_of_lt_of_le hl1 hb2.size
  have hl30 : w.heap.size < w3.heap.size := by omega
  have hra3 := rd_below hr hB3
  have hrb3 := rd_below hr2 hB3
  clear a1 b1 hl1 hl0 hb1 hb2 hr hr2
  rw [← HV.out]
  by_cases h0 : v = 0
  case neg =>
    have hR := hid (HL.out.trans (plV_no (show ¬ bothC ra rb = 0 by rw [← HV.out]; exact h0)))
    have e1 : (v != 0) = true := neI_true h0
    clear h0
    obtain rfl : L = [] := hR.out
    go_wp2_with fail
    go_ret2
    exact ⟨none, 0, rfl, ⟨rfl, .inl ⟨rfl, rfl⟩⟩, hB3⟩
  subst h0
  have H0 := hid HV.out.symm
  have hR := hid (HL.out.trans (plV_yes H0.out)).symm
  have hnn : n = n2 := by rw [HN.out, HN2.out]; exact (both_rows H0.out).1
  subst hnn
  go_wp2_with fail
  refine (plan_any ao n cap ra bo cap2 rb _ H0.out HN.out hra3 hrb3).mono ?_
  rw [hR.out]
  rintro e w4 ⟨po, pc, rfl, hown, hb4⟩
  go_wp2_with fail
  go_ret2
  exact ⟨po, pc, rfl, owns_mono hown hB3.size, hB3.trans (hb4.mono hB3.size)⟩
set_option maxRecDepth 100000 in
set_option maxHeartbeats 4000000 in
theorem sExPlan_any (ao : Option Addr) (n cap : Nat) (ra : List ByteArray) (bo : Option Addr) (n2 cap2 : Nat) (rb : List ByteArray) (w : World)
    (hn : n = ra.length) (hr : Rd w ao (strs ra)) (hs : ∀ x ∈ ra, x.size ≤ maxLen) (hm : n ≤ 1048576) (hn2 : n2 = rb.length) (hr2 : Rd w bo (strs rb)) (hs2 : ∀ x ∈ rb, x.size ≤ maxLen) (hm2 : n2 ≤ 1048576) :
    Calls Try.prog 30 #[.agg #[.slice ao n cap], .agg #[.slice bo n2 cap2]] w (RowRet w.heap.size 9 w (strs (plV ra rb)) (bothC ra rb)) := by
  have HN := hid hn
  have HN2 := hid hn2
  clear hn hn2
  obtain ⟨v, hv⟩ : ∃ v, v = bothC ra rb := ⟨_, rfl⟩
  have HV := hid hv
  obtain ⟨L, hL⟩ : ∃ L, L = plV ra rb := ⟨_, rfl⟩
  have HL := hid hL
  rw [← hv, ← hL]
  clear hv hL
  go_enter Try.func30, Try.ntmps30
  go_wp2_with fail
  obtain ⟨w1, hw1⟩ : ∃ w1, w1 = (w.alloc (.cells #[.slice ao n cap] 28)).alloc (.cells #[.slice bo n2 cap2] 28) := ⟨_, rfl⟩
  have hb1 : Below w.heap.size w w1 := by
    rw [hw1]
    (repeat (first | with_reducible exact Below.refl _ _ | with_reducible assumption | refine Below.drew ?_ | refine below_drewN ?_ _ | (refine Below.alloc ?_ (by first | omega | (simp; done) | (simp; omega)) _) | (refine Below.setCell ?_ (by first | omega | (simp; done) | (simp; omega)) _) | (refine Below.trans ?_ (Below.mono (by assumption) (by first | omega | (simp; done) | (simp; omega))))))
  have a1 : w1.cell? ⟨w.heap.size, 0, none⟩ = some (.slice ao n cap) := by rw [hw1]; simp
  have b1 : w1.cell? ⟨w.heap.size + 1, 0, none⟩ = some (.slice bo n2 cap2) := by rw [hw1]; simp
  have hl1 : w.heap.size + 1 < w1.heap.size := by rw [hw1]; simp
  rw [← hw1]
  clear hw1
  have hl0 : w.heap.size < w1.heap.size := by omega
  refine (sBoth_any _ _ ao n cap ra bo n2 cap2 rb _ ⟨hl0, a1⟩ ⟨hl1, b1⟩ HN.out (rd_below hr hb1) hs hm HN2.out (rd_below hr2 hb1) hs2 hm2).mono ?_
  rintro e w3 ⟨rfl, hb2⟩
  have hB3 := hb1.trans (hb2.mono hb1.size)
  have a3 := (hb2.cell (p := ⟨w.heap.size, 0, none⟩) hl0).trans a1
  have b3 := (hb2.cell (p := ⟨w.heap.size + 1, 0, none⟩) hl1).trans b1
  have hl3 := Nat.lt_of_lt_of_le hl1 hb2.size
  have hl30 : w.heap.size < w3.heap.size := by omega
  have hra3 := rd_below hr hB3
  have hrb3 := rd_below hr2 hB3
  clear a1 b1 hl1 hl0 hb1 hb2 hr hr2
  rw [← HV.out]
  by_cases h0 : v = 0
  case neg =>
    have hR := hid (HL.out.trans (plV_no (show ¬ bothC ra rb = 0 by rw [← HV.out]; exact h0)))
    have e1 : (v != 0) = true := neI_true h0
    clear h0
    obtain rfl : L = [] := hR.out
    go_wp2_with fail
    go_ret2
    exact ⟨none, 0, rfl, ⟨rfl, .inl ⟨rfl, rfl⟩⟩, hB3⟩
  subst h0
  have H0 := hid HV.out.symm
  have hR := hid (HL.out.trans (plV_yes H0.out)).symm
  have hnn : n = n2 := by rw [HN.out, HN2.out]; exact (both_rows H0.out).1
  subst hnn
  go_wp2_with fail
  refine (sPlan_any w.heap.size (w.heap.size + 1) ao n cap ra bo cap2 rb _ ⟨hl30, a3⟩ ⟨hl3, b3⟩ H0.out HN.out hra3 hrb3).mono ?_
  rw [hR.out]
  rintro e w4 ⟨po, pc, rfl, hown, hb4⟩
  go_wp2_with fail
  go_ret2
  exact ⟨po, pc, rfl, owns_mono hown hB3.size, hB3.trans (hb4.mono hB3.size)⟩
end Go.Proofs.Ytaaffcffelkcdaa
