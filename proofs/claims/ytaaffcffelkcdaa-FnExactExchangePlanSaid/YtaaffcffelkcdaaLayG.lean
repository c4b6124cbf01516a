/-
  Walks: how far the letters of a layout lie from another.
-/
import Derived.Test.YtaaffcffelkcdaaLayF
import Derived.Test.YtaaffcffelkcdaaLayE
namespace Go.Proofs.Ytaaffcffelkcdaa
open Go.RowKit Go.ChangeShapes Go.WideShapes
set_option linter.unusedVariables false
attribute [local go_sem ↓] Go.wp_at_zero Go.wp_at_succ

def absI (n : Int) : Int := if n < 0 then -n else n
theorem absI_neg {n : Int} (h : n < 0) : absI n = -n := if_pos h
theorem absI_pos {n : Int} (h : ¬ n < 0) : absI n = n := if_neg h
theorem absI_bd {n b : Int} (h : -b ≤ n) (h2 : n ≤ b) : 0 ≤ absI n ∧ absI n ≤ b := by unfold absI; split <;> omega
theorem abs_is {v : Int} (n : Int) (w : World) (h : absI n = v) (h1 : -1000 ≤ n) (h2 : n ≤ 1000) : Calls Try.prog 46 #[.int .i64 n] w fun e w' => e = .returned (.int .i64 v) ∧ w = w' := by
  subst h
  by_cases hn : n < 0
  · have hv := hid (absI_neg hn)
    go_enter Try.func46, Try.ntmps46
    go_wp2
    go_ret
    exact ⟨ret_int hv.out.symm, rfl⟩
  · have hv := hid (absI_pos hn)
    go_enter Try.func46, Try.ntmps46
    go_wp2
    go_ret
    exact ⟨ret_int hv.out.symm, rfl⟩
theorem sAbs_is {v : Int} (n : Int) (w : World) (h : absI n = v) (h1 : -1000 ≤ n) (h2 : n ≤ 1000) : Calls Try.prog 44 #[.int .i64 n] w fun e w' => e = .returned (.int .i64 v) ∧ w = w' := by
  subst h
  by_cases hn : n < 0
  · have hv := hid (absI_neg hn)
    go_enter Try.func44, Try.ntmps44
    go_wp2
    go_ret
    exact ⟨ret_int hv.out.symm, rfl⟩
  · have hv := hid (absI_pos hn)
    go_enter Try.func44, Try.ntmps44
    go_wp2
    go_ret
    exact ⟨ret_int hv.out.symm, rfl⟩

def costAt (ra rb : List ByteArray) (r c : Nat) : Int := match letAt rb (rowAt ra r) c with | some (r', c') => absI ((r' : Int) - (r : Int)) + absI ((c' : Int) - (c : Int)) | none => 0
def rowD (ra rb : List ByteArray) (r : Nat) : Nat → Int | 0 => 0 | c + 1 => rowD ra rb r c + costAt ra rb r c
def distTo (ra rb : List ByteArray) : Nat → Int | 0 => 0 | r + 1 => distTo ra rb r + rowD ra rb r (rowAt ra r).size
def distV (ra rb : List ByteArray) : Int := if bothC ra rb = 0 then distTo ra rb ra.length else 0
theorem distV_no {ra rb : List ByteArray} (h : ¬ bothC ra rb = 0) : distV ra rb = 0 := if_neg h
theorem distV_yes {ra rb : List ByteArray} (h : bothC ra rb = 0) : distV ra rb = distTo ra rb ra.length := if_pos h
theorem both_rows {ra rb : List ByteArray} (h : bothC ra rb = 0) : ra.length = rb.length ∧ ra.length ≤ 4 ∧ (∀ r, r < ra.length → (rowAt ra r).size ≤ 12) ∧ ∀ r, r < rb.length → (rowAt rb r).size ≤ 12 := by
  obtain ⟨h1, h2, h3, h4⟩ := both_zero h
  obtain ⟨_, ha4, har⟩ := lay_true h1
  obtain ⟨_, hb4, hbr⟩ := lay_true h2
  exact ⟨h3, ha4, fun r hr => (row_size (har r hr).1).2, fun r hr => (row_size (hbr r hr).1).2⟩
theorem dist_spot {ra rb : List ByteArray} (h : bothC ra rb = 0) {r c : Nat} (hr : r < ra.length) (hc : c < (rowAt ra r).size) :
    ∃ r' c', letAt rb (rowAt ra r) c = some (r', c') ∧ r' < 4 ∧ c' < 12 ∧ r < 4 ∧ c < 12 ∧ costAt ra rb r c = absI ((r' : Int) - (r : Int)) + absI ((c' : Int) - (c : Int)) := by
  obtain ⟨hl, h4, ha, hb⟩ := both_rows h
  obtain ⟨_, _, _, hs⟩ := both_zero h
  obtain ⟨⟨r', c'⟩, hsp⟩ := (hs r hr).2 c hc
  have e := letAt_get (rows := rb) hc
  rw [hsp] at e
  obtain ⟨q1, q2, _⟩ := spot_some hsp
  have q3 := hb r' q1
  have q4 := ha r hr
  exact ⟨r', c', e, by omega, by omega, by omega, by omega, by unfold costAt; rw [e]⟩
theorem cost_bd {ra rb : List ByteArray} (h : bothC ra rb = 0) {r c : Nat} (hr : r < ra.length) (hc : c < (rowAt ra r).size) : 0 ≤ costAt ra rb r c ∧ costAt ra rb r c ≤ 16 := by
  obtain ⟨r', c', _, h1, h2, h3, h4, e⟩ := dist_spot h hr hc
  rw [e]
  have a1 := absI_bd (n := (r' : Int) - (r : Int)) (b := 4) (by omega) (by omega)
  have a2 := absI_bd (n := (c' : Int) - (c : Int)) (b := 12) (by omega) (by omega)
  omega
theorem rowD_bd {ra rb : List ByteArray} (h : bothC ra rb = 0) {r : Nat} (hr : r < ra.length) : ∀ c, c ≤ (rowAt ra r).size → 0 ≤ rowD ra rb r c ∧ rowD ra rb r c ≤ 16 * c
  | 0, _ => by simp [rowD]
  | c + 1, hc => by
    obtain ⟨i1, i2⟩ := rowD_bd h hr c (by omega)
    obtain ⟨j1, j2⟩ := cost_bd h hr (show c < (rowAt ra r).size by omega)
    rw [rowD]; omega
theorem distTo_bd {ra rb : List ByteArray} (h : bothC ra rb = 0) : ∀ r, r ≤ ra.length → 0 ≤ distTo ra rb r ∧ distTo ra rb r ≤ 192 * r
  | 0, _ => by simp [distTo]
  | r + 1, hr => by
    obtain ⟨i1, i2⟩ := distTo_bd h r (by omega)
    obtain ⟨j1, j2⟩ := rowD_bd h (show r < ra.length by omega) _ (Nat.le_refl _)
    have := (both_rows h).2.2.1 r (by omega)
    rw [distTo]; omega
/-- one letter's step -/
theorem dist_step {ra rb : List ByteArray} (h : bothC ra rb = 0) {r c : Nat} (hr : r < ra.length) (hc : c < (rowAt ra r).size) :
    ∃ (r' c' : Nat) (a1 a2 : Int), spotOf rb (rowAt ra r)[c] = some (r', c') ∧ r' < 4 ∧ c' < 12 ∧ r < 4 ∧ c < 12 ∧ absI ((r' : Int) - (r : Int)) = a1 ∧ absI ((c' : Int) - (c : Int)) = a2 ∧ 0 ≤ a1 ∧ a1 ≤ 4 ∧ 0 ≤ a2 ∧ a2 ≤ 12 ∧ rowD ra rb r (c + 1) = rowD ra rb r c + (a1 + a2) ∧ 0 ≤ distTo ra rb r + rowD ra rb r c ∧ distTo ra rb r + rowD ra rb r c ≤ 1000 := by
  obtain ⟨r', c', e, h1, h2, h3, h4, e2⟩ := dist_spot h hr hc
  have a1 := absI_bd (n := (r' : Int) - (r : Int)) (b := 4) (by omega) (by omega)
  have a2 := absI_bd (n := (c' : Int) - (c : Int)) (b := 12) (by omega) (by omega)
  have b1 := rowD_bd h hr c (by omega)
  have b2 := distTo_bd h r (by omega)
  exact ⟨r', c', _, _, (letAt_get hc).symm.trans e, h1, h2, h3, h4, rfl, rfl, a1.1, a1.2, a2.1, a2.2, by rw [rowD, e2], by omega, by omega⟩

def StepP (rb : List ByteArray) (x : ByteArray) (r : Nat) (D : Int) (R : Nat → Int) : Prop := ∀ c (hc : c < x.size),
    ∃ (r' c' : Nat) (a1 a2 : Int), spotOf rb x[c] = some (r', c') ∧ r' < 4 ∧ c' < 12 ∧ r < 4 ∧ c < 12 ∧ absI ((r' : Int) - (r : Int)) = a1 ∧ absI ((c' : Int) - (c : Int)) = a2 ∧ 0 ≤ a1 ∧ a1 ≤ 4 ∧ 0 ≤ a2 ∧ a2 ≤ 12 ∧ R (c + 1) = R c + (a1 + a2) ∧ 0 ≤ D + R c ∧ D + R c ≤ 1000
theorem step_all {ra rb : List ByteArray} (h : bothC ra rb = 0) {r : Nat} (hr : r < ra.length) : StepP rb (rowAt ra r) r (distTo ra rb r) (rowD ra rb r) := fun c hc => dist_step h hr hc

set_option maxRecDepth 100000 in
set_option maxHeartbeats 8000000 in
theorem dist_any (ao : Option Addr) (n cap : Nat) (ra : List ByteArray) (bo : Option Addr) (n2 cap2 : Nat) (rb : List ByteArray) (w : World)
    (hn : n = ra.length) (hr : Rd w ao (strs ra)) (hs : ∀ x ∈ ra, x.size ≤ maxLen) (hm : n ≤ 1048576) (hn2 : n2 = rb.length) (hr2 : Rd w bo (strs rb)) (hs2 : ∀ x ∈ rb, x.size ≤ maxLen) (hm2 : n2 ≤ 1048576) :
    Calls Try.prog 16 #[.agg #[.slice ao n cap], .agg #[.slice bo n2 cap2]] w fun e w' => e = .returned (.tuple #[.int .i64 (distV ra rb), .int .i64 (bothC ra rb)]) ∧ Below w.heap.size w w' := by
  have HN := hid hn
  have HN2 := hid hn2
  clear hn hn2
  go_enter Try.func16, Try.ntmps16
  go_wp2_with fail
  obtain ⟨w1, hw1⟩ : ∃ w1, w1 = (w.alloc (.cells #[.slice ao n cap] 28)).alloc (.cells #[.slice bo n2 cap2] 28) := ⟨_, rfl⟩
  have hb1 : Below w.heap.size w w1 := by
    rw [hw1]
    (repeat (first | with_reducible exact Below.refl _ _ | with_reducible assumption | refine Below.drew ?_ | refine below_drewN ?_ _ | (refine Below.alloc ?_ (by first | omega | (simp; done) | (simp; omega)) _) | (refine Below.setCell ?_ (by first | omega | (simp; done) | (simp; omega)) _) | (refine Below.trans ?_ (Below.mono (by assumption) (by first | omega | (simp; done) | (simp; omega))))))
  have a1 : w1.cell? ⟨w.heap.size, 0, none⟩ = some (.slice ao n cap) := by rw [hw1]; simp
  have b1 : w1.cell? ⟨w.heap.size + 1, 0, none⟩ = some (.slice bo n2 cap2) := by rw [hw1]; simp
  have hl1 : w.heap.size + 1 < w1.heap.size := by rw [hw1]; simp
  rw [← hw1]
  clear hw1
  have hl0 : w.heap.size < w1.heap.size := by omega
  refine (both_any ao n cap ra bo n2 cap2 rb _ HN.out (rd_below hr hb1) hs hm HN2.out (rd_below hr2 hb1) hs2 hm2).mono ?_
  rintro e w3 ⟨rfl, hb2⟩
  have hB3 := hb1.trans (hb2.mono hb1.size)
  have a3 := (hb2.cell (p := ⟨w.heap.size, 0, none⟩) hl0).trans a1
  have b3 := (hb2.cell (p := ⟨w.heap.size + 1, 0, none⟩) hl1).trans b1
  have hl3 := Nat.lt_of_lt_of_le hl1 hb2.size
  have hl30 : w.heap.size < w3.heap.size := by omega
  have hra3 := rd_below hr hB3
  have hrb3 := rd_below hr2 hB3
  clear a1 b1 hl1 hl0 hb1 hb2 hr hr2
  by_cases h0 : bothC ra rb = 0
  case neg =>
    have hR := hid (distV_no h0)
    obtain ⟨v, hv⟩ : ∃ v, v = bothC ra rb := ⟨_, rfl⟩
    rw [← hv] at h0
    rw [← hv]
    have HV := hid hv
    clear hv
    have e1 : (v != 0) = true := neI_true h0
    have H0 := hid h0
    clear h0
    go_wp2_with fail
    go_ret2
    exact ⟨by simp [hR.out, HV.out.symm], hB3⟩
  rw [h0]
  have hR := hid (distV_yes h0)
  have hz3 := hB3.size
  have hstep := hid (fun r (hr : r < ra.length) => step_all h0 hr)
  have H0 := hid h0
  clear h0
  have hrda := rd_str hra3
  go_wp2_with fail
  have B3 := hid b3
  go_loopw [7, 8, 9, 10, 11, 12, 13, 23] (fun s _ _ _ _ _ _ i wr => ∃ k : Nat, k ≤ n ∧ i = .int .i64 k ∧ s = .int .i64 (distTo ra rb k) ∧ Below w3.heap.size w3 wr) (fun _ _ _ _ _ _ _ i _ => n - (intOf i).toNat)
  case atStart => exact ⟨0, Nat.zero_le _, rfl, rfl, Below.refl _ _⟩
  case round =>
    obtain ⟨k, hk, rfl, rfl, hB⟩ := hrel
    clear a3 b3
    have hz := hB.size
    by_cases hlt : k < n
    · rcases hrda with hnil | ⟨g, o, rfl, hbl, hcell⟩
      · exact absurd (by rw [HN.out, hnil]; rfl : n = 0) (by omega)
      have hka : k < ra.length := by rw [← HN.out]; exact hlt
      have GA := hid (rows_cell hcell hka)
      have hsa := rows_size hs hka
      have g1 := (hB.cell (p := ⟨g, o + k, none⟩) hbl).trans GA.out
      have hk0 : (0 : Int) ≤ (k : Int) := by omega
      have hkn : (k : Int) < (n : Int) := by omega
      have hst := hid (hstep.out k hka)
      have hrow0 : rowD ra rb k 0 = 0 := rfl
      have hnext : distTo ra rb (k + 1) = distTo ra rb k + rowD ra rb k (rowAt ra k).size := rfl
      have HNX := hid hnext
      clear hnext
      obtain ⟨x, hx⟩ : ∃ x, x = rowAt ra k := ⟨_, rfl⟩
      rw [← hx] at g1 hsa GA HNX
      rw [← hx] at hst
      clear hx hcell
      obtain ⟨D, hD⟩ : ∃ D : Int, D = distTo ra rb k := ⟨_, rfl⟩
      rw [← hD] at HNX
      rw [← hD] at hst
      rw [← hD]
      clear hD
      have hsa' := hsa
      unfold maxLen at hsa'
      go_wp2_with fail
      go_loopw [7, 10, 11, 12, 13, 30] (fun s _ _ _ _ i wr2 => ∃ c : Nat, c ≤ x.size ∧ i = .int .i64 c ∧ s = .int .i64 (D + rowD ra rb k c) ∧ Below w3.heap.size w3 wr2) (fun _ _ _ _ _ i _ => x.size - (intOf i).toNat)
      case atStart => exact ⟨0, Nat.zero_le _, rfl, by rw [hrow0]; simp, hB⟩
      case round =>
        clear hB hz g1
        obtain ⟨c, hc, rfl, rfl, hB⟩ := hrel
        have hz := hB.size
        have qb := (hB.cell (p := ⟨w.heap.size + 1, 0, none⟩) hl3).trans B3.out
        have hbw : w.heap.size + 1 < wr.heap.size := by omega
        have hrw := rd_below hrb3 hB
        by_cases hcl : c < x.size
        · have hc0 : (0 : Int) ≤ (c : Int) := by omega
          have hcn : (c : Int) < (x.size : Int) := by omega
          obtain ⟨r', c', d1, d2, hsp, hr4, hc12, hk4, hcc12, hd1, hd2, hd3, hd4, hd5, hd6, hup, hS0, hS1⟩ := hst.out c hcl
          have HSP := hid hsp
          have D1 := hid hd1
          have D2 := hid hd2
          have HUP := hid hup
          clear hsp hd1 hd2 hup
          obtain ⟨S, hS⟩ : ∃ S : Int, S = D + rowD ra rb k c := ⟨_, rfl⟩
          rw [← hS] at hS0 hS1
          rw [← hS]
          have HS := hid hS
          clear hS
          have hr00 : (0 : Int) ≤ (r' : Int) := by omega
          have hc00 : (0 : Int) ≤ (c' : Int) := by omega
          go_wp2_with fail
          refine wp_region_over (by kernel_rfl) (by kernel_rfl) (fun hov => ?_)
          repeat (go_big_quiet_step (((go_at_call 42; exact overCall (spot_yes _ n2 cap2 rb x[c] _ HN2.out (rd_over hrw) hs2 hm2 HSP.out)))))
          refine wpQuiet_nil ?_
          intro w5 hb5
          clear hov
          obtain ⟨hc5, hf5, hz5⟩ := bcell hb5
          go_wp2_with (first | (go_at_call 46; refine (abs_is _ _ D1.out (by omega) (by omega)).mono ?_; rintro e w' ⟨rfl, rfl⟩) | (go_at_call 46; refine (abs_is _ _ D2.out (by omega) (by omega)).mono ?_; rintro e w' ⟨rfl, rfl⟩))
          go_roundw
          case rel => exact ⟨c + 1, by omega, by go_num, congrArg (Value.int .i64) (by rw [HUP.out, HS.out]; omega), hB.trans (hb5.mono hz)⟩
          case measure => simp [intOf]; omega
        · obtain rfl : c = x.size := by omega
          go_wp2
          go_roundw
          case rel => exact ⟨k + 1, by omega, by go_num, congrArg (Value.int .i64) HNX.out.symm, hB⟩
          case measure => simp [intOf]; omega
    · obtain rfl : k = n := by omega
      have hR2 := hid (hR.out.trans (by rw [← HN.out]))
      go_wp2
      go_ret2
      exact ⟨by simp [hR2.out, H0.out], hB3.trans (hB.mono hz3)⟩

set_option maxRecDepth 100000 in
set_option maxHeartbeats 8000000 in
theorem sDist_any (ao : Option Addr) (n cap : Nat) (ra : List ByteArray) (bo : Option Addr) (n2 cap2 : Nat) (rb : List ByteArray) (w : World)
    (hn : n = ra.length) (hr : Rd w ao (strs ra)) (hs : ∀ x ∈ ra, x.size ≤ maxLen) (hm : n ≤ 1048576) (hn2 : n2 = rb.length) (hr2 : Rd w bo (strs rb)) (hs2 : ∀ x ∈ rb, x.size ≤ maxLen) (hm2 : n2 ≤ 1048576) :
    Calls Try.prog 15 #[.agg #[.slice ao n cap], .agg #[.slice bo n2 cap2]] w fun e w' => e = .returned (.tuple #[.int .i64 (distV ra rb), .int .i64 (bothC ra rb)]) ∧ Below w.heap.size w w' := by
  have HN := hid hn
  have HN2 := hid hn2
  clear hn hn2
  go_enter Try.func15, Try.ntmps15
  go_wp2_with fail
  obtain ⟨w1, hw1⟩ : ∃ w1, w1 = (w.alloc (.cells #[.slice ao n cap] 28)).alloc (.cells #[.slice bo n2 cap2] 28) := ⟨_, rfl⟩
  have hb1 : Below w.heap.size w w1 := by
    rw [hw1]
    (repeat (first | with_reducible exact Below.refl _ _ | with_reducible assumption | refine Below.drew ?_ | refine below_drewN ?_ _ | (refine Below.alloc ?_ (by first | omega | (simp; done) | (simp; omega)) _) | (refine Below.setCell ?_ (by first | omega | (simp; done) | (simp; omega)) _) | (refine Below.trans ?_ (Below.mono (by assumption) (by first | omega | (simp; done) | (simp; omega))))))
  have a1 : w1.cell? ⟨w.heap.size, 0, none⟩ = some (.slice ao n cap) := by rw [hw1]; simp
  have b1 : w1.cell? ⟨w.heap.size + 1, 0, none⟩ = some (.slice bo n2 cap2) := by rw [hw1]; simp
  have hl1 : w.heap.size + 1 < w1.heap.size := by rw [hw1]; simp
  rw [← hw1]
  clear hw1
  have hl0 : w.heap.size < w1.heap.size := by omega
  refine (sBoth_any _ _ ao n cap ra bo n2 cap2 rb _ ⟨hl0, a1⟩ ⟨hl1, b1⟩ HN.out (rd_below hr hb1) hs hm HN2.out (rd_below hr2 hb1) hs2 hm2).mono ?_
  rintro e w3 ⟨rfl, hb2⟩
  have hB3 := hb1.trans (hb2.mono hb1.size)
  have a3 := (hb2.cell (p := ⟨w.heap.size, 0, none⟩) hl0).trans a1
  have b3 := (hb2.cell (p := ⟨w.heap.size + 1, 0, none⟩) hl1).trans b1
  have hl3 := Nat.lt_of_lt_of_le hl1 hb2.size
  have hl30 : w.heap.size < w3.heap.size := by omega
  have hra3 := rd_below hr hB3
  have hrb3 := rd_below hr2 hB3
  clear a1 b1 hl1 hl0 hb1 hb2 hr hr2
  by_cases h0 : bothC ra rb = 0
  case neg =>
    have hR := hid (distV_no h0)
    obtain ⟨v, hv⟩ : ∃ v, v = bothC ra rb := ⟨_, rfl⟩
    rw [← hv] at h0
    rw [← hv]
    have HV := hid hv
    clear hv
    have e1 : (v != 0) = true := neI_true h0
    have H0 := hid h0
    clear h0
    go_wp2_with fail
    go_ret2
    exact ⟨by simp [hR.out, HV.out.symm], hB3⟩
  rw [h0]
  have hR := hid (distV_yes h0)
  have hz3 := hB3.size
  have hstep := hid (fun r (hr : r < ra.length) => step_all h0 hr)
  have H0 := hid h0
  clear h0
  have hrda := rd_str hra3
  go_wp2_with fail
  have A3 := hid a3
  have B3 := hid b3
  go_loopw [7, 8, 9, 10, 11] (fun s i _ _ _ wr => ∃ k : Nat, k ≤ n ∧ i = .int .i64 k ∧ s = .int .i64 (distTo ra rb k) ∧ Below w3.heap.size w3 wr) (fun _ i _ _ _ _ => n - (intOf i).toNat)
  case atStart => exact ⟨0, Nat.zero_le _, rfl, rfl, Below.refl _ _⟩
  case round =>
    obtain ⟨k, hk, rfl, rfl, hB⟩ := hrel
    clear a3 b3
    have hz := hB.size
    have qa := (hB.cell (p := ⟨w.heap.size, 0, none⟩) hl30).trans A3.out
    by_cases hlt : k < n
    · rcases hrda with hnil | ⟨g, o, rfl, hbl, hcell⟩
      · exact absurd (by rw [HN.out, hnil]; rfl : n = 0) (by omega)
      have hka : k < ra.length := by rw [← HN.out]; exact hlt
      have GA := hid (rows_cell hcell hka)
      have hsa := rows_size hs hka
      have hk0 : (0 : Int) ≤ (k : Int) := by omega
      have hkn : (k : Int) < (n : Int) := by omega
      have hst := hid (hstep.out k hka)
      have hrow0 : rowD ra rb k 0 = 0 := rfl
      have hnext : distTo ra rb (k + 1) = distTo ra rb k + rowD ra rb k (rowAt ra k).size := rfl
      have HNX := hid hnext
      clear hnext
      obtain ⟨x, hx⟩ : ∃ x, x = rowAt ra k := ⟨_, rfl⟩
      rw [← hx] at hsa GA HNX
      rw [← hx] at hst
      clear hx hcell
      obtain ⟨D, hD⟩ : ∃ D : Int, D = distTo ra rb k := ⟨_, rfl⟩
      rw [← hD] at HNX
      rw [← hD] at hst
      rw [← hD]
      clear hD
      have hsa' := hsa
      unfold maxLen at hsa'
      go_wp2_with fail
      go_loopw [7, 9, 10, 11] (fun s i _ _ wr2 => ∃ c : Nat, c ≤ x.size ∧ i = .int .i64 c ∧ s = .int .i64 (D + rowD ra rb k c) ∧ Below w3.heap.size w3 wr2) (fun _ i _ _ _ => x.size - (intOf i).toNat)
      case atStart => exact ⟨0, Nat.zero_le _, rfl, by rw [hrow0]; simp, hB⟩
      case round =>
        clear hB hz qa
        obtain ⟨c, hc, rfl, rfl, hB⟩ := hrel
        have hz := hB.size
        have qa := (hB.cell (p := ⟨w.heap.size, 0, none⟩) hl30).trans A3.out
        have qb := (hB.cell (p := ⟨w.heap.size + 1, 0, none⟩) hl3).trans B3.out
        have g1 := (hB.cell (p := ⟨g, o + k, none⟩) hbl).trans GA.out
        have hrw := rd_below hrb3 hB
        by_cases hcl : c < x.size
        · have hc0 : (0 : Int) ≤ (c : Int) := by omega
          have hcn : (c : Int) < (x.size : Int) := by omega
          obtain ⟨r', c', d1, d2, hsp, hr4, hc12, hk4, hcc12, hd1, hd2, hd3, hd4, hd5, hd6, hup, hS0, hS1⟩ := hst.out c hcl
          have HSP := hid hsp
          have D1 := hid hd1
          have D2 := hid hd2
          have HUP := hid hup
          clear hsp hd1 hd2 hup
          obtain ⟨S, hS⟩ : ∃ S : Int, S = D + rowD ra rb k c := ⟨_, rfl⟩
          rw [← hS] at hS0 hS1
          rw [← hS]
          have HS := hid hS
          clear hS
          have hr00 : (0 : Int) ≤ (r' : Int) := by omega
          have hc00 : (0 : Int) ≤ (c' : Int) := by omega
          go_wp2_with fail
          go_quiet ((go_at_call 38; exact qs (sAt_some _ n2 cap2 rb x[c] _ HN2.out (rd_drewN hrw _) hs2 hm2 HSP.out)))
          go_wp2_with (first | (go_at_call 44; refine (sAbs_is _ _ D1.out (by omega) (by omega)).mono ?_; rintro e w' ⟨rfl, rfl⟩) | (go_at_call 44; refine (sAbs_is _ _ D2.out (by omega) (by omega)).mono ?_; rintro e w' ⟨rfl, rfl⟩))
          go_roundw
          case rel => exact ⟨c + 1, by omega, by go_num, congrArg (Value.int .i64) (by rw [HUP.out, HS.out]; omega), below_drewN hB _⟩
          case measure => simp [intOf]; omega
        · obtain rfl : c = x.size := by omega
          go_wp2
          go_roundw
          case rel => exact ⟨k + 1, by omega, by go_num, congrArg (Value.int .i64) HNX.out.symm, hB⟩
          case measure => simp [intOf]; omega
    · obtain rfl : k = n := by omega
      have hR2 := hid (hR.out.trans (by rw [← HN.out]))
      go_wp2
      go_ret2
      exact ⟨by simp [hR2.out, H0.out], hB3.trans (hB.mono hz3)⟩
end Go.Proofs.Ytaaffcffelkcdaa
