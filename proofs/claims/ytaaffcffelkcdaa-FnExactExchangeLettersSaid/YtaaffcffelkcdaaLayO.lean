/-
  Walks: two letters of a layout exchanged, the whole functions.
-/
import Derived.Test.YtaaffcffelkcdaaLayK
import Derived.Test.YtaaffcffelkcdaaLayD
namespace Go.Proofs.Ytaaffcffelkcdaa
open Go.RowKit Go.ChangeShapes Go.WideShapes
set_option linter.unusedVariables false
attribute [local go_sem ↓] Go.wp_at_zero Go.wp_at_succ

def exR (rows : List ByteArray) (a b : ByteArray) : List ByteArray × Int :=
  if layOk rows = true then (if (sgB a && sgB b) = true then (if ((spotOf rows (headB a)).isSome && (spotOf rows (headB b)).isSome) = true then (exL rows (headB a) (headB b), 0) else ([], 3)) else ([], 2)) else ([], 1)
theorem exR_bad {rows : List ByteArray} {a b : ByteArray} (h : layOk rows = false) : exR rows a b = ([], 1) := by simp [exR, h]
theorem exR_let {rows : List ByteArray} {a b : ByteArray} (h : layOk rows = true) (h2 : (sgB a && sgB b) = false) : exR rows a b = ([], 2) := by unfold exR; rw [if_pos h, h2]; rfl
theorem exR_none {rows : List ByteArray} {a b : ByteArray} (h : layOk rows = true) (h2 : (sgB a && sgB b) = true) (h3 : ((spotOf rows (headB a)).isSome && (spotOf rows (headB b)).isSome) = false) : exR rows a b = ([], 3) := by unfold exR; rw [if_pos h, if_pos h2, h3]; rfl
theorem exR_ok {rows : List ByteArray} {a b : ByteArray} (h : layOk rows = true) (h2 : (sgB a && sgB b) = true) (h3 : ((spotOf rows (headB a)).isSome && (spotOf rows (headB b)).isSome) = true) : exR rows a b = (exL rows (headB a) (headB b), 0) := by unfold exR; rw [if_pos h, if_pos h2, if_pos h3]
theorem lay_le {rows : List ByteArray} (h : layOk rows = true) : ∀ y ∈ rows, y.size ≤ 1000 := by
  intro y hy
  obtain ⟨r, hr, rfl⟩ := List.getElem_of_mem hy
  have := (row_size ((lay_true h).2.2 r hr).1).2
  rw [rowAt_get hr] at this
  omega
theorem lay_4 {rows : List ByteArray} {n : Nat} (hn : n = rows.length) (h : layOk rows = true) : n ≤ 1000 := by
  have := (lay_true h).2.1
  omega
theorem exR_len (rows : List ByteArray) (a b : ByteArray) : (exR rows a b).1.length ≤ 4 := by
  cases h1 : layOk rows
  · rw [exR_bad h1]; simp
  have h4 := (lay_true h1).2.1
  cases h2 : (sgB a && sgB b)
  · rw [exR_let h1 h2]; simp
  cases h3 : ((spotOf rows (headB a)).isSome && (spotOf rows (headB b)).isSome)
  · rw [exR_none h1 h2 h3]; simp
  · rw [exR_ok (a := a) (b := b) h1 h2 h3]; simp [exL_len]; omega
/-- two results, the first a layout whose row lies in new memory -/
def LyRet2 (B : Nat) (w : World) (L : List ByteArray) (c : Int) (e : Ending) (w' : World) : Prop :=
  ∃ bo cap, e = .returned (.tuple #[.agg #[.slice bo L.length cap], .int .i64 c]) ∧ w'.ownsRow B 9 1 (.slice bo L.length cap) L.length (strs L) ∧ Below B w w'

set_option maxRecDepth 100000 in
set_option maxHeartbeats 600000 in
theorem exLet_any (ao : Option Addr) (n cap : Nat) (rows : List ByteArray) (a b : ByteArray) (w : World) (ha : a.size ≤ maxLen) (hb : b.size ≤ maxLen) (hn : n = rows.length) (hr : Rd w ao (strs rows)) (hs : ∀ x ∈ rows, x.size ≤ maxLen) (hm : n ≤ 1048576) :
    Calls Try.prog 26 #[.agg #[.slice ao n cap], .string a, .string b] w (LyRet2 w.heap.size w (exR rows a b).1 (exR rows a b).2) := by
  have HN := hid hn
  clear hn
  obtain ⟨w1, hw1⟩ : ∃ w1, w1 = (w.alloc (.cells #[.slice ao n cap] 28)).alloc (.cells #[.slice none 0 0] 28) := ⟨_, rfl⟩
  have hb1 : Below w.heap.size w w1 := by
    rw [hw1]
    (repeat (first | with_reducible exact Below.refl _ _ | with_reducible assumption | refine Below.drew ?_ | refine below_drewN ?_ _ | (refine Below.alloc ?_ (by first | omega | (simp; done) | (simp; omega)) _) | (refine Below.setCell ?_ (by first | omega | (simp; done) | (simp; omega)) _) | (refine Below.trans ?_ (Below.mono (by assumption) (by first | omega | (simp; done) | (simp; omega))))))
  have q1 : w1.cell? ⟨w.heap.size, 0, none⟩ = some (.slice ao n cap) := by rw [hw1]; simp
  have r1 : w1.cell? ⟨w.heap.size + 1, 0, none⟩ = some (.slice none 0 0) := by rw [hw1]; simp
  have f1 : w1.frozen? ⟨w.heap.size + 1, 0, none⟩ = false := by rw [hw1]; exact World.frozen?_alloc_at _ _ _ _ (by simp)
  have hl2 : w.heap.size + 1 < w1.heap.size := by rw [hw1]; simp
  have hl1 : w.heap.size < w1.heap.size := by omega
  have hr1 := rd_below hr hb1
  cases h1 : layOk rows
  · have hR := hid (exR_bad (a := a) (b := b) h1)
    go_enter Try.func26, Try.ntmps26
    go_wp2_with fail
    rw [← hw1]
    clear hw1
    refine (lay_any ao n cap rows _ HN.out hr1 hs hm).mono ?_
    rw [h1]
    rintro e w2 ⟨rfl, hb2⟩
    have q2 := (hb2.cell (p := ⟨w.heap.size, 0, none⟩) hl1).trans q1
    have r2 := (hb2.cell (p := ⟨w.heap.size + 1, 0, none⟩) hl2).trans r1
    have f2 := (hb2.frozen (p := ⟨w.heap.size + 1, 0, none⟩) hl2).trans f1
    have hB2 := hb1.trans (hb2.mono hb1.size)
    have hl22 := Nat.lt_of_lt_of_le hl2 hb2.size
    have hl21 : w.heap.size < w2.heap.size := by omega
    have hr2 := rd_below hr1 hb2
    clear q1 r1 f1 hl1 hl2 hr1 hb1 hr hb2
    have hres : (w2.setCell ⟨w.heap.size + 1, 0, none⟩ (.slice none 0 0)).cell? ⟨w.heap.size + 1, 0, none⟩ = some (.slice none 0 0) := World.cell?_setCell_same _ _ _ r2
    go_wp2
    refine bodyPost_ret (v := .tuple #[.agg #[.slice none 0 0], .int .i64 1]) (by simp [results, Try.results26, go_sem, hres]) rfl ?_
    rw [hR.out]
    exact ⟨none, 0, rfl, ⟨rfl, .inl ⟨rfl, rfl⟩⟩, hB2.setCell (by simp) _⟩
  cases h2 : sgB a
  · have hR := hid (exR_let (b := b) h1 (by rw [h2]; rfl))
    go_enter Try.func26, Try.ntmps26
    go_wp2_with fail
    rw [← hw1]
    clear hw1
    refine (lay_any ao n cap rows _ HN.out hr1 hs hm).mono ?_
    rw [h1]
    rintro e w2 ⟨rfl, hb2⟩
    have q2 := (hb2.cell (p := ⟨w.heap.size, 0, none⟩) hl1).trans q1
    have r2 := (hb2.cell (p := ⟨w.heap.size + 1, 0, none⟩) hl2).trans r1
    have f2 := (hb2.frozen (p := ⟨w.heap.size + 1, 0, none⟩) hl2).trans f1
    have hB2 := hb1.trans (hb2.mono hb1.size)
    have hl22 := Nat.lt_of_lt_of_le hl2 hb2.size
    have hl21 : w.heap.size < w2.heap.size := by omega
    have hr2 := rd_below hr1 hb2
    clear q1 r1 f1 hl1 hl2 hr1 hb1 hr hb2
    go_wp2_with fail
    refine (isLet_b _ _ ha h2).mono ?_
    rintro e w' ⟨rfl, rfl⟩
    have hres : (w2.setCell ⟨w.heap.size + 1, 0, none⟩ (.slice none 0 0)).cell? ⟨w.heap.size + 1, 0, none⟩ = some (.slice none 0 0) := World.cell?_setCell_same _ _ _ r2
    go_wp2
    refine bodyPost_ret (v := .tuple #[.agg #[.slice none 0 0], .int .i64 2]) (by simp [results, Try.results26, go_sem, hres]) rfl ?_
    rw [hR.out]
    exact ⟨none, 0, rfl, ⟨rfl, .inl ⟨rfl, rfl⟩⟩, hB2.setCell (by simp) _⟩
  cases h3 : sgB b
  · have hR := hid (exR_let (a := a) (b := b) h1 (by rw [h2, h3]; rfl))
    go_enter Try.func26, Try.ntmps26
    go_wp2_with fail
    rw [← hw1]
    clear hw1
    refine (lay_any ao n cap rows _ HN.out hr1 hs hm).mono ?_
    rw [h1]
    rintro e w2 ⟨rfl, hb2⟩
    have q2 := (hb2.cell (p := ⟨w.heap.size, 0, none⟩) hl1).trans q1
    have r2 := (hb2.cell (p := ⟨w.heap.size + 1, 0, none⟩) hl2).trans r1
    have f2 := (hb2.frozen (p := ⟨w.heap.size + 1, 0, none⟩) hl2).trans f1
    have hB2 := hb1.trans (hb2.mono hb1.size)
    have hl22 := Nat.lt_of_lt_of_le hl2 hb2.size
    have hl21 : w.heap.size < w2.heap.size := by omega
    have hr2 := rd_below hr1 hb2
    clear q1 r1 f1 hl1 hl2 hr1 hb1 hr hb2
    go_wp2_with (go_at_call 41; refine (isLet_any _ _ (by first | exact ha | exact hb)).mono ?_; (first | rw [h2] | rw [h3]); rintro e w' ⟨rfl, rfl⟩)
    have hres : (w2.setCell ⟨w.heap.size + 1, 0, none⟩ (.slice none 0 0)).cell? ⟨w.heap.size + 1, 0, none⟩ = some (.slice none 0 0) := World.cell?_setCell_same _ _ _ r2
    refine bodyPost_ret (v := .tuple #[.agg #[.slice none 0 0], .int .i64 2]) (by simp [results, Try.results26, go_sem, hres]) rfl ?_
    rw [hR.out]
    exact ⟨none, 0, rfl, ⟨rfl, .inl ⟨rfl, rfl⟩⟩, hB2.setCell (by simp) _⟩
  have hza := sg_size h2
  have hzb := sg_size h3
  have ha0 : 0 < a.size := by omega
  have hb0 : 0 < b.size := by omega
  have hai : (0 : Int) < (a.size : Int) := by omega
  have hbi : (0 : Int) < (b.size : Int) := by omega
  have hhda := headB_get ha0
  have hhdb := headB_get hb0
  clear hza hzb
  cases hsa : spotOf rows (headB a) with
  | none =>
    cases hsb : spotOf rows (headB b) with
    | none =>
      have hR := hid (exR_none (a := a) (b := b) h1 (by rw [h2, h3]; rfl) (by rw [hsa, hsb]; rfl))
      rw [hhda] at hsa
      rw [hhdb] at hsb
      have HSA := hid hsa
      have HSB := hid hsb
      clear hsa hsb hhda hhdb
      go_enter Try.func26, Try.ntmps26
      go_wp2_with fail
      rw [← hw1]
      clear hw1
      refine (lay_any ao n cap rows _ HN.out hr1 hs hm).mono ?_
      rw [h1]
      rintro e w2 ⟨rfl, hb2⟩
      have q2 := (hb2.cell (p := ⟨w.heap.size, 0, none⟩) hl1).trans q1
      have r2 := (hb2.cell (p := ⟨w.heap.size + 1, 0, none⟩) hl2).trans r1
      have f2 := (hb2.frozen (p := ⟨w.heap.size + 1, 0, none⟩) hl2).trans f1
      have hB2 := hb1.trans (hb2.mono hb1.size)
      have hl22 := Nat.lt_of_lt_of_le hl2 hb2.size
      have hl21 : w.heap.size < w2.heap.size := by omega
      have hr2 := rd_below hr1 hb2
      clear q1 r1 f1 hl1 hl2 hr1 hb1 hr hb2
      go_wp2_with (go_at_call 41; refine (isLet_any _ _ (by first | exact ha | exact hb)).mono ?_; (first | rw [h2] | rw [h3]); rintro e w' ⟨rfl, rfl⟩)
      refine wp_region_over (by kernel_rfl) (by kernel_rfl) (fun hov => ?_)
      repeat (go_big_quiet_step (((go_at_call 42; exact overCall (spot_no _ n cap rows a[0] _ HN.out (rd_over hr2) hs hm HSA.out)))))
      refine wpQuiet_nil ?_
      intro w3 hb3
      clear hov
      have q3 := (hb3.cell (p := ⟨w.heap.size, 0, none⟩) hl21).trans q2
      have r3 := (hb3.cell (p := ⟨w.heap.size + 1, 0, none⟩) hl22).trans r2
      have f3 := (hb3.frozen (p := ⟨w.heap.size + 1, 0, none⟩) hl22).trans f2
      have hB3 := hB2.trans (hb3.mono hB2.size)
      have hr3 := rd_below hr2 hb3
      have hl32 := Nat.lt_of_lt_of_le hl22 hb3.size
      have hl31 : w.heap.size < w3.heap.size := by omega
      clear q2 r2 f2 hB2 hr2 hl22 hl21 hb3
      go_wp2_with fail
      refine wp_region_over (by kernel_rfl) (by kernel_rfl) (fun hov => ?_)
      repeat (go_big_quiet_step (((go_at_call 42; exact overCall (spot_no _ n cap rows b[0] _ HN.out (rd_over hr3) hs hm HSB.out)))))
      refine wpQuiet_nil ?_
      intro w4 hb4
      clear hov
      have q4 := (hb4.cell (p := ⟨w.heap.size, 0, none⟩) hl31).trans q3
      have r4 := (hb4.cell (p := ⟨w.heap.size + 1, 0, none⟩) hl32).trans r3
      have f4 := (hb4.frozen (p := ⟨w.heap.size + 1, 0, none⟩) hl32).trans f3
      have hB4 := hB3.trans (hb4.mono hB3.size)
      have hr4 := rd_below hr3 hb4
      have hl42 := Nat.lt_of_lt_of_le hl32 hb4.size
      have hl41 : w.heap.size < w4.heap.size := by omega
      clear q3 r3 f3 hB3 hr3 hl32 hl31 hb4
      have hres : (w4.setCell ⟨w.heap.size + 1, 0, none⟩ (.slice none 0 0)).cell? ⟨w.heap.size + 1, 0, none⟩ = some (.slice none 0 0) := World.cell?_setCell_same _ _ _ r4
      go_wp2
      refine bodyPost_ret (v := .tuple #[.agg #[.slice none 0 0], .int .i64 3]) (by simp [results, Try.results26, go_sem, hres]) rfl ?_
      rw [hR.out]
      exact ⟨none, 0, rfl, ⟨rfl, .inl ⟨rfl, rfl⟩⟩, hB4.setCell (by simp) _⟩
    | some rb =>
      obtain ⟨rb, cb⟩ := rb
      have hrb0 : (0 : Int) ≤ (rb : Int) := by omega
      have hrb1 : ¬ (rb : Int) < 0 := by omega
      have hR := hid (exR_none (a := a) (b := b) h1 (by rw [h2, h3]; rfl) (by rw [hsa, hsb]; rfl))
      rw [hhda] at hsa
      rw [hhdb] at hsb
      have HSA := hid hsa
      have HSB := hid hsb
      clear hsa hsb hhda hhdb
      go_enter Try.func26, Try.ntmps26
      go_wp2_with fail
      rw [← hw1]
      clear hw1
      refine (lay_any ao n cap rows _ HN.out hr1 hs hm).mono ?_
      rw [h1]
      rintro e w2 ⟨rfl, hb2⟩
      have q2 := (hb2.cell (p := ⟨w.heap.size, 0, none⟩) hl1).trans q1
      have r2 := (hb2.cell (p := ⟨w.heap.size + 1, 0, none⟩) hl2).trans r1
      have f2 := (hb2.frozen (p := ⟨w.heap.size + 1, 0, none⟩) hl2).trans f1
      have hB2 := hb1.trans (hb2.mono hb1.size)
      have hl22 := Nat.lt_of_lt_of_le hl2 hb2.size
      have hl21 : w.heap.size < w2.heap.size := by omega
      have hr2 := rd_below hr1 hb2
      clear q1 r1 f1 hl1 hl2 hr1 hb1 hr hb2
      go_wp2_with (go_at_call 41; refine (isLet_any _ _ (by first | exact ha | exact hb)).mono ?_; (first | rw [h2] | rw [h3]); rintro e w' ⟨rfl, rfl⟩)
      refine wp_region_over (by kernel_rfl) (by kernel_rfl) (fun hov => ?_)
      repeat (go_big_quiet_step (((go_at_call 42; exact overCall (spot_no _ n cap rows a[0] _ HN.out (rd_over hr2) hs hm HSA.out)))))
      refine wpQuiet_nil ?_
      intro w3 hb3
      clear hov
      have q3 := (hb3.cell (p := ⟨w.heap.size, 0, none⟩) hl21).trans q2
      have r3 := (hb3.cell (p := ⟨w.heap.size + 1, 0, none⟩) hl22).trans r2
      have f3 := (hb3.frozen (p := ⟨w.heap.size + 1, 0, none⟩) hl22).trans f2
      have hB3 := hB2.trans (hb3.mono hB2.size)
      have hr3 := rd_below hr2 hb3
      have hl32 := Nat.lt_of_lt_of_le hl22 hb3.size
      have hl31 : w.heap.size < w3.heap.size := by omega
      clear q2 r2 f2 hB2 hr2 hl22 hl21 hb3
      go_wp2_with fail
      refine wp_region_over (by kernel_rfl) (by kernel_rfl) (fun hov => ?_)
      repeat (go_big_quiet_step (((go_at_call 42; exact overCall (spot_yes _ n cap rows b[0] _ HN.out (rd_over hr3) hs hm HSB.out)))))
      refine wpQuiet_nil ?_
      intro w4 hb4
      clear hov
      have q4 := (hb4.cell (p := ⟨w.heap.size, 0, none⟩) hl31).trans q3
      have r4 := (hb4.cell (p := ⟨w.heap.size + 1, 0, none⟩) hl32).trans r3
      have f4 := (hb4.frozen (p := ⟨w.heap.size + 1, 0, none⟩) hl32).trans f3
      have hB4 := hB3.trans (hb4.mono hB3.size)
      have hr4 := rd_below hr3 hb4
      have hl42 := Nat.lt_of_lt_of_le hl32 hb4.size
      have hl41 : w.heap.size < w4.heap.size := by omega
      clear q3 r3 f3 hB3 hr3 hl32 hl31 hb4
      have hres : (w4.setCell ⟨w.heap.size + 1, 0, none⟩ (.slice none 0 0)).cell? ⟨w.heap.size + 1, 0, none⟩ = some (.slice none 0 0) := World.cell?_setCell_same _ _ _ r4
      go_wp2
      refine bodyPost_ret (v := .tuple #[.agg #[.slice none 0 0], .int .i64 3]) (by simp [results, Try.results26, go_sem, hres]) rfl ?_
      rw [hR.out]
      exact ⟨none, 0, rfl, ⟨rfl, .inl ⟨rfl, rfl⟩⟩, hB4.setCell (by simp) _⟩
  | some ra =>
    obtain ⟨ra, ca⟩ := ra
    have hra0 : (0 : Int) ≤ (ra : Int) := by omega
    have hra1 : ¬ (ra : Int) < 0 := by omega
    cases hsb : spotOf rows (headB b) with
    | none =>
      have hR := hid (exR_none (a := a) (b := b) h1 (by rw [h2, h3]; rfl) (by rw [hsa, hsb]; rfl))
      rw [hhda] at hsa
      rw [hhdb] at hsb
      have HSA := hid hsa
      have HSB := hid hsb
      clear hsa hsb hhda hhdb
      go_enter Try.func26, Try.ntmps26
      go_wp2_with fail
      rw [← hw1]
      clear hw1
      refine (lay_any ao n cap rows _ HN.out hr1 hs hm).mono ?_
      rw [h1]
      rintro e w2 ⟨rfl, hb2⟩
      have q2 := (hb2.cell (p := ⟨w.heap.size, 0, none⟩) hl1).trans q1
      have r2 := (hb2.cell (p := ⟨w.heap.size + 1, 0, none⟩) hl2).trans r1
      have f2 := (hb2.frozen (p := ⟨w.heap.size + 1, 0, none⟩) hl2).trans f1
      have hB2 := hb1.trans (hb2.mono hb1.size)
      have hl22 := Nat.lt_of_lt_of_le hl2 hb2.size
      have hl21 : w.heap.size < w2.heap.size := by omega
      have hr2 := rd_below hr1 hb2
      clear q1 r1 f1 hl1 hl2 hr1 hb1 hr hb2
      go_wp2_with (go_at_call 41; refine (isLet_any _ _ (by first | exact ha | exact hb)).mono ?_; (first | rw [h2] | rw [h3]); rintro e w' ⟨rfl, rfl⟩)
      refine wp_region_over (by kernel_rfl) (by kernel_rfl) (fun hov => ?_)
      repeat (go_big_quiet_step (((go_at_call 42; exact overCall (spot_yes _ n cap rows a[0] _ HN.out (rd_over hr2) hs hm HSA.out)))))
      refine wpQuiet_nil ?_
      intro w3 hb3
      clear hov
      have q3 := (hb3.cell (p := ⟨w.heap.size, 0, none⟩) hl21).trans q2
      have r3 := (hb3.cell (p := ⟨w.heap.size + 1, 0, none⟩) hl22).trans r2
      have f3 := (hb3.frozen (p := ⟨w.heap.size + 1, 0, none⟩) hl22).trans f2
      have hB3 := hB2.trans (hb3.mono hB2.size)
      have hr3 := rd_below hr2 hb3
      have hl32 := Nat.lt_of_lt_of_le hl22 hb3.size
      have hl31 : w.heap.size < w3.heap.size := by omega
      clear q2 r2 f2 hB2 hr2 hl22 hl21 hb3
      go_wp2_with fail
      refine wp_region_over (by kernel_rfl) (by kernel_rfl) (fun hov => ?_)
      repeat (go_big_quiet_step (((go_at_call 42; exact overCall (spot_no _ n cap rows b[0] _ HN.out (rd_over hr3) hs hm HSB.out)))))
      refine wpQuiet_nil ?_
      intro w4 hb4
      clear hov
      have q4 := (hb4.cell (p := ⟨w.heap.size, 0, none⟩) hl31).trans q3
      have r4 := (hb4.cell (p := ⟨w.heap.size + 1, 0, none⟩) hl32).trans r3
      have f4 := (hb4.frozen (p := ⟨w.heap.size + 1, 0, none⟩) hl32).trans f3
      have hB4 := hB3.trans (hb4.mono hB3.size)
      have hr4 := rd_below hr3 hb4
      have hl42 := Nat.lt_of_lt_of_le hl32 hb4.size
      have hl41 : w.heap.size < w4.heap.size := by omega
      clear q3 r3 f3 hB3 hr3 hl32 hl31 hb4
      have hres : (w4.setCell ⟨w.heap.size + 1, 0, none⟩ (.slice none 0 0)).cell? ⟨w.heap.size + 1, 0, none⟩ = some (.slice none 0 0) := World.cell?_setCell_same _ _ _ r4
      go_wp2
      refine bodyPost_ret (v := .tuple #[.agg #[.slice none 0 0], .int .i64 3]) (by simp [results, Try.results26, go_sem, hres]) rfl ?_
      rw [hR.out]
      exact ⟨none, 0, rfl, ⟨rfl, .inl ⟨rfl, rfl⟩⟩, hB4.setCell (by simp) _⟩
    | some rb =>
      obtain ⟨rb, cb⟩ := rb
      have hrb0 : (0 : Int) ≤ (rb : Int) := by omega
      have hrb1 : ¬ (rb : Int) < 0 := by omega
      have hR := hid (exR_ok (a := a) (b := b) h1 (by rw [h2, h3]; rfl) (by rw [hsa, hsb]; rfl))
      rw [hhda, hhdb] at hR
      rw [hhda] at hsa
      rw [hhdb] at hsb
      have HSA := hid hsa
      have HSB := hid hsb
      clear hsa hsb hhda hhdb
      go_enter Try.func26, Try.ntmps26
      go_wp2_with fail
      rw [← hw1]
      clear hw1
      refine (lay_any ao n cap rows _ HN.out hr1 hs hm).mono ?_
      rw [h1]
      rintro e w2 ⟨rfl, hb2⟩
      have q2 := (hb2.cell (p := ⟨w.heap.size, 0, none⟩) hl1).trans q1
      have r2 := (hb2.cell (p := ⟨w.heap.size + 1, 0, none⟩) hl2).trans r1
      have f2 := (hb2.frozen (p := ⟨w.heap.size + 1, 0, none⟩) hl2).trans f1
      have hB2 := hb1.trans (hb2.mono hb1.size)
      have hl22 := Nat.lt_of_lt_of_le hl2 hb2.size
      have hl21 : w.heap.size < w2.heap.size := by omega
      have hr2 := rd_below hr1 hb2
      clear q1 r1 f1 hl1 hl2 hr1 hb1 hr hb2
      go_wp2_with (go_at_call 41; refine (isLet_any _ _ (by first | exact ha | exact hb)).mono ?_; (first | rw [h2] | rw [h3]); rintro e w' ⟨rfl, rfl⟩)
      refine wp_region_over (by kernel_rfl) (by kernel_rfl) (fun hov => ?_)
      repeat (go_big_quiet_step (((go_at_call 42; exact overCall (spot_yes _ n cap rows a[0] _ HN.out (rd_over hr2) hs hm HSA.out)))))
      refine wpQuiet_nil ?_
      intro w3 hb3
      clear hov
      have q3 := (hb3.cell (p := ⟨w.heap.size, 0, none⟩) hl21).trans q2
      have r3 := (hb3.cell (p := ⟨w.heap.size + 1, 0, none⟩) hl22).trans r2
      have f3 := (hb3.frozen (p := ⟨w.heap.size + 1, 0, none⟩) hl22).trans f2
      have hB3 := hB2.trans (hb3.mono hB2.size)
      have hr3 := rd_below hr2 hb3
      have hl32 := Nat.lt_of_lt_of_le hl22 hb3.size
      have hl31 : w.heap.size < w3.heap.size := by omega
      clear q2 r2 f2 hB2 hr2 hl22 hl21 hb3
      go_wp2_with fail
      refine wp_region_over (by kernel_rfl) (by kernel_rfl) (fun hov => ?_)
      repeat (go_big_quiet_step (((go_at_call 42; exact overCall (spot_yes _ n cap rows b[0] _ HN.out (rd_over hr3) hs hm HSB.out)))))
      refine wpQuiet_nil ?_
      intro w4 hb4
      clear hov
      have q4 := (hb4.cell (p := ⟨w.heap.size, 0, none⟩) hl31).trans q3
      have r4 := (hb4.cell (p := ⟨w.heap.size + 1, 0, none⟩) hl32).trans r3
      have f4 := (hb4.frozen (p := ⟨w.heap.size + 1, 0, none⟩) hl32).trans f3
      have hB4 := hB3.trans (hb4.mono hB3.size)
      have hr4 := rd_below hr3 hb4
      have hl42 := Nat.lt_of_lt_of_le hl32 hb4.size
      have hl41 : w.heap.size < w4.heap.size := by omega
      clear q3 r3 f3 hB3 hr3 hl32 hl31 hb4
      go_wp2_with fail
      go_region_held3 (fun W => Below w.heap.size w W ∧ W.cell? ⟨w.heap.size, 0, none⟩ = some (.slice ao n cap)) (first | exact ⟨hB4.drew, q4⟩ | exact ⟨hB5, q5⟩ | exact ⟨hB5.setCell (by simp) _, (World.cell?_setCell_other _ _ _ _ (by simp)).trans q5⟩) (first | (go_at_call 52; refine (exch_any ao n cap rows a[0] b[0] w4.drew HN.out (rd_below hr4 (Below.refl _ _).drew) (lay_le h1) (lay_4 HN.out h1)).mono ?_; rintro e w5 ⟨po, pc, rfl, hown5, hb5⟩; have hb45 : Below w4.heap.size w4 w5 := (by first | exact hb5 | exact ((Below.refl _ _).drew).trans (hb5.mono (Nat.le_refl _))); have q5 := (hb45.cell (p := ⟨w.heap.size, 0, none⟩) hl41).trans q4; have r5 := (hb45.cell (p := ⟨w.heap.size + 1, 0, none⟩) hl42).trans r4; have f5 := (hb45.frozen (p := ⟨w.heap.size + 1, 0, none⟩) hl42).trans f4; have hB5 := hB4.trans (hb45.mono hB4.size)))
      all_goals (
        have hres : (w5.setCell ⟨w.heap.size + 1, 0, none⟩ (.slice po n pc)).cell? ⟨w.heap.size + 1, 0, none⟩ = some (.slice po n pc) := World.cell?_setCell_same _ _ _ r5
        try go_wp2
        refine bodyPost_ret (v := .tuple #[.agg #[.slice po n pc], .int .i64 0]) (by simp [results, Try.results26, go_sem, hres]) rfl ?_
        rw [hR.out]
        have e : n = (exL rows a[0] b[0]).length := by rw [exL_len]; exact HN.out
        have hown6 := owns_mono (ownsRow_setCell_below hown5 (a := ⟨w.heap.size + 1, 0, none⟩) (by simpa using hl42) (.slice po n pc)) (show w.heap.size ≤ _ by simp; omega)
        refine ⟨po, pc, by rw [← e], ?_, hB5.setCell (by simp) _⟩
        rw [← e]
        exact hown6)
set_option maxRecDepth 100000 in
set_option maxHeartbeats 600000 in
theorem sExLet_any (ao : Option Addr) (n cap : Nat) (rows : List ByteArray) (a b : ByteArray) (w : World) (ha : a.size ≤ maxLen) (hb : b.size ≤ maxLen) (hn : n = rows.length) (hr : Rd w ao (strs rows)) (hs : ∀ x ∈ rows, x.size ≤ maxLen) (hm : n ≤ 1048576) :
    Calls Try.prog 25 #[.agg #[.slice ao n cap], .string a, .string b] w (LyRet2 w.heap.size w (exR rows a b).1 (exR rows a b).2) := by
  have HN := hid hn
  clear hn
  obtain ⟨w1, hw1⟩ : ∃ w1, w1 = (w.alloc (.cells #[.slice ao n cap] 28)).alloc (.cells #[.slice none 0 0] 28) := ⟨_, rfl⟩
  have hb1 : Below w.heap.size w w1 := by
    rw [hw1]
    (repeat (first | with_reducible exact Below.refl _ _ | with_reducible assumption | refine Below.drew ?_ | refine below_drewN ?_ _ | (refine Below.alloc ?_ (by first | omega | (simp; done) | (simp; omega)) _) | (refine Below.setCell ?_ (by first | omega | (simp; done) | (simp; omega)) _) | (refine Below.trans ?_ (Below.mono (by assumption) (by first | omega | (simp; done) | (simp; omega))))))
  have q1 : w1.cell? ⟨w.heap.size, 0, none⟩ = some (.slice ao n cap) := by rw [hw1]; simp
  have r1 : w1.cell? ⟨w.heap.size + 1, 0, none⟩ = some (.slice none 0 0) := by rw [hw1]; simp
  have f1 : w1.frozen? ⟨w.heap.size + 1, 0, none⟩ = false := by rw [hw1]; exact World.frozen?_alloc_at _ _ _ _ (by simp)
  have hl2 : w.heap.size + 1 < w1.heap.size := by rw [hw1]; simp
  have hl1 : w.heap.size < w1.heap.size := by omega
  have hr1 := rd_below hr hb1
  cases h1 : layOk rows
  · have hR := hid (exR_bad (a := a) (b := b) h1)
    go_enter Try.func25, Try.ntmps25
    go_wp2_with fail
    rw [← hw1]
    clear hw1
    refine (sLay_any w.heap.size 0 ao n cap rows _ ⟨hl1, q1⟩ HN.out hr1 hs hm).mono ?_
    rw [h1]
    rintro e w2 ⟨rfl, hb2⟩
    have q2 := (hb2.cell (p := ⟨w.heap.size, 0, none⟩) hl1).trans q1
    have r2 := (hb2.cell (p := ⟨w.heap.size + 1, 0, none⟩) hl2).trans r1
    have f2 := (hb2.frozen (p := ⟨w.heap.size + 1, 0, none⟩) hl2).trans f1
    have hB2 := hb1.trans (hb2.mono hb1.size)
    have hl22 := Nat.lt_of_lt_of_le hl2 hb2.size
    have hl21 : w.heap.size < w2.heap.size := by omega
    have hr2 := rd_below hr1 hb2
    clear q1 r1 f1 hl1 hl2 hr1 hb1 hr hb2
    have hres : (w2.setCell ⟨w.heap.size + 1, 0, none⟩ (.slice none 0 0)).cell? ⟨w.heap.size + 1, 0, none⟩ = some (.slice none 0 0) := World.cell?_setCell_same _ _ _ r2
    go_wp2
    refine bodyPost_ret (v := .tuple #[.agg #[.slice none 0 0], .int .i64 1]) (by simp [results, Try.results25, go_sem, hres]) rfl ?_
    rw [hR.out]
    exact ⟨none, 0, rfl, ⟨rfl, .inl ⟨rfl, rfl⟩⟩, hB2.setCell (by simp) _⟩
  cases h2 : sgB a
  · have hR := hid (exR_let (b := b) h1 (by rw [h2]; rfl))
    go_enter Try.func25, Try.ntmps25
    go_wp2_with fail
    rw [← hw1]
    clear hw1
    refine (sLay_any w.heap.size 0 ao n cap rows _ ⟨hl1, q1⟩ HN.out hr1 hs hm).mono ?_
    rw [h1]
    rintro e w2 ⟨rfl, hb2⟩
    have q2 := (hb2.cell (p := ⟨w.heap.size, 0, none⟩) hl1).trans q1
    have r2 := (hb2.cell (p := ⟨w.heap.size + 1, 0, none⟩) hl2).trans r1
    have f2 := (hb2.frozen (p := ⟨w.heap.size + 1, 0, none⟩) hl2).trans f1
    have hB2 := hb1.trans (hb2.mono hb1.size)
    have hl22 := Nat.lt_of_lt_of_le hl2 hb2.size
    have hl21 : w.heap.size < w2.heap.size := by omega
    have hr2 := rd_below hr1 hb2
    clear q1 r1 f1 hl1 hl2 hr1 hb1 hr hb2
    go_wp2_with fail
    refine (sLetter_b _ _ ha h2).mono ?_
    rintro e w' ⟨rfl, rfl⟩
    have hres : (w2.setCell ⟨w.heap.size + 1, 0, none⟩ (.slice none 0 0)).cell? ⟨w.heap.size + 1, 0, none⟩ = some (.slice none 0 0) := World.cell?_setCell_same _ _ _ r2
    go_wp2
    refine bodyPost_ret (v := .tuple #[.agg #[.slice none 0 0], .int .i64 2]) (by simp [results, Try.results25, go_sem, hres]) rfl ?_
    rw [hR.out]
    exact ⟨none, 0, rfl, ⟨rfl, .inl ⟨rfl, rfl⟩⟩, hB2.setCell (by simp) _⟩
  cases h3 : sgB b
  · have hR := hid (exR_let (a := a) (b := b) h1 (by rw [h2, h3]; rfl))
    go_enter Try.func25, Try.ntmps25
    go_wp2_with fail
    rw [← hw1]
    clear hw1
    refine (sLay_any w.heap.size 0 ao n cap rows _ ⟨hl1, q1⟩ HN.out hr1 hs hm).mono ?_
    rw [h1]
    rintro e w2 ⟨rfl, hb2⟩
    have q2 := (hb2.cell (p := ⟨w.heap.size, 0, none⟩) hl1).trans q1
    have r2 := (hb2.cell (p := ⟨w.heap.size + 1, 0, none⟩) hl2).trans r1
    have f2 := (hb2.frozen (p := ⟨w.heap.size + 1, 0, none⟩) hl2).trans f1
    have hB2 := hb1.trans (hb2.mono hb1.size)
    have hl22 := Nat.lt_of_lt_of_le hl2 hb2.size
    have hl21 : w.heap.size < w2.heap.size := by omega
    have hr2 := rd_below hr1 hb2
    clear q1 r1 f1 hl1 hl2 hr1 hb1 hr hb2
    go_wp2_with (go_at_call 37; refine (sLetter_any _ _ (by first | exact ha | exact hb)).mono ?_; (first | rw [h2] | rw [h3]); rintro e w' ⟨rfl, rfl⟩)
    have hres : (w2.setCell ⟨w.heap.size + 1, 0, none⟩ (.slice none 0 0)).cell? ⟨w.heap.size + 1, 0, none⟩ = some (.slice none 0 0) := World.cell?_setCell_same _ _ _ r2
    refine bodyPost_ret (v := .tuple #[.agg #[.slice none 0 0], .int .i64 2]) (by simp [results, Try.results25, go_sem, hres]) rfl ?_
    rw [hR.out]
    exact ⟨none, 0, rfl, ⟨rfl, .inl ⟨rfl, rfl⟩⟩, hB2.setCell (by simp) _⟩
  have hza := sg_size h2
  have hzb := sg_size h3
  have ha0 : 0 < a.size := by omega
  have hb0 : 0 < b.size := by omega
  have hai : (0 : Int) < (a.size : Int) := by omega
  have hbi : (0 : Int) < (b.size : Int) := by omega
  have hhda := headB_get ha0
  have hhdb := headB_get hb0
  clear hza hzb
  cases hsa : spotOf rows (headB a) with
  | none =>
    cases hsb : spotOf rows (headB b) with
    | none =>
      have hR := hid (exR_none (a := a) (b := b) h1 (by rw [h2, h3]; rfl) (by rw [hsa, hsb]; rfl))
      rw [hhda] at hsa
      rw [hhdb] at hsb
      have HSA := hid hsa
      have HSB := hid hsb
      clear hsa hsb hhda hhdb
      go_enter Try.func25, Try.ntmps25
      go_wp2_with fail
      rw [← hw1]
      clear hw1
      refine (sLay_any w.heap.size 0 ao n cap rows _ ⟨hl1, q1⟩ HN.out hr1 hs hm).mono ?_
      rw [h1]
      rintro e w2 ⟨rfl, hb2⟩
      have q2 := (hb2.cell (p := ⟨w.heap.size, 0, none⟩) hl1).trans q1
      have r2 := (hb2.cell (p := ⟨w.heap.size + 1, 0, none⟩) hl2).trans r1
      have f2 := (hb2.frozen (p := ⟨w.heap.size + 1, 0, none⟩) hl2).trans f1
      have hB2 := hb1.trans (hb2.mono hb1.size)
      have hl22 := Nat.lt_of_lt_of_le hl2 hb2.size
      have hl21 : w.heap.size < w2.heap.size := by omega
      have hr2 := rd_below hr1 hb2
      clear q1 r1 f1 hl1 hl2 hr1 hb1 hr hb2
      go_wp2_with (go_at_call 37; refine (sLetter_any _ _ (by first | exact ha | exact hb)).mono ?_; (first | rw [h2] | rw [h3]); rintro e w' ⟨rfl, rfl⟩)
      go_quiet ((go_at_call 38; exact qs (sAt_none _ n cap rows a[0] _ HN.out (rd_drewN hr2 _) hs hm HSA.out)))
      obtain ⟨w3, hw3⟩ : ∃ w3, w3 = w2.drewN nq := ⟨_, rfl⟩
      have q3 : w3.cell? ⟨w.heap.size, 0, none⟩ = some (.slice ao n cap) := by rw [hw3]; exact q2
      have r3 : w3.cell? ⟨w.heap.size + 1, 0, none⟩ = some (.slice none 0 0) := by rw [hw3]; exact r2
      have f3 : w3.frozen? ⟨w.heap.size + 1, 0, none⟩ = false := by rw [hw3]; exact f2
      have hB3 : Below w.heap.size w w3 := by rw [hw3]; exact below_drewN hB2 _
      have hr3 : Rd w3 ao (strs rows) := by rw [hw3]; exact rd_drewN hr2 _
      have hl32 : w.heap.size + 1 < w3.heap.size := by rw [hw3]; exact hl22
      have hl31 : w.heap.size < w3.heap.size := by omega
      rw [← hw3]
      clear hw3 q2 r2 f2 hB2 hr2 hl22 hl21
      go_wp2_with fail
      go_quiet ((go_at_call 38; exact qs (sAt_none _ n cap rows b[0] _ HN.out (rd_drewN hr3 _) hs hm HSB.out)))
      obtain ⟨w4, hw4⟩ : ∃ w4, w4 = w3.drewN nq := ⟨_, rfl⟩
      have q4 : w4.cell? ⟨w.heap.size, 0, none⟩ = some (.slice ao n cap) := by rw [hw4]; exact q3
      have r4 : w4.cell? ⟨w.heap.size + 1, 0, none⟩ = some (.slice none 0 0) := by rw [hw4]; exact r3
      have f4 : w4.frozen? ⟨w.heap.size + 1, 0, none⟩ = false := by rw [hw4]; exact f3
      have hB4 : Below w.heap.size w w4 := by rw [hw4]; exact below_drewN hB3 _
      have hr4 : Rd w4 ao (strs rows) := by rw [hw4]; exact rd_drewN hr3 _
      have hl42 : w.heap.size + 1 < w4.heap.size := by rw [hw4]; exact hl32
      have hl41 : w.heap.size < w4.heap.size := by omega
      rw [← hw4]
      clear hw4 q3 r3 f3 hB3 hr3 hl32 hl31
      have hres : (w4.setCell ⟨w.heap.size + 1, 0, none⟩ (.slice none 0 0)).cell? ⟨w.heap.size + 1, 0, none⟩ = some (.slice none 0 0) := World.cell?_setCell_same _ _ _ r4
      go_wp2
      refine bodyPost_ret (v := .tuple #[.agg #[.slice none 0 0], .int .i64 3]) (by simp [results, Try.results25, go_sem, hres]) rfl ?_
      rw [hR.out]
      exact ⟨none, 0, rfl, ⟨rfl, .inl ⟨rfl, rfl⟩⟩, hB4.setCell (by simp) _⟩
    | some rb =>
      obtain ⟨rb, cb⟩ := rb
      have hrb0 : (0 : Int) ≤ (rb : Int) := by omega
      have hrb1 : ¬ (rb : Int) < 0 := by omega
      have hR := hid (exR_none (a := a) (b := b) h1 (by rw [h2, h3]; rfl) (by rw [hsa, hsb]; rfl))
      rw [hhda] at hsa
      rw [hhdb] at hsb
      have HSA := hid hsa
      have HSB := hid hsb
      clear hsa hsb hhda hhdb
      go_enter Try.func25, Try.ntmps25
      go_wp2_with fail
      rw [← hw1]
      clear hw1
      refine (sLay_any w.heap.size 0 ao n cap rows _ ⟨hl1, q1⟩ HN.out hr1 hs hm).mono ?_
      rw [h1]
      rintro e w2 ⟨rfl, hb2⟩
      have q2 := (hb2.cell (p := ⟨w.heap.size, 0, none⟩) hl1).trans q1
      have r2 := (hb2.cell (p := ⟨w.heap.size + 1, 0, none⟩) hl2).trans r1
      have f2 := (hb2.frozen (p := ⟨w.heap.size + 1, 0, none⟩) hl2).trans f1
      have hB2 := hb1.trans (hb2.mono hb1.size)
      have hl22 := Nat.lt_of_lt_of_le hl2 hb2.size
      have hl21 : w.heap.size < w2.heap.size := by omega
      have hr2 := rd_below hr1 hb2
      clear q1 r1 f1 hl1 hl2 hr1 hb1 hr hb2
      go_wp2_with (go_at_call 37; refine (sLetter_any _ _ (by first | exact ha | exact hb)).mono ?_; (first | rw [h2] | rw [h3]); rintro e w' ⟨rfl, rfl⟩)
      go_quiet ((go_at_call 38; exact qs (sAt_none _ n cap rows a[0] _ HN.out (rd_drewN hr2 _) hs hm HSA.out)))
      obtain ⟨w3, hw3⟩ : ∃ w3, w3 = w2.drewN nq := ⟨_, rfl⟩
      have q3 : w3.cell? ⟨w.heap.size, 0, none⟩ = some (.slice ao n cap) := by rw [hw3]; exact q2
      have r3 : w3.cell? ⟨w.heap.size + 1, 0, none⟩ = some (.slice none 0 0) := by rw [hw3]; exact r2
      have f3 : w3.frozen? ⟨w.heap.size + 1, 0, none⟩ = false := by rw [hw3]; exact f2
      have hB3 : Below w.heap.size w w3 := by rw [hw3]; exact below_drewN hB2 _
      have hr3 : Rd w3 ao (strs rows) := by rw [hw3]; exact rd_drewN hr2 _
      have hl32 : w.heap.size + 1 < w3.heap.size := by rw [hw3]; exact hl22
      have hl31 : w.heap.size < w3.heap.size := by omega
      rw [← hw3]
      clear hw3 q2 r2 f2 hB2 hr2 hl22 hl21
      go_wp2_with fail
      go_quiet ((go_at_call 38; exact qs (sAt_some _ n cap rows b[0] _ HN.out (rd_drewN hr3 _) hs hm HSB.out)))
      obtain ⟨w4, hw4⟩ : ∃ w4, w4 = w3.drewN nq := ⟨_, rfl⟩
      have q4 : w4.cell? ⟨w.heap.size, 0, none⟩ = some (.slice ao n cap) := by rw [hw4]; exact q3
      have r4 : w4.cell? ⟨w.heap.size + 1, 0, none⟩ = some (.slice none 0 0) := by rw [hw4]; exact r3
      have f4 : w4.frozen? ⟨w.heap.size + 1, 0, none⟩ = false := by rw [hw4]; exact f3
      have hB4 : Below w.heap.size w w4 := by rw [hw4]; exact below_drewN hB3 _
      have hr4 : Rd w4 ao (strs rows) := by rw [hw4]; exact rd_drewN hr3 _
      have hl42 : w.heap.size + 1 < w4.heap.size := by rw [hw4]; exact hl32
      have hl41 : w.heap.size < w4.heap.size := by omega
      rw [← hw4]
      clear hw4 q3 r3 f3 hB3 hr3 hl32 hl31
      have hres : (w4.setCell ⟨w.heap.size + 1, 0, none⟩ (.slice none 0 0)).cell? ⟨w.heap.size + 1, 0, none⟩ = some (.slice none 0 0) := World.cell?_setCell_same _ _ _ r4
      go_wp2
      refine bodyPost_ret (v := .tuple #[.agg #[.slice none 0 0], .int .i64 3]) (by simp [results, Try.results25, go_sem, hres]) rfl ?_
      rw [hR.out]
      exact ⟨none, 0, rfl, ⟨rfl, .inl ⟨rfl, rfl⟩⟩, hB4.setCell (by simp) _⟩
  | some ra =>
    obtain ⟨ra, ca⟩ := ra
    have hra0 : (0 : Int) ≤ (ra : Int) := by omega
    have hra1 : ¬ (ra : Int) < 0 := by omega
    cases hsb : spotOf rows (headB b) with
    | none =>
      have hR := hid (exR_none (a := a) (b := b) h1 (by rw [h2, h3]; rfl) (by rw [hsa, hsb]; rfl))
      rw [hhda] at hsa
      rw [hhdb] at hsb
      have HSA := hid hsa
      have HSB := hid hsb
      clear hsa hsb hhda hhdb
      go_enter Try.func25, Try.ntmps25
      go_wp2_with fail
      rw [← hw1]
      clear hw1
      refine (sLay_any w.heap.size 0 ao n cap rows _ ⟨hl1, q1⟩ HN.out hr1 hs hm).mono ?_
      rw [h1]
      rintro e w2 ⟨rfl, hb2⟩
      have q2 := (hb2.cell (p := ⟨w.heap.size, 0, none⟩) hl1).trans q1
      have r2 := (hb2.cell (p := ⟨w.heap.size + 1, 0, none⟩) hl2).trans r1
      have f2 := (hb2.frozen (p := ⟨w.heap.size + 1, 0, none⟩) hl2).trans f1
      have hB2 := hb1.trans (hb2.mono hb1.size)
      have hl22 := Nat.lt_of_lt_of_le hl2 hb2.size
      have hl21 : w.heap.size < w2.heap.size := by omega
      have hr2 := rd_below hr1 hb2
      clear q1 r1 f1 hl1 hl2 hr1 hb1 hr hb2
      go_wp2_with (go_at_call 37; refine (sLetter_any _ _ (by first | exact ha | exact hb)).mono ?_; (first | rw [h2] | rw [h3]); rintro e w' ⟨rfl, rfl⟩)
      go_quiet ((go_at_call 38; exact qs (sAt_some _ n cap rows a[0] _ HN.out (rd_drewN hr2 _) hs hm HSA.out)))
      obtain ⟨w3, hw3⟩ : ∃ w3, w3 = w2.drewN nq := ⟨_, rfl⟩
      have q3 : w3.cell? ⟨w.heap.size, 0, none⟩ = some (.slice ao n cap) := by rw [hw3]; exact q2
      have r3 : w3.cell? ⟨w.heap.size + 1, 0, none⟩ = some (.slice none 0 0) := by rw [hw3]; exact r2
      have f3 : w3.frozen? ⟨w.heap.size + 1, 0, none⟩ = false := by rw [hw3]; exact f2
      have hB3 : Below w.heap.size w w3 := by rw [hw3]; exact below_drewN hB2 _
      have hr3 : Rd w3 ao (strs rows) := by rw [hw3]; exact rd_drewN hr2 _
      have hl32 : w.heap.size + 1 < w3.heap.size := by rw [hw3]; exact hl22
      have hl31 : w.heap.size < w3.heap.size := by omega
      rw [← hw3]
      clear hw3 q2 r2 f2 hB2 hr2 hl22 hl21
      go_wp2_with fail
      go_quiet ((go_at_call 38; exact qs (sAt_none _ n cap rows b[0] _ HN.out (rd_drewN hr3 _) hs hm HSB.out)))
      obtain ⟨w4, hw4⟩ : ∃ w4, w4 = w3.drewN nq := ⟨_, rfl⟩
      have q4 : w4.cell? ⟨w.heap.size, 0, none⟩ = some (.slice ao n cap) := by rw [hw4]; exact q3
      have r4 : w4.cell? ⟨w.heap.size + 1, 0, none⟩ = some (.slice none 0 0) := by rw [hw4]; exact r3
      have f4 : w4.frozen? ⟨w.heap.size + 1, 0, none⟩ = false := by rw [hw4]; exact f3
      have hB4 : Below w.heap.size w w4 := by rw [hw4]; exact below_drewN hB3 _
      have hr4 : Rd w4 ao (strs rows) := by rw [hw4]; exact rd_drewN hr3 _
      have hl42 : w.heap.size + 1 < w4.heap.size := by rw [hw4]; exact hl32
      have hl41 : w.heap.size < w4.heap.size := by omega
      rw [← hw4]
      clear hw4 q3 r3 f3 hB3 hr3 hl32 hl31
      have hres : (w4.setCell ⟨w.heap.size + 1, 0, none⟩ (.slice none 0 0)).cell? ⟨w.heap.size + 1, 0, none⟩ = some (.slice none 0 0) := World.cell?_setCell_same _ _ _ r4
      go_wp2
      refine bodyPost_ret (v := .tuple #[.agg #[.slice none 0 0], .int .i64 3]) (by simp [results, Try.results25, go_sem, hres]) rfl ?_
      rw [hR.out]
      exact ⟨none, 0, rfl, ⟨rfl, .inl ⟨rfl, rfl⟩⟩, hB4.setCell (by simp) _⟩
    | some rb =>
      obtain ⟨rb, cb⟩ := rb
      have hrb0 : (0 : Int) ≤ (rb : Int) := by omega
      have hrb1 : ¬ (rb : Int) < 0 := by omega
      have hR := hid (exR_ok (a := a) (b := b) h1 (by rw [h2, h3]; rfl) (by rw [hsa, hsb]; rfl))
      rw [hhda, hhdb] at hR
      rw [hhda] at hsa
      rw [hhdb] at hsb
      have HSA := hid hsa
      have HSB := hid hsb
      clear hsa hsb hhda hhdb
      go_enter Try.func25, Try.ntmps25
      go_wp2_with fail
      rw [← hw1]
      clear hw1
      refine (sLay_any w.heap.size 0 ao n cap rows _ ⟨hl1, q1⟩ HN.out hr1 hs hm).mono ?_
      rw [h1]
      rintro e w2 ⟨rfl, hb2⟩
      have q2 := (hb2.cell (p := ⟨w.heap.size, 0, none⟩) hl1).trans q1
      have r2 := (hb2.cell (p := ⟨w.heap.size + 1, 0, none⟩) hl2).trans r1
      have f2 := (hb2.frozen (p := ⟨w.heap.size + 1, 0, none⟩) hl2).trans f1
      have hB2 := hb1.trans (hb2.mono hb1.size)
      have hl22 := Nat.lt_of_lt_of_le hl2 hb2.size
      have hl21 : w.heap.size < w2.heap.size := by omega
      have hr2 := rd_below hr1 hb2
      clear q1 r1 f1 hl1 hl2 hr1 hb1 hr hb2
      go_wp2_with (go_at_call 37; refine (sLetter_any _ _ (by first | exact ha | exact hb)).mono ?_; (first | rw [h2] | rw [h3]); rintro e w' ⟨rfl, rfl⟩)
      go_quiet ((go_at_call 38; exact qs (sAt_some _ n cap rows a[0] _ HN.out (rd_drewN hr2 _) hs hm HSA.out)))
      obtain ⟨w3, hw3⟩ : ∃ w3, w3 = w2.drewN nq := ⟨_, rfl⟩
      have q3 : w3.cell? ⟨w.heap.size, 0, none⟩ = some (.slice ao n cap) := by rw [hw3]; exact q2
      have r3 : w3.cell? ⟨w.heap.size + 1, 0, none⟩ = some (.slice none 0 0) := by rw [hw3]; exact r2
      have f3 : w3.frozen? ⟨w.heap.size + 1, 0, none⟩ = false := by rw [hw3]; exact f2
      have hB3 : Below w.heap.size w w3 := by rw [hw3]; exact below_drewN hB2 _
      have hr3 : Rd w3 ao (strs rows) := by rw [hw3]; exact rd_drewN hr2 _
      have hl32 : w.heap.size + 1 < w3.heap.size := by rw [hw3]; exact hl22
      have hl31 : w.heap.size < w3.heap.size := by omega
      rw [← hw3]
      clear hw3 q2 r2 f2 hB2 hr2 hl22 hl21
      go_wp2_with fail
      go_quiet ((go_at_call 38; exact qs (sAt_some _ n cap rows b[0] _ HN.out (rd_drewN hr3 _) hs hm HSB.out)))
      obtain ⟨w4, hw4⟩ : ∃ w4, w4 = w3.drewN nq := ⟨_, rfl⟩
      have q4 : w4.cell? ⟨w.heap.size, 0, none⟩ = some (.slice ao n cap) := by rw [hw4]; exact q3
      have r4 : w4.cell? ⟨w.heap.size + 1, 0, none⟩ = some (.slice none 0 0) := by rw [hw4]; exact r3
      have f4 : w4.frozen? ⟨w.heap.size + 1, 0, none⟩ = false := by rw [hw4]; exact f3
      have hB4 : Below w.heap.size w w4 := by rw [hw4]; exact below_drewN hB3 _
      have hr4 : Rd w4 ao (strs rows) := by rw [hw4]; exact rd_drewN hr3 _
      have hl42 : w.heap.size + 1 < w4.heap.size := by rw [hw4]; exact hl32
      have hl41 : w.heap.size < w4.heap.size := by omega
      rw [← hw4]
      clear hw4 q3 r3 f3 hB3 hr3 hl32 hl31
      go_wp2_with fail
      go_region_held3 (fun W => Below w.heap.size w W ∧ W.cell? ⟨w.heap.size, 0, none⟩ = some (.slice ao n cap)) (first | exact ⟨hB4.drew, q4⟩ | exact ⟨hB5, q5⟩ | exact ⟨hB5.setCell (by simp) _, (World.cell?_setCell_other _ _ _ _ (by simp)).trans q5⟩) (first | (go_at_call 51; refine (sExch_any w.heap.size ao n cap rows a[0] b[0] w4.drew ⟨hl41, q4⟩ HN.out (rd_below hr4 (Below.refl _ _).drew) (lay_le h1) (lay_4 HN.out h1)).mono ?_; rintro e w5 ⟨po, pc, rfl, hown5, hb5⟩; have hb45 : Below w4.heap.size w4 w5 := (by first | exact hb5 | exact ((Below.refl _ _).drew).trans (hb5.mono (Nat.le_refl _))); have q5 := (hb45.cell (p := ⟨w.heap.size, 0, none⟩) hl41).trans q4; have r5 := (hb45.cell (p := ⟨w.heap.size + 1, 0, none⟩) hl42).trans r4; have f5 := (hb45.frozen (p := ⟨w.heap.size + 1, 0, none⟩) hl42).trans f4; have hB5 := hB4.trans (hb45.mono hB4.size)))
      all_goals (
        have hres : (w5.setCell ⟨w.heap.size + 1, 0, none⟩ (.slice po n pc)).cell? ⟨w.heap.size + 1, 0, none⟩ = some (.slice po n pc) := World.cell?_setCell_same _ _ _ r5
        try go_wp2
        refine bodyPost_ret (v := .tuple #[.agg #[.slice po n pc], .int .i64 0]) (by simp [results, Try.results25, go_sem, hres]) rfl ?_
        rw [hR.out]
        have e : n = (exL rows a[0] b[0]).length := by rw [exL_len]; exact HN.out
        have hown6 := owns_mono (ownsRow_setCell_below hown5 (a := ⟨w.heap.size + 1, 0, none⟩) (by simpa using hl42) (.slice po n pc)) (show w.heap.size ≤ _ by simp; omega)
        refine ⟨po, pc, by rw [← e], ?_, hB5.setCell (by simp) _⟩
        rw [← e]
        exact hown6)
end Go.Proofs.Ytaaffcffelkcdaa
