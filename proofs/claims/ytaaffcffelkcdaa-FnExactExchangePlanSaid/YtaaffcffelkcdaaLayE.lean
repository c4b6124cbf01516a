/-
  Walks: how many letters of a text each row of a layout has.
-/
import Derived.Test.YtaaffcffelkcdaaLayD
import Derived.Test.YtaaffcffelkcdaaSl64
namespace Go.Proofs.Ytaaffcffelkcdaa
open Go.RowKit Go.ChangeShapes Go.WideShapes
set_option linter.unusedVariables false
attribute [local go_sem ↓] Go.wp_at_zero Go.wp_at_succ

theorem i64s_set (xs : List Int) (i : Nat) (v : Int) : (i64s xs).set i (.int .i64 v) = i64s (xs.set i v) := by simp [i64s]
theorem i64s_getD {xs : List Int} {i : Nat} (h : i < xs.length) : (i64s xs)[i]? = some (.int .i64 (xs.getD i 0)) := by
  simp [i64s, List.getD, List.getElem?_eq_getElem h]
theorem i64s_flat (l : List Int) : i64s l = flat (fun x => [Value.int .i64 x]) l := by
  induction l with
  | nil => rfl
  | cons x l ih =>
    have e : flat (fun x => [Value.int .i64 x]) (x :: l) = [Value.int .i64 x] ++ flat (fun x => [Value.int .i64 x]) l := by simp [flat]
    rw [e, ← ih]; rfl
theorem made64 {w : World} {B : Nat} {v : Value} {n : Nat} (h : w.ownsRow B 2 1 v n (madeCells (Value.int IntKind.i64 0).cells (n * 1)).toList) : w.ownsRow B 2 1 v n (i64s (List.replicate n 0)) := by
  rw [i64s_flat, ← made_flat (sz := 1) (fun _ => rfl) (.int .i64 0) 0 n rfl (by omega)]
  exact h
theorem row64_get {xs : List Int} {p : Nat} {n : Nat} {w : World} {B : Nat} {E : TypeId} {g c : Nat} (h : w.ownsRow B E 1 (.slice (some ⟨g, 0, none⟩) n c) n (i64s xs)) (hl : xs.length = n) (hp : p < n) : w.cell? ⟨g, p, none⟩ = some (.int .i64 (xs.getD p 0)) := by
  rw [h.cellAt p (by omega), i64s_getD (by omega)]
theorem getD_set_same {xs : List Int} {i : Nat} (v : Int) (h : i < xs.length) : (xs.set i v).getD i 0 = v := by
  simp [List.getD, h]
theorem getD_set_other {xs : List Int} {i j : Nat} (v : Int) (h : i ≠ j) : (xs.set i v).getD j 0 = xs.getD j 0 := by
  simp [List.getD, List.getElem?_set_ne h]

def letAt (rows : List ByteArray) (t : ByteArray) (k : Nat) : Option (Nat × Nat) := if h : k < t.size then spotOf rows t[k] else none
theorem letAt_get {rows : List ByteArray} {t : ByteArray} {k : Nat} (h : k < t.size) : letAt rows t k = spotOf rows t[k] := by unfold letAt; rw [dif_pos h]
def shUp (rows : List ByteArray) (t : ByteArray) : Nat → List Int
  | 0 => List.replicate rows.length 0
  | k + 1 => match letAt rows t k with | some (r, _) => (shUp rows t k).set r ((shUp rows t k).getD r 0 + 1) | none => shUp rows t k
theorem shUp_len (rows : List ByteArray) (t : ByteArray) (k : Nat) : (shUp rows t k).length = rows.length := by
  induction k with
  | zero => simp [shUp]
  | succ k ih => rw [shUp]; split <;> simp [ih]
theorem shUp_bd (rows : List ByteArray) (t : ByteArray) (k : Nat) : ∀ j, 0 ≤ (shUp rows t k).getD j 0 ∧ (shUp rows t k).getD j 0 ≤ k := by
  induction k with
  | zero => intro j; simp [shUp, List.getD, List.getElem?_replicate]; split <;> simp
  | succ k ih =>
    intro j
    rw [shUp]
    split
    · rename_i r c _
      have := ih r
      have := ih j
      by_cases e : r = j
      · subst e
        by_cases hl : r < (shUp rows t k).length
        · rw [getD_set_same _ hl]; omega
        · rw [List.set_eq_of_length_le (by omega)]; omega
      · rw [getD_set_other _ e]; omega
    · have := ih j; omega
theorem shUp_next {rows : List ByteArray} {t : ByteArray} {k r c : Nat} (h : letAt rows t k = some (r, c)) : shUp rows t (k + 1) = (shUp rows t k).set r ((shUp rows t k).getD r 0 + 1) := by rw [shUp, h]
def missAt (rows : List ByteArray) (t : ByteArray) (k : Nat) : Bool := (letAt rows t k).isNone
def shOk (rows : List ByteArray) (t : ByteArray) : Bool := (firstAt (missAt rows t) t.size).isNone
theorem sh_miss {rows : List ByteArray} {t : ByteArray} {k : Nat} (h : k < t.size) (hN : NoneUpTo (missAt rows t) k) (hm : missAt rows t k = true) : shOk rows t = false := by
  unfold shOk; rw [first_hit hN hm h]; rfl
theorem sh_all {rows : List ByteArray} {t : ByteArray} (hN : NoneUpTo (missAt rows t) t.size) : shOk rows t = true := by
  unfold shOk; rw [first_none hN]; rfl
def shC (rows : List ByteArray) (t : ByteArray) : Int := if layOk rows = true then (if textB t 33 100 = true then (if shOk rows t = true then 0 else 3) else 2) else 1
def shL (rows : List ByteArray) (t : ByteArray) : List Int := if shC rows t = 0 then shUp rows t t.size else []
theorem sh_bad {rows : List ByteArray} {t : ByteArray} (h : layOk rows = false) : shL rows t = [] ∧ shC rows t = 1 := by simp [shL, shC, h]
theorem sh_text {rows : List ByteArray} {t : ByteArray} (h : layOk rows = true) (h2 : textB t 33 100 = false) : shL rows t = [] ∧ shC rows t = 2 := by simp [shL, shC, h, h2]
theorem sh_none {rows : List ByteArray} {t : ByteArray} (h : layOk rows = true) (h2 : textB t 33 100 = true) (h3 : shOk rows t = false) : shL rows t = [] ∧ shC rows t = 3 := by simp [shL, shC, h, h2, h3]
theorem sh_ok {rows : List ByteArray} {t : ByteArray} (h : layOk rows = true) (h2 : textB t 33 100 = true) (h3 : shOk rows t = true) : shL rows t = shUp rows t t.size ∧ shC rows t = 0 := by simp [shL, shC, h, h2, h3]
theorem shL_len (rows : List ByteArray) (t : ByteArray) : (shL rows t).length ≤ 4 := by
  unfold shL
  split
  · rename_i h
    have hok : layOk rows = true := by
      cases ho : layOk rows
      · rw [(sh_bad ho).2] at h; cases h
      · rfl
    rw [shUp_len]; exact (lay_true hok).2.1
  · simp
theorem text_size {t : ByteArray} {lo m : Int} (h : textB t lo m = true) : (t.size : Int) ≤ m := by
  simp only [textB, Bool.and_eq_true, decide_eq_true_eq] at h
  exact h.2
set_option maxHeartbeats 1000000 in
theorem sText2_any (s : ByteArray) (w : World) (hs : s.size ≤ maxLen) : Calls Try.prog 49 #[.string s] w fun e w' => e = .returned (.bool (textB s 33 100)) ∧ w = w' := by
  unfold maxLen at hs
  go_enter Try.func49, Try.ntmps49
  go_wp2
  go_loop [3] (fun i => ∃ k : Nat, k ≤ s.size ∧ i = .int .i64 k ∧ UpTo (gb 33) s k) (fun i => s.size - (intOf i).toNat)
  case atStart => exact ⟨0, Nat.zero_le _, rfl, upto_zero _ _⟩
  case round =>
    obtain ⟨k, hk, rfl, hu⟩ := hrel
    by_cases hlt : k < s.size
    · by_cases h1 : ((s[k].toNat : Nat) : Int) < 33
      · go_wp2
        go_ret
        exact ⟨ret_bool (by simp [textB, upto_bad hlt (gb_lo h1)]), rfl⟩
      · by_cases h2 : (126 : Int) < ((s[k].toNat : Nat) : Int)
        · go_wp2
          go_ret
          exact ⟨ret_bool (by simp [textB, upto_bad hlt (gb_hi h2)]), rfl⟩
        · go_wp2
          go_round
          case rel => exact ⟨k + 1, by omega, by go_num, upto_next hlt (gb_true (by omega) (by omega)) hu⟩
          case measure => simp [intOf]; omega
    · obtain rfl : k = s.size := by omega
      have ha := hid (upto_all hu)
      by_cases hm : (s.size : Int) ≤ 100
      all_goals
        go_wp2
        go_ret
        exact ⟨ret_bool (by simp [textB, ha.out]; omega), rfl⟩
theorem sText2_b {r : Bool} (s : ByteArray) (w : World) (hs : s.size ≤ maxLen) (h : textB s 33 100 = r) : Calls Try.prog 49 #[.string s] w fun e w' => e = .returned (.bool r) ∧ w = w' := by
  subst h; exact sText2_any s w hs

set_option maxRecDepth 100000 in
set_option maxHeartbeats 4000000 in
theorem shares_any (ao : Option Addr) (n cap : Nat) (rows : List ByteArray) (t : ByteArray) (w : World) (ht : t.size ≤ maxLen) (hn : n = rows.length) (hr : Rd w ao (strs rows)) (hs : ∀ x ∈ rows, x.size ≤ maxLen) (hm : n ≤ 1048576) :
    Calls Try.prog 20 #[.agg #[.slice ao n cap], .string t] w (RowRet w.heap.size 2 w (i64s (shL rows t)) (shC rows t)) := by
  obtain ⟨i0, hi, iz0, iz1, iz2⟩ := info_parts Try.infoInt64
  have HN := hid hn
  clear hn
  have hB0 : Below w.heap.size w (w.alloc (.cells #[.slice ao n cap] 28)) := (Below.refl _ _).alloc (Nat.le_refl _) _
  have hr0 := rd_below hr hB0
  have hwa := lyAt_new w ao n cap 28
  cases h1 : layOk rows
  · have hR := hid (sh_bad (t := t) h1)
    go_enter Try.func20, Try.ntmps20
    go_wp2_with (go_at_call 40; refine (lay_any ao n cap rows _ HN.out hr0 hs hm).mono ?_; rw [h1]; rintro e w1 ⟨rfl, hb1⟩)
    go_ret2
    rw [hR.out.1, hR.out.2]
    exact ⟨none, 0, by simp [i64s], World.ownsRow_nil _ _ _ _, hB0.trans (hb1.mono (by simp))⟩
  cases h2 : textB t 33 100
  · have hR := hid (sh_text h1 h2)
    go_enter Try.func20, Try.ntmps20
    go_wp2_with (first | (go_at_call 40; refine (lay_any ao n cap rows _ HN.out hr0 hs hm).mono ?_; rw [h1]; rintro e w1 ⟨rfl, hb1⟩) | (go_at_call 50; refine (isText_b _ _ _ _ ht (by omega) (by omega) h2).mono ?_; rintro e w' ⟨rfl, rfl⟩))
    go_ret2
    rw [hR.out.1, hR.out.2]
    exact ⟨none, 0, by simp [i64s], World.ownsRow_nil _ _ _ _, hB0.trans (hb1.mono (by simp))⟩
  have hRn := hid (fun h => sh_none (rows := rows) (t := t) h1 h2 h)
  have hRy := hid (fun h => sh_ok (rows := rows) (t := t) h1 h2 h)
  have h100 := text_size h2
  obtain ⟨hl1, hl4, _⟩ := lay_true h1
  have hn4 : n ≤ 4 := by rw [HN.out]; exact hl4
  clear hl1 hl4
  go_enter Try.func20, Try.ntmps20
  go_wp2_with (first | (go_at_call 40; refine (lay_any ao n cap rows _ HN.out hr0 hs hm).mono ?_; rw [h1]; rintro e w1 ⟨rfl, hb1⟩; obtain ⟨hlb, b0⟩ := hwa.below hb1 (by simp) hb1.size; have hr1 := rd_below hr0 hb1) | (go_at_call 50; refine (isText_b _ _ _ _ ht (by omega) (by omega) h2).mono ?_; rintro e w' ⟨rfl, rfl⟩) | (at_make; refine wpList_make_full _ rfl _ _ 37 rfl w1.heap.size 2 i0 (.int .i64 0) 1 Try.underlying37 hi iz0 iz1 .i64 .i64 _ _ n rfl rfl rfl rfl (by rw [iz2]; omega) (by unfold maxLen; omega) (Nat.le_refl _) ?_; intro w2 hown hgrow; have hownA := made64 hown; clear hown))
  have hB1 := hB0.trans (hb1.mono (by simp))
  have hz1' := hB1.size
  have hBm : Below w1.heap.size w1 w2 := (Below.refl _ _).grown hgrow (Nat.le_refl _) (by simp)
  have hown0 : w2.ownsRow w1.heap.size 2 1 (.slice (some ⟨w1.heap.size, 0, none⟩) n n) n (i64s (shUp rows t 0)) := by
    have e : shUp rows t 0 = List.replicate n 0 := by rw [shUp, HN.out]
    rw [e]; exact hownA
  clear hb1 hwa hB0 hr0 hr hgrow hownA
  go_loopw [7, 8, 9, 10, 23] (fun _ _ _ _ i wr => ∃ k : Nat, k ≤ t.size ∧ i = .int .i64 k ∧ NoneUpTo (missAt rows t) k ∧ wr.ownsRow w1.heap.size 2 1 (.slice (some ⟨w1.heap.size, 0, none⟩) n n) n (i64s (shUp rows t k)) ∧ Below w1.heap.size w1 wr) (fun _ _ _ _ i _ => t.size - (intOf i).toNat)
  case atStart => exact ⟨0, Nat.zero_le _, rfl, none_zero _, hown0, hBm⟩
  case round =>
    clear hown0 hBm
    obtain ⟨k, hk, rfl, hN, hown, hB⟩ := hrel
    have hz := hB.size
    by_cases hlt : k < t.size
    · have hk0 : (0 : Int) ≤ (k : Int) := by omega
      have hkn : (k : Int) < (t.size : Int) := by omega
      have q0 := (hB.cell (p := ⟨w.heap.size, 0, none⟩) hlb).trans b0
      have hbw : w.heap.size < wr.heap.size := by omega
      have hrw := rd_below hr1 hB
      have hlg := hid (letAt_get (rows := rows) hlt)
      cases hsp : spotOf rows t[k] with
      | none =>
        have hbad := hid (hRn.out (sh_miss hlt hN (by unfold missAt; rw [hlg.out, hsp]; rfl)))
        have HSP := hid hsp
        clear hsp
        go_wp2_with fail
        refine wp_region_over (by kernel_rfl) (by kernel_rfl) (fun hov => ?_)
        repeat (go_big_quiet_step (((go_at_call 42; exact overCall (spot_no _ n cap rows t[k] _ HN.out (rd_over hrw) hs hm HSP.out)))))
        refine wpQuiet_nil ?_
        intro w5 hb5
        clear hov
        obtain ⟨hc5, hf5, hz5⟩ := bcell hb5
        go_wp2
        go_ret2
        rw [hbad.out.1, hbad.out.2]
        exact ⟨none, 0, by simp [i64s], World.ownsRow_nil _ _ _ _, hB1.trans ((hB.trans (hb5.mono hz)).mono hz1')⟩
      | some rc =>
        obtain ⟨r, c⟩ := rc
        have hnx := hid (none_next hN (show missAt rows t k = false by unfold missAt; rw [hlg.out, hsp]; rfl))
        have hup := hid (shUp_next (rows := rows) (t := t) (hlg.out.trans hsp))
        have hrn : r < n := by rw [HN.out]; exact (spot_some hsp).1
        have hbd := shUp_bd rows t k r
        have hul := hid (shUp_len rows t k)
        have HSP := hid hsp
        clear hsp
        have hr00 : (0 : Int) ≤ (r : Int) := by omega
        have hrn1 : (r : Int) < (n : Int) := by omega
        obtain ⟨xs, hxs⟩ : ∃ xs, xs = shUp rows t k := ⟨_, rfl⟩
        rw [← hxs] at hown hup hbd hul
        clear hxs
        have hxl : xs.length = n := by rw [hul.out, HN.out]
        have HXL := hid hxl
        clear hxl
        go_wp2_with fail
        refine wp_region_over (by kernel_rfl) (by kernel_rfl) (fun hov => ?_)
        repeat (go_big_quiet_step (((go_at_call 42; exact overCall (spot_yes _ n cap rows t[k] _ HN.out (rd_over hrw) hs hm HSP.out)))))
        refine wpQuiet_nil ?_
        intro w5 hb5
        clear hov
        have hown5 := owns_below hown hb5
        have hB5 := hB.trans (hb5.mono hz)
        have c5 := row64_get hown5 HXL.out hrn
        have f5 := hown5.frozenAt r
        obtain ⟨v, hv⟩ : ∃ v, v = xs.getD r 0 := ⟨_, rfl⟩
        rw [← hv] at c5 hbd hup
        clear hv
        obtain ⟨hbd1, hbd2⟩ := hbd
        go_wp2
        go_roundw
        case rel =>
          refine ⟨k + 1, by omega, by go_num, hnx.out, ?_, hB5.setCell (by simp) _⟩
          rw [hup.out, ← i64s_set]
          exact (hown5.stored r _).1
        case measure => simp [intOf]; omega
    · obtain rfl : k = t.size := by omega
      have hR := hid (hRy.out (sh_all hN))
      go_wp2
      go_ret2
      rw [hR.out.1, hR.out.2]
      exact rowRet_mk (owns_mono hown hz1') (hB1.trans (hB.mono hz1'))

set_option maxRecDepth 100000 in
set_option maxHeartbeats 4000000 in
theorem sShares_any (ao : Option Addr) (n cap : Nat) (rows : List ByteArray) (t : ByteArray) (w : World) (ht : t.size ≤ maxLen) (hn : n = rows.length) (hr : Rd w ao (strs rows)) (hs : ∀ x ∈ rows, x.size ≤ maxLen) (hm : n ≤ 1048576) :
    Calls Try.prog 19 #[.agg #[.slice ao n cap], .string t] w (RowRet w.heap.size 2 w (i64s (shL rows t)) (shC rows t)) := by
  obtain ⟨i0, hi, iz0, iz1, iz2⟩ := info_parts Try.infoInt64
  have HN := hid hn
  clear hn
  have hB0 : Below w.heap.size w (w.alloc (.cells #[.slice ao n cap] 28)) := (Below.refl _ _).alloc (Nat.le_refl _) _
  have hr0 := rd_below hr hB0
  have hwa := lyAt_new w ao n cap 28
  cases h1 : layOk rows
  · have hR := hid (sh_bad (t := t) h1)
    go_enter Try.func19, Try.ntmps19
    go_wp2_with (go_at_call 36; refine (sLay_any _ _ ao n cap rows _ hwa HN.out hr0 hs hm).mono ?_; rw [h1]; rintro e w1 ⟨rfl, hb1⟩)
    go_ret2
    rw [hR.out.1, hR.out.2]
    exact ⟨none, 0, by simp [i64s], World.ownsRow_nil _ _ _ _, hB0.trans (hb1.mono (by simp))⟩
  cases h2 : textB t 33 100
  · have hR := hid (sh_text h1 h2)
    go_enter Try.func19, Try.ntmps19
    go_wp2_with (first | (go_at_call 36; refine (sLay_any _ _ ao n cap rows _ hwa HN.out hr0 hs hm).mono ?_; rw [h1]; rintro e w1 ⟨rfl, hb1⟩) | (go_at_call 49; refine (sText2_b _ _ ht h2).mono ?_; rintro e w' ⟨rfl, rfl⟩))
    go_ret2
    rw [hR.out.1, hR.out.2]
    exact ⟨none, 0, by simp [i64s], World.ownsRow_nil _ _ _ _, hB0.trans (hb1.mono (by simp))⟩
  have hRn := hid (fun h => sh_none (rows := rows) (t := t) h1 h2 h)
  have hRy := hid (fun h => sh_ok (rows := rows) (t := t) h1 h2 h)
  have h100 := text_size h2
  obtain ⟨hl1, hl4, _⟩ := lay_true h1
  have hn4 : n ≤ 4 := by rw [HN.out]; exact hl4
  clear hl1 hl4
  go_enter Try.func19, Try.ntmps19
  go_wp2_with (first | (go_at_call 36; refine (sLay_any _ _ ao n cap rows _ hwa HN.out hr0 hs hm).mono ?_; rw [h1]; rintro e w1 ⟨rfl, hb1⟩; obtain ⟨hlb, b0⟩ := hwa.below hb1 (by simp) hb1.size; have hr1 := rd_below hr0 hb1) | (go_at_call 49; refine (sText2_b _ _ ht h2).mono ?_; rintro e w' ⟨rfl, rfl⟩) | (at_make; refine wpList_make_full _ rfl _ _ 37 rfl w1.heap.size 2 i0 (.int .i64 0) 1 Try.underlying37 hi iz0 iz1 .i64 .i64 _ _ n rfl rfl rfl rfl (by rw [iz2]; omega) (by unfold maxLen; omega) (Nat.le_refl _) ?_; intro w2 hown hgrow; have hownA := made64 hown; clear hown))
  have hB1 := hB0.trans (hb1.mono (by simp))
  have hz1' := hB1.size
  have hBm : Below w1.heap.size w1 w2 := (Below.refl _ _).grown hgrow (Nat.le_refl _) (by simp)
  have hown0 : w2.ownsRow w1.heap.size 2 1 (.slice (some ⟨w1.heap.size, 0, none⟩) n n) n (i64s (shUp rows t 0)) := by
    have e : shUp rows t 0 = List.replicate n 0 := by rw [shUp, HN.out]
    rw [e]; exact hownA
  clear hb1 hwa hB0 hr0 hr hgrow hownA
  go_loopw [7, 8, 9] (fun i _ _ wr => ∃ k : Nat, k ≤ t.size ∧ i = .int .i64 k ∧ NoneUpTo (missAt rows t) k ∧ wr.ownsRow w1.heap.size 2 1 (.slice (some ⟨w1.heap.size, 0, none⟩) n n) n (i64s (shUp rows t k)) ∧ Below w1.heap.size w1 wr) (fun i _ _ _ => t.size - (intOf i).toNat)
  case atStart => exact ⟨0, Nat.zero_le _, rfl, none_zero _, hown0, hBm⟩
  case round =>
    clear hown0 hBm
    obtain ⟨k, hk, rfl, hN, hown, hB⟩ := hrel
    have hz := hB.size
    by_cases hlt : k < t.size
    · have hk0 : (0 : Int) ≤ (k : Int) := by omega
      have hkn : (k : Int) < (t.size : Int) := by omega
      have q0 := (hB.cell (p := ⟨w.heap.size, 0, none⟩) hlb).trans b0
      have hbw : w.heap.size < wr.heap.size := by omega
      have hrw := rd_below hr1 hB
      have hlg := hid (letAt_get (rows := rows) hlt)
      cases hsp : spotOf rows t[k] with
      | none =>
        have hbad := hid (hRn.out (sh_miss hlt hN (by unfold missAt; rw [hlg.out, hsp]; rfl)))
        have HSP := hid hsp
        clear hsp
        go_wp2_with fail
        go_quiet ((go_at_call 38; exact qs (sAt_none _ n cap rows t[k] _ HN.out (rd_drewN hrw _) hs hm HSP.out)))
        go_wp2
        go_ret2
        rw [hbad.out.1, hbad.out.2]
        exact ⟨none, 0, by simp [i64s], World.ownsRow_nil _ _ _ _, hB1.trans ((below_drewN hB _).mono hz1')⟩
      | some rc =>
        obtain ⟨r, c⟩ := rc
        have hnx := hid (none_next hN (show missAt rows t k = false by unfold missAt; rw [hlg.out, hsp]; rfl))
        have hup := hid (shUp_next (rows := rows) (t := t) (hlg.out.trans hsp))
        have hrn : r < n := by rw [HN.out]; exact (spot_some hsp).1
        have hbd := shUp_bd rows t k r
        have hul := hid (shUp_len rows t k)
        have HSP := hid hsp
        clear hsp
        have hr00 : (0 : Int) ≤ (r : Int) := by omega
        have hrn1 : (r : Int) < (n : Int) := by omega
        obtain ⟨xs, hxs⟩ : ∃ xs, xs = shUp rows t k := ⟨_, rfl⟩
        rw [← hxs] at hown hup hbd hul
        clear hxs
        have hxl : xs.length = n := by rw [hul.out, HN.out]
        have HXL := hid hxl
        clear hxl
        have c5 := row64_get hown HXL.out hrn
        have f5 := hown.frozenAt r
        obtain ⟨v, hv⟩ : ∃ v, v = xs.getD r 0 := ⟨_, rfl⟩
        rw [← hv] at c5 hbd hup
        clear hv
        obtain ⟨hbd1, hbd2⟩ := hbd
        go_wp2_with fail
        go_quiet ((go_at_call 38; exact qs (sAt_some _ n cap rows t[k] _ HN.out (rd_drewN hrw _) hs hm HSP.out)))
        go_wp2
        go_roundw
        case rel =>
          refine ⟨k + 1, by omega, by go_num, hnx.out, ?_, (below_drewN hB nq).setCell (by simp) _⟩
          rw [hup.out, ← i64s_set]
          exact ((owns_drewN hown nq).stored r _).1
        case measure => simp [intOf]; omega
    · obtain rfl : k = t.size := by omega
      have hR := hid (hRy.out (sh_all hN))
      go_wp2
      go_ret2
      rw [hR.out.1, hR.out.2]
      exact rowRet_mk (owns_mono hown hz1') (hB1.trans (hB.mono hz1'))
end Go.Proofs.Ytaaffcffelkcdaa
