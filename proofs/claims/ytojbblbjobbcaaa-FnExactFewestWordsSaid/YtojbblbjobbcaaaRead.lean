/-
  The first reading of a text, and the first one with the fewest words: both walks.
-/
import Derived.Test.YtojbblbjobbcaaaFew
namespace Go.Proofs.Ytojbblbjobbcaaa
open Go.RowKit Go.ChangeShapes Go.WideShapes Go.Maps
set_option linter.unusedVariables false
attribute [local go_sem ↓] Go.wp_at_zero Go.wp_at_succ

/-- two results, the first a slice of one-cell elements in new memory, the second any value -/
def RowRetV (B : Nat) (E : TypeId) (w : World) (xs : List Value) (u : Value) (e : Ending) (w' : World) : Prop :=
  ∃ ao cap, e = .returned (.tuple #[.slice ao xs.length cap, u]) ∧ w'.ownsRow B E 1 (.slice ao xs.length cap) xs.length xs ∧ Below B w w'
theorem rowRetV_mk {B : Nat} {E : TypeId} {w w' : World} {xs : List Value} {u : Value} {v : Value} {n : Nat} (ho : w'.ownsRow B E 1 v n xs) (hb : Below B w w') : RowRetV B E w xs u (.returned (.tuple #[v, u])) w' := by
  have hl : xs.length = n := owns_len ho
  rcases owns_form ho with ⟨rfl, rfl, rfl⟩ | ⟨g, cap, rfl, _⟩
  · exact ⟨none, 0, rfl, ho, hb⟩
  · subst hl
    exact ⟨_, cap, rfl, ho, hb⟩
theorem empty_size {x : ByteArray} (h : emptyB x = false) : 1 ≤ x.size := by
  rcases Nat.eq_zero_or_pos x.size with h0 | h0
  · exfalso
    have e : x.toList = [] := by
      rw [ByteArray.toList_eq]
      exact List.eq_nil_of_length_eq_zero (by rw [Array.length_toList]; exact h0)
    simp [emptyB, e] at h
  · exact h0
theorem code_noEmpty {l : List ByteArray} (h : codeOk l = true) : noEmpty l := by
  intro k hk
  rw [wsz_get hk]
  unfold codeOk at h
  simp only [Bool.and_eq_true] at h
  have h1 : firstAt (badC l) l.length = none := by simpa using h.1
  unfold firstAt at h1
  rw [List.find?_range_eq_none] at h1
  have h2 := h1 k hk
  rw [badC_get hk] at h2
  cases he : emptyB l[k]
  · exact empty_size he
  · rw [he] at h2; simp at h2
theorem code_fits {l : List ByteArray} {t : ByteArray} {i : Nat} (hi : i ≤ t.size) : ∀ q, q < l.length → fitB l t i q = true → i + wsz l q ≤ t.size := by
  intro q hq hf
  rw [fitB_get hq] at hf
  rw [wsz_get hq]
  exact fit_size hi hf
theorem i64s_snoc (xs : List Int) (y : Int) : i64s (xs ++ [y]) = i64s xs ++ [.int .i64 y] := by simp [i64s]
theorem eqB_true {a b : Int} (h : a = b) : (a == b) = true := by simpa using h
theorem eqB_false {a b : Int} (h : ¬ a = b) : (a == b) = false := by simpa using h
/-- what is still to be read, with the words that have been read -/
def ReadTo (few : Bool) (l : List ByteArray) (t : ByteArray) (fs : List Int) (a : Nat) (out : List Int) : Prop :=
  ∃ f, t.size ≤ f + a ∧ readL few l t fs t.size 0 = out ++ readL few l t fs f a
theorem readTo_start (few : Bool) (l : List ByteArray) (t : ByteArray) (fs : List Int) : ReadTo few l t fs 0 [] := ⟨t.size, by omega, rfl⟩
theorem readTo_next {few : Bool} {l : List ByteArray} {t : ByteArray} {fs : List Int} {a k : Nat} {out : List Int} (h : ReadTo few l t fs a out) (ha : a < t.size) (hk : k < l.length) (hN : NoneUpTo (hitR few l t fs a) k) (hh : hitR few l t fs a k = true) (hw : 1 ≤ wsz l k) : ReadTo few l t fs (a + wsz l k) (out ++ [(k : Int)]) := by
  obtain ⟨f, hf, he⟩ := h
  obtain ⟨f', rfl⟩ : ∃ f', f = f' + 1 := ⟨f - 1, by omega⟩
  refine ⟨f', by omega, ?_⟩
  rw [he, readL_step ha hk hN hh]
  simp
theorem readTo_end {few : Bool} {l : List ByteArray} {t : ByteArray} {fs : List Int} {a : Nat} {out : List Int} (h : ReadTo few l t fs a out) (ha : ¬ a < t.size) : readL few l t fs t.size 0 = out := by
  obtain ⟨f, hf, he⟩ := h
  rw [he, readL_end ha, List.append_nil]

set_option maxRecDepth 100000 in
set_option maxHeartbeats 8000000 in
theorem reading_any (few : Bool) (ao : Option Addr) (n cap : Nat) (l : List ByteArray) (t : ByteArray) (w : World) (hn : n = l.length) (hr : Rd w ao (strs l)) (hs : ∀ x ∈ l, x.size ≤ maxLen) (hok : codeOk l = true) (h10 : n ≤ 10) (h60 : t.size ≤ 60) :
    Calls Try.prog 48 #[.slice ao n cap, .string t, .bool few] w (RowRetV w.heap.size 2 w (i64s (readR few l t)) (.bool (readB l t))) := by
  obtain ⟨i0, hi, hz0, hz1, hz2⟩ := info_parts Try.infoInt64
  have HN := hid hn
  clear hn
  have HNE := hid (code_noEmpty hok)
  clear hok
  obtain ⟨fs, hfs⟩ : ∃ fs, fs = fewL l t := ⟨_, rfl⟩
  have hfl : fs.length = t.size + 1 := by rw [hfs]; exact fewL_len _ _
  have hfl2 : (i64s fs).length = t.size + 1 := by rw [i64s_len, hfl]
  have hno := hid (fun h => readR_no (few := few) (l := l) (t := t) h)
  have hyes := hid (fun h => readR_yes (few := few) (l := l) (t := t) h)
  have HFM := hid (fun j => fewL_most l t j)
  have hmul : t.size * l.length ≤ 60 * 10 := Nat.mul_le_mul h60 (by rw [← HN.out]; exact h10)
  have hsome := hid (fun i hi hh => hit_some (few := few) (l := l) (t := t) (i := i) HNE.out hi (code_fits (Nat.le_of_lt hi)) hh)
  rw [← hfs] at hno hyes hsome HFM
  have HFS := hid hfs
  have HFL := hid hfl
  have HFL2 := hid hfl2
  clear hfs hfl hfl2
  go_enter Try.func48, Try.ntmps48
  go_wp2_with fail
  refine (few_any ao n cap l t _ HN.out hr hs h10 h60).mono ?_
  rw [← HFS.out]
  rintro e w1 ⟨fo, fcap, rfl, hof, hb1⟩
  have hr1 := rd_below hr hb1
  have hrd := rd_str hr1
  rw [HFL2.out] at hof
  rw [HFL2.out]
  clear hr hr1
  rcases owns_form hof with ⟨_, h0, _⟩ | ⟨g, c, hv, hBg, hgl, hnc, hcm⟩
  · omega
  simp only [Value.slice.injEq] at hv
  obtain ⟨rfl, _, rfl⟩ := hv
  have c0 := few_get hof HFL.out (show 0 < t.size + 1 by omega)
  have hz1' := hb1.size
  by_cases hneg : fs.getD 0 0 < 0
  · have hR := hid (hno.out hneg)
    obtain ⟨a0, ha0⟩ : ∃ a0, a0 = fs.getD 0 0 := ⟨_, rfl⟩
    rw [← ha0] at c0 hneg
    clear ha0
    go_wp2_with fail
    go_ret2
    rw [hR.out.1, hR.out.2]
    exact ⟨none, 0, by simp [i64s], World.ownsRow_nil _ _ _ _, hb1⟩
  have hR := hid (hyes.out (by omega))
  have HNG := hid (show 0 ≤ fs.getD 0 0 by omega)
  obtain ⟨a0, ha0⟩ : ∃ a0, a0 = fs.getD 0 0 := ⟨_, rfl⟩
  rw [← ha0] at c0 hneg
  clear ha0
  go_wp2_with fail
  clear c0 hneg
  go_loopw [9, 10] (fun v i wr => ∃ (a : Nat) (out : List Int), a ≤ t.size ∧ i = .int .i64 a ∧ Hid (0 ≤ fs.getD a 0) ∧ ReadTo few l t fs a out ∧ out.length ≤ a ∧ wr.ownsRow w1.heap.size 2 1 v out.length (i64s out) ∧ Below w1.heap.size w1 wr) (fun _ i _ => t.size - (intOf i).toNat)
  case atStart => exact ⟨0, [], Nat.zero_le _, rfl, HNG, readTo_start _ _ _ _, Nat.le_refl _, World.ownsRow_made _ _ 0 (Nat.le_refl _) (by unfold maxLen; omega) rfl, (Below.refl _ _).alloc (Nat.le_refl _) _⟩
  case round =>
    obtain ⟨a, out, hat, rfl, hpos, hRT, hol, hown, hB⟩ := hrel
    by_cases hlt : a < t.size
    · have hgw : g < wr.heap.size := by have := hB.size; omega
      have hz := hB.size
      have hofw := owns_below hof hB
      have hsm := hid (hsome.out a hlt hpos.out)
      have hai : (a : Int) < (t.size : Int) := by omega
      have hat2 : (a : Int) ≤ (t.size : Int) := by omega
      have ha0 : (0 : Int) ≤ (a : Int) := by omega
      go_wp2_with fail
      go_loop [9, 10, 28] (fun v i kv => ∃ k : Nat, k ≤ n ∧ kv = .int .i64 k ∧ i = .int .i64 a ∧ v = u9 ∧ NoneUpTo (hitR few l t fs a) k) (fun _ _ kv => n - (intOf kv).toNat)
      case atStart => exact ⟨0, Nat.zero_le _, rfl, rfl, rfl, none_zero _⟩
      case round =>
        obtain ⟨k, hk, rfl, rfl, rfl, hN⟩ := hrel
        by_cases hkn : k < n
        · rcases hrd with hnil | ⟨b, o, rfl, hbl, hcell⟩
          · exact absurd (by rw [HN.out, hnil]; rfl : n = 0) (by omega)
          have hkl : k < l.length := by rw [← HN.out]; exact hkn
          have g1 := (hB.cell (p := ⟨b, o + k, none⟩) hbl).trans (hcell k hkl)
          have hs1 := hs _ (List.getElem_mem hkl)
          have hk0 : (0 : Int) ≤ (k : Int) := by omega
          have hkn1 : (k : Int) < (n : Int) := by omega
          have hf := hid (fitB_get (t := t) (i := a) hkl)
          have hw := hid (wsz_get hkl)
          have hw1 := HNE.out k hkl
          have hnx := hid (fun h => readTo_next (k := k) hRT hlt hkl hN h hw1)
          rw [hw.out] at hw1 hnx
          obtain ⟨x, hx⟩ : ∃ x, x = l[k] := ⟨_, rfl⟩
          rw [← hx] at g1 hs1 hf hw hw1 hnx
          clear hx hcell
          have hts : (t.extract a t.size).size ≤ maxLen := by simp only [ByteArray.size_extract]; unfold maxLen; omega
          cases hpr : preB (t.extract a t.size) x
          · have hnn := hid (none_next hN (hitR_fit (by rw [hf.out, hpr])))
            go_wp2_with (go_at_call 44; refine (hasPre_b _ _ _ hts hs1 hpr).mono ?_; rintro e w' ⟨rfl, rfl⟩)
            go_round
            case rel => exact ⟨k + 1, by omega, by go_num, rfl, rfl, hnn.out⟩
            case measure => simp [intOf]; omega
          have hfs := fit_size (by omega) hpr
          have hfy := hid (show fitB l t a k = true by rw [hf.out, hpr])
          have c1 := few_get hofw HFL.out (show a < t.size + 1 by omega)
          have c2 := few_get hofw HFL.out (show a + x.size < t.size + 1 by omega)
          have e1 : IntKind.i64.wrap ((a : Int) + (x.size : Int)) = ((a + x.size : Nat) : Int) := IntWalk.i64_in _ (by omega)
          have e2 : (a : Int) + (x.size : Int) < ((t.size + 1 : Nat) : Int) := by omega
          have hng := hid (fun h => hitR_neg (few := few) (l := l) (t := t) (xs := fs) (a := a) (k := k) h)
          have hoff := hid (fun h => hitR_off (l := l) (t := t) (xs := fs) (a := a) (k := k) h)
          have hone := hid (fun h => hitR_one (l := l) (t := t) (xs := fs) (a := a) (k := k) hfy.out h)
          have hfew := hid (fun h h2 => hitR_few (l := l) (t := t) (xs := fs) (a := a) (k := k) hfy.out h h2)
          rw [hw.out] at hng hoff hone hfew
          have hpn := hid (fun (h : ¬ fs.getD (a + x.size) 0 < 0) => (show 0 ≤ fs.getD (a + x.size) 0 by omega))
          have hb1 := HFM.out a
          have hb2 := HFM.out (a + x.size)
          obtain ⟨p, hp⟩ : ∃ p, p = fs.getD a 0 := ⟨_, rfl⟩
          obtain ⟨d, hd⟩ : ∃ d, d = fs.getD (a + x.size) 0 := ⟨_, rfl⟩
          rw [← hp] at c1 hb1 hoff hfew
          rw [← hd] at c2 hb2 hng hoff hone hfew hpn
          have Hp := hid hp
          have Hd := hid hd
          clear hp hd
          have hp0 : 0 ≤ p := by rw [Hp.out]; exact hpos.out
          by_cases hd0 : d < 0
          · have hnn := hid (none_next hN (hng.out hd0))
            go_wp2_with (go_at_call 44; refine (hasPre_b _ _ _ hts hs1 hpr).mono ?_; rintro e w' ⟨rfl, rfl⟩)
            go_round
            case rel => exact ⟨k + 1, by omega, by go_num, rfl, rfl, hnn.out⟩
            case measure => simp [intOf]; omega
          have hq := hid (hpn.out hd0)
          rw [Hd.out] at hq
          have hlo : out.length ≤ 60 := by omega
          have fin : hitR few l t fs a k = true → Hid (ReadTo few l t fs (a + x.size) (out ++ [(k : Int)])) := fun h => hid (hnx.out h)
          cases few
          · have hgo := fin (hone.out hd0)
            clear fin
            go_wp2_with (first | (go_at_call 44; refine (hasPre_b _ _ _ hts hs1 hpr).mono ?_; rintro e w' ⟨rfl, rfl⟩) | (at_builtin; refine wpList_append_own _ rfl _ _ 32 rfl w1.heap.size 2 i0 (.int .i64 0) 1 8 Try.underlying32 hi hz0 hz1 hz2 rfl (by decide) _ _ _ rfl (hown.alloc _) ⟨wr.heap.size, 0, none⟩ 1 1 [.int .i64 (k : Int)] rfl rfl (one_new _ _ _) (one_ok _ _) (by unfold maxLen; omega) (by omega) (by simp; omega) ?_; intro v' w2 hown3 hgrow3 _))
            go_roundw
            case rel => exact ⟨a + x.size, out ++ [(k : Int)], by omega, by go_num, hq, hgo.out, by rw [List.length_append]; simp; omega, by rw [i64s_snoc, List.length_append]; exact hown3, below_grown (hB.alloc (by omega) _) (by simp; omega) (hown.alloc _) hgrow3⟩
            case measure => simp [intOf]; omega
          · by_cases hdp : d + 1 = p
            · have hgo := fin (hfew.out hd0 hdp)
              have b1 : (d == p - 1) = true := eqB_true (by omega)
              have e3 : IntKind.i64.wrap (p - 1) = p - 1 := IntWalk.i64_in _ (by omega)
              have HDP := hid hdp
              clear fin hdp
              go_wp2_with (first | (go_at_call 44; refine (hasPre_b _ _ _ hts hs1 hpr).mono ?_; rintro e w' ⟨rfl, rfl⟩) | (at_builtin; refine wpList_append_own _ rfl _ _ 32 rfl w1.heap.size 2 i0 (.int .i64 0) 1 8 Try.underlying32 hi hz0 hz1 hz2 rfl (by decide) _ _ _ rfl (hown.alloc _) ⟨wr.heap.size, 0, none⟩ 1 1 [.int .i64 (k : Int)] rfl rfl (one_new _ _ _) (one_ok _ _) (by unfold maxLen; omega) (by omega) (by simp; omega) ?_; intro v' w2 hown3 hgrow3 _))
              go_roundw
              case rel => exact ⟨a + x.size, out ++ [(k : Int)], by omega, by go_num, hq, hgo.out, by rw [List.length_append]; simp; omega, by rw [i64s_snoc, List.length_append]; exact hown3, below_grown (hB.alloc (by omega) _) (by simp; omega) (hown.alloc _) hgrow3⟩
              case measure => simp [intOf]; omega
            · have hnn := hid (none_next hN (hoff.out hdp))
              have b1 : (d == p - 1) = false := eqB_false (by omega)
              have e3 : IntKind.i64.wrap (p - 1) = p - 1 := IntWalk.i64_in _ (by omega)
              have HDP := hid hdp
              clear fin hdp
              go_wp2_with (go_at_call 44; refine (hasPre_b _ _ _ hts hs1 hpr).mono ?_; rintro e w' ⟨rfl, rfl⟩)
              go_round
              case rel => exact ⟨k + 1, by omega, by go_num, rfl, rfl, hnn.out⟩
              case measure => simp [intOf]; omega
        · obtain rfl : k = n := by omega
          exact absurd (by rw [← HN.out]; exact hN) hsm.out
    · obtain rfl : a = t.size := by omega
      have he := hid (readTo_end hRT (by omega))
      go_wp2_with fail
      go_ret2
      rw [hR.out.1, hR.out.2, he.out]
      exact rowRetV_mk (owns_mono hown hz1') (hb1.trans (hB.mono hz1'))
set_option maxRecDepth 100000 in
set_option maxHeartbeats 8000000 in
theorem sRead_any (few : Bool) (ao : Option Addr) (n cap : Nat) (l : List ByteArray) (t : ByteArray) (w : World) (hn : n = l.length) (hr : Rd w ao (strs l)) (hs : ∀ x ∈ l, x.size ≤ maxLen) (hok : codeOk l = true) (h10 : n ≤ 10) (h60 : t.size ≤ 60) :
    Calls Try.prog 55 #[.slice ao n cap, .string t, .bool few] w (RowRetV w.heap.size 2 w (i64s (readR few l t)) (.bool (readB l t))) := by
  obtain ⟨i0, hi, hz0, hz1, hz2⟩ := info_parts Try.infoInt64
  have HN := hid hn
  clear hn
  have HNE := hid (code_noEmpty hok)
  clear hok
  obtain ⟨fs, hfs⟩ : ∃ fs, fs = fewL l t := ⟨_, rfl⟩
  have hfl : fs.length = t.size + 1 := by rw [hfs]; exact fewL_len _ _
  have hfl2 : (i64s fs).length = t.size + 1 := by rw [i64s_len, hfl]
  have hno := hid (fun h => readR_no (few := few) (l := l) (t := t) h)
  have hyes := hid (fun h => readR_yes (few := few) (l := l) (t := t) h)
  have HFM := hid (fun j => fewL_most l t j)
  have hmul : t.size * l.length ≤ 60 * 10 := Nat.mul_le_mul h60 (by rw [← HN.out]; exact h10)
  have hsome := hid (fun i hi hh => hit_some (few := few) (l := l) (t := t) (i := i) HNE.out hi (code_fits (Nat.le_of_lt hi)) hh)
  rw [← hfs] at hno hyes hsome HFM
  have HFS := hid hfs
  have HFL := hid hfl
  have HFL2 := hid hfl2
  clear hfs hfl hfl2
  go_enter Try.func55, Try.ntmps55
  go_wp2_with fail
  refine (sFew_any ao n cap l t _ HN.out hr hs h10 h60).mono ?_
  rw [← HFS.out]
  rintro e w1 ⟨fo, fcap, rfl, hof, hb1⟩
  have hr1 := rd_below hr hb1
  have hrd := rd_str hr1
  rw [HFL2.out] at hof
  rw [HFL2.out]
  clear hr hr1
  rcases owns_form hof with ⟨_, h0, _⟩ | ⟨g, c, hv, hBg, hgl, hnc, hcm⟩
  · omega
  simp only [Value.slice.injEq] at hv
  obtain ⟨rfl, _, rfl⟩ := hv
  have c0 := few_get hof HFL.out (show 0 < t.size + 1 by omega)
  have hz1' := hb1.size
  by_cases hneg : fs.getD 0 0 < 0
  · have hR := hid (hno.out hneg)
    obtain ⟨a0, ha0⟩ : ∃ a0, a0 = fs.getD 0 0 := ⟨_, rfl⟩
    rw [← ha0] at c0 hneg
    clear ha0
    go_wp2_with fail
    go_ret2
    rw [hR.out.1, hR.out.2]
    exact ⟨none, 0, by simp [i64s], World.ownsRow_nil _ _ _ _, hb1⟩
  have hR := hid (hyes.out (by omega))
  have HNG := hid (show 0 ≤ fs.getD 0 0 by omega)
  obtain ⟨a0, ha0⟩ : ∃ a0, a0 = fs.getD 0 0 := ⟨_, rfl⟩
  rw [← ha0] at c0 hneg
  clear ha0
  go_wp2_with fail
  clear c0 hneg
  go_loopw [9, 10] (fun v i wr => ∃ (a : Nat) (out : List Int), a ≤ t.size ∧ i = .int .i64 a ∧ Hid (0 ≤ fs.getD a 0) ∧ ReadTo few l t fs a out ∧ out.length ≤ a ∧ wr.ownsRow w1.heap.size 2 1 v out.length (i64s out) ∧ Below w1.heap.size w1 wr) (fun _ i _ => t.size - (intOf i).toNat)
  case atStart => exact ⟨0, [], Nat.zero_le _, rfl, HNG, readTo_start _ _ _ _, Nat.le_refl _, World.ownsRow_made _ _ 0 (Nat.le_refl _) (by unfold maxLen; omega) rfl, (Below.refl _ _).alloc (Nat.le_refl _) _⟩
  case round =>
    obtain ⟨a, out, hat, rfl, hpos, hRT, hol, hown, hB⟩ := hrel
    by_cases hlt : a < t.size
    · have hgw : g < wr.heap.size := by have := hB.size; omega
      have hz := hB.size
      have hofw := owns_below hof hB
      have hsm := hid (hsome.out a hlt hpos.out)
      have hai : (a : Int) < (t.size : Int) := by omega
      have hat2 : (a : Int) ≤ (t.size : Int) := by omega
      have ha0 : (0 : Int) ≤ (a : Int) := by omega
      go_wp2_with fail
      go_loopw [9, 10, 11] (fun v i kv wr2 => ∃ k : Nat, k ≤ n ∧ kv = .int .i64 k ∧ i = .int .i64 a ∧ v = u9 ∧ NoneUpTo (hitR few l t fs a) k ∧ wr2.ownsRow w1.heap.size 2 1 v out.length (i64s out) ∧ Below w1.heap.size w1 wr2) (fun _ _ kv _ => n - (intOf kv).toNat)
      case atStart => exact ⟨0, Nat.zero_le _, rfl, rfl, rfl, none_zero _, hown, hB⟩
      case round =>
        clear hown hB hgw hofw hz
        obtain ⟨k, hk, rfl, rfl, rfl, hN, hown, hB⟩ := hrel
        have hgw : g < wr.heap.size := by have := hB.size; omega
        have hz := hB.size
        have hofw := owns_below hof hB
        by_cases hkn : k < n
        · rcases hrd with hnil | ⟨b, o, rfl, hbl, hcell⟩
          · exact absurd (by rw [HN.out, hnil]; rfl : n = 0) (by omega)
          have hkl : k < l.length := by rw [← HN.out]; exact hkn
          have g1 := (hB.cell (p := ⟨b, o + k, none⟩) hbl).trans (hcell k hkl)
          have g0 := hcell k hkl
          have hbw := Nat.lt_of_lt_of_le hbl hB.size
          have hs1 := hs _ (List.getElem_mem hkl)
          have hk0 : (0 : Int) ≤ (k : Int) := by omega
          have hkn1 : (k : Int) < (n : Int) := by omega
          have hf := hid (fitB_get (t := t) (i := a) hkl)
          have hw := hid (wsz_get hkl)
          have hw1 := HNE.out k hkl
          have hnx := hid (fun h => readTo_next (k := k) hRT hlt hkl hN h hw1)
          rw [hw.out] at hw1 hnx
          obtain ⟨x, hx⟩ : ∃ x, x = l[k] := ⟨_, rfl⟩
          rw [← hx] at g0 g1 hs1 hf hw hw1 hnx
          clear hx hcell
          have hts : (t.extract a t.size).size ≤ maxLen := by simp only [ByteArray.size_extract]; unfold maxLen; omega
          cases hpr : preB (t.extract a t.size) x
          · have hnn := hid (none_next hN (hitR_fit (by rw [hf.out, hpr])))
            go_wp2_with fail
            go_quiet ((go_at_call 40; with_reducible exact qs (begins_b _ _ _ hts hs1 hpr)))
            go_wp2
            go_roundw
            case rel => exact ⟨k + 1, by omega, by go_num, rfl, rfl, hnn.out, owns_drewN hown _, below_drewN hB _⟩
            case measure => simp [intOf]; omega
          have hfs := fit_size (by omega) hpr
          have hfy := hid (show fitB l t a k = true by rw [hf.out, hpr])
          have c1 := few_get hofw HFL.out (show a < t.size + 1 by omega)
          have c2 := few_get hofw HFL.out (show a + x.size < t.size + 1 by omega)
          have e1 : IntKind.i64.wrap ((a : Int) + (x.size : Int)) = ((a + x.size : Nat) : Int) := IntWalk.i64_in _ (by omega)
          have e2 : (a : Int) + (x.size : Int) < ((t.size + 1 : Nat) : Int) := by omega
          have hng := hid (fun h => hitR_neg (few := few) (l := l) (t := t) (xs := fs) (a := a) (k := k) h)
          have hoff := hid (fun h => hitR_off (l := l) (t := t) (xs := fs) (a := a) (k := k) h)
          have hone := hid (fun h => hitR_one (l := l) (t := t) (xs := fs) (a := a) (k := k) hfy.out h)
          have hfew := hid (fun h h2 => hitR_few (l := l) (t := t) (xs := fs) (a := a) (k := k) hfy.out h h2)
          rw [hw.out] at hng hoff hone hfew
          have hpn := hid (fun (h : ¬ fs.getD (a + x.size) 0 < 0) => (show 0 ≤ fs.getD (a + x.size) 0 by omega))
          have hb1 := HFM.out a
          have hb2 := HFM.out (a + x.size)
          obtain ⟨p, hp⟩ : ∃ p, p = fs.getD a 0 := ⟨_, rfl⟩
          obtain ⟨d, hd⟩ : ∃ d, d = fs.getD (a + x.size) 0 := ⟨_, rfl⟩
          rw [← hp] at c1 hb1 hoff hfew
          rw [← hd] at c2 hb2 hng hoff hone hfew hpn
          have Hp := hid hp
          have Hd := hid hd
          clear hp hd
          have hp0 : 0 ≤ p := by rw [Hp.out]; exact hpos.out
          by_cases hd0 : d < 0
          · have hnn := hid (none_next hN (hng.out hd0))
            go_wp2_with fail
            go_quiet ((go_at_call 40; with_reducible exact qs (begins_b _ _ _ hts hs1 hpr)))
            go_wp2
            go_roundw
            case rel => exact ⟨k + 1, by omega, by go_num, rfl, rfl, hnn.out, owns_drewN hown _, below_drewN hB _⟩
            case measure => simp [intOf]; omega
          have hq := hid (hpn.out hd0)
          rw [Hd.out] at hq
          have hlo : out.length ≤ 60 := by omega
          have fin : hitR few l t fs a k = true → Hid (ReadTo few l t fs (a + x.size) (out ++ [(k : Int)])) := fun h => hid (hnx.out h)
          cases few
          · have hgo := fin (hone.out hd0)
            clear fin
            go_wp2_with fail
            go_quiet ((go_at_call 40; with_reducible exact qs (begins_b _ _ _ hts hs1 hpr)))
            go_wp2_with (at_builtin; refine wpList_append_own _ rfl _ _ 32 rfl w1.heap.size 2 i0 (.int .i64 0) 1 8 Try.underlying32 hi hz0 hz1 hz2 rfl (by decide) _ _ _ rfl ((owns_drewN hown nq).alloc _) ⟨wr.heap.size, 0, none⟩ 1 1 [.int .i64 (k : Int)] rfl rfl (one_new _ _ _) (one_ok _ _) (by unfold maxLen; omega) (by omega) (by simp; omega) ?_; intro v' w2 hown3 hgrow3 _; have hB3 := below_grown ((below_drewN hB nq).alloc hz _) (by simp; omega) ((owns_drewN hown nq).alloc _) hgrow3; have g3 := (hB3.cell (p := ⟨b, o + k, none⟩) hbl).trans g0)
            go_roundw
            case rel => exact ⟨a + x.size, out ++ [(k : Int)], by omega, by go_num, hq, hgo.out, by rw [List.length_append]; simp; omega, by rw [i64s_snoc, List.length_append]; exact hown3, hB3⟩
            case measure => simp [intOf]; omega
          · by_cases hdp : d + 1 = p
            · have hgo := fin (hfew.out hd0 hdp)
              have b1 : (d + 1 == p) = true := eqB_true (by omega)
              have e3 : IntKind.i64.wrap (d + 1) = d + 1 := IntWalk.i64_in _ (by omega)
              have HDP := hid hdp
              clear fin hdp
              go_wp2_with fail
              go_quiet ((go_at_call 40; with_reducible exact qs (begins_b _ _ _ hts hs1 hpr)))
              go_wp2_with (at_builtin; refine wpList_append_own _ rfl _ _ 32 rfl w1.heap.size 2 i0 (.int .i64 0) 1 8 Try.underlying32 hi hz0 hz1 hz2 rfl (by decide) _ _ _ rfl ((owns_drewN hown nq).alloc _) ⟨wr.heap.size, 0, none⟩ 1 1 [.int .i64 (k : Int)] rfl rfl (one_new _ _ _) (one_ok _ _) (by unfold maxLen; omega) (by omega) (by simp; omega) ?_; intro v' w2 hown3 hgrow3 _; have hB3 := below_grown ((below_drewN hB nq).alloc hz _) (by simp; omega) ((owns_drewN hown nq).alloc _) hgrow3; have g3 := (hB3.cell (p := ⟨b, o + k, none⟩) hbl).trans g0)
              go_roundw
              case rel => exact ⟨a + x.size, out ++ [(k : Int)], by omega, by go_num, hq, hgo.out, by rw [List.length_append]; simp; omega, by rw [i64s_snoc, List.length_append]; exact hown3, hB3⟩
              case measure => simp [intOf]; omega
            · have hnn := hid (none_next hN (hoff.out hdp))
              have b1 : (d + 1 == p) = false := eqB_false (by omega)
              have e3 : IntKind.i64.wrap (d + 1) = d + 1 := IntWalk.i64_in _ (by omega)
              have HDP := hid hdp
              clear fin hdp
              go_wp2_with fail
              go_quiet ((go_at_call 40; with_reducible exact qs (begins_b _ _ _ hts hs1 hpr)))
              go_wp2
              go_roundw
              case rel => exact ⟨k + 1, by omega, by go_num, rfl, rfl, hnn.out, owns_drewN hown _, below_drewN hB _⟩
              case measure => simp [intOf]; omega
        · obtain rfl : k = n := by omega
          exact absurd (by rw [← HN.out]; exact hN) hsm.out
    · obtain rfl : a = t.size := by omega
      have he := hid (readTo_end hRT (by omega))
      go_wp2_with fail
      go_ret2
      rw [hR.out.1, hR.out.2, he.out]
      exact rowRetV_mk (owns_mono hown hz1') (hb1.trans (hB.mono hz1'))
end Go.Proofs.Ytojbblbjobbcaaa
