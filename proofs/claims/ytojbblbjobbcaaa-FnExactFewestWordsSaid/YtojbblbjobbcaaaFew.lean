/-
  The least number of words from each place of a text on: both walks.
-/
import Derived.Test.YtojbblbjobbcaaaFewMath
namespace Go.Proofs.Ytojbblbjobbcaaa
open Go.RowKit Go.ChangeShapes Go.WideShapes Go.Maps
set_option linter.unusedVariables false
attribute [local go_sem ↓] Go.wp_at_zero Go.wp_at_succ

theorem Try.infoInt : (Try.prog.info? 3).map (fun i => (i.zero, i.size, i.bytes)) = some (some (.int .i64 0), 1, 8) := by kernel_rfl
theorem madeI {w : World} {B : Nat} {v : Value} {n : Nat} (h : w.ownsRow B 3 1 v n (madeCells (Value.int IntKind.i64 0).cells (n * 1)).toList) : w.ownsRow B 3 1 v n (i64s (List.replicate n 0)) := by
  rw [i64s_flat, ← made_flat (sz := 1) (fun _ => rfl) (.int .i64 0) 0 n rfl (by omega)]
  exact h
theorem few_get {xs : List Int} {p : Nat} {n : Nat} {w : World} {B : Nat} {E : TypeId} {g c : Nat} (h : w.ownsRow B E 1 (.slice (some ⟨g, 0, none⟩) n c) n (i64s xs)) (hl : xs.length = n) (hp : p < n) : w.cell? ⟨g, p, none⟩ = some (.int .i64 (xs.getD p 0)) := by
  rw [h.cellAt p (by omega), i64s_getD (by omega)]

set_option maxRecDepth 100000 in
set_option maxHeartbeats 4000000 in
theorem few_any (ao : Option Addr) (n cap : Nat) (l : List ByteArray) (t : ByteArray) (w : World) (hn : n = l.length) (hr : Rd w ao (strs l)) (hs : ∀ x ∈ l, x.size ≤ maxLen) (h10 : n ≤ 10) (h60 : t.size ≤ 60) :
    Calls Try.prog 56 #[.slice ao n cap, .string t] w (RowRet1 w.heap.size 3 w (i64s (fewL l t))) := by
  obtain ⟨i0, hi, hz0, hz1, hz2⟩ := info_parts Try.infoInt
  have HN := hid hn
  clear hn
  have hrd := rd_str hr
  clear hr
  go_enter Try.func56, Try.ntmps56
  go_wp2_with (at_make; refine wpList_make_full _ rfl _ _ 65 rfl w.heap.size 3 i0 (.int .i64 0) 1 Try.underlying65 hi hz0 hz1 .i64 .i64 _ _ (t.size + 1) rfl rfl (by simp) (by simp) (by rw [hz2]; omega) (by unfold maxLen; omega) (Nat.le_refl _) ?_; intro w2 hown hgrow; have hownA := madeI hown; clear hown)
  have hB0 : Below w.heap.size w w2 := (Below.refl _ _).grown hgrow (Nat.le_refl _) (by simp)
  clear hgrow hi hz0 hz1 hz2
  go_loopw [6] (fun i wr => ∃ m : Nat, m ≤ t.size ∧ i = .int .i64 ((t.size : Int) - 1 - m) ∧ wr.ownsRow w.heap.size 3 1 (.slice (some ⟨w.heap.size, 0, none⟩) (t.size + 1) (t.size + 1)) (t.size + 1) (i64s (fewAll l t m)) ∧ Below w.heap.size w wr) (fun i _ => (intOf i + 1).toNat)
  case atStart => exact ⟨0, Nat.zero_le _, by go_num, hownA, hB0⟩
  case round =>
    obtain ⟨m, hmt, rfl, hown, hB⟩ := hrel
    clear hB0 hownA
    by_cases hlt : m < t.size
    · obtain ⟨p, hp⟩ : ∃ p, p = t.size - 1 - m := ⟨_, rfl⟩
      have hpi : (t.size : Int) - 1 - (m : Int) = (p : Int) := by omega
      have hps : p < t.size := by omega
      have hpd : ((t.size : Int) - 1 - ((m + 1 : Nat) : Int)) = (p : Int) - 1 := by omega
      have hnx := hid (show fewAll l t (m + 1) = fewIn l t p (fewAll l t m) l.length by rw [fewAll, hp])
      have hcl := fewAll_len l t m
      have hmo := fewAll_most l t m
      rw [hpi]
      have HP := hid hpd
      have hpz : (0 : Int) ≤ (p : Int) := by omega
      have hmp : m + p + 1 = t.size := by omega
      clear hp hpi hpd
      obtain ⟨xs, hxs⟩ : ∃ xs, xs = fewAll l t m := ⟨_, rfl⟩
      rw [← hxs] at hown hnx hcl hmo
      have Hxs := hid hxs
      clear hxs
      have Hmo := hid (fun k => fewIn_most (l := l) (t := t) (i := p) hmo (by omega) k)
      have hml : m * l.length ≤ 60 * 10 := Nat.mul_le_mul (by omega) (by rw [← HN.out]; exact h10)
      clear hmo
      have c0 := few_get hown hcl (show p < t.size + 1 by omega)
      have hf0 := hown.frozenAt p
      go_wp2_with fail
      have hst := (hown.stored p (.int .i64 (-1))).1
      rw [i64s_set] at hst
      have hst0 : (wr.setCell ⟨w.heap.size, p, none⟩ (.int .i64 (-1))).ownsRow w.heap.size 3 1 (.slice (some ⟨w.heap.size, 0, none⟩) (t.size + 1) (t.size + 1)) (t.size + 1) (i64s (fewIn l t p xs 0)) := hst
      have hB1 : Below w.heap.size w (wr.setCell ⟨w.heap.size, p, none⟩ (.int .i64 (-1))) := hB.setCell (by simp) _
      clear c0 hf0 hst hown hB
      go_loopw [8, 9, 26] (fun _ _ i wr2 => ∃ k : Nat, k ≤ n ∧ i = .int .i64 k ∧ wr2.ownsRow w.heap.size 3 1 (.slice (some ⟨w.heap.size, 0, none⟩) (t.size + 1) (t.size + 1)) (t.size + 1) (i64s (fewIn l t p xs k)) ∧ Below w.heap.size w wr2) (fun _ _ i _ => n - (intOf i).toNat)
      case atStart => exact ⟨0, Nat.zero_le _, rfl, hst0, hB1⟩
      case round =>
        obtain ⟨k, hk, rfl, hown2, hB2⟩ := hrel
        by_cases hkn : k < n
        · rcases hrd with hnil | ⟨b, o, rfl, hbl, hcell⟩
          · exact absurd (by rw [HN.out, hnil]; rfl : n = 0) (by omega)
          have hkl : k < l.length := by rw [← HN.out]; exact hkn
          have g1 := cell_here hB2 hbl hcell k hkl
          have hs1 := hs _ (List.getElem_mem hkl)
          have hk0 : (0 : Int) ≤ (k : Int) := by omega
          have hkn1 : (k : Int) < (n : Int) := by omega
          have hf := hid (fitB_get (t := t) (i := p) hkl)
          have hw := hid (wsz_get hkl)
          have hno := hid (fun h => fewStep_no (l := l) (t := t) (i := p) (k := k) (xs := fewIn l t p xs k) h)
          have hneg := hid (fun h => fewStep_neg (l := l) (t := t) (i := p) (k := k) (xs := fewIn l t p xs k) h)
          have hkeep := hid (fun h h2 => fewStep_keep (l := l) (t := t) (i := p) (k := k) (xs := fewIn l t p xs k) h h2)
          have hset := hid (fun h h1 h2 => fewStep_set (l := l) (t := t) (i := p) (k := k) (xs := fewIn l t p xs k) h h1 h2)
          have hin := hid (show fewIn l t p xs (k + 1) = fewStep l t p k (fewIn l t p xs k) from rfl)
          have hyl : (fewIn l t p xs k).length = t.size + 1 := by rw [fewIn_len, hcl]
          have hym := hid (Hmo.out k)
          obtain ⟨ys, hys⟩ : ∃ ys, ys = fewIn l t p xs k := ⟨_, rfl⟩
          rw [← hys] at hown2 hno hneg hkeep hset hin hyl hym
          clear hys
          obtain ⟨x, hx⟩ : ∃ x, x = l[k] := ⟨_, rfl⟩
          rw [← hx] at g1 hs1 hf hw
          clear hx
          have hts : (t.extract p t.size).size ≤ maxLen := by simp only [ByteArray.size_extract]; unfold maxLen; omega
          have hpt : (p : Int) ≤ (t.size : Int) := by omega
          have hpt2 : p ≤ t.size := by omega
          cases hpr : preB (t.extract p t.size) x
          · go_wp2_with (go_at_call 44; refine (hasPre_b _ _ _ hts hs1 hpr).mono ?_; rintro e w' ⟨rfl, rfl⟩)
            go_roundw
            case rel => exact ⟨k + 1, by omega, by go_num, by rw [hin.out, hno.out (by rw [hf.out, hpr])]; exact hown2, hB2⟩
            case measure => simp [intOf]; omega
          · have hfs := fit_size (by omega) hpr
            have c1 := few_get hown2 hyl (show p < t.size + 1 by omega)
            have c2 := few_get hown2 hyl (show p + x.size < t.size + 1 by omega)
            have hb1 := hym.out p
            have hb2 := hym.out (p + x.size)
            have hfz := hown2.frozenAt p
            have e1 : IntKind.i64.wrap ((p : Int) + (x.size : Int)) = ((p + x.size : Nat) : Int) := IntWalk.i64_in _ (by omega)
            have e2 : (p : Int) + (x.size : Int) < ((t.size + 1 : Nat) : Int) := by omega
            rw [hw.out] at hneg hkeep hset
            obtain ⟨a, ha⟩ : ∃ a, a = ys.getD p 0 := ⟨_, rfl⟩
            obtain ⟨d, hd⟩ : ∃ d, d = ys.getD (p + x.size) 0 := ⟨_, rfl⟩
            rw [← ha] at c1 hb1 hkeep hset
            rw [← hd] at c2 hb2 hneg hkeep hset
            clear ha hd
            by_cases hd0 : d < 0
            · go_wp2_with (go_at_call 44; refine (hasPre_b _ _ _ hts hs1 hpr).mono ?_; rintro e w' ⟨rfl, rfl⟩)
              go_roundw
              case rel => exact ⟨k + 1, by omega, by go_num, by rw [hin.out, hneg.out hd0]; exact hown2, hB2⟩
              case measure => simp [intOf]; omega
            by_cases ha0 : a < 0
            · have hsx := hid (hset.out (by rw [hf.out, hpr]) hd0 (.inl ha0))
              go_wp2_with (go_at_call 44; refine (hasPre_b _ _ _ hts hs1 hpr).mono ?_; rintro e w' ⟨rfl, rfl⟩)
              go_roundw
              case rel =>
                refine ⟨k + 1, by omega, by go_num, ?_, hB2.setCell (by simp) _⟩
                rw [hin.out, hsx.out, ← i64s_set]
                exact (hown2.stored p _).1
              case measure => simp [intOf]; omega
            by_cases hda : d + 1 < a
            · have hsx := hid (hset.out (by rw [hf.out, hpr]) hd0 (.inr hda))
              go_wp2_with (go_at_call 44; refine (hasPre_b _ _ _ hts hs1 hpr).mono ?_; rintro e w' ⟨rfl, rfl⟩)
              go_roundw
              case rel =>
                refine ⟨k + 1, by omega, by go_num, ?_, hB2.setCell (by simp) _⟩
                rw [hin.out, hsx.out, ← i64s_set]
                exact (hown2.stored p _).1
              case measure => simp [intOf]; omega
            · have hsx := hid (hkeep.out ha0 hda)
              go_wp2_with (go_at_call 44; refine (hasPre_b _ _ _ hts hs1 hpr).mono ?_; rintro e w' ⟨rfl, rfl⟩)
              go_roundw
              case rel => exact ⟨k + 1, by omega, by go_num, by rw [hin.out, hsx.out]; exact hown2, hB2⟩
              case measure => simp [intOf]; omega
        · obtain rfl : k = n := by omega
          go_wp2
          go_roundw
          case rel => exact ⟨m + 1, by omega, by rw [HP.out], by rw [hnx.out, ← HN.out]; exact hown2, hB2⟩
          case measure => simp [intOf]; try omega
    · obtain rfl : m = t.size := by omega
      have hm1 : (t.size : Int) - 1 - (t.size : Int) = -1 := by omega
      rw [hm1]
      clear hm1
      go_wp2_with fail
      go_ret
      exact rowRet1_mk hown hB
set_option maxRecDepth 100000 in
set_option maxHeartbeats 4000000 in
theorem sFew_any (ao : Option Addr) (n cap : Nat) (l : List ByteArray) (t : ByteArray) (w : World) (hn : n = l.length) (hr : Rd w ao (strs l)) (hs : ∀ x ∈ l, x.size ≤ maxLen) (h10 : n ≤ 10) (h60 : t.size ≤ 60) :
    Calls Try.prog 60 #[.slice ao n cap, .string t] w (RowRet1 w.heap.size 2 w (i64s (fewL l t))) := by
  obtain ⟨i0, hi, hz0, hz1, hz2⟩ := info_parts Try.infoInt64
  have HN := hid hn
  clear hn
  have hrd := rd_str hr
  clear hr
  go_enter Try.func60, Try.ntmps60
  go_wp2_with (at_make; refine wpList_make_full _ rfl _ _ 32 rfl w.heap.size 2 i0 (.int .i64 0) 1 Try.underlying32 hi hz0 hz1 .i64 .i64 _ _ (t.size + 1) rfl rfl (by simp) (by simp) (by rw [hz2]; omega) (by unfold maxLen; omega) (Nat.le_refl _) ?_; intro w2 hown hgrow; have hownA := made64 hown; clear hown)
  have hB0 : Below w.heap.size w w2 := (Below.refl _ _).grown hgrow (Nat.le_refl _) (by simp)
  clear hgrow hi hz0 hz1 hz2
  go_loopw [7] (fun i wr => ∃ m : Nat, m ≤ t.size ∧ i = .int .i64 ((t.size : Int) - 1 - m) ∧ wr.ownsRow w.heap.size 2 1 (.slice (some ⟨w.heap.size, 0, none⟩) (t.size + 1) (t.size + 1)) (t.size + 1) (i64s (fewAll l t m)) ∧ Below w.heap.size w wr) (fun i _ => (intOf i + 1).toNat)
  case atStart => exact ⟨0, Nat.zero_le _, by go_num, hownA, hB0⟩
  case round =>
    obtain ⟨m, hmt, rfl, hown, hB⟩ := hrel
    clear hB0 hownA
    by_cases hlt : m < t.size
    · obtain ⟨p, hp⟩ : ∃ p, p = t.size - 1 - m := ⟨_, rfl⟩
      have hpi : (t.size : Int) - 1 - (m : Int) = (p : Int) := by omega
      have hps : p < t.size := by omega
      have hpd : ((t.size : Int) - 1 - ((m + 1 : Nat) : Int)) = (p : Int) - 1 := by omega
      have hnx := hid (show fewAll l t (m + 1) = fewIn l t p (fewAll l t m) l.length by rw [fewAll, hp])
      have hcl := fewAll_len l t m
      have hmo := fewAll_most l t m
      rw [hpi]
      have HP := hid hpd
      have hpz : (0 : Int) ≤ (p : Int) := by omega
      have hmp : m + p + 1 = t.size := by omega
      clear hp hpi hpd
      obtain ⟨xs, hxs⟩ : ∃ xs, xs = fewAll l t m := ⟨_, rfl⟩
      rw [← hxs] at hown hnx hcl hmo
      have Hxs := hid hxs
      clear hxs
      have Hmo := hid (fun k => fewIn_most (l := l) (t := t) (i := p) hmo (by omega) k)
      have hml : m * l.length ≤ 60 * 10 := Nat.mul_le_mul (by omega) (by rw [← HN.out]; exact h10)
      clear hmo
      have c0 := few_get hown hcl (show p < t.size + 1 by omega)
      have hf0 := hown.frozenAt p
      go_wp2_with fail
      have hst := (hown.stored p (.int .i64 (-1))).1
      rw [i64s_set] at hst
      have hst0 : (wr.setCell ⟨w.heap.size, p, none⟩ (.int .i64 (-1))).ownsRow w.heap.size 2 1 (.slice (some ⟨w.heap.size, 0, none⟩) (t.size + 1) (t.size + 1)) (t.size + 1) (i64s (fewIn l t p xs 0)) := hst
      have hB1 : Below w.heap.size w (wr.setCell ⟨w.heap.size, p, none⟩ (.int .i64 (-1))) := hB.setCell (by simp) _
      clear c0 hf0 hst hown hB
      go_loopw [8, 9] (fun i _ wr2 => ∃ k : Nat, k ≤ n ∧ i = .int .i64 k ∧ wr2.ownsRow w.heap.size 2 1 (.slice (some ⟨w.heap.size, 0, none⟩) (t.size + 1) (t.size + 1)) (t.size + 1) (i64s (fewIn l t p xs k)) ∧ Below w.heap.size w wr2) (fun i _ _ => n - (intOf i).toNat)
      case atStart => exact ⟨0, Nat.zero_le _, rfl, hst0, hB1⟩
      case round =>
        obtain ⟨k, hk, rfl, hown2, hB2⟩ := hrel
        by_cases hkn : k < n
        · rcases hrd with hnil | ⟨b, o, rfl, hbl, hcell⟩
          · exact absurd (by rw [HN.out, hnil]; rfl : n = 0) (by omega)
          have hkl : k < l.length := by rw [← HN.out]; exact hkn
          have g1 := cell_here hB2 hbl hcell k hkl
          have hs1 := hs _ (List.getElem_mem hkl)
          have hbw := Nat.lt_of_lt_of_le hbl hB2.size
          have hk0 : (0 : Int) ≤ (k : Int) := by omega
          have hkn1 : (k : Int) < (n : Int) := by omega
          have hf := hid (fitB_get (t := t) (i := p) hkl)
          have hw := hid (wsz_get hkl)
          have hno := hid (fun h => fewStep_no (l := l) (t := t) (i := p) (k := k) (xs := fewIn l t p xs k) h)
          have hneg := hid (fun h => fewStep_neg (l := l) (t := t) (i := p) (k := k) (xs := fewIn l t p xs k) h)
          have hkeep := hid (fun h h2 => fewStep_keep (l := l) (t := t) (i := p) (k := k) (xs := fewIn l t p xs k) h h2)
          have hset := hid (fun h h1 h2 => fewStep_set (l := l) (t := t) (i := p) (k := k) (xs := fewIn l t p xs k) h h1 h2)
          have hin := hid (show fewIn l t p xs (k + 1) = fewStep l t p k (fewIn l t p xs k) from rfl)
          have hyl : (fewIn l t p xs k).length = t.size + 1 := by rw [fewIn_len, hcl]
          have hym := hid (Hmo.out k)
          obtain ⟨ys, hys⟩ : ∃ ys, ys = fewIn l t p xs k := ⟨_, rfl⟩
          rw [← hys] at hown2 hno hneg hkeep hset hin hyl hym
          clear hys
          obtain ⟨x, hx⟩ : ∃ x, x = l[k] := ⟨_, rfl⟩
          rw [← hx] at g1 hs1 hf hw
          clear hx
          have hts : (t.extract p t.size).size ≤ maxLen := by simp only [ByteArray.size_extract]; unfold maxLen; omega
          have hpt : (p : Int) ≤ (t.size : Int) := by omega
          have hpt2 : p ≤ t.size := by omega
          cases hpr : preB (t.extract p t.size) x
          · go_wp2_with fail
            go_quiet ((go_at_call 40; with_reducible exact qs (begins_b _ _ _ hts hs1 hpr)))
            go_wp2
            go_roundw
            case rel => exact ⟨k + 1, by omega, by go_num, by rw [hin.out, hno.out (by rw [hf.out, hpr])]; exact owns_drewN hown2 _, below_drewN hB2 _⟩
            case measure => simp [intOf]; omega
          · have hfs := fit_size (by omega) hpr
            have c1 := few_get hown2 hyl (show p < t.size + 1 by omega)
            have c2 := few_get hown2 hyl (show p + x.size < t.size + 1 by omega)
            have hb1 := hym.out p
            have hb2 := hym.out (p + x.size)
            have hfz := hown2.frozenAt p
            have e1 : IntKind.i64.wrap ((p : Int) + (x.size : Int)) = ((p + x.size : Nat) : Int) := IntWalk.i64_in _ (by omega)
            have e2 : (p : Int) + (x.size : Int) < ((t.size + 1 : Nat) : Int) := by omega
            rw [hw.out] at hneg hkeep hset
            obtain ⟨a, ha⟩ : ∃ a, a = ys.getD p 0 := ⟨_, rfl⟩
            obtain ⟨d, hd⟩ : ∃ d, d = ys.getD (p + x.size) 0 := ⟨_, rfl⟩
            rw [← ha] at c1 hb1 hkeep hset
            rw [← hd] at c2 hb2 hneg hkeep hset
            clear ha hd
            by_cases hd0 : d < 0
            · go_wp2_with fail
              go_quiet ((go_at_call 40; with_reducible exact qs (begins_b _ _ _ hts hs1 hpr)))
              go_wp2
              go_roundw
              case rel => exact ⟨k + 1, by omega, by go_num, by rw [hin.out, hneg.out hd0]; exact owns_drewN hown2 _, below_drewN hB2 _⟩
              case measure => simp [intOf]; omega
            by_cases ha0 : a < 0
            · have hsx := hid (hset.out (by rw [hf.out, hpr]) hd0 (.inl ha0))
              go_wp2_with fail
              go_quiet ((go_at_call 40; with_reducible exact qs (begins_b _ _ _ hts hs1 hpr)))
              go_wp2
              go_roundw
              case rel =>
                refine ⟨k + 1, by omega, by go_num, ?_, (below_drewN hB2 nq).setCell (by simp) _⟩
                rw [hin.out, hsx.out, ← i64s_set]
                exact ((owns_drewN hown2 _).stored p _).1
              case measure => simp [intOf]; omega
            by_cases hda : d + 1 < a
            · have hsx := hid (hset.out (by rw [hf.out, hpr]) hd0 (.inr hda))
              go_wp2_with fail
              go_quiet ((go_at_call 40; with_reducible exact qs (begins_b _ _ _ hts hs1 hpr)))
              go_wp2
              go_roundw
              case rel =>
                refine ⟨k + 1, by omega, by go_num, ?_, (below_drewN hB2 nq).setCell (by simp) _⟩
                rw [hin.out, hsx.out, ← i64s_set]
                exact ((owns_drewN hown2 _).stored p _).1
              case measure => simp [intOf]; omega
            · have hsx := hid (hkeep.out ha0 hda)
              go_wp2_with fail
              go_quiet ((go_at_call 40; with_reducible exact qs (begins_b _ _ _ hts hs1 hpr)))
              go_wp2
              go_roundw
              case rel => exact ⟨k + 1, by omega, by go_num, by rw [hin.out, hsx.out]; exact owns_drewN hown2 _, below_drewN hB2 _⟩
              case measure => simp [intOf]; omega
        · obtain rfl : k = n := by omega
          go_wp2
          go_roundw
          case rel => exact ⟨m + 1, by omega, by rw [HP.out], by rw [hnx.out, ← HN.out]; exact hown2, hB2⟩
          case measure => simp [intOf]; try omega
    · obtain rfl : m = t.size := by omega
      have hm1 : (t.size : Int) - 1 - (t.size : Int) = -1 := by omega
      rw [hm1]
      clear hm1
      go_wp2_with fail
      go_ret
      exact rowRet1_mk hown hB

end Go.Proofs.Ytojbblbjobbcaaa
