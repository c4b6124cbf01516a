/-
  The walk of impl.SplitWords: the words of a text are its parts that are not empty.
-/
import Derived.Test.YtnjdoedhhpkjhaaSlStr
import Derived.Test.YtnjdoedhhpkjhaaWoRun
namespace Go.Proofs.Ytnjdoedhhpkjhaa
open Go.RowKit Go.ChangeShapes Go.WideShapes
set_option linter.unusedVariables false
attribute [local go_sem ↓] Go.wp_at_zero Go.wp_at_succ

def stF (s : ByteArray) (k : Nat) : Int := if (spRun s 32 k).1 = k then -1 else ((spRun s 32 k).1 : Int)
def wkF (s : ByteArray) (k : Nat) : List ByteArray := (spRun s 32 k).2.filter fun x => decide (0 < x.size)
theorem st_no {s : ByteArray} {k : Nat} (h : (spRun s 32 k).1 = k) : stF s k = -1 := by unfold stF; rw [if_pos h]
theorem st_yes {s : ByteArray} {k : Nat} (h : ¬ (spRun s 32 k).1 = k) : stF s k = ((spRun s 32 k).1 : Int) := by unfold stF; rw [if_neg h]
theorem wk_cut0 {s : ByteArray} {k : Nat} (hk : k < s.size) (hc : (s[k].toNat : Int) = 32) (h : (spRun s 32 k).1 = k) : stF s (k + 1) = -1 ∧ wkF s (k + 1) = wkF s k := by
  unfold stF wkF
  rw [spRun_cut hk hc]
  refine ⟨if_pos rfl, ?_⟩
  rw [List.filter_append, h]
  simp
theorem wk_cut1 {s : ByteArray} {k : Nat} (hk : k < s.size) (hc : (s[k].toNat : Int) = 32) (h : ¬ (spRun s 32 k).1 = k) : stF s (k + 1) = -1 ∧ wkF s (k + 1) = wkF s k ++ [s.extract (spRun s 32 k).1 k] := by
  have hb := (spRun_bd s 32 k).1
  unfold stF wkF
  rw [spRun_cut hk hc]
  refine ⟨if_pos rfl, ?_⟩
  rw [List.filter_append, List.filter_cons_of_pos (by simp [ByteArray.size_extract]; omega)]
  rfl
theorem wk_on0 {s : ByteArray} {k : Nat} (hk : k < s.size) (hc : ¬ (s[k].toNat : Int) = 32) (h : (spRun s 32 k).1 = k) : stF s (k + 1) = (k : Int) ∧ wkF s (k + 1) = wkF s k := by
  unfold stF wkF
  rw [spRun_on hk hc, h]
  exact ⟨if_neg (by omega), rfl⟩
theorem wk_on1 {s : ByteArray} {k : Nat} (hk : k < s.size) (hc : ¬ (s[k].toNat : Int) = 32) (h : ¬ (spRun s 32 k).1 = k) : stF s (k + 1) = ((spRun s 32 k).1 : Int) ∧ wkF s (k + 1) = wkF s k := by
  have hb := (spRun_bd s 32 k).1
  unfold stF wkF
  rw [spRun_on hk hc]
  exact ⟨if_neg (by omega), rfl⟩
theorem wk_end0 {s : ByteArray} (h : (spRun s 32 s.size).1 = s.size) : wordsL s = wkF s s.size := by
  unfold wordsL splitL wkF
  rw [List.filter_append, h]
  simp
theorem wk_end1 {s : ByteArray} (h : ¬ (spRun s 32 s.size).1 = s.size) : wordsL s = wkF s s.size ++ [s.extract (spRun s 32 s.size).1 s.size] := by
  have hb := (spRun_bd s 32 s.size).1
  unfold wordsL splitL wkF
  rw [List.filter_append, List.filter_cons_of_pos (by simp [ByteArray.size_extract]; omega)]
  rfl
theorem wk_len (s : ByteArray) (k : Nat) : (wkF s k).length ≤ k := Nat.le_trans (List.length_filter_le _ _) (spRun_bd s 32 k).2

set_option maxRecDepth 100000 in
set_option maxHeartbeats 4000000 in
theorem splitW_any (s : ByteArray) (w : World) (hs : s.size ≤ 1048576) : Calls Try.prog 83 #[.string s] w (RowRet1 w.heap.size 9 w (strs (wordsL s))) := by
  obtain ⟨i0, hi, hz0, hz1, hz2⟩ := info_parts Try.infoStr
  go_enter Try.func83, Try.ntmps83
  go_wp2
  go_loopw [3, 4, 5, 9] (fun v f _ i wr => ∃ k : Nat, k ≤ s.size ∧ i = .int .i64 k ∧ f = .int .i64 (stF s k) ∧ wr.ownsRow w.heap.size 9 1 v (wkF s k).length (strs (wkF s k)) ∧ Below w.heap.size w wr) (fun _ _ _ i _ => s.size - (intOf i).toNat)
  case atStart => exact ⟨0, Nat.zero_le _, rfl, rfl, World.ownsRow_made _ _ 0 (Nat.le_refl _) (by unfold maxLen; omega) rfl, (Below.refl _ _).alloc (Nat.le_refl _) _⟩
  case round =>
    obtain ⟨k, hk, rfl, rfl, hown, hB⟩ := hrel
    have hb1 := (spRun_bd s 32 k).1
    have hwl := wk_len s k
    have hbz := hB.size
    have hk0 : (0 : Int) ≤ (k : Int) := by omega
    obtain ⟨f, hf⟩ : ∃ f, f = (spRun s 32 k).1 := ⟨_, rfl⟩
    obtain ⟨o, ho⟩ : ∃ o, o = wkF s k := ⟨_, rfl⟩
    rw [← ho] at hown hwl
    rw [← hf] at hb1
    have hf0 : (0 : Int) ≤ (f : Int) := by omega
    have hfk : (f : Int) ≤ (k : Int) := by omega
    by_cases hlt : k < s.size
    · have hks : (k : Int) ≤ (s.size : Int) := by omega
      by_cases hfe : f = k
      · have hst := st_no (s := s) (k := k) (by rw [← hf]; exact hfe)
        rw [hst]
        by_cases hcc : (s[k].toNat : Int) = 32
        rotate_left
        · have q1 : ((s[k].toNat : Int) == 32) = false := by simpa using hcc
          have q2 : ((s[k].toNat : Int) != 32) = true := by simpa using hcc
          have hn := hid (wk_on0 hlt hcc (by rw [← hf]; exact hfe))
          rw [← ho] at hn
          clear hf ho hst hfe
          go_wp2
          go_roundw
          case rel => exact ⟨k + 1, by omega, by go_num, by rw [hn.out.1], by rw [hn.out.2]; exact hown, hB⟩
          case measure => simp [intOf]; omega
        · have q1 : ((s[k].toNat : Int) == 32) = true := by simpa using hcc
          have q2 : ((s[k].toNat : Int) != 32) = false := by simpa using hcc
          have hn := hid (wk_cut0 hlt hcc (by rw [← hf]; exact hfe))
          rw [← ho] at hn
          clear hf ho hst hfe
          go_wp2
          go_roundw
          case rel => exact ⟨k + 1, by omega, by go_num, by rw [hn.out.1], by rw [hn.out.2]; exact hown, hB⟩
          case measure => simp [intOf]; omega
      · have hst := st_yes (s := s) (k := k) (by rw [← hf]; exact hfe)
        rw [hst, ← hf]
        by_cases hcc : (s[k].toNat : Int) = 32
        rotate_left
        · have q1 : ((s[k].toNat : Int) == 32) = false := by simpa using hcc
          have q2 : ((s[k].toNat : Int) != 32) = true := by simpa using hcc
          have hn := hid (wk_on1 hlt hcc (by rw [← hf]; exact hfe))
          rw [← ho, ← hf] at hn
          clear hf ho hst hfe
          go_wp2
          go_roundw
          case rel => exact ⟨k + 1, by omega, by go_num, by rw [hn.out.1], by rw [hn.out.2]; exact hown, hB⟩
          case measure => simp [intOf]; omega
        · have q1 : ((s[k].toNat : Int) == 32) = true := by simpa using hcc
          have q2 : ((s[k].toNat : Int) != 32) = false := by simpa using hcc
          have hn := hid (wk_cut1 hlt hcc (by rw [← hf]; exact hfe))
          rw [← ho, ← hf] at hn
          clear hf ho hst hfe
          go_wp2_with (at_builtin; refine wpList_append_own _ rfl _ _ 34 rfl w.heap.size 9 i0 (.string ByteArray.empty) 1 16 Try.underlying34 hi hz0 hz1 hz2 rfl (by decide) _ _ _ rfl (hown.alloc _) ⟨wr.heap.size, 0, none⟩ 1 1 [.string (s.extract f k)] rfl rfl (one_new _ _ _) (one_okS _) (by unfold maxLen; omega) (by omega) (by simp; omega) ?_; intro v' w2 hown3 hgrow3 _)
          go_roundw
          case rel => exact ⟨k + 1, by omega, by go_num, by rw [hn.out.1], by rw [hn.out.2, strs_snoc, List.length_append]; exact hown3, below_grown (hB.alloc (by omega) _) (by simp; omega) (hown.alloc _) hgrow3⟩
          case measure => simp [intOf]; omega
    · obtain rfl : k = s.size := by omega
      by_cases hfe : f = s.size
      · have hst := st_no (s := s) (k := s.size) (by rw [← hf]; exact hfe)
        have hw := hid (wk_end0 (s := s) (by rw [← hf]; exact hfe))
        rw [← ho] at hw
        rw [hst]
        clear hf ho hst hfe
        go_wp2
        go_ret
        rw [hw.out]
        exact rowRet1_mk hown hB
      · have hst := st_yes (s := s) (k := s.size) (by rw [← hf]; exact hfe)
        have hw := hid (wk_end1 (s := s) (by rw [← hf]; exact hfe))
        rw [← ho, ← hf] at hw
        rw [hst, ← hf]
        clear hf ho hst hfe
        go_wp2_with (at_builtin; refine wpList_append_own _ rfl _ _ 34 rfl w.heap.size 9 i0 (.string ByteArray.empty) 1 16 Try.underlying34 hi hz0 hz1 hz2 rfl (by decide) _ _ _ rfl (hown.alloc _) ⟨wr.heap.size, 0, none⟩ 1 1 [.string (s.extract f s.size)] rfl rfl (one_new _ _ _) (one_okS _) (by unfold maxLen; omega) (by omega) (by simp; omega) ?_; intro v' w2 hown3 hgrow3 _)
        go_ret
        rw [hw.out, strs_snoc]
        exact rowRet1_mk hown3 (below_grown (hB.alloc (by omega) _) (by simp; omega) (hown.alloc _) hgrow3)
end Go.Proofs.Ytnjdoedhhpkjhaa
