/-
  Walks of the laws' helpers over slices of strings: equal, copy, sizes; and the reference's cut of a text at a byte.
-/
import Derived.Test.YtnjdoedhhpkjhaaMem
import Derived.Test.YtnjdoedhhpkjhaaMem2
import Derived.Test.YtnjdoedhhpkjhaaSplit
namespace Go.Proofs.Ytnjdoedhhpkjhaa
open Go.RowKit
set_option linter.unusedVariables false

theorem Try.infoStr : (Try.prog.info? 9).map (fun i => (i.zero, i.size, i.bytes)) = some (some (.string ByteArray.empty), 1, 16) := by kernel_rfl
def strs (xs : List ByteArray) : List Value := xs.map Value.string
theorem strs_len (xs : List ByteArray) : (strs xs).length = xs.length := by simp [strs]
theorem strs_get (xs : List ByteArray) (j : Nat) (h : j < (strs xs).length) : (strs xs)[j] = .string (xs[j]'(by simpa [strs] using h)) := by simp [strs]
theorem strs_snoc (xs : List ByteArray) (y : ByteArray) : strs (xs ++ [y]) = strs xs ++ [.string y] := by simp [strs]

set_option maxHeartbeats 2000000 in
theorem split_any (s : ByteArray) (c : Int) (w : World) (hs : s.size ≤ 1048576) (hc : 0 ≤ c ∧ c ≤ 255) : Calls Try.prog 80 #[.string s, .int .u8 c] w (RowRet1 w.heap.size 9 w (strs (splitL s c))) := by
  obtain ⟨i0, hi, hz0, hz1, hz2⟩ := info_parts Try.infoStr
  obtain ⟨hc1, hc2⟩ := hc
  go_enter Try.func80, Try.ntmps80
  go_wp2
  go_loopw [5, 6, 7] (fun v f i wr => ∃ k : Nat, k ≤ s.size ∧ i = .int .i64 k ∧ f = .int .i64 (spRun s c k).1 ∧ wr.ownsRow w.heap.size 9 1 v (spRun s c k).2.length (strs (spRun s c k).2) ∧ Below w.heap.size w wr) (fun _ _ i _ => s.size - (intOf i).toNat)
  case atStart => exact ⟨0, Nat.zero_le _, rfl, rfl, World.ownsRow_made _ _ 0 (Nat.le_refl _) (by unfold maxLen; omega) rfl, (Below.refl _ _).alloc (Nat.le_refl _) _⟩
  case round =>
    obtain ⟨k, hk, rfl, rfl, hown, hB⟩ := hrel
    obtain ⟨hb1, hb2⟩ := spRun_bd s c k
    have hbz := hB.size
    obtain ⟨f, hf⟩ : ∃ f, f = (spRun s c k).1 := ⟨_, rfl⟩
    obtain ⟨o, ho⟩ : ∃ o, o = (spRun s c k).2 := ⟨_, rfl⟩
    by_cases hlt : k < s.size
    · cases hcc : ((s[k].toNat : Int) == c)
      · have hn := hid (spRun_on hlt (by simpa using hcc))
        go_wp2
        go_roundw
        case rel => exact ⟨k + 1, by omega, by go_num, by rw [hn.out], by rw [hn.out]; exact hown, hB⟩
        case measure => simp [intOf]; omega
      · have hn := hid (spRun_cut hlt (by simpa using hcc))
        rw [← hf, ← ho] at hn
        rw [← ho] at hown hb2
        rw [← hf] at hb1
        rw [← hf]
        have Hf := hid hf
        have Ho := hid ho
        clear hf ho
        have hf0 : (0 : Int) ≤ (f : Int) := by omega
        have hfk : (f : Int) ≤ (k : Int) := by omega
        have hks : (k : Int) ≤ (s.size : Int) := by omega
        go_wp2_with (at_builtin; refine wpList_append_own _ rfl _ _ 34 rfl w.heap.size 9 i0 (.string ByteArray.empty) 1 16 Try.underlying34 hi hz0 hz1 hz2 rfl (by decide) _ _ _ rfl (hown.alloc _) ⟨wr.heap.size, 0, none⟩ 1 1 [.string (s.extract f k)] rfl rfl (one_new _ _ _) (one_okS _) (by unfold maxLen; omega) (by omega) (by simp; omega) ?_; intro v' w2 hown3 hgrow3 _)
        go_roundw
        case rel => exact ⟨k + 1, by omega, by go_num, by rw [hn.out]; go_num, by rw [hn.out, strs_snoc, List.length_append]; exact hown3, below_grown (hB.alloc (by omega) _) (by simp; omega) (hown.alloc _) hgrow3⟩
        case measure => simp [intOf]; omega
    · obtain rfl : k = s.size := by omega
      have hsp := hid (show splitL s c = o ++ [s.extract f s.size] by rw [hf, ho]; rfl)
      rw [← ho] at hown hb2
      rw [← hf] at hb1
      rw [← hf]
      clear hf ho
      have hf0 : (0 : Int) ≤ (f : Int) := by omega
      have hfk : (f : Int) ≤ (s.size : Int) := by omega
      go_wp2_with (at_builtin; refine wpList_append_own _ rfl _ _ 34 rfl w.heap.size 9 i0 (.string ByteArray.empty) 1 16 Try.underlying34 hi hz0 hz1 hz2 rfl (by decide) _ _ _ rfl (hown.alloc _) ⟨wr.heap.size, 0, none⟩ 1 1 [.string (s.extract f s.size)] rfl rfl (one_new _ _ _) (one_okS _) (by unfold maxLen; omega) (by omega) (by simp; omega) ?_; intro v' w2 hown3 hgrow3 _)
      go_ret
      rw [hsp.out, strs_snoc]
      exact rowRet1_mk hown3 (below_grown (hB.alloc (by omega) _) (by simp; omega) (hown.alloc _) hgrow3)
end Go.Proofs.Ytnjdoedhhpkjhaa
