/-
  The library's symmetric merge, where one block holds one element: the walks.
-/
import Derived.Test.YtnjdoedhhpkjhaaSmB
namespace Go.Proofs.Ytnjdoedhhpkjhaa
open Go.Shelf Go.RowKit Go.Lib Go.Sort
set_option linter.unusedVariables false
section
variable {α : Type} [Inhabited α] {lt T : α → α → Bool}

set_option maxHeartbeats 2000000 in
set_option maxRecDepth 100000 in
theorem symMerge_one (hT : SWO T) (enc : α → Value) (g : Nat) (lb : Array Value) (sf : Nat) (sb : Array Value) (blk off a m b : Nat) (d : Array α) (W : World) (hm : m = a + 1) (eg : ∀ args w, (callFunc g args).run Try.prog w = .ok (.enter g args) w)
    (hless : LessReads Try.prog g lb enc lt blk off d.size W) (hswap : SwapSwaps Try.prog sf sb enc blk off d.size) (hH : Holds enc W blk off d) (hblk : blk < W.heap.size) (hmb : m < b) (hb : b ≤ d.size) (hsz : d.size < 4611686018427387904) (hM : Mg lt T a m b d) :
    Calls Try.prog 96 #[.agg #[.func (.func g) #[] lb, .func (.func sf) #[] sb], .int .i64 a, .int .i64 m, .int .i64 b] W fun e w' => e = .returned (.tuple #[]) ∧ ∃ d', Done T a b d d' ∧ SW enc W blk off d' w' := by
  have hSW := hid ((SW.start hH).alloc (.cells #[.func (.func g) #[] lb, .func (.func sf) #[] sb] 101))
  have hb1 : blk < (W.alloc (.cells #[.func (.func g) #[] lb, .func (.func sf) #[] sb] 101)).heap.size := by simp; omega
  have hH1 := hid (hSW.out.holds hblk hH rfl)
  have hS0 := hid (SW.start hH1.out)
  have hls := hid (hSW.out.lessReads hless hblk rfl)
  have hswp := hid hswap
  have hMM := hid (show Mg lt T a (a + 1) b d by rw [← hm]; exact hM)
  have HMA := hid hm
  clear hH hswap hless hM
  have e1 : (((m : Int) - (a : Int)) == 1) = true := by simp; omega
  have ham : a < m := by omega
  clear hm
  go_enter Try.func96, Try.ntmps96
  go_wp2_with fail
  go_loopw [8, 9, 10] (fun vi vj _ wr => ∃ (i j : Nat), vi = .int .i64 i ∧ vj = .int .i64 j ∧ m ≤ i ∧ i ≤ j ∧ j ≤ b ∧ Hid (∀ q, m ≤ q → q < i → lt d[q]! d[a]! = true) ∧ Hid (∀ q, j ≤ q → q < b → lt d[q]! d[a]! = false) ∧ Hid (SW enc (W.alloc (.cells #[.func (.func g) #[] lb, .func (.func sf) #[] sb] 101)) blk off d wr)) (fun vi vj _ _ => (intOf vj).toNat - (intOf vi).toNat)
  case atStart => exact ⟨m, b, rfl, rfl, Nat.le_refl _, by omega, Nat.le_refl _, hid (fun q h1 h2 => by omega), hid (fun q h1 h2 => by omega), hS0⟩
  case round =>
    obtain ⟨i, j, rfl, rfl, hai, hij, hjb, hlo, hhi, hsw⟩ := hrel
    obtain ⟨c0, c1⟩ := box_cells W (.func g) #[] lb sf sb hblk hsw.out
    by_cases hlt : i < j
    · obtain ⟨h, hh⟩ : ∃ h, h = (i + j) / 2 := ⟨_, rfl⟩
      have hl := hsw.out.less hls.out rfl h a (by omega) (by omega)
      have hij0 : (i : Int) < (j : Int) := by omega
      rw [show ((h : Nat) : Int) = ((i : Int) + j) / 2 by omega] at hl
      cases hv : lt d[h]! d[a]!
      · rw [hv] at hl
        have HL := hid hl
        clear hl
        have hhi2 := hid (show ∀ q, h ≤ q → q < b → lt d[q]! d[a]! = false from fun q h1 h2 => mg_mono1 hT hMM.out (by rw [← HMA.out]; omega) h1 h2 hv)
        have hsw2 := hid (fun q => hsw.out.drewN q)
        go_wp2_with (go_at_fn g; refine HL.out.mono ?_; rintro e w' ⟨rfl, q, rfl⟩)
        go_roundw
        case rel => exact ⟨i, h, rfl, by congr 1; omega, hai, by omega, by omega, hlo, hhi2, hid (hsw2.out q)⟩
        case measure => simp [intOf]; omega
      · rw [hv] at hl
        have HL := hid hl
        clear hl
        have hlo2 := hid (show ∀ q, m ≤ q → q < h + 1 → lt d[q]! d[a]! = true from fun q h1 h2 => by
          cases hq : lt d[q]! d[a]!
          · have := mg_mono1 hT hMM.out (by rw [← HMA.out]; exact h1) (show q ≤ h by omega) (by omega) hq
            rw [hv] at this; cases this
          · rfl)
        have hsw2 := hid (fun q => hsw.out.drewN q)
        go_wp2_with (go_at_fn g; refine HL.out.mono ?_; rintro e w' ⟨rfl, q, rfl⟩)
        go_roundw
        case rel => exact ⟨h + 1, j, by congr 1; omega, rfl, by omega, by omega, hjb, hlo2, hhi, hid (hsw2.out q)⟩
        case measure => simp [intOf]; omega
    · obtain rfl : i = j := by omega
      clear hS0 hls
      have hswS := hid (show SW enc (W.alloc (.cells #[.func (.func g) #[] lb, .func (.func sf) #[] sb] 101)) blk off d wr from hsw.out)
      go_wp2_with fail
      go_loopw [11] (fun vk wr => ∃ (k : Nat) (dk : Array α), vk = .int .i64 k ∧ a ≤ k ∧ k + 1 ≤ i ∧ Hid (UpR a k d dk) ∧ Hid (SW enc (W.alloc (.cells #[.func (.func g) #[] lb, .func (.func sf) #[] sb] 101)) blk off dk wr)) (fun vk _ => i - (intOf vk).toNat)
      case atStart => exact ⟨a, d, rfl, Nat.le_refl _, by omega, hid (up_zero a d), hswS⟩
      case round =>
        clear hsw hswS c0 c1
        obtain ⟨k, dk, rfl, hak, hki, hup, hsw⟩ := hrel
        have hsk := hup.out.size
        obtain ⟨c0, c1⟩ := box_cells W (.func g) #[] lb sf sb hblk hsw.out
        by_cases hkt : k + 1 < i
        · have hk0 : (k : Int) < (i : Int) - 1 := by omega
          have hHk := hsw.out.holds hb1 hH1.out hsk
          have hs := hswp.out wr dk hHk hsk k (k + 1) (by omega) (by omega)
          rw [show ((k + 1 : Nat) : Int) = (k : Int) + 1 by omega] at hs
          have hup2 := hid (up_step hup.out hak (by omega))
          have hsw2 := hid (hsw.out.swap hb1 k (k + 1) (by omega) (by omega))
          clear hHk
          go_wp2_with fail
          go_roundw
          case rel => exact ⟨k + 1, _, by go_num, by omega, by omega, hup2, hsw2⟩
          case measure => simp [intOf]; omega
        · have hik : i = k + 1 := by omega
          have hk0 : ¬ (k : Int) < (i : Int) - 1 := by omega
          have hrot := hid (up_rot hup.out hak (by omega))
          have hdone := hid (mg_one hT hMM.out (i := k + 1) (by omega) (by omega) hb (fun q h1 h2 => hlo.out q (by rw [HMA.out]; exact h1) (by omega)) (fun q h1 h2 => hhi.out q (by omega) h2) hrot.out)
          clear hik
          go_wp2_with fail
          (try simp only [Exit.inBlock, Exit.then]); refine bodyPost_ret (results_none rfl _ _ _) rfl ?_
          exact ⟨rfl, dk, hdone.out, sw_trans hSW.out hblk hsk hsw.out⟩
end
end Go.Proofs.Ytnjdoedhhpkjhaa
