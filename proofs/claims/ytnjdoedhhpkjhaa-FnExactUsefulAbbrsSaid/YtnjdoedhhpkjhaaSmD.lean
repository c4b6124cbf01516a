/-
  The library's symmetric merge, where the block behind holds one element: the walk.
-/
import Derived.Test.YtnjdoedhhpkjhaaSmC
namespace Go.Proofs.Ytnjdoedhhpkjhaa
open Go.Shelf Go.RowKit Go.Lib Go.Sort
set_option linter.unusedVariables false
section
variable {α : Type} [Inhabited α] {lt T : α → α → Bool}

set_option maxHeartbeats 2000000 in
set_option maxRecDepth 100000 in
theorem symMerge_last (hT : SWO T) (enc : α → Value) (g : Nat) (lb : Array Value) (sf : Nat) (sb : Array Value) (blk off a m b : Nat) (d : Array α) (W : World) (hm : b = m + 1) (eg : ∀ args w, (callFunc g args).run Try.prog w = .ok (.enter g args) w)
    (hless : LessReads Try.prog g lb enc lt blk off d.size W) (hswap : SwapSwaps Try.prog sf sb enc blk off d.size) (hH : Holds enc W blk off d) (hblk : blk < W.heap.size) (ham : a + 1 < m) (hb : b ≤ d.size) (hsz : d.size < 4611686018427387904) (hM : Mg lt T a m b d) :
    Calls Try.prog 96 #[.agg #[.func (.func g) #[] lb, .func (.func sf) #[] sb], .int .i64 a, .int .i64 m, .int .i64 b] W fun e w' => e = .returned (.tuple #[]) ∧ ∃ d', Done T a b d d' ∧ SW enc W blk off d' w' := by
  have hSW := hid ((SW.start hH).alloc (.cells #[.func (.func g) #[] lb, .func (.func sf) #[] sb] 101))
  have hb1 : blk < (W.alloc (.cells #[.func (.func g) #[] lb, .func (.func sf) #[] sb] 101)).heap.size := by simp; omega
  have hH1 := hid (hSW.out.holds hblk hH rfl)
  have hS0 := hid (SW.start hH1.out)
  have hls := hid (hSW.out.lessReads hless hblk rfl)
  have hswp := hid hswap
  have hMM := hid (show Mg lt T a m (m + 1) d by rw [← hm]; exact hM)
  have HMA := hid hm
  clear hH hswap hless hM
  have e0 : (((m : Int) - (a : Int)) == 1) = false := by simp; omega
  have e1 : (((b : Int) - (m : Int)) == 1) = true := by simp; omega
  have hmb : m < b := by omega
  clear hm
  go_enter Try.func96, Try.ntmps96
  go_wp2_with fail
  go_loopw [12, 13, 14] (fun vi vj _ wr => ∃ (i j : Nat), vi = .int .i64 i ∧ vj = .int .i64 j ∧ a ≤ i ∧ i ≤ j ∧ j ≤ m ∧ Hid (∀ q, a ≤ q → q < i → lt d[m]! d[q]! = false) ∧ Hid (∀ q, j ≤ q → q < m → lt d[m]! d[q]! = true) ∧ Hid (SW enc (W.alloc (.cells #[.func (.func g) #[] lb, .func (.func sf) #[] sb] 101)) blk off d wr)) (fun vi vj _ _ => (intOf vj).toNat - (intOf vi).toNat)
  case atStart => exact ⟨a, m, rfl, rfl, Nat.le_refl _, by omega, Nat.le_refl _, hid (fun q h1 h2 => by omega), hid (fun q h1 h2 => by omega), hS0⟩
  case round =>
    obtain ⟨i, j, rfl, rfl, hai, hij, hjb, hlo, hhi, hsw⟩ := hrel
    obtain ⟨c0, c1⟩ := box_cells W (.func g) #[] lb sf sb hblk hsw.out
    by_cases hlt : i < j
    · obtain ⟨h, hh⟩ : ∃ h, h = (i + j) / 2 := ⟨_, rfl⟩
      have hl := hsw.out.less hls.out rfl m h (by omega) (by omega)
      have hij0 : (i : Int) < (j : Int) := by omega
      rw [show ((h : Nat) : Int) = ((i : Int) + j) / 2 by omega] at hl
      cases hv : lt d[m]! d[h]!
      · rw [hv] at hl
        have HL := hid hl
        clear hl
        have hlo2 := hid (show ∀ q, a ≤ q → q < h + 1 → lt d[m]! d[q]! = false from fun q h1 h2 => mg_mono2 hT hMM.out h1 (show q ≤ h by omega) (by omega) hv)
        have hsw2 := hid (fun q => hsw.out.drewN q)
        go_wp2_with (go_at_fn g; refine HL.out.mono ?_; rintro e w' ⟨rfl, q, rfl⟩)
        go_roundw
        case rel => exact ⟨h + 1, j, by congr 1; omega, rfl, by omega, by omega, hjb, hlo2, hhi, hid (hsw2.out q)⟩
        case measure => simp [intOf]; omega
      · rw [hv] at hl
        have HL := hid hl
        clear hl
        have hhi2 := hid (show ∀ q, h ≤ q → q < m → lt d[m]! d[q]! = true from fun q h1 h2 => by
          cases hq : lt d[m]! d[q]!
          · have := mg_mono2 hT hMM.out (show a ≤ h by omega) h1 h2 hq
            rw [hv] at this; cases this
          · rfl)
        have hsw2 := hid (fun q => hsw.out.drewN q)
        go_wp2_with (go_at_fn g; refine HL.out.mono ?_; rintro e w' ⟨rfl, q, rfl⟩)
        go_roundw
        case rel => exact ⟨i, h, rfl, by congr 1; omega, hai, by omega, by omega, hlo, hhi2, hid (hsw2.out q)⟩
        case measure => simp [intOf]; omega
    · obtain rfl : i = j := by omega
      clear hS0 hls
      have hswS := hid (show SW enc (W.alloc (.cells #[.func (.func g) #[] lb, .func (.func sf) #[] sb] 101)) blk off d wr from hsw.out)
      go_wp2_with fail
      go_loopw [15] (fun vk wr => ∃ (k : Nat) (dk : Array α), vk = .int .i64 k ∧ i ≤ k ∧ k ≤ m ∧ Hid (DnR m k d dk) ∧ Hid (SW enc (W.alloc (.cells #[.func (.func g) #[] lb, .func (.func sf) #[] sb] 101)) blk off dk wr)) (fun vk _ => (intOf vk).toNat)
      case atStart => exact ⟨m, d, rfl, by omega, Nat.le_refl _, hid (dn_zero m d), hswS⟩
      case round =>
        clear hsw hswS c0 c1
        obtain ⟨k, dk, rfl, hik, hkm, hdn, hsw⟩ := hrel
        have hsk := hdn.out.size
        obtain ⟨c0, c1⟩ := box_cells W (.func g) #[] lb sf sb hblk hsw.out
        by_cases hkt : i < k
        · obtain ⟨p, hp⟩ : ∃ p, k = p + 1 := ⟨k - 1, by omega⟩
          have hk0 : (i : Int) < (k : Int) := by omega
          have hHk := hsw.out.holds hb1 hH1.out hsk
          have hs := hswp.out wr dk hHk hsk k p (by omega) (by omega)
          rw [show ((p : Nat) : Int) = (k : Int) - 1 by omega] at hs
          have hdn2 := hid (show DnR m p d (swp dk k p) by rw [hp] at hdn ⊢; exact dn_step hdn.out (by omega) (by omega))
          have hsw2 := hid (hsw.out.swap hb1 k p (by omega) (by omega))
          have HP := hid hp
          clear hHk hp
          go_wp2_with fail
          have hp := HP.out
          go_roundw
          case rel => exact ⟨p, _, by congr 1; omega, by omega, by omega, hdn2, hsw2⟩
          case measure => simp [intOf]; omega
        · obtain rfl : i = k := by omega
          have hrot := hid (dn_rot hdn.out hkm (by omega))
          have hdone := hid (mg_last hT hMM.out hai hkm (by rw [← HMA.out]; exact hb) (fun q h1 h2 => hlo.out q h1 h2) (fun q h1 h2 => hhi.out q h1 h2) hrot.out)
          rw [← HMA.out] at hdone
          go_wp2_with fail
          (try simp only [Exit.inBlock, Exit.then]); refine bodyPost_ret (results_none rfl _ _ _) rfl ?_
          exact ⟨rfl, dk, hdone.out, sw_trans hSW.out hblk hsk hsw.out⟩
end
end Go.Proofs.Ytnjdoedhhpkjhaa
