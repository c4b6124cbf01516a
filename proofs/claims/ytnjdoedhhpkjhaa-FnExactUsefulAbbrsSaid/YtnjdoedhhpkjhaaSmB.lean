/-
  The library's rotation: the walk.
-/
import Derived.Test.YtnjdoedhhpkjhaaSmA
namespace Go.Proofs.Ytnjdoedhhpkjhaa
open Go.Shelf Go.RowKit Go.Lib Go.Sort
set_option linter.unusedVariables false
section
variable {α : Type} [Inhabited α]
/-- where the rotation stands -/
structure RotAt (d : Array α) (a m b i j : Nat) (dk : Array α) : Prop where
  i1 : 1 ≤ i
  j1 : 1 ≤ j
  lo : a + i ≤ m
  hi : m + j ≤ b
  get : ∀ k, rotI dk (m - i) m (m + j) k = rotI d a m b k
  perm : PermIn a b d dk
theorem rotAt_zero {d : Array α} {a m b : Nat} (h1 : a < m) (h2 : m < b) : RotAt d a m b (m - a) (b - m) d := by
  refine ⟨by omega, by omega, by omega, by omega, fun k => ?_, permIn_refl d a b⟩
  rw [show m - (m - a) = a by omega, show m + (b - m) = b by omega]
theorem rotAt_left {d dk d' : Array α} {a m b i j : Nat} (h : RotAt d a m b i j dk) (hij : j < i) (hb : b ≤ d.size) (hr : SwR (m - i) m j dk d') : RotAt d a m b (i - j) j d' := by
  have h1 := h.i1; have h2 := h.j1; have h3 := h.lo; have h4 := h.hi; have h5 : dk.size = d.size := h.perm.1
  refine ⟨by omega, by omega, by omega, by omega, fun k => (rot_left (by omega) h2 hij hr k).trans (h.get k), permIn_trans d dk d' a b h.perm (hr.perm a b (by omega) (by omega) (by omega))⟩
theorem rotAt_right {d dk d' : Array α} {a m b i j : Nat} (h : RotAt d a m b i j dk) (hij : i < j) (hb : b ≤ d.size) (hr : SwR (m - i) (m + j - i) i dk d') : RotAt d a m b i (j - i) d' := by
  have h1 := h.i1; have h2 := h.j1; have h3 := h.lo; have h4 := h.hi; have h5 : dk.size = d.size := h.perm.1
  refine ⟨by omega, by omega, by omega, by omega, fun k => (rot_right (by omega) h1 hij hr k).trans (h.get k), permIn_trans d dk d' a b h.perm (hr.perm a b (by omega) (by omega) (by omega))⟩
theorem rotAt_end {d dk d' : Array α} {a m b i : Nat} (h : RotAt d a m b i i dk) (hb : b ≤ d.size) (hr : SwR (m - i) m i dk d') : RotP a m b d d' := by
  have h1 := h.i1; have h3 := h.lo; have h4 := h.hi; have h5 : dk.size = d.size := h.perm.1
  exact ⟨fun k => (rot_even (by omega) hr k).trans (h.get k), permIn_trans d dk d' a b h.perm (hr.perm a b (by omega) (by omega) (by omega))⟩

set_option maxHeartbeats 2000000 in
set_option maxRecDepth 100000 in
theorem rotate_any (enc : α → Value) (lf : Fn) (la lb : Array Value) (sf : Nat) (sb : Array Value) (blk off a m b : Nat) (d : Array α) (W : World)
    (hswap : SwapSwaps Try.prog sf sb enc blk off d.size) (hH : Holds enc W blk off d) (hblk : blk < W.heap.size) (ham : a < m) (hmb : m < b) (hb : b ≤ d.size) (hsz : d.size < 4611686018427387904) :
    Calls Try.prog 121 #[.agg #[.func lf la lb, .func (.func sf) #[] sb], .int .i64 a, .int .i64 m, .int .i64 b] W fun e w' => e = .returned (.tuple #[]) ∧ ∃ d', RotP a m b d d' ∧ SW enc W blk off d' w' := by
  have hSW := hid ((SW.start hH).alloc (.cells #[.func lf la lb, .func (.func sf) #[] sb] 101))
  have hb1 : blk < (W.alloc (.cells #[.func lf la lb, .func (.func sf) #[] sb] 101)).heap.size := by simp; omega
  have hH1 := hid (hSW.out.holds hblk hH rfl)
  have hS0 := hid (SW.start hH1.out)
  have hswp := hid hswap
  clear hH hswap
  go_enter Try.func121, Try.ntmps121
  go_wp2_with fail
  go_loopw [8, 9] (fun vi vj wr => ∃ (i j : Nat) (dk : Array α), vi = .int .i64 i ∧ vj = .int .i64 j ∧ Hid (RotAt d a m b i j dk) ∧ Hid (SW enc (W.alloc (.cells #[.func lf la lb, .func (.func sf) #[] sb] 101)) blk off dk wr)) (fun vi vj _ => (intOf vi).toNat + (intOf vj).toNat)
  case atStart => exact ⟨m - a, b - m, d, by go_num, by go_num, hid (rotAt_zero ham hmb), hS0⟩
  case round =>
    obtain ⟨i, j, dk, rfl, rfl, hra, hsw⟩ := hrel
    obtain ⟨h1, h2, h3, h4, _, hp⟩ := id hra.out
    have h5 : dk.size = d.size := hp.1
    clear hp
    obtain ⟨c0, c1⟩ := box_cells W lf la lb sf sb hblk hsw.out
    have hHk := hid (hsw.out.holds hb1 hH1.out h5)
    have hbk := hsw.out.lt hb1
    have hswk := hid (show SwapSwaps Try.prog sf sb enc blk off dk.size by rw [h5]; exact hswp.out)
    rcases Nat.lt_trichotomy i j with hij | hij | hij
    · have hne : ¬ (i : Int) = (j : Int) := by omega
      have hle : ¬ (j : Int) < (i : Int) := by omega
      have hc := swapRange_any enc lf la lb sf sb blk off (m - i) (m + j - i) i dk wr hswk.out hHk.out hbk (by omega) (by omega) (by omega)
      rw [show ((m - i : Nat) : Int) = (m : Int) - i by omega, show ((m + j - i : Nat) : Int) = (m : Int) + j - i by omega] at hc
      have HC := hid hc
      clear hc
      go_wp2_with (go_at_call 141; refine HC.out.mono ?_; rintro e w' ⟨rfl, d', hr, hsw'⟩; have hr2 := hid hr; have hsw2 := hid (sw_trans hsw.out hb1 hr.size hsw'); clear hr hsw')
      go_roundw
      case rel => exact ⟨i, j - i, d', by go_num, by go_num, hid (rotAt_right hra.out hij hb hr2.out), hsw2⟩
      case measure => simp [intOf]; omega
    · subst hij
      have hc := swapRange_any enc lf la lb sf sb blk off (m - i) m i dk wr hswk.out hHk.out hbk (by omega) (by omega) (by omega)
      rw [show ((m - i : Nat) : Int) = (m : Int) - i by omega] at hc
      have HC := hid hc
      clear hc
      go_wp2_with (go_at_call 141; refine HC.out.mono ?_; rintro e w' ⟨rfl, d', hr, hsw'⟩; have hr2 := hid hr; have hsw2 := hid (sw_trans hsw.out hb1 hr.size hsw'); clear hr hsw')
      go_end0
      exact ⟨rfl, d', rotAt_end hra.out hb hr2.out, sw_trans hSW.out hblk (hr2.out.size.trans h5) hsw2.out⟩
    · have hne : ¬ (i : Int) = (j : Int) := by omega
      have hle : (j : Int) < (i : Int) := by omega
      have hc := swapRange_any enc lf la lb sf sb blk off (m - i) m j dk wr hswk.out hHk.out hbk (by omega) (by omega) (by omega)
      rw [show ((m - i : Nat) : Int) = (m : Int) - i by omega] at hc
      have HC := hid hc
      clear hc
      go_wp2_with (go_at_call 141; refine HC.out.mono ?_; rintro e w' ⟨rfl, d', hr, hsw'⟩; have hr2 := hid hr; have hsw2 := hid (sw_trans hsw.out hb1 hr.size hsw'); clear hr hsw')
      go_roundw
      case rel => exact ⟨i - j, j, d', by go_num, by go_num, hid (rotAt_left hra.out hij hb hr2.out), hsw2⟩
      case measure => simp [intOf]; omega
end
end Go.Proofs.Ytnjdoedhhpkjhaa
