/-
  The library's exchange of two blocks and its rotation: the walks.
-/
import Derived.Test.YtnjdoedhhpkjhaaSmMath
import Derived.Test.YtnjdoedhhpkjhaaMem2
import Derived.Shelf.GgSortMore.Stable
namespace Go.Proofs.Ytnjdoedhhpkjhaa
open Go.Shelf Go.RowKit Go.Lib Go.Sort
set_option linter.unusedVariables false
section
variable {α : Type} [Inhabited α]

theorem sw_cell {enc : α → Value} {w0 W : World} {blk off : Nat} {dk : Array α} (h : SW enc w0 blk off dk W) {p : Addr} (hp : p.block < w0.heap.size) (hne : p.block ≠ blk) : W.cell? p = w0.cell? p := by
  obtain ⟨n, os, rfl⟩ := h
  unfold sortWorld
  rw [cell?_grow _ _ _ (by rw [Go.Sort.size_putRow, heap_ahead]; exact hp), cell?_putRow_other enc _ blk off dk _ (Or.inl hne), cell?_ahead]
theorem sw_trans {enc : α → Value} {w0 W W' : World} {blk off : Nat} {dk dk' : Array α} (h : SW enc w0 blk off dk W) (hblk : blk < w0.heap.size) (hs : dk'.size = dk.size) (h2 : SW enc W blk off dk' W') : SW enc w0 blk off dk' W' := by
  obtain ⟨n, os, rfl⟩ := h2
  exact h.on hblk n dk' os hs
def lsBox (lf : Fn) (la lb : Array Value) (sf : Nat) (sb : Array Value) : Obj := .cells #[.func lf la lb, .func (.func sf) #[] sb] 101
theorem box_cells {enc : α → Value} (W : World) {wr : World} {blk off : Nat} {dk : Array α} (lf : Fn) (la lb : Array Value) (sf : Nat) (sb : Array Value) (hblk : blk < W.heap.size) (h : SW enc (W.alloc (.cells #[.func lf la lb, .func (.func sf) #[] sb] 101)) blk off dk wr) :
    wr.cell? ⟨W.heap.size, 0, none⟩ = some (.func lf la lb) ∧ wr.cell? ⟨W.heap.size, 1, none⟩ = some (.func (.func sf) #[] sb) := by
  constructor
  · rw [sw_cell h (by simp) (by show W.heap.size ≠ blk; omega)]; simp
  · rw [sw_cell h (by simp) (by show W.heap.size ≠ blk; omega)]; simp

set_option maxHeartbeats 2000000 in
set_option maxRecDepth 100000 in
theorem swapRange_any (enc : α → Value) (lf : Fn) (la lb : Array Value) (sf : Nat) (sb : Array Value) (blk off a b n : Nat) (d : Array α) (W : World)
    (hswap : SwapSwaps Try.prog sf sb enc blk off d.size) (hH : Holds enc W blk off d) (hblk : blk < W.heap.size) (hab : a + n ≤ b) (hb : b + n ≤ d.size) (hsz : d.size < 4611686018427387904) :
    Calls Try.prog 141 #[.agg #[.func lf la lb, .func (.func sf) #[] sb], .int .i64 a, .int .i64 b, .int .i64 n] W fun e w' => e = .returned (.tuple #[]) ∧ ∃ d', SwR a b n d d' ∧ SW enc W blk off d' w' := by
  have hSW := hid ((SW.start hH).alloc (.cells #[.func lf la lb, .func (.func sf) #[] sb] 101))
  have hb1 : blk < (W.alloc (.cells #[.func lf la lb, .func (.func sf) #[] sb] 101)).heap.size := by simp; omega
  have hH1 := hid (hSW.out.holds hblk hH rfl)
  have hS0 := hid (SW.start hH1.out)
  have hswp := hid hswap
  clear hH hswap
  go_enter Try.func141, Try.ntmps141
  go_wp2_with fail
  go_loopw [8] (fun vi wr => ∃ (i : Nat) (d' : Array α), vi = .int .i64 i ∧ i ≤ n ∧ Hid (SwR a b i d d') ∧ Hid (SW enc (W.alloc (.cells #[.func lf la lb, .func (.func sf) #[] sb] 101)) blk off d' wr)) (fun vi _ => n - (intOf vi).toNat)
  case atStart => exact ⟨0, d, rfl, Nat.zero_le _, hid (swr_zero a b d), hS0⟩
  case round =>
    obtain ⟨i, d', rfl, hin, hsr, hsw⟩ := hrel
    by_cases hlt : i < n
    · have hs' := hsr.out.size
      have hi0 : (i : Int) < (n : Int) := by omega
      obtain ⟨c0, c1⟩ := box_cells W lf la lb sf sb hblk hsw.out
      have hHk := hsw.out.holds hb1 hH1.out hs'
      have hs := hswp.out wr d' hHk hs' (a + i) (b + i) (by omega) (by omega)
      rw [show ((a + i : Nat) : Int) = (a : Int) + i by omega, show ((b + i : Nat) : Int) = (b : Int) + i by omega] at hs
      have hst := hid (swr_step hsr.out (by omega) (by omega))
      have hsw2 := hid (hsw.out.swap hb1 (a + i) (b + i) (by omega) (by omega))
      clear hHk
      go_wp2_with fail
      go_roundw
      case rel => exact ⟨i + 1, _, by go_num, by omega, hst, hsw2⟩
      case measure => simp [intOf]; omega
    · have hin2 : n = i := by omega
      subst hin2
      go_wp2_with fail
      go_end0
      exact ⟨rfl, d', hsr.out, sw_trans hSW.out hblk hsr.out.size hsw.out⟩
end
end Go.Proofs.Ytnjdoedhhpkjhaa
