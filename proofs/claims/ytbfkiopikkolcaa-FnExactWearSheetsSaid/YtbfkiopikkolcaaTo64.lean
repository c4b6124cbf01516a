/-
  Walks of the laws' helpers over slices of int64 that came in: copy.
-/
import Derived.Test.YtbfkiopikkolcaaSl64
import Derived.Test.YtbfkiopikkolcaaOpen
namespace Go.Proofs.Ytbfkiopikkolcaa
open Go.RowKit Go.ChangeShapes Go.WideShapes
set_option linter.unusedVariables false
attribute [local go_sem ↓] Go.wp_at_zero Go.wp_at_succ

theorem i64s_flat (l : List Int) : i64s l = flat (fun x => [Value.int .i64 x]) l := by
  induction l with
  | nil => rfl
  | cons x l ih =>
    have e : flat (fun x => [Value.int .i64 x]) (x :: l) = [Value.int .i64 x] ++ flat (fun x => [Value.int .i64 x]) l := by simp [flat]
    rw [e, ← ih]; rfl
theorem i64s_set (xs : List Int) (i : Nat) (v : Int) : (i64s xs).set i (.int .i64 v) = i64s (xs.set i v) := by simp [i64s]
theorem i64s_getD {xs : List Int} {i : Nat} (h : i < xs.length) : (i64s xs)[i]? = some (.int .i64 (xs.getD i 0)) := by
  simp [i64s, List.getD, List.getElem?_eq_getElem h]
theorem rd_i64 {w : World} {ao : Option Addr} {l : List Int} (h : Rd w ao (i64s l)) : l = [] ∨ ∃ b o, ao = some ⟨b, o, none⟩ ∧ b < w.heap.size ∧ ∀ j (hj : j < l.length), w.cell? ⟨b, o + j, none⟩ = some (.int .i64 l[j]) := by
  rcases h with h | ⟨b, o, h1, h2, h3⟩
  · left
    have := congrArg List.length h
    rw [i64s_len] at this
    exact List.eq_nil_of_length_eq_zero (by simpa using this)
  · right
    exact ⟨b, o, h1, h2, fun j hj => by rw [h3 j (by rw [i64s_len]; exact hj), i64s_get]⟩
/-- a slice of int64 that came in -/
def InArg (w : World) (ao : Option Addr) (n cap : Nat) (l : List Int) : Prop := n = l.length ∧ n ≤ maxLen ∧ Rd w ao (i64s l) ∧ ∀ x ∈ l, -9223372036854775808 ≤ x ∧ x ≤ 9223372036854775807
theorem Try.cellsI1 : Try.prog.cellsOf 2 = 1 := by kernel_rfl
theorem openIn {H : Type} {enc : TypeId × Value → H} {W : World} {base : Nat} {spare : Nat → Bool} {held : Bool} {r : Reach} {b0 : Nat} {v : Value} {d : DataW H} {p : List MemPlace}
    (hv : Value.okWide Try.prog W r b0 37 v) (h : DataW.Trod enc Try.prog W base spare held 37 v d p) :
    ∃ (ao : Option Addr) (n cap : Nat) (l : List Int), v = .slice ao n cap ∧ InArg W ao n cap l := by
  obtain ⟨ao, n, cap, l, e, h1, h2, h3, h4⟩ := openFlat (sz := 1) (f := fun x => [Value.int .i64 x]) (good := fun y => -9223372036854775808 ≤ y ∧ y ≤ 9223372036854775807) (fun _ => rfl) (by omega) Try.underlying37 Try.cellsI1 (elem_i Try.underlying2) hv h
  exact ⟨ao, n, cap, l, e, h1, h2, by rw [i64s_flat]; exact h3, h4⟩

set_option maxHeartbeats 2000000 in
theorem toI64S_any (ao : Option Addr) (n cap : Nat) (l : List Int) (w : World) (hn : n = l.length) (hr : Rd w ao (i64s l)) (hm : n ≤ 1048576) :
    Calls Try.prog 21 #[.slice ao n cap] w (FlatRet1 w.heap.size 2 1 n w (i64s l)) := by
  obtain ⟨i0, hi, hz0, hz1, hz2⟩ := info_parts Try.infoInt64
  have HN := hid hn
  have hrd := rd_i64 hr
  clear hn hr
  go_enter Try.func21, Try.ntmps21
  go_wp2_with (at_make; refine wpList_make_full _ rfl _ _ 37 rfl w.heap.size 2 i0 (.int .i64 0) 1 Try.underlying37 hi hz0 hz1 .i64 .i64 _ _ n rfl rfl rfl rfl (by rw [hz2]; omega) (by unfold maxLen; omega) (Nat.le_refl _) ?_; intro w1 hown hgrow)
  have hB0 : Below w.heap.size w w1 := (Below.refl _ _).grown hgrow (Nat.le_refl _) (by simp)
  have hown0 : w1.ownsRow w.heap.size 2 1 (.slice (some ⟨w.heap.size, 0, none⟩) n n) n (i64s (fillRow l 0 0)) := by
    rw [fill_zero, ← HN.out, i64s_flat, ← made_flat (sz := 1) (fun _ => rfl) (.int .i64 0) 0 n rfl (by omega)]
    exact hown
  clear hown hgrow hi hz0 hz1 hz2
  go_loopw [4] (fun i wr => ∃ k : Nat, k ≤ n ∧ i = .int .i64 k ∧ wr.ownsRow w.heap.size 2 1 (.slice (some ⟨w.heap.size, 0, none⟩) n n) n (i64s (fillRow l 0 k)) ∧ Below w.heap.size w wr) (fun i _ => n - (intOf i).toNat)
  case atStart => exact ⟨0, Nat.zero_le _, rfl, hown0, hB0⟩
  case round =>
    obtain ⟨k, hk, rfl, hown, hB⟩ := hrel
    by_cases hlt : k < n
    · rcases hrd with hnil | ⟨b, o, rfl, hbl, hcell⟩
      · exact absurd (by rw [HN.out, hnil]; rfl : n = 0) (by omega)
      · have hkl : k < l.length := by rw [← HN.out]; exact hlt
        have g1 := (hB.cell (p := ⟨b, o + k, none⟩) hbl).trans (hcell k hkl)
        clear hcell
        have hk0 : (0 : Int) ≤ (k : Int) := by omega
        have hkn : (k : Int) < (n : Int) := by omega
        obtain ⟨x, hx⟩ : ∃ x, x = l[k] := ⟨_, rfl⟩
        rw [← hx] at g1
        have Hx := hid hx
        clear hx
        have hfl : (fillRow l 0 k).length = n := by rw [fill_len _ _ _ (by omega)]; exact HN.out.symm
        obtain ⟨v0, hv0⟩ : ∃ v, wr.cell? ⟨w.heap.size, k, none⟩ = some v := ⟨_, by rw [hown.cellAt k (by omega), List.getElem?_eq_getElem (by rw [i64s_len, hfl]; omega)]⟩
        have hf0 := hown.frozenAt k
        have Hfl := hid hfl
        clear hfl
        go_wp2_with fail
        go_roundw
        case rel =>
          refine ⟨k + 1, by omega, by go_num, ?_, hB.setCell (by simp) _⟩
          rw [← fill_next l _ k hkl, ← Hx.out, ← i64s_set _ k x]
          exact (hown.stored k _).1
        case measure => simp [intOf]; omega
    · obtain rfl : k = n := by omega
      have hf := hid (show fillRow l 0 k = l by rw [HN.out]; exact fill_all _ _)
      go_wp2
      go_ret
      rw [hf.out] at hown
      exact ⟨_, _, rfl, hown, hB⟩

end Go.Proofs.Ytbfkiopikkolcaa
