/-
  Walks of the laws' helpers over slices of int64: equal, mark, held, copy.
-/
import Derived.Test.YtnjdoedhhpkjhaaMem
namespace Go.Proofs.Ytnjdoedhhpkjhaa
open Go.RowKit
set_option linter.unusedVariables false

theorem Try.infoInt64 : (Try.prog.info? 2).map (fun i => (i.zero, i.size, i.bytes)) = some (some (.int .i64 0), 1, 8) := by kernel_rfl

def i64s (xs : List Int) : List Value := xs.map (Value.int .i64)
theorem i64s_len (xs : List Int) : (i64s xs).length = xs.length := by simp [i64s]
theorem i64s_get (xs : List Int) (j : Nat) (h : j < (i64s xs).length) : (i64s xs)[j] = .int .i64 (xs[j]'(by simpa [i64s] using h)) := by simp [i64s]

set_option maxHeartbeats 1000000 in
theorem eqI64_any (ao bo : Option Addr) (xs : List Int) (n cap cap2 : Nat) (w : World) (hn : n = xs.length) (hm : n ≤ 1073741824) (ha : Rd w ao (i64s xs)) (hb : Rd w bo (i64s xs)) :
    Calls Try.prog 10 #[.slice ao n cap, .slice bo n cap2] w fun e w' => e = .returned (.bool true) ∧ Below w.heap.size w w' := by
  have hcase : n = 0 ∨ ∃ b o b2 o2, ao = some ⟨b, o, none⟩ ∧ bo = some ⟨b2, o2, none⟩ ∧ b < w.heap.size ∧ b2 < w.heap.size ∧ ∀ j, (h : j < xs.length) → w.cell? ⟨b, o + j, none⟩ = some (.int .i64 xs[j]) ∧ w.cell? ⟨b2, o2 + j, none⟩ = some (.int .i64 xs[j]) := by
    rcases ha with ha | ⟨b, o, h1, h2, h3⟩
    · left; rw [hn, ← i64s_len, ha]; rfl
    · rcases hb with hb | ⟨b2, o2, g1, g2, g3⟩
      · left; rw [hn, ← i64s_len, hb]; rfl
      · right
        exact ⟨b, o, b2, o2, h1, g1, h2, g2, fun j h => ⟨by rw [h3 j (by simpa [i64s] using h), i64s_get], by rw [g3 j (by simpa [i64s] using h), i64s_get]⟩⟩
  clear ha hb
  rcases hcase with h0 | ⟨b, o, b2, o2, rfl, rfl, hl1, hl2, hc⟩
  · subst h0
    clear hn
    go_enter Try.func10, Try.ntmps10
    go_wp2
    refine wp_loop_rounds 1 ?_
    rw [rounds_succ]
    go_wp2
    go_ret
    exact ⟨rfl, Below.refl _ _⟩
  · have HC := hid hc
    have HN := hid hn
    clear hc hn
    go_enter Try.func10, Try.ntmps10
    go_wp2
    go_loopw [5] (fun i wr => ∃ k : Nat, k ≤ n ∧ i = .int .i64 k ∧ Below w.heap.size w wr) (fun i _ => n - (intOf i).toNat)
    case atStart => exact ⟨0, Nat.zero_le _, rfl, Below.refl _ _⟩
    case round =>
      obtain ⟨k, hk, rfl, hB⟩ := hrel
      by_cases hlt : k < n
      · have hkx : k < xs.length := by rw [← HN.out]; exact hlt
        obtain ⟨x, hx⟩ : ∃ x, x = xs[k] := ⟨_, rfl⟩
        have h1 := (hB.cell (p := ⟨b, o + k, none⟩) hl1).trans (HC.out k hkx).1
        have h2 := (hB.cell (p := ⟨b2, o2 + k, none⟩) hl2).trans (HC.out k hkx).2
        rw [← hx] at h1 h2
        clear hx
        have hk0 : (0 : Int) ≤ (k : Int) := by omega
        have hkn : (k : Int) < (n : Int) := by omega
        go_wp2_with fail
        go_quiet (fail)
        go_wp2
        go_roundw
        case rel => exact ⟨k + 1, by omega, by go_num, below_drewN hB _⟩
        case measure => simp [intOf]; omega
      · obtain rfl : k = n := by omega
        go_wp2
        go_ret
        exact ⟨rfl, hB⟩

/-- the marks that a law writes -/
def marks (k0 : Int) (n : Nat) : List Int := (List.range n).map fun j : Nat => k0 + (j : Int)
theorem marks_len (k0 : Int) (n : Nat) : (marks k0 n).length = n := by simp [marks]
theorem marks_get (k0 : Int) (n j : Nat) (h : j < (marks k0 n).length) : (marks k0 n)[j] = k0 + (j : Int) := by simp [marks]
theorem marks_step (k0 : Int) (j : Nat) (xs : List Value) (h : j < xs.length) : (i64s (marks k0 j) ++ xs.drop j).set j (.int .i64 (k0 + j)) = i64s (marks k0 (j + 1)) ++ xs.drop (j + 1) := by
  have e : xs.drop j = xs[j] :: xs.drop (j + 1) := List.drop_eq_getElem_cons h
  rw [e, List.set_append_right _ _ (by simp [i64s, marks])]
  simp [i64s, marks, List.range_succ]
  rw [e]
  rfl
theorem marks_bound (k0 : Int) (j : Nat) (xs : List Value) (h : j ≤ xs.length) : (i64s (marks k0 j) ++ xs.drop j).length = xs.length := by
  simp [i64s, marks]; omega
theorem grownBy_trans {a b c : World} {row : Option Nat} (h : a.grownBy b row) (k : b.grownBy c row) : a.grownBy c row :=
  ⟨k.os.trans h.os, k.tape.trans h.tape, k.output.trans h.output, Nat.le_trans h.size k.size, fun i hi hne => (k.block i (Nat.lt_of_lt_of_le hi h.size) hne).trans (h.block i hi hne)⟩

set_option maxHeartbeats 1000000 in
theorem mark64_any (B : Nat) (ao : Option Addr) (n cap : Nat) (xs : List Value) (k0 : Int) (w : World) (hown : w.ownsRow B 2 1 (.slice ao n cap) n xs) (hm : n ≤ 1073741824) (hk0 : 0 ≤ k0) (hk1 : k0 ≤ 1073741824) :
    Calls Try.prog 13 #[.slice ao n cap, .int .i64 k0] w fun e w' => e = .returned (.int .i64 (k0 + n)) ∧ w'.ownsRow B 2 1 (.slice ao n cap) n (i64s (marks k0 n)) ∧ w.grownBy w' (Value.slice ao n cap).ownBlock := by
  rcases owns_form hown with ⟨hv, hn0, hx0⟩ | ⟨g, c, hv, hBg, hgl, hnc, hcm⟩
  · subst hn0
    go_enter Try.func13, Try.ntmps13
    go_wp2
    refine wp_loop_rounds 1 ?_
    rw [rounds_succ]
    go_wp2
    go_ret
    refine ⟨ret_int (by omega), ?_, World.grownBy.refl _ _⟩
    rw [hx0] at hown
    exact hown
  · simp only [Value.slice.injEq] at hv
    obtain ⟨rfl, _, rfl⟩ := hv
    have hxl := hid (owns_len hown)
    go_enter Try.func13, Try.ntmps13
    go_wp2
    go_loopw [1, 5] (fun k i wr => ∃ j : Nat, j ≤ n ∧ i = .int .i64 j ∧ k = .int .i64 (k0 + j) ∧ wr.ownsRow B 2 1 (.slice (some ⟨g, 0, none⟩) n cap) n (i64s (marks k0 j) ++ xs.drop j) ∧ w.grownBy wr (some g)) (fun _ i _ => n - (intOf i).toNat)
    case atStart => exact ⟨0, Nat.zero_le _, rfl, by simp, by simpa [marks, i64s] using hown, World.grownBy.refl _ _⟩
    case round =>
      obtain ⟨j, hj, rfl, rfl, ho, hg⟩ := hrel
      by_cases hlt : j < n
      · have hjx : j < xs.length := by rw [hxl.out]; exact hlt
        obtain ⟨v, hcell⟩ : ∃ v, wr.cell? ⟨g, j, none⟩ = some v := ⟨_, by rw [ho.cellAt j (by omega), List.getElem?_eq_getElem (by rw [marks_bound k0 j xs (by omega)]; exact hjx)]⟩
        have hfr := ho.frozenAt j
        have hk0' : (0 : Int) ≤ (j : Int) := by omega
        have hkn : (j : Int) < (n : Int) := by omega
        go_wp2
        go_roundw
        case rel => exact ⟨j + 1, by omega, by go_num, by congr 1; omega, by rw [← marks_step k0 j xs hjx]; exact (ho.stored j _).1, grownBy_trans hg (ho.stored j _).2⟩
        case measure => simp [intOf]; omega
      · obtain rfl : j = n := by omega
        have hd := hid (show xs.drop j = [] from List.drop_eq_nil_of_le (by rw [hxl.out]; omega))
        go_wp2
        go_ret
        refine ⟨rfl, ?_, hg⟩
        have := ho
        rw [hd.out, List.append_nil] at this
        exact this

set_option maxHeartbeats 1000000 in
theorem held64_any (ao : Option Addr) (n cap : Nat) (k0 : Int) (w : World) (hr : Rd w ao (i64s (marks k0 n))) (hm : n ≤ 1073741824) (hk0 : 0 ≤ k0) (hk1 : k0 ≤ 1073741824) :
    Calls Try.prog 14 #[.slice ao n cap, .int .i64 k0] w fun e w' => e = .returned (.int .i64 (k0 + n)) ∧ w = w' := by
  have hcase : n = 0 ∨ ∃ b o, ao = some ⟨b, o, none⟩ ∧ ∀ j, j < n → w.cell? ⟨b, o + j, none⟩ = some (.int .i64 (k0 + j)) := by
    rcases hr with hr | ⟨b, o, h1, h2, h3⟩
    · left
      have := congrArg List.length hr
      simpa [i64s, marks] using this
    · right
      exact ⟨b, o, h1, fun j hj => by rw [h3 j (by simpa [i64s, marks] using hj), i64s_get, marks_get]⟩
  clear hr
  rcases hcase with h0 | ⟨b, o, rfl, hc⟩
  · subst h0
    go_enter Try.func14, Try.ntmps14
    go_wp2
    refine wp_loop_rounds 1 ?_
    rw [rounds_succ]
    go_wp2
    go_ret
    exact ⟨ret_int (by omega), rfl⟩
  · have HC := hid hc
    clear hc
    go_enter Try.func14, Try.ntmps14
    go_wp2
    go_loop [1, 5] (fun k i => ∃ j : Nat, j ≤ n ∧ i = .int .i64 j ∧ k = .int .i64 (k0 + j)) (fun _ i => n - (intOf i).toNat)
    case atStart => exact ⟨0, Nat.zero_le _, rfl, by simp⟩
    case round =>
      obtain ⟨j, hj, rfl, rfl⟩ := hrel
      by_cases hlt : j < n
      · have h1 := HC.out j hlt
        have hk0' : (0 : Int) ≤ (j : Int) := by omega
        have hkn : (j : Int) < (n : Int) := by omega
        go_wp2
        go_round
        case rel => exact ⟨j + 1, by omega, by go_num, by congr 1; omega⟩
        case measure => simp [intOf]; omega
      · obtain rfl : j = n := by omega
        go_wp2
        go_ret
        exact ⟨rfl, rfl⟩
end Go.Proofs.Ytnjdoedhhpkjhaa
