/-
  Walks: where does a letter stand in a layout?
-/
import Derived.Test.YtaaffcffelkcdaaLayA
import Derived.Test.YtaaffcffelkcdaaLayMath
namespace Go.Proofs.Ytaaffcffelkcdaa
open Go.RowKit Go.ChangeShapes Go.WideShapes
set_option linter.unusedVariables false
attribute [local go_sem ↓] Go.wp_at_zero Go.wp_at_succ

def atV : Option (Nat × Nat) → Value
  | some (r, c) => .tuple #[.int .i64 r, .int .i64 c]
  | none => .tuple #[.int .i64 (-1), .int .i64 (-1)]
def spotV : Option (Nat × Nat) → Value
  | some (r, c) => .tuple #[.int .i64 r, .int .i64 c, .bool true]
  | none => .tuple #[.int .i64 0, .int .i64 0, .bool false]

set_option maxHeartbeats 4000000 in
theorem sAt_any (ao : Option Addr) (n cap : Nat) (rows : List ByteArray) (b : UInt8) (w : World) (hn : n = rows.length) (hr : Rd w ao (strs rows)) (hs : ∀ x ∈ rows, x.size ≤ maxLen) (hm : n ≤ 1048576) :
    Calls Try.prog 38 #[.slice ao n cap, .int .u8 (b.toNat : Int)] w fun e w' => e = .returned (atV (spotOf rows b)) ∧ w = w' := by
  have HN := hid hn
  have hrd := rd_str hr
  clear hn hr
  go_enter Try.func38, Try.ntmps38
  go_wp2_with fail
  go_loop [6] (fun i => ∃ k : Nat, k ≤ n ∧ i = .int .i64 k ∧ NoneUpTo (hasR rows b) k) (fun i => n - (intOf i).toNat)
  case atStart => exact ⟨0, Nat.zero_le _, rfl, none_zero _⟩
  case round =>
    obtain ⟨k, hk, rfl, hN⟩ := hrel
    by_cases hlt : k < n
    · rcases hrd with hnil | ⟨g, o, rfl, hbl, hcell⟩
      · exact absurd (by rw [HN.out, hnil]; rfl : n = 0) (by omega)
      have hkl : k < rows.length := by rw [← HN.out]; exact hlt
      have g1 := hcell k hkl
      have hs1 := hs _ (List.getElem_mem hkl)
      clear hcell
      have hk0 : (0 : Int) ≤ (k : Int) := by omega
      have hkn : (k : Int) < (n : Int) := by omega
      have hra := rowAt_get hkl
      have hspot := hid (fun c => spot_hit (c := c) hkl hN)
      have hno := hid (fun h => hasR_none (rows := rows) (b := b) (r := k) h)
      obtain ⟨x, hx⟩ : ∃ x, x = rows[k] := ⟨_, rfl⟩
      rw [← hx] at g1 hs1 hra
      rw [hra] at hspot hno
      clear hx hra
      unfold maxLen at hs1
      go_wp2_with fail
      go_loop [7] (fun i => ∃ c : Nat, c ≤ x.size ∧ i = .int .i64 c ∧ NoneUpTo (byteAt x b) c) (fun i => x.size - (intOf i).toNat)
      case atStart => exact ⟨0, Nat.zero_le _, rfl, none_zero _⟩
      case round =>
        obtain ⟨c, hc, rfl, hM⟩ := hrel
        by_cases hcl : c < x.size
        · have hc0 : (0 : Int) ≤ (c : Int) := by omega
          have hcn : (c : Int) < (x.size : Int) := by omega
          have hbg := hid (byteAt_get (b := b) hcl)
          by_cases he : ((x[c].toNat : Nat) : Int) = ((b.toNat : Nat) : Int)
          · have heb := eqI_true he
            have hsp := hid (hspot.out c hcl hM (by rw [hbg.out]; exact decide_eq_true he))
            clear he
            go_wp2
            go_ret2
            exact ⟨by rw [hsp.out]; rfl, rfl⟩
          · have heb := eqI_false he
            have hnx := hid (none_next hM (by rw [hbg.out]; exact decide_eq_false he))
            clear he
            go_wp2
            go_round
            case rel => exact ⟨c + 1, by omega, by go_num, hnx.out⟩
            case measure => simp [intOf]; omega
        · obtain rfl : c = x.size := by omega
          have hnx := hid (none_next hN (hno.out hM))
          go_wp2
          go_round
          case rel => exact ⟨k + 1, by omega, by go_num, hnx.out⟩
          case measure => simp [intOf]; omega
    · obtain rfl : k = n := by omega
      have ha := hid (spot_none (rows := rows) (b := b) (by rw [← HN.out]; exact hN))
      go_wp2
      go_ret2
      exact ⟨by rw [ha.out]; rfl, rfl⟩
theorem sAt_some {r c : Nat} (ao : Option Addr) (n cap : Nat) (rows : List ByteArray) (b : UInt8) (w : World) (hn : n = rows.length) (hr : Rd w ao (strs rows)) (hs : ∀ x ∈ rows, x.size ≤ maxLen) (hm : n ≤ 1048576) (h : spotOf rows b = some (r, c)) :
    Calls Try.prog 38 #[.slice ao n cap, .int .u8 (b.toNat : Int)] w fun e w' => e = .returned (.tuple #[.int .i64 r, .int .i64 c]) ∧ w = w' := by
  have := sAt_any ao n cap rows b w hn hr hs hm
  rw [h] at this; exact this
theorem sAt_none (ao : Option Addr) (n cap : Nat) (rows : List ByteArray) (b : UInt8) (w : World) (hn : n = rows.length) (hr : Rd w ao (strs rows)) (hs : ∀ x ∈ rows, x.size ≤ maxLen) (hm : n ≤ 1048576) (h : spotOf rows b = none) :
    Calls Try.prog 38 #[.slice ao n cap, .int .u8 (b.toNat : Int)] w fun e w' => e = .returned (.tuple #[.int .i64 (-1), .int .i64 (-1)]) ∧ w = w' := by
  have := sAt_any ao n cap rows b w hn hr hs hm
  rw [h] at this; exact this

set_option maxHeartbeats 4000000 in
theorem spot_any (ao : Option Addr) (n cap : Nat) (rows : List ByteArray) (b : UInt8) (w : World) (hn : n = rows.length) (hr : Rd w ao (strs rows)) (hs : ∀ x ∈ rows, x.size ≤ maxLen) (hm : n ≤ 1048576) :
    Calls Try.prog 42 #[.agg #[.slice ao n cap], .int .u8 (b.toNat : Int)] w fun e w' => e = .returned (spotV (spotOf rows b)) ∧ Below w.heap.size w w' := by
  have HN := hid hn
  have hrd := rd_str hr
  clear hn hr
  go_enter Try.func42, Try.ntmps42
  go_wp2_with fail
  go_loop [7, 8, 9, 13] (fun _ _ _ i => ∃ k : Nat, k ≤ n ∧ i = .int .i64 k ∧ NoneUpTo (hasR rows b) k) (fun _ _ _ i => n - (intOf i).toNat)
  case atStart => exact ⟨0, Nat.zero_le _, rfl, none_zero _⟩
  case round =>
    obtain ⟨k, hk, rfl, hN⟩ := hrel
    by_cases hlt : k < n
    · rcases hrd with hnil | ⟨g, o, rfl, hbl, hcell⟩
      · exact absurd (by rw [HN.out, hnil]; rfl : n = 0) (by omega)
      have hkl : k < rows.length := by rw [← HN.out]; exact hlt
      have g1 := hcell k hkl
      have hs1 := hs _ (List.getElem_mem hkl)
      clear hcell
      have hk0 : (0 : Int) ≤ (k : Int) := by omega
      have hkn : (k : Int) < (n : Int) := by omega
      have hra := rowAt_get hkl
      have hspot := hid (fun c => spot_hit (c := c) hkl hN)
      have hno := hid (fun h => hasR_none (rows := rows) (b := b) (r := k) h)
      obtain ⟨x, hx⟩ : ∃ x, x = rows[k] := ⟨_, rfl⟩
      rw [← hx] at g1 hs1 hra
      rw [hra] at hspot hno
      clear hx hra
      unfold maxLen at hs1
      go_wp2_with fail
      go_loop [9, 20] (fun _ i => ∃ c : Nat, c ≤ x.size ∧ i = .int .i64 c ∧ NoneUpTo (byteAt x b) c) (fun _ i => x.size - (intOf i).toNat)
      case atStart => exact ⟨0, Nat.zero_le _, rfl, none_zero _⟩
      case round =>
        obtain ⟨c, hc, rfl, hM⟩ := hrel
        by_cases hcl : c < x.size
        · have hc0 : (0 : Int) ≤ (c : Int) := by omega
          have hcn : (c : Int) < (x.size : Int) := by omega
          have hbg := hid (byteAt_get (b := b) hcl)
          by_cases he : ((x[c].toNat : Nat) : Int) = ((b.toNat : Nat) : Int)
          · have heb := eqI_true he
            have hsp := hid (hspot.out c hcl hM (by rw [hbg.out]; exact decide_eq_true he))
            clear he
            go_wp2
            go_ret3
            exact ⟨by rw [hsp.out]; rfl, by (repeat (first | with_reducible exact Below.refl _ _ | with_reducible assumption | refine Below.drew ?_ | refine below_drewN ?_ _ | (refine Below.alloc ?_ (by first | omega | (simp; done) | (simp; omega)) _) | (refine Below.setCell ?_ (by first | omega | (simp; done) | (simp; omega)) _) | (refine Below.trans ?_ (Below.mono (by assumption) (by first | omega | (simp; done) | (simp; omega))))))⟩
          · have heb := eqI_false he
            have hnx := hid (none_next hM (by rw [hbg.out]; exact decide_eq_false he))
            clear he
            go_wp2
            go_round
            case rel => exact ⟨c + 1, by omega, by go_num, hnx.out⟩
            case measure => simp [intOf]; omega
        · obtain rfl : c = x.size := by omega
          have hnx := hid (none_next hN (hno.out hM))
          go_wp2
          go_round
          case rel => exact ⟨k + 1, by omega, by go_num, hnx.out⟩
          case measure => simp [intOf]; omega
    · obtain rfl : k = n := by omega
      have ha := hid (spot_none (rows := rows) (b := b) (by rw [← HN.out]; exact hN))
      go_wp2
      go_ret3
      exact ⟨by rw [ha.out]; rfl, by (repeat (first | with_reducible exact Below.refl _ _ | with_reducible assumption | refine Below.drew ?_ | refine below_drewN ?_ _ | (refine Below.alloc ?_ (by first | omega | (simp; done) | (simp; omega)) _) | (refine Below.setCell ?_ (by first | omega | (simp; done) | (simp; omega)) _) | (refine Below.trans ?_ (Below.mono (by assumption) (by first | omega | (simp; done) | (simp; omega))))))⟩
theorem spot_yes {r c : Nat} (ao : Option Addr) (n cap : Nat) (rows : List ByteArray) (b : UInt8) (w : World) (hn : n = rows.length) (hr : Rd w ao (strs rows)) (hs : ∀ x ∈ rows, x.size ≤ maxLen) (hm : n ≤ 1048576) (h : spotOf rows b = some (r, c)) :
    Calls Try.prog 42 #[.agg #[.slice ao n cap], .int .u8 (b.toNat : Int)] w fun e w' => e = .returned (.tuple #[.int .i64 r, .int .i64 c, .bool true]) ∧ Below w.heap.size w w' := by
  have := spot_any ao n cap rows b w hn hr hs hm
  rw [h] at this; exact this
theorem spot_no (ao : Option Addr) (n cap : Nat) (rows : List ByteArray) (b : UInt8) (w : World) (hn : n = rows.length) (hr : Rd w ao (strs rows)) (hs : ∀ x ∈ rows, x.size ≤ maxLen) (hm : n ≤ 1048576) (h : spotOf rows b = none) :
    Calls Try.prog 42 #[.agg #[.slice ao n cap], .int .u8 (b.toNat : Int)] w fun e w' => e = .returned (.tuple #[.int .i64 0, .int .i64 0, .bool false]) ∧ Below w.heap.size w w' := by
  have := spot_any ao n cap rows b w hn hr hs hm
  rw [h] at this; exact this
end Go.Proofs.Ytaaffcffelkcdaa
