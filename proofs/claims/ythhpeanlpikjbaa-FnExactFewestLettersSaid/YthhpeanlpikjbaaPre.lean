/-
  Walks: does a text begin with another one? are all bytes of a text within bounds?
-/
import Derived.Test.YthhpeanlpikjbaaSlS
import Derived.Test.YthhpeanlpikjbaaMap
import Derived.Test.YthhpeanlpikjbaaFind
namespace Go.Proofs.Ythhpeanlpikjbaa
open Go.RowKit Go.ChangeShapes Go.WideShapes
set_option linter.unusedVariables false
attribute [local go_sem ↓] Go.wp_at_zero Go.wp_at_succ

def preB (x s : ByteArray) : Bool := decide (s.size ≤ x.size) && ((x.extract 0 s.size).toList == s.toList)
theorem preB_eq {x s : ByteArray} (h : s.size ≤ x.size) : preB x s = ((x.extract 0 s.size).toList == s.toList) := by simp [preB, h]
theorem preB_no {x s : ByteArray} (h : ¬ s.size ≤ x.size) : preB x s = false := by simp [preB, h]
set_option maxHeartbeats 1000000 in
theorem isText_any (s : ByteArray) (lo most : Int) (w : World) (hs : s.size ≤ maxLen) (hlo : 0 ≤ lo) (hlo2 : lo ≤ 255) : Calls Try.prog 71 #[.string s, .int .u8 lo, .int .i64 most] w fun e w' => e = .returned (.bool (textB s lo most)) ∧ w = w' := by
  unfold maxLen at hs
  by_cases hm : most < (s.size : Int)
  · go_enter Try.func71, Try.ntmps71
    go_wp2
    go_ret
    exact ⟨ret_bool (by simp [textB]; omega), rfl⟩
  · have hm2 : (s.size : Int) ≤ most := by omega
    clear hm
    go_enter Try.func71, Try.ntmps71
    go_wp2
    go_loop [7, 14] (fun _ i => ∃ k : Nat, k ≤ s.size ∧ i = .int .i64 k ∧ UpTo (gb lo) s k) (fun _ i => s.size - (intOf i).toNat)
    case atStart => exact ⟨0, Nat.zero_le _, rfl, upto_zero _ _⟩
    case round =>
      obtain ⟨k, hk, rfl, hu⟩ := hrel
      by_cases hlt : k < s.size
      · by_cases h1 : ((s[k].toNat : Nat) : Int) < lo
        · go_wp2
          go_ret
          exact ⟨ret_bool (by simp [textB, upto_bad hlt (gb_lo h1)]), rfl⟩
        · by_cases h2 : (126 : Int) < ((s[k].toNat : Nat) : Int)
          · go_wp2
            go_ret
            exact ⟨ret_bool (by simp [textB, upto_bad hlt (gb_hi h2)]), rfl⟩
          · go_wp2
            go_round
            case rel => exact ⟨k + 1, by omega, by go_num, upto_next hlt (gb_true (by omega) (by omega)) hu⟩
            case measure => simp [intOf]; omega
      · obtain rfl : k = s.size := by omega
        go_wp2
        go_ret
        exact ⟨ret_bool (by simp [textB, upto_all hu, hm2]), rfl⟩
theorem isText_b {r : Bool} (s : ByteArray) (lo most : Int) (w : World) (hs : s.size ≤ maxLen) (hlo : 0 ≤ lo) (hlo2 : lo ≤ 255) (h : textB s lo most = r) : Calls Try.prog 71 #[.string s, .int .u8 lo, .int .i64 most] w fun e w' => e = .returned (.bool r) ∧ w = w' := by
  subst h; exact isText_any s lo most w hs hlo hlo2
theorem rd_over {w : World} {x : Over w} {ao : Option Addr} {xs : List Value} (h : Rd w ao xs) : Rd (over w x) ao xs := rd_below h x.below
theorem isIn_zero (l : List ByteArray) (x : ByteArray) : isIn (l.take 0) x = false := by simp [isIn]
theorem isIn_next {l : List ByteArray} {k : Nat} (h : k < l.length) (x : ByteArray) : isIn (l.take (k + 1)) x = (isIn (l.take k) x || (l[k].toList == x.toList)) := by
  rw [List.take_succ_eq_append_getElem h, isIn_snoc]
theorem markD_next {l : List ByteArray} {k : Nat} (h : k < l.length) : markD (l.take (k + 1)) = (markD (l.take k)).put (.string l[k].data.toList) (.lit (.bool true)) := by
  rw [List.take_succ_eq_append_getElem h, markD_snoc]
/-- is word k the text itself? -/
def eqAt (l : List ByteArray) (s : ByteArray) (k : Nat) : Bool := if h : k < l.length then l[k].toList == s.toList else false
theorem eqAt_get {l : List ByteArray} {s : ByteArray} {k : Nat} (h : k < l.length) : eqAt l s k = (l[k].toList == s.toList) := by unfold eqAt; rw [dif_pos h]
theorem ext_toList {a b : ByteArray} (h : a.toList = b.toList) : a = b := by
  rw [ByteArray.toList_eq, ByteArray.toList_eq] at h
  cases a; cases b
  simp only [ByteArray.mk.injEq]
  exact Array.toList_inj.1 h
/-- where a text stands first; -1 if nowhere -/
def idxI (l : List ByteArray) (s : ByteArray) : Int := match firstAt (eqAt l s) l.length with | some k => (k : Int) | none => -1
theorem idxI_hit {l : List ByteArray} {s : ByteArray} {k : Nat} (h : k < l.length) (hN : NoneUpTo (eqAt l s) k) (he : eqAt l s k = true) : idxI l s = k := by
  unfold idxI; rw [first_hit hN he h]
theorem idxI_none {l : List ByteArray} {s : ByteArray} (hN : NoneUpTo (eqAt l s) l.length) : idxI l s = -1 := by
  unfold idxI; rw [first_none hN]
theorem idx_in (l : List ByteArray) (s : ByteArray) : (isIn l s = false ∧ idxI l s = -1) ∨ (isIn l s = true ∧ ∃ j : Nat, idxI l s = (j : Int) ∧ j < l.length) := by
  cases h : isIn l s
  · left
    refine ⟨rfl, idxI_none fun k hk => ?_⟩
    rw [eqAt_get hk]
    unfold isIn at h
    rw [List.any_eq_false] at h
    simpa using h l[k] (List.getElem_mem hk)
  · right
    refine ⟨rfl, ?_⟩
    cases hf : firstAt (eqAt l s) l.length with
    | some k =>
      refine ⟨k, by unfold idxI; rw [hf], ?_⟩
      unfold firstAt at hf
      have := List.mem_of_find?_eq_some hf
      simpa using this
    | none =>
      exfalso
      unfold firstAt at hf
      rw [List.find?_range_eq_none] at hf
      unfold isIn at h
      rw [List.any_eq_true] at h
      obtain ⟨y, hy, he⟩ := h
      obtain ⟨k, hk, rfl⟩ := List.getElem_of_mem hy
      have := hf k hk
      rw [eqAt_get hk, he] at this
      simp at this
end Go.Proofs.Ythhpeanlpikjbaa
