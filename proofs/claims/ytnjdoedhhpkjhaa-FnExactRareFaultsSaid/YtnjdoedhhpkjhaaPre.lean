/-
  Walks: does a text begin with another one? are all bytes of a text within bounds?
-/
import Derived.Test.YtnjdoedhhpkjhaaSlS
import Derived.Test.YtnjdoedhhpkjhaaMap
import Derived.Test.YtnjdoedhhpkjhaaFind
namespace Go.Proofs.Ytnjdoedhhpkjhaa
open Go.RowKit Go.ChangeShapes Go.WideShapes
set_option linter.unusedVariables false
attribute [local go_sem ↓] Go.wp_at_zero Go.wp_at_succ

def preB (x s : ByteArray) : Bool := decide (s.size ≤ x.size) && ((x.extract 0 s.size).toList == s.toList)
theorem preB_eq {x s : ByteArray} (h : s.size ≤ x.size) : preB x s = ((x.extract 0 s.size).toList == s.toList) := by simp [preB, h]
theorem preB_no {x s : ByteArray} (h : ¬ s.size ≤ x.size) : preB x s = false := by simp [preB, h]
theorem stlPre_any (x s : ByteArray) (w : World) (hx : x.size ≤ maxLen) (hs : s.size ≤ maxLen) : Calls Try.prog 122 #[.string x, .string s] w fun e w' => e = .returned (.bool (preB x s)) ∧ w = w' := by
  unfold maxLen at hx hs
  by_cases h : s.size ≤ x.size
  · have h1 : (s.size : Int) ≤ (x.size : Int) := by omega
    have h2 := hid (preB_eq h)
    go_enter Try.func122, Try.ntmps122
    go_wp2
    go_ret
    exact ⟨ret_bool h2.out.symm, rfl⟩
  · have h1 : ¬ (s.size : Int) ≤ (x.size : Int) := by omega
    have h2 := hid (preB_no h)
    go_enter Try.func122, Try.ntmps122
    go_wp2
    go_ret
    exact ⟨ret_bool h2.out.symm, rfl⟩
theorem hasPre_any (x s : ByteArray) (w : World) (hx : x.size ≤ maxLen) (hs : s.size ≤ maxLen) : Calls Try.prog 97 #[.string x, .string s] w fun e w' => e = .returned (.bool (preB x s)) ∧ w = w' := by
  go_enter Try.func97, Try.ntmps97
  go_wp2_with (go_at_call 122; refine (stlPre_any _ _ _ hx hs).mono ?_; rintro e w' ⟨rfl, rfl⟩)
  go_ret
  exact ⟨rfl, rfl⟩
theorem hasPre_b {r : Bool} (x s : ByteArray) (w : World) (hx : x.size ≤ maxLen) (hs : s.size ≤ maxLen) (h : preB x s = r) : Calls Try.prog 97 #[.string x, .string s] w fun e w' => e = .returned (.bool r) ∧ w = w' := by
  subst h; exact hasPre_any x s w hx hs
theorem begins_any (x s : ByteArray) (w : World) (hx : x.size ≤ maxLen) (hs : s.size ≤ maxLen) : Calls Try.prog 66 #[.string x, .string s] w fun e w' => e = .returned (.bool (preB x s)) ∧ w = w' := by
  unfold maxLen at hx hs
  by_cases h : s.size ≤ x.size
  · have h1 : (s.size : Int) ≤ (x.size : Int) := by omega
    have h2 := hid (preB_eq h)
    go_enter Try.func66, Try.ntmps66
    go_wp2
    go_ret
    exact ⟨ret_bool h2.out.symm, rfl⟩
  · have h1 : ¬ (s.size : Int) ≤ (x.size : Int) := by omega
    have h2 := hid (preB_no h)
    go_enter Try.func66, Try.ntmps66
    go_wp2
    go_ret
    exact ⟨ret_bool h2.out.symm, rfl⟩
theorem begins_b {r : Bool} (x s : ByteArray) (w : World) (hx : x.size ≤ maxLen) (hs : s.size ≤ maxLen) (h : preB x s = r) : Calls Try.prog 66 #[.string x, .string s] w fun e w' => e = .returned (.bool r) ∧ w = w' := by
  subst h; exact begins_any x s w hx hs
set_option maxHeartbeats 1000000 in
theorem isText_any (s : ByteArray) (lo most : Int) (w : World) (hs : s.size ≤ maxLen) (hlo : 0 ≤ lo) (hlo2 : lo ≤ 255) : Calls Try.prog 68 #[.string s, .int .u8 lo, .int .i64 most] w fun e w' => e = .returned (.bool (textB s lo most)) ∧ w = w' := by
  unfold maxLen at hs
  by_cases hm : most < (s.size : Int)
  · go_enter Try.func68, Try.ntmps68
    go_wp2
    go_ret
    exact ⟨ret_bool (by simp [textB]; omega), rfl⟩
  · have hm2 : (s.size : Int) ≤ most := by omega
    clear hm
    go_enter Try.func68, Try.ntmps68
    go_wp2
    go_loop [7, 14] (fun _ i => ∃ k : Nat, k ≤ s.size ∧ i = .int .i64 k ∧ UpTo (gb lo) s k) (fun _ i => s.size - (intOf i).toNat)
    case atStart => exact ⟨0, Nat.zero_le _, rfl, upto_zero _ _⟩
    case round =>
      obtain ⟨k, hk, rfl, hu⟩ := hrel
      by_cases hlt : k < s.size
      · by_cases h1 : ((s[k].toNat : Nat) : Int) < lo
        · go_wp2
          go_ret
          exact ⟨ret_bool (by simp [textB, upto_bad hlt (gb_lo h1)]), rfl⟩
        · by_cases h2 : (126 : Int) < ((s[k].toNat : Nat) : Int)
          · go_wp2
            go_ret
            exact ⟨ret_bool (by simp [textB, upto_bad hlt (gb_hi h2)]), rfl⟩
          · go_wp2
            go_round
            case rel => exact ⟨k + 1, by omega, by go_num, upto_next hlt (gb_true (by omega) (by omega)) hu⟩
            case measure => simp [intOf]; omega
      · obtain rfl : k = s.size := by omega
        go_wp2
        go_ret
        exact ⟨ret_bool (by simp [textB, upto_all hu, hm2]), rfl⟩
theorem isText_b {r : Bool} (s : ByteArray) (lo most : Int) (w : World) (hs : s.size ≤ maxLen) (hlo : 0 ≤ lo) (hlo2 : lo ≤ 255) (h : textB s lo most = r) : Calls Try.prog 68 #[.string s, .int .u8 lo, .int .i64 most] w fun e w' => e = .returned (.bool r) ∧ w = w' := by
  subst h; exact isText_any s lo most w hs hlo hlo2
set_option maxHeartbeats 1000000 in
theorem sText_any (s : ByteArray) (most : Int) (w : World) (hs : s.size ≤ maxLen) : Calls Try.prog 64 #[.string s, .int .i64 most] w fun e w' => e = .returned (.bool (textB s 33 most)) ∧ w = w' := by
  unfold maxLen at hs
  go_enter Try.func64, Try.ntmps64
  go_wp2
  go_loop [5] (fun i => ∃ k : Nat, k ≤ s.size ∧ i = .int .i64 k ∧ UpTo (gb 33) s k) (fun i => s.size - (intOf i).toNat)
  case atStart => exact ⟨0, Nat.zero_le _, rfl, upto_zero _ _⟩
  case round =>
    obtain ⟨k, hk, rfl, hu⟩ := hrel
    by_cases hlt : k < s.size
    · by_cases h1 : ((s[k].toNat : Nat) : Int) < 33
      · go_wp2
        go_ret
        exact ⟨ret_bool (by simp [textB, upto_bad hlt (gb_lo h1)]), rfl⟩
      · by_cases h2 : (126 : Int) < ((s[k].toNat : Nat) : Int)
        · go_wp2
          go_ret
          exact ⟨ret_bool (by simp [textB, upto_bad hlt (gb_hi h2)]), rfl⟩
        · go_wp2
          go_round
          case rel => exact ⟨k + 1, by omega, by go_num, upto_next hlt (gb_true (by omega) (by omega)) hu⟩
          case measure => simp [intOf]; omega
    · obtain rfl : k = s.size := by omega
      have ha := hid (upto_all hu)
      by_cases hm : (s.size : Int) ≤ most
      all_goals
        go_wp2
        go_ret
        exact ⟨ret_bool (by simp [textB, ha.out]; omega), rfl⟩
theorem sText_b {r : Bool} (s : ByteArray) (most : Int) (w : World) (hs : s.size ≤ maxLen) (h : textB s 33 most = r) : Calls Try.prog 64 #[.string s, .int .i64 most] w fun e w' => e = .returned (.bool r) ∧ w = w' := by
  subst h; exact sText_any s most w hs
theorem rd_over {w : World} {x : Over w} {ao : Option Addr} {xs : List Value} (h : Rd w ao xs) : Rd (over w x) ao xs := rd_below h x.below
theorem isIn_zero (l : List ByteArray) (x : ByteArray) : isIn (l.take 0) x = false := by simp [isIn]
theorem isIn_next {l : List ByteArray} {k : Nat} (h : k < l.length) (x : ByteArray) : isIn (l.take (k + 1)) x = (isIn (l.take k) x || (l[k].toList == x.toList)) := by
  rw [List.take_succ_eq_append_getElem h, isIn_snoc]
theorem markD_next {l : List ByteArray} {k : Nat} (h : k < l.length) : markD (l.take (k + 1)) = (markD (l.take k)).put (.string l[k].data.toList) (.lit (.bool true)) := by
  rw [List.take_succ_eq_append_getElem h, markD_snoc]
/-- is word k the text itself? -/
def eqAt (l : List ByteArray) (s : ByteArray) (k : Nat) : Bool := if h : k < l.length then l[k].toList == s.toList else false
theorem eqAt_get {l : List ByteArray} {s : ByteArray} {k : Nat} (h : k < l.length) : eqAt l s k = (l[k].toList == s.toList) := by unfold eqAt; rw [dif_pos h]
theorem ext_toList {a b : ByteArray} (h : a.toList = b.toList) : a = b := by
  rw [ByteArray.toList_eq, ByteArray.toList_eq] at h
  cases a; cases b
  simp only [ByteArray.mk.injEq]
  exact Array.toList_inj.1 h
/-- where a text stands first; -1 if nowhere -/
def idxI (l : List ByteArray) (s : ByteArray) : Int := match firstAt (eqAt l s) l.length with | some k => (k : Int) | none => -1
theorem idxI_hit {l : List ByteArray} {s : ByteArray} {k : Nat} (h : k < l.length) (hN : NoneUpTo (eqAt l s) k) (he : eqAt l s k = true) : idxI l s = k := by
  unfold idxI; rw [first_hit hN he h]
theorem idxI_none {l : List ByteArray} {s : ByteArray} (hN : NoneUpTo (eqAt l s) l.length) : idxI l s = -1 := by
  unfold idxI; rw [first_none hN]
theorem idx_in (l : List ByteArray) (s : ByteArray) : (isIn l s = false ∧ idxI l s = -1) ∨ (isIn l s = true ∧ ∃ j : Nat, idxI l s = (j : Int) ∧ j < l.length) := by
  cases h : isIn l s
  · left
    refine ⟨rfl, idxI_none fun k hk => ?_⟩
    rw [eqAt_get hk]
    unfold isIn at h
    rw [List.any_eq_false] at h
    simpa using h l[k] (List.getElem_mem hk)
  · right
    refine ⟨rfl, ?_⟩
    cases hf : firstAt (eqAt l s) l.length with
    | some k =>
      refine ⟨k, by unfold idxI; rw [hf], ?_⟩
      unfold firstAt at hf
      have := List.mem_of_find?_eq_some hf
      simpa using this
    | none =>
      exfalso
      unfold firstAt at hf
      rw [List.find?_range_eq_none] at hf
      unfold isIn at h
      rw [List.any_eq_true] at h
      obtain ⟨y, hy, he⟩ := h
      obtain ⟨k, hk, rfl⟩ := List.getElem_of_mem hy
      have := hf k hk
      rw [eqAt_get hk, he] at this
      simp at this
set_option maxHeartbeats 1000000 in
theorem index_any (ao : Option Addr) (n cap : Nat) (l : List ByteArray) (s : ByteArray) (w : World) (hn : n = l.length) (hr : Rd w ao (strs l)) (hm : n ≤ 1048576) :
    Calls Try.prog 65 #[.slice ao n cap, .string s] w fun e w' => e = .returned (.int .i64 (idxI l s)) ∧ w = w' := by
  have HN := hid hn
  have hrd := rd_str hr
  clear hn hr
  go_enter Try.func65, Try.ntmps65
  go_wp2_with fail
  go_loop [5] (fun i => ∃ k : Nat, k ≤ n ∧ i = .int .i64 k ∧ NoneUpTo (eqAt l s) k) (fun i => n - (intOf i).toNat)
  case atStart => exact ⟨0, Nat.zero_le _, rfl, none_zero _⟩
  case round =>
    obtain ⟨k, hk, rfl, hN⟩ := hrel
    by_cases hlt : k < n
    · rcases hrd with hnil | ⟨b, o, rfl, hbl, hcell⟩
      · exact absurd (by rw [HN.out, hnil]; rfl : n = 0) (by omega)
      · have hkl : k < l.length := by rw [← HN.out]; exact hlt
        have g1 := hcell k hkl
        have hk0 : (0 : Int) ≤ (k : Int) := by omega
        have hkn : (k : Int) < (n : Int) := by omega
        have heq := hid (eqAt_get (s := s) hkl)
        have hhit := hid (fun h => idxI_hit hkl hN h)
        clear hcell
        obtain ⟨x, hx⟩ : ∃ x, x = l[k] := ⟨_, rfl⟩
        rw [← hx] at g1 heq
        clear hx
        cases he : (x.toList == s.toList)
        · go_wp2
          go_round
          case rel => exact ⟨k + 1, by omega, by go_num, none_next hN (by rw [heq.out, he])⟩
          case measure => simp [intOf]; omega
        · go_wp2
          go_ret
          exact ⟨ret_int (hhit.out (by rw [heq.out, he])).symm, rfl⟩
    · obtain rfl : k = n := by omega
      have ha := hid (idxI_none (l := l) (s := s) (by rw [← HN.out]; exact hN))
      go_wp2
      go_ret
      exact ⟨ret_int ha.out.symm, rfl⟩
theorem index_b {r : Int} (ao : Option Addr) (n cap : Nat) (l : List ByteArray) (s : ByteArray) (w : World) (hn : n = l.length) (hr : Rd w ao (strs l)) (hm : n ≤ 1048576) (h : idxI l s = r) :
    Calls Try.prog 65 #[.slice ao n cap, .string s] w fun e w' => e = .returned (.int .i64 r) ∧ w = w' := by
  subst h; exact index_any ao n cap l s w hn hr hm
end Go.Proofs.Ytnjdoedhhpkjhaa
