/-
  Walks: are words different ones (the map of those seen), how many begin with a text.
-/
import Derived.Test.YtkkfnmlomjlckaaWords
namespace Go.Proofs.Ytkkfnmlomjlckaa
open Go.RowKit Go.ChangeShapes Go.WideShapes Go.Maps
set_option linter.unusedVariables false
attribute [local go_sem ↓] Go.wp_at_zero Go.wp_at_succ

theorem Try.zeroBool (w : World) : (zeroValue 4).run Try.prog w = .ok (.bool false) w := by kernel_rfl
set_option maxRecDepth 100000 in
set_option maxHeartbeats 4000000 in
theorem diff_any (ao : Option Addr) (n cap : Nat) (l : List ByteArray) (w : World) (hn : n = l.length) (hr : Rd w ao (strs l)) (hs : ∀ x ∈ l, x.size ≤ maxLen) (hm : n ≤ 1048576) :
    Calls Try.prog 62 #[.slice ao n cap] w fun e w' => e = .returned (.bool (wordsOk l)) ∧ Below w.heap.size w w' := by
  have HN := hid hn
  have hrd := rd_str hr
  clear hn hr
  have hmm := @run_makeMap Try.prog
  go_enter Try.func62, Try.ntmps62
  go_wp2_with fail
  go_loopw [5, 9] (fun _ i wr => ∃ k : Nat, k ≤ n ∧ i = .int .i64 k ∧ NoneUpTo (badW l) k ∧ wr.ownsMap (H := Unit) Try.prog 9 (plainElem Try.prog 4) w.heap.size k (markD (l.take k)) ∧ Below w.heap.size w wr) (fun _ i _ => n - (intOf i).toNat)
  case atStart => exact ⟨0, Nat.zero_le _, rfl, none_zero _, World.ownsMap_made _ _ _ _, (Below.refl _ _).alloc (Nat.le_refl _) _⟩
  case round =>
    obtain ⟨k, hk, rfl, hN, hown, hB⟩ := hrel
    by_cases hlt : k < n
    · rcases hrd with hnil | ⟨b, o, rfl, hbl, hcell⟩
      · exact absurd (by rw [HN.out, hnil]; rfl : n = 0) (by omega)
      · have hkl : k < l.length := by rw [← HN.out]; exact hlt
        have g1 := (hB.cell (p := ⟨b, o + k, none⟩) hbl).trans (hcell k hkl)
        have hs1 := hs _ (List.getElem_mem hkl)
        have hk0 : (0 : Int) ≤ (k : Int) := by omega
        have hkn : (k : Int) < (n : Int) := by omega
        clear hcell
        cases hok : wordB l[k] 30
        · have hbad := hid (wordsOk_bad hkl hN (badW_word hkl hok))
          obtain ⟨x, hx⟩ : ∃ x, x = l[k] := ⟨_, rfl⟩
          rw [← hx] at g1 hs1 hok
          clear hx
          go_wp2_with (go_at_call 63; refine (smallWord_b _ _ hs1 hok).mono ?_; rintro e w' ⟨rfl, rfl⟩)
          go_ret
          exact ⟨ret_bool hbad.out.symm, hB⟩
        · have hin := badW_in hkl hok
          have hmk := hid (markD_next hkl)
          have hat := markD_at (l.take k) l[k]
          cases hI : isIn (l.take k) l[k]
          · have hgood := hid (none_next hN (by rw [hin]; exact hI))
            rw [hI] at hat
            obtain ⟨x, hx⟩ : ∃ x, x = l[k] := ⟨_, rfl⟩
            rw [← hx] at g1 hs1 hok hat hmk
            clear hx hin hI
            have hkey : keyOf Try.prog 9 (.string x) = some (.string x.data.toList) := WideMaps.keyOf_string_mk Try.underlying9 hs1
            have hlook := ownsMap_bool hown (string_keyed Try.underlying9) Try.underlying70 Try.underlying4 (Try.zeroBool wr) hkey hat
            go_wp2_with (first | (go_at_call 63; refine (smallWord_b _ _ hs1 hok).mono ?_; rintro e w' ⟨rfl, rfl⟩) | (at_mapUpdate; refine wpList_mapUpdate_own _ rfl _ _ _ 70 rfl 9 4 (string_keyed Try.underlying9) Try.underlying70 _ w.heap.size k _ rfl hown (by unfold maxLen; omega) _ _ _ rfl rfl hkey _ [] (plainElem_bool Try.underlying4 true) ?_; intro w1 hown1 hgrow1))
            go_roundw
            case rel => exact ⟨k + 1, by omega, by go_num, hgood.out, by rw [hmk.out]; exact hown1, hB.grown hgrow1 hB.size (by intro k hk; simp at hk; omega)⟩
            case measure => simp [intOf]; omega
          · have hbad := hid (wordsOk_bad hkl hN (by rw [hin]; exact hI))
            rw [hI] at hat
            obtain ⟨x, hx⟩ : ∃ x, x = l[k] := ⟨_, rfl⟩
            rw [← hx] at g1 hs1 hok hat hmk
            clear hx hin hI
            have hkey : keyOf Try.prog 9 (.string x) = some (.string x.data.toList) := WideMaps.keyOf_string_mk Try.underlying9 hs1
            have hlook := ownsMap_bool hown (string_keyed Try.underlying9) Try.underlying70 Try.underlying4 (Try.zeroBool wr) hkey hat
            go_wp2_with (first | (go_at_call 63; refine (smallWord_b _ _ hs1 hok).mono ?_; rintro e w' ⟨rfl, rfl⟩))
            go_ret
            exact ⟨ret_bool hbad.out.symm, hB⟩
    · obtain rfl : k = n := by omega
      have ha := hid (show wordsOk l = decide (l.length ≤ 30) by rw [HN.out] at hN; exact wordsOk_all hN)
      by_cases h30 : (k : Int) ≤ 30
      all_goals
        go_wp2
        go_ret
        exact ⟨ret_bool (by rw [ha.out, ← HN.out]; simp; omega), hB⟩

/-- the words that begin with a text -/
def preL (l : List ByteArray) (s : ByteArray) : List ByteArray := l.filter (fun x => preB x s)
theorem preL_zero (l : List ByteArray) (s : ByteArray) : preL (l.take 0) s = [] := by simp [preL]
theorem preL_next {l : List ByteArray} {k : Nat} (h : k < l.length) (s : ByteArray) : preL (l.take (k + 1)) s = preL (l.take k) s ++ (if preB l[k] s = true then [l[k]] else []) := by
  rw [List.take_succ_eq_append_getElem h]
  simp only [preL, List.filter_append]
  congr 1
  cases h : preB l[k] s <;> simp [h]
theorem preL_len (l : List ByteArray) (k : Nat) (s : ByteArray) : (preL (l.take k) s).length ≤ k := by
  refine Nat.le_trans (List.length_filter_le _ _) ?_
  simp; omega
theorem starts_b {r : Bool} (x s : ByteArray) (w : World) (hx : x.size ≤ maxLen) (hs : s.size ≤ maxLen) (h : preB x s = r) : Calls Try.prog 60 #[.string x, .string s] w fun e w' => e = .returned (.bool r) ∧ w = w' := by
  subst h; exact starts_any x s w hx hs
theorem hasPre_b {r : Bool} (x s : ByteArray) (w : World) (hx : x.size ≤ maxLen) (hs : s.size ≤ maxLen) (h : preB x s = r) : Calls Try.prog 64 #[.string x, .string s] w fun e w' => e = .returned (.bool r) ∧ w = w' := by
  subst h; exact hasPre_any x s w hx hs
set_option maxHeartbeats 2000000 in
theorem count_any (ao : Option Addr) (n cap : Nat) (l : List ByteArray) (s : ByteArray) (w : World) (hn : n = l.length) (hr : Rd w ao (strs l)) (hs : ∀ x ∈ l, x.size ≤ maxLen) (hs2 : s.size ≤ maxLen) (hm : n ≤ 1048576) :
    Calls Try.prog 61 #[.slice ao n cap, .string s] w fun e w' => e = .returned (.int .i64 ((preL l s).length : Nat)) ∧ w = w' := by
  have HN := hid hn
  have hrd := rd_str hr
  clear hn hr
  go_enter Try.func61, Try.ntmps61
  go_wp2_with fail
  go_loop [5, 6] (fun c i => ∃ k : Nat, k ≤ n ∧ i = .int .i64 k ∧ c = .int .i64 ((preL (l.take k) s).length : Nat)) (fun _ i => n - (intOf i).toNat)
  case atStart => exact ⟨0, Nat.zero_le _, rfl, by rw [preL_zero]; rfl⟩
  case round =>
    obtain ⟨k, hk, rfl, rfl⟩ := hrel
    by_cases hlt : k < n
    · rcases hrd with hnil | ⟨b, o, rfl, hbl, hcell⟩
      · exact absurd (by rw [HN.out, hnil]; rfl : n = 0) (by omega)
      · have hkl : k < l.length := by rw [← HN.out]; exact hlt
        have g1 := hcell k hkl
        have hs1 := hs _ (List.getElem_mem hkl)
        have hk0 : (0 : Int) ≤ (k : Int) := by omega
        have hkn : (k : Int) < (n : Int) := by omega
        have hnx := hid (preL_next hkl s)
        have hle := preL_len l k s
        clear hcell
        obtain ⟨c, hc⟩ : ∃ c, c = (preL (l.take k) s).length := ⟨_, rfl⟩
        rw [← hc] at hle
        rw [← hc]
        have Hc := hid hc
        clear hc
        obtain ⟨x, hx⟩ : ∃ x, x = l[k] := ⟨_, rfl⟩
        rw [← hx] at g1 hs1 hnx
        clear hx
        cases hp : preB x s
        all_goals
          go_wp2_with (go_at_call 60; refine (starts_b _ _ _ hs1 hs2 hp).mono ?_; rintro e w' ⟨rfl, rfl⟩)
          go_round
          case rel => exact ⟨k + 1, by omega, by go_num, by rw [hnx.out, List.length_append, ← Hc.out, hp]; simp; try go_num⟩
          case measure => simp [intOf]; omega
    · obtain rfl : k = n := by omega
      have hd := hid (show l.take k = l from List.take_of_length_le (by rw [HN.out]; exact Nat.le_refl _))
      go_wp2
      go_ret
      exact ⟨ret_int (by rw [hd.out]), rfl⟩
end Go.Proofs.Ytkkfnmlomjlckaa
