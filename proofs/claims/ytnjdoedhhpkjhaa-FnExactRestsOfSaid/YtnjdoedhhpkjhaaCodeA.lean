/-
  Walks: are words a code?
-/
import Derived.Test.YtnjdoedhhpkjhaaPre
namespace Go.Proofs.Ytnjdoedhhpkjhaa
open Go.RowKit Go.ChangeShapes Go.WideShapes Go.Maps
set_option linter.unusedVariables false
attribute [local go_sem ↓] Go.wp_at_zero Go.wp_at_succ

theorem Try.zeroBool (w : World) : (zeroValue 4).run Try.prog w = .ok (.bool false) w := by kernel_rfl
def emptyB (x : ByteArray) : Bool := x.toList == []
/-- is something wrong with word k? -/
def badC (l : List ByteArray) (k : Nat) : Bool := if h : k < l.length then emptyB l[k] || !(textB l[k] 33 8) || isIn (l.take k) l[k] else false
def codeOk (l : List ByteArray) : Bool := (firstAt (badC l) l.length).isNone && decide (l.length ≤ 10)
theorem badC_get {l : List ByteArray} {k : Nat} (h : k < l.length) : badC l k = (emptyB l[k] || !(textB l[k] 33 8) || isIn (l.take k) l[k]) := by unfold badC; rw [dif_pos h]
theorem codeOk_bad {l : List ByteArray} {k : Nat} (h : k < l.length) (hN : NoneUpTo (badC l) k) (hb : badC l k = true) : codeOk l = false := by
  unfold codeOk; rw [first_hit hN hb h]; rfl
theorem codeOk_all {l : List ByteArray} (hN : NoneUpTo (badC l) l.length) : codeOk l = decide (l.length ≤ 10) := by
  unfold codeOk; rw [first_none hN]; simp

set_option maxRecDepth 100000 in
set_option maxHeartbeats 4000000 in
theorem code_any (ao : Option Addr) (n cap : Nat) (l : List ByteArray) (w : World) (hn : n = l.length) (hr : Rd w ao (strs l)) (hs : ∀ x ∈ l, x.size ≤ maxLen) (hm : n ≤ 1048576) :
    Calls Try.prog 44 #[.slice ao n cap] w fun e w' => e = .returned (.bool (codeOk l)) ∧ Below w.heap.size w w' := by
  have HN := hid hn
  have hrd := rd_str hr
  clear hn hr
  have hmm := @run_makeMap Try.prog
  go_enter Try.func44, Try.ntmps44
  go_wp2_with fail
  go_loopw [5, 9] (fun _ i wr => ∃ k : Nat, k ≤ n ∧ i = .int .i64 k ∧ NoneUpTo (badC l) k ∧ wr.ownsMap (H := Unit) Try.prog 9 (plainElem Try.prog 4) w.heap.size k (markD (l.take k)) ∧ Below w.heap.size w wr) (fun _ i _ => n - (intOf i).toNat)
  case atStart => exact ⟨0, Nat.zero_le _, rfl, none_zero _, World.ownsMap_made _ _ _ _, (Below.refl _ _).alloc (Nat.le_refl _) _⟩
  case round =>
    obtain ⟨k, hk, rfl, hN, hown, hB⟩ := hrel
    by_cases hlt : k < n
    · rcases hrd with hnil | ⟨b, o, rfl, hbl, hcell⟩
      · exact absurd (by rw [HN.out, hnil]; rfl : n = 0) (by omega)
      · have hkl : k < l.length := by rw [← HN.out]; exact hlt
        have g1 := (hB.cell (p := ⟨b, o + k, none⟩) hbl).trans (hcell k hkl)
        have hs1 := hs _ (List.getElem_mem hkl)
        have hk0 : (0 : Int) ≤ (k : Int) := by omega
        have hkn : (k : Int) < (n : Int) := by omega
        have hbg := hid (badC_get hkl)
        have hmk := hid (markD_next hkl)
        have hat := markD_at (l.take k) l[k]
        clear hcell
        cases he : emptyB l[k] <;> cases hok : textB l[k] 33 8 <;> cases hI : isIn (l.take k) l[k]
        case false.true.false =>
          have hgood := hid (none_next hN (by rw [hbg.out, he, hok, hI]; rfl))
          rw [hI] at hat
          obtain ⟨x, hx⟩ : ∃ x, x = l[k] := ⟨_, rfl⟩
          rw [← hx] at g1 hs1 hok hat hmk he
          clear hx hbg hI
          have hkey : keyOf Try.prog 9 (.string x) = some (.string x.data.toList) := WideMaps.keyOf_string_mk Try.underlying9 hs1
          have hlook := ownsMap_bool hown (string_keyed Try.underlying9) Try.underlying108 Try.underlying4 (Try.zeroBool wr) hkey hat
          unfold emptyB at he
          go_wp2_with (first | (go_at_call 68; refine (isText_b _ _ _ _ hs1 (by omega) (by omega) hok).mono ?_; rintro e w' ⟨rfl, rfl⟩) | (at_mapUpdate; refine wpList_mapUpdate_own _ rfl _ _ _ 108 rfl 9 4 (string_keyed Try.underlying9) Try.underlying108 _ w.heap.size k _ rfl hown (by unfold maxLen; omega) _ _ _ rfl rfl hkey _ [] (plainElem_bool Try.underlying4 true) ?_; intro w1 hown1 hgrow1))
          go_roundw
          case rel => exact ⟨k + 1, by omega, by go_num, hgood.out, by rw [hmk.out]; exact hown1, hB.grown hgrow1 hB.size (by intro k hk; simp at hk; omega)⟩
          case measure => simp [intOf]; omega
        all_goals
          have hbad := hid (codeOk_bad hkl hN (by rw [hbg.out, he, hok, hI]; rfl))
          rw [hI] at hat
          obtain ⟨x, hx⟩ : ∃ x, x = l[k] := ⟨_, rfl⟩
          rw [← hx] at g1 hs1 hok hat he
          clear hx hbg hI hmk
          have hkey : keyOf Try.prog 9 (.string x) = some (.string x.data.toList) := WideMaps.keyOf_string_mk Try.underlying9 hs1
          have hlook := ownsMap_bool hown (string_keyed Try.underlying9) Try.underlying108 Try.underlying4 (Try.zeroBool wr) hkey hat
          unfold emptyB at he
          go_wp2_with (first | (go_at_call 68; refine (isText_b _ _ _ _ hs1 (by omega) (by omega) hok).mono ?_; rintro e w' ⟨rfl, rfl⟩))
          go_ret
          exact ⟨ret_bool hbad.out.symm, hB⟩
    · obtain rfl : k = n := by omega
      have ha := hid (show codeOk l = decide (l.length ≤ 10) by rw [HN.out] at hN; exact codeOk_all hN)
      by_cases h30 : (k : Int) ≤ 10
      all_goals
        go_wp2
        go_ret
        exact ⟨ret_bool (by rw [ha.out, ← HN.out]; simp; omega), hB⟩

set_option maxRecDepth 100000 in
set_option maxHeartbeats 4000000 in
theorem sCode_any (ao : Option Addr) (n cap : Nat) (l : List ByteArray) (w : World) (hn : n = l.length) (hr : Rd w ao (strs l)) (hs : ∀ x ∈ l, x.size ≤ maxLen) (hm : n ≤ 1048576) (hcap : n ≤ cap) (hcm : cap ≤ maxLen) :
    Calls Try.prog 41 #[.slice ao n cap] w fun e w' => e = .returned (.bool (codeOk l)) ∧ Below w.heap.size w w' := by
  have HN := hid hn
  have hrd := rd_str hr
  clear hn hr
  unfold maxLen at hcm
  go_enter Try.func41, Try.ntmps41
  go_wp2_with fail
  go_loopw [3] (fun i wr => ∃ k : Nat, k ≤ n ∧ i = .int .i64 k ∧ NoneUpTo (badC l) k ∧ Below w.heap.size w wr) (fun i _ => n - (intOf i).toNat)
  case atStart => exact ⟨0, Nat.zero_le _, rfl, none_zero _, Below.refl _ _⟩
  case round =>
    obtain ⟨k, hk, rfl, hN, hB⟩ := hrel
    by_cases hlt : k < n
    · rcases hrd with hnil | ⟨b, o, rfl, hbl, hcell⟩
      · exact absurd (by rw [HN.out, hnil]; rfl : n = 0) (by omega)
      · have hkl : k < l.length := by rw [← HN.out]; exact hlt
        have g1 := (hB.cell (p := ⟨b, o + k, none⟩) hbl).trans (hcell k hkl)
        have hbw := Nat.lt_of_lt_of_le hbl hB.size
        have hrk : Rd wr (some ⟨b, o, none⟩) (strs (l.take k)) := .inr ⟨b, o, rfl, hbw, fun j hj => by
          have hj' : j < k := by rw [strs_len, List.length_take] at hj; omega
          rw [(hB.cell (p := ⟨b, o + j, none⟩) hbl).trans (hcell j (by omega)), strs_get]
          simp⟩
        have hlk : k = (l.take k).length := by rw [List.length_take]; omega
        have hs1 := hs _ (List.getElem_mem hkl)
        have hk0 : (0 : Int) ≤ (k : Int) := by omega
        have hkn : (k : Int) < (n : Int) := by omega
        have hkc : (k : Int) ≤ (cap : Int) := by omega
        have hkc2 : k ≤ cap := by omega
        have hbg := hid (badC_get hkl)
        clear hcell
        rcases idx_in (l.take k) l[k] with ⟨hI, hix⟩ | ⟨hI, q, hix, hq⟩
        · cases he : emptyB l[k] <;> cases hok : textB l[k] 33 8
          case false.true =>
            have hgood := hid (none_next hN (by rw [hbg.out, he, hok, hI]; rfl))
            obtain ⟨x, hx⟩ : ∃ x, x = l[k] := ⟨_, rfl⟩
            rw [← hx] at g1 hs1 hok he hix
            clear hx hbg hI
            unfold emptyB at he
            have hidx := fun (y : Over wr) => index_b (some ⟨b, o, none⟩) k cap (l.take k) x (over wr y) hlk (rd_over hrk) (by omega) hix
            have HI := hid hidx
            clear hrk hlk hidx
            go_wp2_with fail
            refine wp_region_over (by kernel_rfl) (by kernel_rfl) (fun hov => ?_)
            repeat (go_big_quiet_step ((first | (go_at_call 64; with_reducible exact overSame (sText_b _ _ _ hs1 hok)) | (go_at_call 65; exact overSame (HI.out _)))))
            refine wpQuiet_nil ?_
            intro w5 hb5
            clear hov
            go_wp2
            go_roundw
            case rel => exact ⟨k + 1, by omega, by go_num, hgood.out, hB.trans (hb5.mono hB.size)⟩
            case measure => simp [intOf]; omega
          all_goals
            have hbad := hid (codeOk_bad hkl hN (by rw [hbg.out, he, hok, hI]; rfl))
            obtain ⟨x, hx⟩ : ∃ x, x = l[k] := ⟨_, rfl⟩
            rw [← hx] at g1 hs1 hok he hix
            clear hx hbg hI
            unfold emptyB at he
            have hidx := fun (y : Over wr) => index_b (some ⟨b, o, none⟩) k cap (l.take k) x (over wr y) hlk (rd_over hrk) (by omega) hix
            have HI := hid hidx
            clear hrk hlk hidx
            go_wp2_with fail
            refine wp_region_over (by kernel_rfl) (by kernel_rfl) (fun hov => ?_)
            repeat (go_big_quiet_step ((first | (go_at_call 64; with_reducible exact overSame (sText_b _ _ _ hs1 hok)) | (go_at_call 65; exact overSame (HI.out _)))))
            refine wpQuiet_nil ?_
            intro w5 hb5
            clear hov
            go_wp2
            go_ret
            exact ⟨ret_bool hbad.out.symm, hB.trans (hb5.mono hB.size)⟩
        · have hbad := hid (codeOk_bad hkl hN (by rw [hbg.out, hI]; simp))
          cases he : emptyB l[k] <;> cases hok : textB l[k] 33 8
          all_goals
            obtain ⟨x, hx⟩ : ∃ x, x = l[k] := ⟨_, rfl⟩
            rw [← hx] at g1 hs1 hok he hix
            clear hx hbg hI
            unfold emptyB at he
            have hidx := fun (y : Over wr) => index_b (some ⟨b, o, none⟩) k cap (l.take k) x (over wr y) hlk (rd_over hrk) (by omega) hix
            have HI := hid hidx
            clear hrk hlk hidx
            clear hix
            have hq0 : (0 : Int) ≤ (q : Int) := by omega
            go_wp2_with fail
            refine wp_region_over (by kernel_rfl) (by kernel_rfl) (fun hov => ?_)
            repeat (go_big_quiet_step ((first | (go_at_call 64; with_reducible exact overSame (sText_b _ _ _ hs1 hok)) | (go_at_call 65; exact overSame (HI.out _)))))
            refine wpQuiet_nil ?_
            intro w5 hb5
            clear hov
            go_wp2
            go_ret
            exact ⟨ret_bool hbad.out.symm, hB.trans (hb5.mono hB.size)⟩
    · obtain rfl : k = n := by omega
      have ha := hid (show codeOk l = decide (l.length ≤ 10) by rw [HN.out] at hN; exact codeOk_all hN)
      by_cases h30 : (k : Int) ≤ 10
      all_goals
        go_wp2
        go_ret
        exact ⟨ret_bool (by rw [ha.out, ← HN.out]; simp; omega), hB⟩
end Go.Proofs.Ytnjdoedhhpkjhaa
