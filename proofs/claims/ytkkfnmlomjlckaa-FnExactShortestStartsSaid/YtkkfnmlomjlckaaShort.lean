/-
  The shortest beginnings that tell words apart: the walks.
-/
import Derived.Test.YtkkfnmlomjlckaaStart
import Derived.Test.YtkkfnmlomjlckaaMark
namespace Go.Proofs.Ytkkfnmlomjlckaa
open Go.RowKit Go.ChangeShapes Go.WideShapes Go.Maps
set_option linter.unusedVariables false
attribute [local go_sem ↓] Go.wp_at_zero Go.wp_at_succ

theorem wordsOk_len {l : List ByteArray} (h : wordsOk l = true) : l.length ≤ 30 := by
  unfold wordsOk at h
  simp only [Bool.and_eq_true, decide_eq_true_eq] at h
  exact h.2
theorem wordsOk_size {l : List ByteArray} (h : wordsOk l = true) : ∀ x ∈ l, 1 ≤ x.size ∧ x.size ≤ 30 := by
  intro x hx
  obtain ⟨k, hk, rfl⟩ := List.getElem_of_mem hx
  unfold wordsOk at h
  simp only [Bool.and_eq_true] at h
  have h1 : firstAt (badW l) l.length = none := by simpa using h.1
  unfold firstAt at h1
  rw [List.find?_range_eq_none] at h1
  have h2 := h1 k hk
  cases ht : wordB l[k] 30
  · rw [badW_word hk ht] at h2; simp at h2
  · have := word_size ht; omega
theorem ext_full (x : ByteArray) : x.extract 0 x.size = x := by simp
def shortsL (l : List ByteArray) : List ByteArray := if wordsOk l = true then startsL l l.length else []
def shortsC (l : List ByteArray) : Int := if wordsOk l = true then 0 else 1
theorem shorts_bad {l : List ByteArray} (h : wordsOk l = false) : shortsL l = [] ∧ shortsC l = 1 := by simp [shortsL, shortsC, h]
theorem shorts_ok {l : List ByteArray} (h : wordsOk l = true) : shortsL l = startsL l l.length ∧ shortsC l = 0 := by simp [shortsL, shortsC, h]
theorem shorts_len (l : List ByteArray) : (shortsL l).length ≤ 30 := by
  cases h : wordsOk l
  · rw [(shorts_bad h).1]; simp
  · rw [(shorts_ok h).1, starts_len]; exact wordsOk_len h
theorem stop_end {l : List ByteArray} {i m : Nat} (h : i < l.length) (hm : l[i].size ≤ m) : stopB l i m = true := by
  rw [stopB_get h]; simp [hm]
theorem stop_mid {l : List ByteArray} {i m : Nat} (h : i < l.length) (hm : ¬ l[i].size ≤ m) : stopB l i m = !(othersB l i (l[i].extract 0 m)) := by
  rw [stopB_get h]; simp [hm]

set_option maxRecDepth 100000 in
set_option maxHeartbeats 4000000 in
theorem sShort_any (ao : Option Addr) (n cap : Nat) (l : List ByteArray) (w : World) (hn : n = l.length) (hr : Rd w ao (strs l)) (hs : ∀ x ∈ l, x.size ≤ maxLen) (hm : n ≤ 1048576) :
    Calls Try.prog 42 #[.slice ao n cap] w (RowRet w.heap.size 9 w (strs (shortsL l)) (shortsC l)) := by
  obtain ⟨i0, hi, hz0, hz1, hz2⟩ := info_parts Try.infoStr
  have HN := hid hn
  clear hn
  cases hok : wordsOk l
  · have hR := hid (shorts_bad hok)
    go_enter Try.func42, Try.ntmps42
    go_wp2_with (go_at_call 58; refine (sList_any ao n cap l _ HN.out hr hs hm).mono ?_; rw [hok]; rintro e w1 ⟨rfl, hb1⟩)
    go_ret2
    rw [hR.out.1, hR.out.2]
    exact ⟨none, 0, by simp [strs], World.ownsRow_nil _ _ _ _, hb1⟩
  have hR := hid (shorts_ok hok)
  have hsz := hid (wordsOk_size hok)
  go_enter Try.func42, Try.ntmps42
  go_wp2_with (go_at_call 58; refine (sList_any ao n cap l _ HN.out hr hs hm).mono ?_; rw [hok]; rintro e w1 ⟨rfl, hb1⟩; have hr1 := rd_below hr hb1)
  have hrd := rd_str hr1
  have HR1 := hid hr1
  clear hr hr1
  go_loopw [4, 5] (fun v i wr => ∃ k : Nat, k ≤ n ∧ i = .int .i64 k ∧ wr.ownsRow w1.heap.size 9 1 v (startsL l k).length (strs (startsL l k)) ∧ Below w1.heap.size w1 wr) (fun _ i _ => n - (intOf i).toNat)
  case atStart => exact ⟨0, Nat.zero_le _, rfl, World.ownsRow_made _ _ 0 (Nat.le_refl _) (by unfold maxLen; omega) rfl, (Below.refl _ _).alloc (Nat.le_refl _) _⟩
  case round =>
    obtain ⟨k, hk, rfl, hown, hB⟩ := hrel
    have hB' := hb1.trans (hB.mono hb1.size)
    have hz1' := hb1.size
    have hz2' := hB.size
    by_cases hlt : k < n
    · rcases hrd with hnil | ⟨b, o, rfl, hbl, hcell⟩
      · exact absurd (by rw [HN.out, hnil]; rfl : n = 0) (by omega)
      have hkl : k < l.length := by rw [← HN.out]; exact hlt
      have g1 := (hB.cell (p := ⟨b, o + k, none⟩) hbl).trans (hcell k hkl)
      obtain ⟨hx1, hx30⟩ := hsz.out _ (List.getElem_mem hkl)
      have hk0 : (0 : Int) ≤ (k : Int) := by omega
      have hkn : (k : Int) < (n : Int) := by omega
      have hnx := hid (starts_next hkl)
      have hso := hid (fun m (h1 : 1 ≤ m) (h2 : m ≤ l[k].size) => start_of hkl h1 h2)
      have hend := hid (fun m => stop_end (m := m) hkl)
      have hmid := hid (fun m => stop_mid (m := m) hkl)
      have hself := hid (fun m => pre_self l[k] m)
      have hco := hid (fun m => count_others hkl (hself.out m))
      have hsl := starts_len l k
      clear hcell hself
      obtain ⟨x, hx⟩ : ∃ x, x = l[k] := ⟨_, rfl⟩
      rw [← hx] at g1 hx1 hx30 hnx hso hend hmid hco
      clear hx
      go_wp2_with fail
      go_loop [6] (fun i => ∃ m : Nat, 1 ≤ m ∧ m ≤ x.size ∧ i = .int .i64 m ∧ Goes l k m) (fun i => x.size - (intOf i).toNat)
      case atStart => exact ⟨1, Nat.le_refl _, hx1, rfl, goes_one _ _⟩
      case round =>
        obtain ⟨m, hm1, hmx, rfl, hG⟩ := hrel
        have hrw := rd_below HR1.out hB
        by_cases hmlt : m < x.size
        · have hmi : (m : Int) < (x.size : Int) := by omega
          have hm0 : (0 : Int) ≤ (m : Int) := by omega
          have hmle : (m : Int) ≤ (x.size : Int) := by omega
          have hmle2 : m ≤ x.size := hmx
          have hst := hmid.out m (by omega)
          have hc := hco.out m
          have hes : (x.extract 0 m).size ≤ maxLen := by simp only [ByteArray.size_extract]; unfold maxLen; omega
          have hcl := preL_len l n (x.extract 0 m)
          have hd : l.take n = l := List.take_of_length_le (by rw [HN.out]; exact Nat.le_refl _)
          rw [hd] at hcl
          obtain ⟨c, hcc⟩ : ∃ c, c = (preL l (x.extract 0 m)).length := ⟨_, rfl⟩
          have hcn := fun w hr => count_any (some ⟨b, o, none⟩) n cap l (x.extract 0 m) w HN.out hr hs hes hm
          rw [← hcc] at hc hcl hcn
          have HC := hid (hcn _ hrw)
          clear hcn hcc hd hrw
          by_cases hc1 : 1 < c
          · have hs0 := hid (show stopB l k m = false by rw [hst, ← hc]; simp [hc1])
            have hci : (1 : Int) < (c : Int) := by omega
            clear hst hc
            go_wp2_with (go_at_call 61; refine HC.out.mono ?_; rintro e w' ⟨rfl, rfl⟩)
            go_round
            case rel => exact ⟨m + 1, by omega, by omega, by go_num, goes_next hG hs0.out⟩
            case measure => simp [intOf]; omega
          · have hs0 := hid (show stopB l k m = true by rw [hst, ← hc]; simp [hc1])
            have hci : ¬ (1 : Int) < (c : Int) := by omega
            have hfin := hid (hso.out m hm1 hmx hG hs0.out)
            clear hst hc
            go_wp2_with (first | (go_at_call 61; refine HC.out.mono ?_; rintro e w' ⟨rfl, rfl⟩) | (at_builtin; refine wpList_append_own _ rfl _ _ 50 rfl w1.heap.size 9 i0 (.string ByteArray.empty) 1 16 Try.underlying50 hi hz0 hz1 hz2 rfl (by decide) _ _ _ rfl (hown.alloc _) ⟨wr.heap.size, 0, none⟩ 1 1 [.string (x.extract 0 m)] rfl rfl (one_new _ _ _) (one_okS _) (by unfold maxLen; omega) (by omega) (by simp; omega) ?_; intro v' w2 hown3 hgrow3 _))
            go_roundw
            case rel => exact ⟨k + 1, by omega, by go_num, by rw [hnx.out, hfin.out, strs_snoc, List.length_append]; exact hown3, below_grown (hB.alloc (by omega) _) (by simp; omega) (hown.alloc _) hgrow3⟩
            case measure => simp [intOf]; omega
        · obtain rfl : m = x.size := by omega
          have hfin := hid (hso.out x.size hm1 hmx hG (hend.out _ (Nat.le_refl _)))
          clear hrw
          go_wp2_with (at_builtin; refine wpList_append_own _ rfl _ _ 50 rfl w1.heap.size 9 i0 (.string ByteArray.empty) 1 16 Try.underlying50 hi hz0 hz1 hz2 rfl (by decide) _ _ _ rfl (hown.alloc _) ⟨wr.heap.size, 0, none⟩ 1 1 [.string x] rfl rfl (one_new _ _ _) (one_okS _) (by unfold maxLen; omega) (by omega) (by simp; omega) ?_; intro v' w2 hown3 hgrow3 _)
          go_roundw
          case rel => exact ⟨k + 1, by omega, by go_num, by rw [hnx.out, hfin.out, ext_full, strs_snoc, List.length_append]; exact hown3, below_grown (hB.alloc (by omega) _) (by simp; omega) (hown.alloc _) hgrow3⟩
          case measure => simp [intOf]; omega
    · obtain rfl : k = n := by omega
      go_wp2
      go_ret2
      rw [hR.out.1, hR.out.2, ← HN.out]
      exact rowRet_mk (owns_mono hown hb1.size) hB'

/-- none of the words looked at begins with so much of word k (or all of it is taken) -/
def Clear (l : List ByteArray) (x : ByteArray) (k j m : Nat) : Prop := m = x.size ∨ ∀ q, q < j → q ≠ k → preAt l (x.extract 0 m) q = false
theorem clear_zero (l : List ByteArray) (x : ByteArray) (k m : Nat) : Clear l x k 0 m := .inr fun q h => absurd h (Nat.not_lt_zero q)
theorem clear_up {l : List ByteArray} {x : ByteArray} {k j m : Nat} (h : Clear l x k j m) (hm : m < x.size) : Clear l x k j (m + 1) := by
  rcases h with h | h
  · omega
  · refine .inr fun q hq hne => ?_
    have h1 := h q hq hne
    unfold preAt at *
    split
    · rename_i hl
      rw [dif_pos hl] at h1
      cases hp : preB l[q] (x.extract 0 (m + 1))
      · rfl
      · rw [pre_anti hp] at h1; cases h1
    · rfl
theorem clear_next {l : List ByteArray} {x : ByteArray} {k j m : Nat} (h : Clear l x k j m) (hj : j = k ∨ m = x.size ∨ preAt l (x.extract 0 m) j = false) : Clear l x k (j + 1) m := by
  rcases h with h | h
  · exact .inl h
  · rcases hj with hj | hj | hj
    · refine .inr fun q hq hne => h q (by omega) hne
    · exact .inl hj
    · refine .inr fun q hq hne => ?_
      by_cases e : q = j
      · rw [e]; exact hj
      · exact h q (by omega) hne
theorem clear_stop {l : List ByteArray} {k m : Nat} (hk : k < l.length) (h : Clear l l[k] k l.length m) : stopB l k m = true := by
  rcases h with h | h
  · exact stop_end hk (by omega)
  · by_cases hm : l[k].size ≤ m
    · exact stop_end hk hm
    · rw [stop_mid hk hm, others_false h]; rfl

set_option maxRecDepth 100000 in
set_option maxHeartbeats 4000000 in
theorem short_any (ao : Option Addr) (n cap : Nat) (l : List ByteArray) (w : World) (hn : n = l.length) (hr : Rd w ao (strs l)) (hs : ∀ x ∈ l, x.size ≤ maxLen) (hm : n ≤ 1048576) :
    Calls Try.prog 43 #[.slice ao n cap] w (RowRet w.heap.size 9 w (strs (shortsL l)) (shortsC l)) := by
  obtain ⟨i0, hi, hz0, hz1, hz2⟩ := info_parts Try.infoStr
  have HN := hid hn
  clear hn
  cases hok : wordsOk l
  · have hR := hid (shorts_bad hok)
    go_enter Try.func43, Try.ntmps43
    go_wp2_with (go_at_call 62; refine (diff_any ao n cap l _ HN.out hr hs hm).mono ?_; rw [hok]; rintro e w1 ⟨rfl, hb1⟩)
    go_ret2
    rw [hR.out.1, hR.out.2]
    exact ⟨none, 0, by simp [strs], World.ownsRow_nil _ _ _ _, hb1⟩
  have hR := hid (shorts_ok hok)
  have hsz := hid (wordsOk_size hok)
  go_enter Try.func43, Try.ntmps43
  go_wp2_with (go_at_call 62; refine (diff_any ao n cap l _ HN.out hr hs hm).mono ?_; rw [hok]; rintro e w1 ⟨rfl, hb1⟩; have hr1 := rd_below hr hb1)
  have hrd := rd_str hr1
  clear hr hr1
  go_loopw [4, 5, 6, 16] (fun v _ _ i wr => ∃ k : Nat, k ≤ n ∧ i = .int .i64 k ∧ wr.ownsRow w1.heap.size 9 1 v (startsL l k).length (strs (startsL l k)) ∧ Below w1.heap.size w1 wr) (fun _ _ _ i _ => n - (intOf i).toNat)
  case atStart => exact ⟨0, Nat.zero_le _, rfl, World.ownsRow_made _ _ 0 (Nat.le_refl _) (by unfold maxLen; omega) rfl, (Below.refl _ _).alloc (Nat.le_refl _) _⟩
  case round =>
    obtain ⟨k, hk, rfl, hown, hB⟩ := hrel
    have hB' := hb1.trans (hB.mono hb1.size)
    have hz1' := hb1.size
    have hz2' := hB.size
    by_cases hlt : k < n
    · rcases hrd with hnil | ⟨b, o, rfl, hbl, hcell⟩
      · exact absurd (by rw [HN.out, hnil]; rfl : n = 0) (by omega)
      have hkl : k < l.length := by rw [← HN.out]; exact hlt
      have g1 := (hB.cell (p := ⟨b, o + k, none⟩) hbl).trans (hcell k hkl)
      obtain ⟨hx1, hx30⟩ := hsz.out _ (List.getElem_mem hkl)
      have hk0 : (0 : Int) ≤ (k : Int) := by omega
      have hkn : (k : Int) < (n : Int) := by omega
      have hnx := hid (starts_next hkl)
      have hso := hid (fun m (h1 : 1 ≤ m) (h2 : m ≤ l[k].size) => start_of hkl h1 h2)
      have hmid := hid (fun m => stop_mid (m := m) hkl)
      have hcs := hid (fun m => clear_stop (m := m) hkl)
      have hsl := starts_len l k
      obtain ⟨x, hx⟩ : ∃ x, x = l[k] := ⟨_, rfl⟩
      rw [← hx] at g1 hx1 hx30 hnx hso hmid hcs
      clear hx
      go_wp2_with fail
      go_loop [7, 8, 9, 23] (fun sz _ _ i => ∃ j m : Nat, j ≤ n ∧ i = .int .i64 j ∧ sz = .int .i64 m ∧ 1 ≤ m ∧ m ≤ x.size ∧ Goes l k m ∧ Clear l x k j m) (fun _ _ _ i => n - (intOf i).toNat)
      case atStart => exact ⟨0, 1, Nat.zero_le _, rfl, rfl, Nat.le_refl _, hx1, goes_one _ _, clear_zero _ _ _ _⟩
      case round =>
        obtain ⟨j, m0, hj, rfl, rfl, hm1, hmx, hG, hC⟩ := hrel
        by_cases hjn : j < n
        · have hjl : j < l.length := by rw [← HN.out]; exact hjn
          have g2 := (hB.cell (p := ⟨b, o + j, none⟩) hbl).trans (hcell j hjl)
          obtain ⟨_, hy30⟩ := hsz.out _ (List.getElem_mem hjl)
          have hj0 : (0 : Int) ≤ (j : Int) := by omega
          have hjn1 : (j : Int) < (n : Int) := by omega
          have hpg := hid (fun s => preAt_get (s := s) hjl)
          have hot := hid (fun s hne hp => others_true (l := l) (i := k) (s := s) hjl hne hp)
          obtain ⟨y, hy⟩ : ∃ y, y = l[j] := ⟨_, rfl⟩
          rw [← hy] at g2 hy30 hpg
          clear hy
          go_wp2_with fail
          go_loop [7] (fun sz => ∃ m : Nat, sz = .int .i64 m ∧ 1 ≤ m ∧ m ≤ x.size ∧ Goes l k m ∧ Clear l x k j m) (fun sz => x.size - (intOf sz).toNat)
          case atStart => exact ⟨m0, rfl, hm1, hmx, hG, hC⟩
          case round =>
            clear hG hC hm1 hmx
            obtain ⟨m, rfl, hm1, hmx, hG, hC⟩ := hrel
            by_cases hkj : j = k
            · have hc : ((j : Int) != (k : Int)) = false := by simp; omega
              have hC2 := hid (clear_next hC (.inl hkj))
              clear hkj
              go_wp2_with fail
              go_round
              case rel => exact ⟨j + 1, m, by omega, by go_num, rfl, hm1, hmx, hG, hC2.out⟩
              case measure => simp [intOf]; omega
            · have hc : ((j : Int) != (k : Int)) = true := by simp; omega
              have HK := hid hkj
              clear hkj
              by_cases hmlt : m < x.size
              · have hmi : (m : Int) < (x.size : Int) := by omega
                have hm0 : (0 : Int) ≤ (m : Int) := by omega
                have hmle : (m : Int) ≤ (x.size : Int) := by omega
                have hmle2 : m ≤ x.size := hmx
                have hes : (x.extract 0 m).size ≤ maxLen := by simp only [ByteArray.size_extract]; unfold maxLen; omega
                have hys : y.size ≤ maxLen := by unfold maxLen; omega
                cases hp : preB y (x.extract 0 m)
                · have hC2 := hid (clear_next hC (.inr (.inr ((hpg.out _).trans hp))))
                  go_wp2_with (go_at_call 64; refine (hasPre_b _ _ _ hys hes hp).mono ?_; rintro e w' ⟨rfl, rfl⟩)
                  go_round
                  case rel => exact ⟨j + 1, m, by omega, by go_num, rfl, hm1, hmx, hG, hC2.out⟩
                  case measure => simp [intOf]; omega
                · have hs0 := hid (show stopB l k m = false by rw [hmid.out m (by omega), hot.out _ HK.out ((hpg.out _).trans hp)]; rfl)
                  go_wp2_with (go_at_call 64; refine (hasPre_b _ _ _ hys hes hp).mono ?_; rintro e w' ⟨rfl, rfl⟩)
                  go_round
                  case rel => exact ⟨m + 1, by go_num, by omega, by omega, goes_next hG hs0.out, clear_up hC hmlt⟩
                  case measure => simp [intOf]; omega
              · have hmi : ¬ (m : Int) < (x.size : Int) := by omega
                have hC2 := hid (clear_next hC (.inr (.inl (show m = x.size by omega))))
                go_wp2_with fail
                go_round
                case rel => exact ⟨j + 1, m, by omega, by go_num, rfl, hm1, hmx, hG, hC2.out⟩
                case measure => simp [intOf]; omega
        · obtain rfl : j = n := by omega
          have hfin := hid (hso.out m0 hm1 hmx hG (hcs.out m0 (by rw [← HN.out]; exact hC)))
          have hmle : (m0 : Int) ≤ (x.size : Int) := by omega
          have hm0 : (0 : Int) ≤ (m0 : Int) := by omega
          go_wp2_with (at_builtin; refine wpList_append_own _ rfl _ _ 50 rfl w1.heap.size 9 i0 (.string ByteArray.empty) 1 16 Try.underlying50 hi hz0 hz1 hz2 rfl (by decide) _ _ _ rfl (hown.alloc _) ⟨wr.heap.size, 0, none⟩ 1 1 [.string (x.extract 0 m0)] rfl rfl (one_new _ _ _) (one_okS _) (by unfold maxLen; omega) (by omega) (by simp; omega) ?_; intro v' w2 hown3 hgrow3 _)
          go_roundw
          case rel => exact ⟨k + 1, by omega, by go_num, by rw [hnx.out, hfin.out, strs_snoc, List.length_append]; exact hown3, below_grown (hB.alloc (by omega) _) (by simp; omega) (hown.alloc _) hgrow3⟩
          case measure => simp [intOf]; omega
    · obtain rfl : k = n := by omega
      go_wp2
      go_ret2
      rw [hR.out.1, hR.out.2, ← HN.out]
      exact rowRet_mk (owns_mono hown hb1.size) hB'
end Go.Proofs.Ytkkfnmlomjlckaa
