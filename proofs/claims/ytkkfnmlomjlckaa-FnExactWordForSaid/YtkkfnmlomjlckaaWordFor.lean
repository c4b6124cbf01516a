/-
  The word with a beginning: the walks and the law.
-/
import Derived.Test.YtkkfnmlomjlckaaWords2
namespace Go.Proofs.Ytkkfnmlomjlckaa
open Go.RowKit Go.ChangeShapes Go.WideShapes Go.Maps
set_option linter.unusedVariables false
attribute [local go_sem ↓] Go.wp_at_zero Go.wp_at_succ

/-- is word k the text itself? -/
def eqAt (l : List ByteArray) (s : ByteArray) (k : Nat) : Bool := if h : k < l.length then l[k].toList == s.toList else false
theorem eqAt_get {l : List ByteArray} {s : ByteArray} {k : Nat} (h : k < l.length) : eqAt l s k = (l[k].toList == s.toList) := by unfold eqAt; rw [dif_pos h]
theorem ext_toList {a b : ByteArray} (h : a.toList = b.toList) : a = b := by
  rw [ByteArray.toList_eq, ByteArray.toList_eq] at h
  cases a; cases b
  simp only [ByteArray.mk.injEq]
  exact Array.toList_inj.1 h
/-- the answer out of the words that begin with the text -/
def pickW : List ByteArray → ByteArray × Int
  | [] => (⟨#[]⟩, 3)
  | [x] => (x, 0)
  | _ => (⟨#[]⟩, 9)
def wordForR (l : List ByteArray) (s : ByteArray) : ByteArray × Int :=
  if wordsOk l = true then if wordB s 30 = true then if (firstAt (eqAt l s) l.length).isSome = true then (s, 0) else pickW (preL l s) else (⟨#[]⟩, 2) else (⟨#[]⟩, 1)
theorem wordFor_bad {l : List ByteArray} {s : ByteArray} (h : wordsOk l = false) : wordForR l s = (⟨#[]⟩, 1) := by simp [wordForR, h]
theorem wordFor_word {l : List ByteArray} {s : ByteArray} (h : wordsOk l = true) (h2 : wordB s 30 = false) : wordForR l s = (⟨#[]⟩, 2) := by simp [wordForR, h, h2]
theorem wordFor_hit {l : List ByteArray} {s : ByteArray} {k : Nat} (h : wordsOk l = true) (h2 : wordB s 30 = true) (hk : k < l.length) (hN : NoneUpTo (eqAt l s) k) (he : eqAt l s k = true) : wordForR l s = (s, 0) := by
  simp [wordForR, h, h2, first_hit hN he hk]
theorem wordFor_none {l : List ByteArray} {s : ByteArray} (h : wordsOk l = true) (h2 : wordB s 30 = true) (hN : NoneUpTo (eqAt l s) l.length) : wordForR l s = pickW (preL l s) := by
  simp [wordForR, h, h2, first_none hN]
theorem pick_zero {l : List ByteArray} (h : l.length = 0) : pickW l = (⟨#[]⟩, 3) := by
  rw [List.eq_nil_of_length_eq_zero h]; rfl
theorem pick_one {l : List ByteArray} (h : l.length = 1) : pickW l = (l.getLastD ⟨#[]⟩, 0) := by
  match l, h with
  | [x], _ => rfl
theorem pick_many {l : List ByteArray} (h : 1 < l.length) : pickW l = (⟨#[]⟩, 9) := by
  match l, h with
  | x :: y :: r, _ => rfl
def lastP (l : List ByteArray) : ByteArray := l.getLastD ⟨#[]⟩
theorem lastP_snoc (l : List ByteArray) (x : ByteArray) : lastP (l ++ [x]) = x := by simp [lastP]

set_option maxHeartbeats 4000000 in
theorem sWordFor_any (ao : Option Addr) (n cap : Nat) (l : List ByteArray) (s : ByteArray) (w : World) (hn : n = l.length) (hr : Rd w ao (strs l)) (hs : ∀ x ∈ l, x.size ≤ maxLen) (hs2 : s.size ≤ maxLen) (hm : n ≤ 1048576) :
    Calls Try.prog 38 #[.slice ao n cap, .string s] w fun e w' => e = .returned (.tuple #[.string (wordForR l s).1, .int .i64 (wordForR l s).2]) ∧ Below w.heap.size w w' := by
  have HN := hid hn
  clear hn
  cases hok : wordsOk l
  · have hR := hid (wordFor_bad (s := s) hok)
    go_enter Try.func38, Try.ntmps38
    go_wp2_with (go_at_call 58; refine (sList_any ao n cap l _ HN.out hr hs hm).mono ?_; rw [hok]; rintro e w1 ⟨rfl, hb1⟩)
    go_ret2
    exact ⟨by simp [hR.out], hb1⟩
  cases hwd : wordB s 30
  · have hR := hid (wordFor_word (s := s) hok hwd)
    go_enter Try.func38, Try.ntmps38
    go_wp2_with (first | (go_at_call 58; refine (sList_any ao n cap l _ HN.out hr hs hm).mono ?_; rw [hok]; rintro e w1 ⟨rfl, hb1⟩) | (go_at_call 59; refine (sWord_b _ _ _ hs2 hwd).mono ?_; rintro e w' ⟨rfl, rfl⟩))
    go_ret2
    exact ⟨by simp [hR.out], hb1⟩
  go_enter Try.func38, Try.ntmps38
  go_wp2_with (first | (go_at_call 58; refine (sList_any ao n cap l _ HN.out hr hs hm).mono ?_; rw [hok]; rintro e w1 ⟨rfl, hb1⟩; have hr1 := rd_below hr hb1) | (go_at_call 59; refine (sWord_b _ _ _ hs2 hwd).mono ?_; rintro e w' ⟨rfl, rfl⟩))
  have hrd := rd_str hr1
  clear hr
  go_loop [6, 7] (fun f i => ∃ k : Nat, k ≤ n ∧ i = .int .i64 k ∧ NoneUpTo (eqAt l s) k ∧ f = .string (lastP (preL (l.take k) s))) (fun _ i => n - (intOf i).toNat)
  case atStart => exact ⟨0, Nat.zero_le _, rfl, none_zero _, by rw [preL_zero]; rfl⟩
  case round =>
    obtain ⟨k, hk, rfl, hN, rfl⟩ := hrel
    by_cases hlt : k < n
    · rcases hrd with hnil | ⟨b, o, rfl, hbl, hcell⟩
      · exact absurd (by rw [HN.out, hnil]; rfl : n = 0) (by omega)
      · have hkl : k < l.length := by rw [← HN.out]; exact hlt
        have g1 := hcell k hkl
        have hs1 := hs _ (List.getElem_mem hkl)
        have hk0 : (0 : Int) ≤ (k : Int) := by omega
        have hkn : (k : Int) < (n : Int) := by omega
        have hnx := hid (preL_next hkl s)
        have heq := hid (eqAt_get (s := s) hkl)
        clear hcell
        obtain ⟨f, hf⟩ : ∃ f, f = lastP (preL (l.take k) s) := ⟨_, rfl⟩
        rw [← hf]
        have Hf := hid hf
        clear hf
        obtain ⟨x, hx⟩ : ∃ x, x = l[k] := ⟨_, rfl⟩
        rw [← hx] at g1 hs1 hnx heq
        clear hx
        cases he : (x.toList == s.toList)
        · cases hp : preB x s
          all_goals
            go_wp2_with (go_at_call 60; refine (starts_b _ _ _ hs1 hs2 hp).mono ?_; rintro e w' ⟨rfl, rfl⟩)
            go_round
            case rel => exact ⟨k + 1, by omega, by go_num, none_next hN (by rw [heq.out, he]), by rw [hnx.out, hp]; first | (simp [lastP_snoc]; done) | (simp [Hf.out]; done)⟩
            case measure => simp [intOf]; omega
        · have hR := hid (wordFor_hit hok hwd hkl hN (by rw [heq.out, he]))
          go_wp2_with fail
          go_ret2
          exact ⟨by simp [hR.out], hb1⟩
    · obtain rfl : k = n := by omega
      have hd := hid (show l.take k = l from List.take_of_length_le (by rw [HN.out]; exact Nat.le_refl _))
      have hR := hid (wordFor_none hok hwd (by rw [← HN.out]; exact hN))
      have hlen : (preL l s).length ≤ k := by rw [← hd.out]; exact preL_len l k s
      rw [hd.out]
      rcases (show (preL l s).length = 0 ∨ (preL l s).length = 1 ∨ 1 < (preL l s).length by omega) with h0 | h1 | h2
      · have hp := hid (pick_zero h0)
        go_wp2_with (go_at_call 61; refine (count_any ao k cap l s _ HN.out hr1 hs hs2 hm).mono ?_; rw [h0]; rintro e w' ⟨rfl, rfl⟩)
        go_ret2
        exact ⟨by simp [hR.out, hp.out], hb1⟩
      · have hp := hid (pick_one h1)
        go_wp2_with (go_at_call 61; refine (count_any ao k cap l s _ HN.out hr1 hs hs2 hm).mono ?_; rw [h1]; rintro e w' ⟨rfl, rfl⟩)
        go_ret2
        exact ⟨by simp [hR.out, hp.out, lastP], hb1⟩
      · have hp := hid (pick_many h2)
        obtain ⟨c, hc⟩ : ∃ c, c = (preL l s).length := ⟨_, rfl⟩
        rw [← hc] at h2 hlen
        go_wp2_with (go_at_call 61; refine (count_any ao k cap l s _ HN.out hr1 hs hs2 hm).mono ?_; rw [← hc]; rintro e w' ⟨rfl, rfl⟩)
        go_ret2
        exact ⟨by simp [hR.out, hp.out], hb1⟩

set_option maxRecDepth 100000 in
set_option maxHeartbeats 4000000 in
theorem wordFor_any (ao : Option Addr) (n cap : Nat) (l : List ByteArray) (s : ByteArray) (w : World) (hn : n = l.length) (hr : Rd w ao (strs l)) (hs : ∀ x ∈ l, x.size ≤ maxLen) (hs2 : s.size ≤ maxLen) (hm : n ≤ 1048576) :
    Calls Try.prog 40 #[.slice ao n cap, .string s] w fun e w' => e = .returned (.tuple #[.string (wordForR l s).1, .int .i64 (wordForR l s).2]) ∧ Below w.heap.size w w' := by
  obtain ⟨i0, hi, hz0, hz1, hz2⟩ := info_parts Try.infoStr
  have HN := hid hn
  clear hn
  cases hok : wordsOk l
  · have hR := hid (wordFor_bad (s := s) hok)
    go_enter Try.func40, Try.ntmps40
    go_wp2_with (go_at_call 62; refine (diff_any ao n cap l _ HN.out hr hs hm).mono ?_; rw [hok]; rintro e w1 ⟨rfl, hb1⟩)
    go_ret2
    exact ⟨by simp [hR.out], hb1⟩
  cases hwd : wordB s 30
  · have hR := hid (wordFor_word (s := s) hok hwd)
    go_enter Try.func40, Try.ntmps40
    go_wp2_with (first | (go_at_call 62; refine (diff_any ao n cap l _ HN.out hr hs hm).mono ?_; rw [hok]; rintro e w1 ⟨rfl, hb1⟩) | (go_at_call 63; refine (smallWord_b _ _ hs2 hwd).mono ?_; rintro e w' ⟨rfl, rfl⟩))
    go_ret2
    exact ⟨by simp [hR.out], hb1⟩
  go_enter Try.func40, Try.ntmps40
  go_wp2_with (first | (go_at_call 62; refine (diff_any ao n cap l _ HN.out hr hs hm).mono ?_; rw [hok]; rintro e w1 ⟨rfl, hb1⟩; have hr1 := rd_below hr hb1) | (go_at_call 63; refine (smallWord_b _ _ hs2 hwd).mono ?_; rintro e w' ⟨rfl, rfl⟩))
  have hrd := rd_str hr1
  clear hr hr1
  go_loopw [6, 8, 18] (fun v _ i wr => ∃ k : Nat, k ≤ n ∧ i = .int .i64 k ∧ NoneUpTo (eqAt l s) k ∧ wr.ownsRow w1.heap.size 9 1 v (preL (l.take k) s).length (strs (preL (l.take k) s)) ∧ Below w1.heap.size w1 wr) (fun _ _ i _ => n - (intOf i).toNat)
  case atStart => exact ⟨0, Nat.zero_le _, rfl, none_zero _, by rw [preL_zero]; exact World.ownsRow_made _ _ 0 (Nat.le_refl _) (by unfold maxLen; omega) rfl, (Below.refl _ _).alloc (Nat.le_refl _) _⟩
  case round =>
    obtain ⟨k, hk, rfl, hN, hown, hB⟩ := hrel
    have hbz := hB.size
    have hB' := hb1.trans (hB.mono hb1.size)
    by_cases hlt : k < n
    · rcases hrd with hnil | ⟨b, o, rfl, hbl, hcell⟩
      · exact absurd (by rw [HN.out, hnil]; rfl : n = 0) (by omega)
      · have hkl : k < l.length := by rw [← HN.out]; exact hlt
        have g1 := (hB.cell (p := ⟨b, o + k, none⟩) hbl).trans (hcell k hkl)
        have hs1 := hs _ (List.getElem_mem hkl)
        have hk0 : (0 : Int) ≤ (k : Int) := by omega
        have hkn : (k : Int) < (n : Int) := by omega
        have hnx := hid (preL_next hkl s)
        have heq := hid (eqAt_get (s := s) hkl)
        have hle := preL_len l k s
        clear hcell
        obtain ⟨f, hf⟩ : ∃ f, f = preL (l.take k) s := ⟨_, rfl⟩
        rw [← hf] at hown hle hnx
        have Hf := hid hf
        clear hf
        obtain ⟨x, hx⟩ : ∃ x, x = l[k] := ⟨_, rfl⟩
        rw [← hx] at g1 hs1 hnx heq
        have Hx := hid hx
        clear hx
        cases he : (x.toList == s.toList)
        · cases hp : preB x s
          · go_wp2_with (go_at_call 64; refine (hasPre_b _ _ _ hs1 hs2 hp).mono ?_; rintro e w' ⟨rfl, rfl⟩)
            go_roundw
            case rel => exact ⟨k + 1, by omega, by go_num, none_next hN (by rw [heq.out, he]), by rw [hnx.out, hp]; simpa using hown, hB⟩
            case measure => simp [intOf]; omega
          · go_wp2_with (first | (go_at_call 64; refine (hasPre_b _ _ _ hs1 hs2 hp).mono ?_; rintro e w' ⟨rfl, rfl⟩) | (at_builtin; refine wpList_append_own _ rfl _ _ 50 rfl w1.heap.size 9 i0 (.string ByteArray.empty) 1 16 Try.underlying50 hi hz0 hz1 hz2 rfl (by decide) _ _ _ rfl (hown.alloc _) ⟨wr.heap.size, 0, none⟩ 1 1 [.string x] rfl rfl (one_new _ _ _) (one_okS _) (by unfold maxLen; omega) (by omega) (by simp; omega) ?_; intro v' w2 hown3 hgrow3 _))
            go_roundw
            case rel => exact ⟨k + 1, by omega, by go_num, none_next hN (by rw [heq.out, he]), by rw [hnx.out, hp, if_pos rfl, strs_snoc, List.length_append]; exact hown3, below_grown (hB.alloc (by omega) _) (by simp; omega) (hown.alloc _) hgrow3⟩
            case measure => simp [intOf]; omega
        · have hxs : x = s := ext_toList (by simpa using he)
          have hR := hid (wordFor_hit hok hwd hkl hN (by rw [heq.out, he]))
          have HXs := hid hxs
          clear hxs
          go_wp2_with fail
          go_ret2
          exact ⟨by simp [hR.out, HXs.out], hB'⟩
    · obtain rfl : k = n := by omega
      have hd := hid (show l.take k = l from List.take_of_length_le (by rw [HN.out]; exact Nat.le_refl _))
      have hR := hid (wordFor_none hok hwd (by rw [← HN.out]; exact hN))
      have hlen : (preL l s).length ≤ k := by rw [← hd.out]; exact preL_len l k s
      rw [hd.out] at hown
      rcases owns_form hown with ⟨rfl, hn0, _⟩ | ⟨g, c2, rfl, hBg, hgl, hnc, hcm⟩
      · have hp := hid (pick_zero hn0)
        go_wp2_with fail
        go_ret2
        exact ⟨by simp [hR.out, hp.out], hB'⟩
      · rcases (show (preL l s).length = 0 ∨ (preL l s).length = 1 ∨ 1 < (preL l s).length by omega) with h0 | h1 | h2
        · have hp := hid (pick_zero h0)
          rw [h0]
          go_wp2_with fail
          go_ret2
          exact ⟨by simp [hR.out, hp.out], hB'⟩
        · obtain ⟨y, hy⟩ := List.length_eq_one_iff.1 h1
          rw [hy] at hown
          have g0 : wr.cell? ⟨g, 0, none⟩ = some (.string y) := by rw [hown.cellAt 0 (by simp)]; rfl
          have hp := hid (show pickW (preL l s) = (y, 0) by rw [hy]; rfl)
          rw [h1]
          go_wp2_with fail
          go_ret2
          exact ⟨by simp [hR.out, hp.out], hB'⟩
        · have hp := hid (pick_many h2)
          obtain ⟨c, hc⟩ : ∃ c, c = (preL l s).length := ⟨_, rfl⟩
          rw [← hc] at h2 hlen
          rw [← hc]
          go_wp2_with fail
          go_ret2
          exact ⟨by simp [hR.out, hp.out], hB'⟩

set_option maxHeartbeats 2000000 in
theorem lawWordFor (w : World) (ao : Option Addr) (n cap : Nat) (l : List ByteArray) (ha : StArg w ao n cap l) (s : ByteArray) (hs2 : s.size ≤ maxLen) :
    Calls Try.prog 9 #[.slice ao n cap, .string s] w fun e w' => e = .returned (.bool true) ∧ Below w.heap.size w w' := by
  obtain ⟨hn, hm, hr, hs⟩ := ha
  have HN := hid hn
  clear hn
  have hs3 := hs2
  unfold maxLen at hs3
  by_cases hbig : (1048576 : Int) < (s.size : Int)
  · go_enter Try.func9, Try.ntmps9
    go_wp2_with fail
    go_ret
    exact ⟨rfl, Below.refl _ _⟩
  go_enter Try.func9, Try.ntmps9
  go_wp2_with fail
  refine (szStringS_any ao n cap l 1048576 _ (by omega) (by omega) HN.out hm hr hs).mono ?_
  rintro e w1 ⟨rfl, hb1⟩
  by_cases hz : szAllSt 1048576 n l < 0
  · go_wp2_with fail
    go_ret
    exact ⟨rfl, hb1⟩
  have h20 := szAllSt_len (by omega) hz
  have hr1 := rd_below hr hb1
  go_wp2_with fail
  refine (toStringS_any ao n cap l _ HN.out hr1 h20).mono ?_
  rintro e w2 ⟨bo, cap2, rfl, ho2, hb2⟩
  have hr2 := rd_below hr1 hb2
  go_wp2_with fail
  refine (sWordFor_any bo n cap2 l s _ HN.out (owns_rdN ho2) hs hs2 h20).mono ?_
  rintro e w3 ⟨rfl, hb3⟩
  have hr3 := rd_below hr2 hb3
  go_wp2_with fail
  refine (toStringS_any ao n cap l _ HN.out hr3 h20).mono ?_
  rintro e w4 ⟨co, cap4, rfl, ho4, hb4⟩
  have hr4 := rd_below hr3 hb4
  go_wp2_with fail
  refine (wordFor_any co n cap4 l s _ HN.out (owns_rdN ho4) hs hs2 h20).mono ?_
  rintro e w5 ⟨rfl, hb5⟩
  have hr5 := rd_below hr4 hb5
  have hx5 := rd_below (owns_rdN ho4) hb5
  go_wp2_with fail
  refine (toStringS_any ao n cap l _ HN.out hr5 h20).mono ?_
  rintro e w6 ⟨eo, cap6, rfl, ho6, hb6⟩
  go_wp2_with fail
  refine (eqStringS_any co eo l n cap4 cap6 _ HN.out (by omega) (rd_below hx5 hb6) (owns_rdN ho6)).mono ?_
  rintro e w7 ⟨rfl, hb7⟩
  go_wp2_with fail
  go_ret
  have z1 := hb1.size; have z2 := hb2.size; have z3 := hb3.size; have z4 := hb4.size; have z5 := hb5.size; have z6 := hb6.size
  refine ⟨rfl, ?_⟩
  (repeat (first | with_reducible exact Below.refl _ _ | with_reducible assumption | refine Below.drew ?_ | refine below_drewN ?_ _ | (refine Below.alloc ?_ (by first | omega | (simp; done) | (simp; omega)) _) | (refine Below.setCell ?_ (by first | omega | (simp; done) | (simp; omega)) _) | (refine Below.trans ?_ (Below.mono (by assumption) (by first | omega | (simp; done) | (simp; omega))))))
end Go.Proofs.Ytkkfnmlomjlckaa
