/-
  Walks: is a code free of words that begin with another one? And its law.
-/
import Derived.Test.YtojbblbjobbcaaaCodeC
namespace Go.Proofs.Ytojbblbjobbcaaa
open Go.RowKit Go.ChangeShapes Go.WideShapes Go.Maps
set_option linter.unusedVariables false
attribute [local go_sem ↓] Go.wp_at_zero Go.wp_at_succ

theorem codeOk_len {l : List ByteArray} (h : codeOk l = true) : l.length ≤ 10 := by
  unfold codeOk at h
  simp only [Bool.and_eq_true, decide_eq_true_eq] at h
  exact h.2
theorem restsIn_nil {l : List ByteArray} {i : Nat} : ∀ {k : Nat}, (∀ j, j < k → hitB l i j = false) → restsIn l i k = []
  | 0, _ => rfl
  | k + 1, h => by rw [restsIn_no (h k (by omega)), restsIn_nil (fun j hj => h j (by omega))]
theorem restsAll_nil {l : List ByteArray} : ∀ {i : Nat}, (∀ a, a < i → ∀ k, k < l.length → hitB l a k = false) → restsAll l i = []
  | 0, _ => rfl
  | i + 1, h => by rw [restsAll, restsAll_nil (fun a ha => h a (by omega)), restsIn_nil (h i (by omega))]; rfl
theorem restsIn_ne {l : List ByteArray} {i j : Nat} (hh : hitB l i j = true) : ∀ {k : Nat}, j < k → 0 < (restsIn l i k).length
  | k + 1, h => by
    by_cases e : j = k
    · rw [← e, restsIn_hit hh]; simp
    · have := restsIn_ne hh (k := k) (by omega)
      rw [restsIn]; split
      · rw [List.length_append]; omega
      · exact this
theorem restsAll_ne {l : List ByteArray} {a j : Nat} (hj : j < l.length) (hh : hitB l a j = true) : ∀ {i : Nat}, a < i → 0 < (restsAll l i).length
  | i + 1, h => by
    rw [restsAll, List.length_append]
    by_cases e : a = i
    · have := restsIn_ne hh hj
      rw [← e]; omega
    · have := restsAll_ne hj hh (i := i) (by omega)
      omega
def freeB (l : List ByteArray) : Bool := decide ((rests l).length = 0)
/-- does word i begin with another one? -/
def rowB (l : List ByteArray) (i : Nat) : Bool := (List.range l.length).any (fun k => hitB l k i)
theorem rowB_none {l : List ByteArray} {i : Nat} (h : NoneUpTo (fun k => hitB l k i) l.length) : rowB l i = false := by
  unfold rowB
  rw [List.any_eq_false]
  intro k hk
  simp only [List.mem_range] at hk
  simp [h k hk]
theorem free_all {l : List ByteArray} (h : NoneUpTo (rowB l) l.length) : freeB l = true := by
  unfold freeB rests
  rw [restsAll_nil (fun a ha k hk => ?_)]
  · rfl
  have := h k hk
  unfold rowB at this
  rw [List.any_eq_false] at this
  simpa using this a (by simpa using ha)
theorem free_hit {l : List ByteArray} {i k : Nat} (hi : i < l.length) (hk : k < l.length) (h : hitB l k i = true) : freeB l = false := by
  unfold freeB rests
  have := restsAll_ne hi h hk
  simp; intro e; rw [e] at this; simp at this
def freeR (l : List ByteArray) : Bool × Int := if codeOk l = true then (freeB l, 0) else (false, 1)
theorem freeR_bad {l : List ByteArray} (h : codeOk l = false) : freeR l = (false, 1) := by simp [freeR, h]
theorem freeR_ok {l : List ByteArray} (h : codeOk l = true) : freeR l = (freeB l, 0) := by simp [freeR, h]

set_option maxHeartbeats 2000000 in
theorem free_any (ao : Option Addr) (n cap : Nat) (l : List ByteArray) (w : World) (hn : n = l.length) (hr : Rd w ao (strs l)) (hs : ∀ x ∈ l, x.size ≤ maxLen) (hm : n ≤ 1048576) :
    Calls Try.prog 18 #[.slice ao n cap] w fun e w' => e = .returned (.tuple #[.bool (freeR l).1, .int .i64 (freeR l).2]) ∧ Below w.heap.size w w' := by
  have HN := hid hn
  clear hn
  cases hok : codeOk l
  · have hR := hid (freeR_bad hok)
    go_enter Try.func18, Try.ntmps18
    go_wp2_with (go_at_call 15; refine (code_any ao n cap l _ HN.out hr hs hm).mono ?_; rw [hok]; rintro e w1 ⟨rfl, hb1⟩)
    go_ret2
    exact ⟨by simp [hR.out], hb1⟩
  · have hR := hid (freeR_ok hok)
    have h10 := codeOk_len hok
    go_enter Try.func18, Try.ntmps18
    go_wp2_with (go_at_call 15; refine (code_any ao n cap l _ HN.out hr hs hm).mono ?_; rw [hok]; rintro e w1 ⟨rfl, hb1⟩)
    refine (firstRests_any ao n cap l _ HN.out (rd_below hr hb1) hs (by rw [HN.out]; omega)).mono ?_
    rintro e w2 ⟨bo, cap2, rfl, ho2, hb2⟩
    have hf := hid (show freeB l = ((rests l).length == 0) by unfold freeB; rw [Bool.eq_iff_iff]; simp)
    obtain ⟨c, hc⟩ : ∃ c, c = (rests l).length := ⟨_, rfl⟩
    rw [← hc] at hf ho2
    rw [← hc]
    clear hc
    by_cases h0 : c = 0
    · subst h0
      go_wp2_with fail
      go_ret2
      exact ⟨by simp [hR.out, hf.out], hb1.trans (hb2.mono hb1.size)⟩
    · have h1 : ((c : Int) == 0) = false := by simp; omega
      go_wp2_with fail
      go_ret2
      exact ⟨by simp [hR.out, hf.out, h0], hb1.trans (hb2.mono hb1.size)⟩

set_option maxHeartbeats 4000000 in
theorem sFree_any (ao : Option Addr) (n cap : Nat) (l : List ByteArray) (w : World) (hn : n = l.length) (hr : Rd w ao (strs l)) (hs : ∀ x ∈ l, x.size ≤ maxLen) (hm : n ≤ 1048576) (hcap : n ≤ cap) (hcm : cap ≤ maxLen) :
    Calls Try.prog 17 #[.slice ao n cap] w fun e w' => e = .returned (.tuple #[.bool (freeR l).1, .int .i64 (freeR l).2]) ∧ Below w.heap.size w w' := by
  have HN := hid hn
  clear hn
  cases hok : codeOk l
  · have hR := hid (freeR_bad hok)
    go_enter Try.func17, Try.ntmps17
    go_wp2_with (go_at_call 38; refine (sCode_any ao n cap l _ HN.out hr hs hm hcap hcm).mono ?_; rw [hok]; rintro e w1 ⟨rfl, hb1⟩)
    go_ret2
    exact ⟨by simp [hR.out], hb1⟩
  have hR := hid (freeR_ok hok)
  go_enter Try.func17, Try.ntmps17
  go_wp2_with (go_at_call 38; refine (sCode_any ao n cap l _ HN.out hr hs hm hcap hcm).mono ?_; rw [hok]; rintro e w1 ⟨rfl, hb1⟩; have hr1 := rd_below hr hb1)
  have hrd := rd_str hr1
  clear hr hr1
  go_loopw [4] (fun i wr => ∃ k : Nat, k ≤ n ∧ i = .int .i64 k ∧ NoneUpTo (rowB l) k ∧ Below w1.heap.size w1 wr) (fun i _ => n - (intOf i).toNat)
  case atStart => exact ⟨0, Nat.zero_le _, rfl, none_zero _, Below.refl _ _⟩
  case round =>
    obtain ⟨k, hk, rfl, hN, hB⟩ := hrel
    have hB' := hb1.trans (hB.mono hb1.size)
    by_cases hlt : k < n
    · rcases hrd with hnil | ⟨b, o, rfl, hbl, hcell⟩
      · exact absurd (by rw [HN.out, hnil]; rfl : n = 0) (by omega)
      · have hkl : k < l.length := by rw [← HN.out]; exact hlt
        have hs1 := hs _ (List.getElem_mem hkl)
        have hk0 : (0 : Int) ≤ (k : Int) := by omega
        have hkn : (k : Int) < (n : Int) := by omega
        obtain ⟨x, hx⟩ : ∃ x, x = l[k] := ⟨_, rfl⟩
        rw [← hx] at hs1
        have Hx := hid hx
        clear hx
        go_wp2_with fail
        go_loopw [5] (fun i wr2 => ∃ j : Nat, j ≤ n ∧ i = .int .i64 j ∧ NoneUpTo (fun j => hitB l j k) j ∧ Below w1.heap.size w1 wr2) (fun i _ => n - (intOf i).toNat)
        case atStart => exact ⟨0, Nat.zero_le _, rfl, none_zero _, hB⟩
        case round =>
          obtain ⟨j, hj, rfl, hN2, hB2⟩ := hrel
          have hB2' := hb1.trans (hB2.mono hb1.size)
          by_cases hjn : j < n
          · have hjl : j < l.length := by rw [← HN.out]; exact hjn
            have g1 := (cell_here hB2 hbl hcell k hkl).trans (by rw [← Hx.out])
            have g2 := cell_here hB2 hbl hcell j hjl
            have hs2 := hs _ (List.getElem_mem hjl)
            have hbw := Nat.lt_of_lt_of_le hbl hB2.size
            have hj0 : (0 : Int) ≤ (j : Int) := by omega
            have hjn1 : (j : Int) < (n : Int) := by omega
            have hg := hid (hitB_get hjl hkl)
            have hfh := hid (fun h => free_hit hkl hjl h)
            obtain ⟨y, hy⟩ : ∃ y, y = l[j] := ⟨_, rfl⟩
            rw [← hy] at g2 hs2 hg
            rw [← Hx.out] at hg
            clear hy
            by_cases hkj : k = j
            · have hh := hid (show hitB l j k = false by rw [hg.out]; simp [hkj])
              have hc : ((k : Int) != (j : Int)) = false := by simp; omega
              clear hkj
              go_wp2_with fail
              refine wp_region_over (by kernel_rfl) (by kernel_rfl) (fun hov => ?_)
              repeat (go_big_quiet_step ((fail)))
              refine wpQuiet_nil ?_
              intro w5 hb5
              clear hov
              go_wp2
              go_roundw
              case rel => exact ⟨j + 1, by omega, by go_num, none_next hN2 hh.out, hB2.trans (hb5.mono hB2.size)⟩
              case measure => simp [intOf]; omega
            · have hc : ((k : Int) != (j : Int)) = true := by simp; omega
              cases hp : preB x y
              · have hh := hid (show hitB l j k = false by rw [hg.out, hp]; simp)
                clear hkj
                go_wp2_with fail
                refine wp_region_over (by kernel_rfl) (by kernel_rfl) (fun hov => ?_)
                repeat (go_big_quiet_step (((go_at_call 40; with_reducible exact overSame (begins_b _ _ _ hs1 hs2 hp)))))
                refine wpQuiet_nil ?_
                intro w5 hb5
                clear hov
                go_wp2
                go_roundw
                case rel => exact ⟨j + 1, by omega, by go_num, none_next hN2 hh.out, hB2.trans (hb5.mono hB2.size)⟩
                case measure => simp [intOf]; omega
              · have hh := hid (show hitB l j k = true by rw [hg.out, hp]; simp; omega)
                clear hkj
                go_wp2_with fail
                refine wp_region_over (by kernel_rfl) (by kernel_rfl) (fun hov => ?_)
                repeat (go_big_quiet_step (((go_at_call 40; with_reducible exact overSame (begins_b _ _ _ hs1 hs2 hp)))))
                refine wpQuiet_nil ?_
                intro w5 hb5
                clear hov
                go_wp2
                go_ret2
                exact ⟨by simp [hR.out, hfh.out hh.out], hB2'.trans (hb5.mono hB2'.size)⟩
          · obtain rfl : j = n := by omega
            go_wp2
            go_roundw
            case rel => exact ⟨k + 1, by omega, by go_num, none_next hN (rowB_none (by rw [← HN.out]; exact hN2)), hB2⟩
            case measure => simp [intOf]; omega
    · obtain rfl : k = n := by omega
      have hf := hid (free_all (l := l) (by rw [← HN.out]; exact hN))
      go_wp2
      go_ret2
      exact ⟨by simp [hR.out, hf.out], hB'⟩

set_option maxHeartbeats 2000000 in
theorem lawIsPrefixFree (w : World) (ao : Option Addr) (n cap : Nat) (l : List ByteArray) (ha : StArg w ao n cap l) :
    Calls Try.prog 4 #[.slice ao n cap] w fun e w' => e = .returned (.bool true) ∧ Below w.heap.size w w' := by
  obtain ⟨hn, hm, hr, hs⟩ := ha
  have HN := hid hn
  clear hn
  go_enter Try.func4, Try.ntmps4
  go_wp2_with fail
  refine (szStringS_any ao n cap l 1048576 _ (by omega) (by omega) HN.out hm hr hs).mono ?_
  rintro e w1 ⟨rfl, hb1⟩
  by_cases hz : szAllSt 1048576 n l < 0
  · go_wp2_with fail
    go_ret
    exact ⟨rfl, hb1⟩
  have h20 := szAllSt_len (by omega) hz
  have hr1 := rd_below hr hb1
  go_wp2_with fail
  refine (toStringS_any ao n cap l _ HN.out hr1 h20).mono ?_
  rintro e w2 ⟨bo, cap2, rfl, ho2, hb2⟩
  have hr2 := rd_below hr1 hb2
  go_wp2_with fail
  refine (sFree_any bo n cap2 l _ HN.out (owns_rdN ho2) hs h20 (owns_cap ho2).1 (owns_cap ho2).2).mono ?_
  rintro e w3 ⟨rfl, hb3⟩
  have hr3 := rd_below hr2 hb3
  go_wp2_with fail
  refine (toStringS_any ao n cap l _ HN.out hr3 h20).mono ?_
  rintro e w4 ⟨co, cap4, rfl, ho4, hb4⟩
  have hr4 := rd_below hr3 hb4
  go_wp2_with fail
  refine (free_any co n cap4 l _ HN.out (owns_rdN ho4) hs h20).mono ?_
  rintro e w5 ⟨rfl, hb5⟩
  have hr5 := rd_below hr4 hb5
  have hx5 := rd_below (owns_rdN ho4) hb5
  go_wp2_with fail
  refine (toStringS_any ao n cap l _ HN.out hr5 h20).mono ?_
  rintro e w6 ⟨eo, cap6, rfl, ho6, hb6⟩
  go_wp2_with fail
  refine (eqStringS_any co eo l n cap4 cap6 _ HN.out (by omega) (rd_below hx5 hb6) (owns_rdN ho6)).mono ?_
  rintro e w7 ⟨rfl, hb7⟩
  go_wp2_with fail
  go_ret
  have z1 := hb1.size; have z2 := hb2.size; have z3 := hb3.size; have z4 := hb4.size; have z5 := hb5.size; have z6 := hb6.size
  refine ⟨rfl, ?_⟩
  (repeat (first | with_reducible exact Below.refl _ _ | with_reducible assumption | refine Below.drew ?_ | refine below_drewN ?_ _ | (refine Below.alloc ?_ (by first | omega | (simp; done) | (simp; omega)) _) | (refine Below.setCell ?_ (by first | omega | (simp; done) | (simp; omega)) _) | (refine Below.trans ?_ (Below.mono (by assumption) (by first | omega | (simp; done) | (simp; omega))))))
end Go.Proofs.Ytojbblbjobbcaaa
