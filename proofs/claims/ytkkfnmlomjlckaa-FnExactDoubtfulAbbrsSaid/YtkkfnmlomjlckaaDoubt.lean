/-
  The abbreviations that are words, too: both walks.
-/
import Derived.Test.YtkkfnmlomjlckaaAddMath
import Derived.Test.YtkkfnmlomjlckaaAbD
import Derived.Test.YtkkfnmlomjlckaaMap
import Derived.Test.YtkkfnmlomjlckaaSl64
import Derived.Test.YtkkfnmlomjlckaaSlS
namespace Go.Proofs.Ytkkfnmlomjlckaa
open Go.RowKit Go.ChangeShapes Go.WideShapes Go.Maps
set_option linter.unusedVariables false
attribute [local go_sem ↓] Go.wp_at_zero Go.wp_at_succ

theorem i64s_snoc (xs : List Int) (y : Int) : i64s (xs ++ [y]) = i64s xs ++ [.int .i64 y] := by simp [i64s]
theorem Try.zeroBool (w : World) : (zeroValue 4).run Try.prog w = .ok (.bool false) w := by kernel_rfl
theorem one_newA (w : World) (o : Obj) (x : Value) (t : TypeId) : ∀ j u, [x][j]? = some u → ((w.alloc o).alloc (.cells #[x] t)).cell? ((⟨w.heap.size + 1, 0, none⟩ : Addr).add j) = some u := by
  have h := one_new (w.alloc o) x t
  have e : (w.alloc o).heap.size = w.heap.size + 1 := by simp
  rwa [e] at h
def longsOf (l : List Ab) : List ByteArray := l.map (·.2)
theorem longs_len (l : List Ab) : (longsOf l).length = l.length := by simp [longsOf]
theorem longs_next {l : List Ab} {k : Nat} (h : k < l.length) : (longsOf l).take (k + 1) = (longsOf l).take k ++ [l[k].2] := by
  have h2 : k < (longsOf l).length := by rw [longs_len]; exact h
  rw [List.take_succ_eq_append_getElem h2]
  simp [longsOf]
theorem longs_mark {l : List Ab} {k : Nat} (h : k < l.length) : markD ((longsOf l).take (k + 1)) = (markD ((longsOf l).take k)).put (.string l[k].2.data.toList) (.lit (.bool true)) := by
  rw [longs_next h, markD_snoc]
theorem longs_in {l : List Ab} {k : Nat} (h : k < l.length) (x : ByteArray) : isIn ((longsOf l).take (k + 1)) x = (isIn ((longsOf l).take k) x || (l[k].2.toList == x.toList)) := by
  rw [longs_next h, isIn_snoc]
theorem longs_all (l : List Ab) : (longsOf l).take l.length = longsOf l := List.take_of_length_le (by rw [longs_len]; exact Nat.le_refl _)
def dbtB (l : List Ab) (i : Nat) : Bool := if h : i < l.length then isIn (longsOf l) l[i].1 else false
theorem dbtB_get {l : List Ab} {i : Nat} (h : i < l.length) : dbtB l i = isIn (longsOf l) l[i].1 := by unfold dbtB; rw [dif_pos h]
def dbtUp (l : List Ab) : Nat → List Int
  | 0 => []
  | k + 1 => if dbtB l k = true then dbtUp l k ++ [(k : Int)] else dbtUp l k
theorem dbtUp_yes {l : List Ab} {k : Nat} (h : dbtB l k = true) : dbtUp l (k + 1) = dbtUp l k ++ [(k : Int)] := by rw [dbtUp, if_pos h]
theorem dbtUp_no {l : List Ab} {k : Nat} (h : dbtB l k = false) : dbtUp l (k + 1) = dbtUp l k := by rw [dbtUp, if_neg (by simp [h])]
theorem dbtUp_len (l : List Ab) (k : Nat) : (dbtUp l k).length ≤ k := by
  induction k with
  | zero => simp [dbtUp]
  | succ k ih =>
    rw [dbtUp]
    split
    · rw [List.length_append, List.length_singleton]; omega
    · omega
def dbtL (l : List Ab) : List Int := if okL l = true then dbtUp l l.length else []
def dbtC (l : List Ab) : Int := if okL l = true then 0 else 1
theorem dbt_bad {l : List Ab} (h : okL l = false) : dbtL l = [] ∧ dbtC l = 1 := by simp [dbtL, dbtC, h]
theorem dbt_ok {l : List Ab} (h : okL l = true) : dbtL l = dbtUp l l.length ∧ dbtC l = 0 := by simp [dbtL, dbtC, h]
theorem dbtL_len (l : List Ab) : (dbtL l).length ≤ 30 := by
  cases h : okL l
  · rw [(dbt_bad h).1]; simp
  · rw [(dbt_ok h).1]; have := dbtUp_len l l.length; have := okL_len h; omega

set_option maxRecDepth 100000 in
set_option maxHeartbeats 4000000 in
theorem doubt_any (ao : Option Addr) (n cap : Nat) (l : List Ab) (w : World) (hn : n = l.length) (hr : Rd w ao (abs l)) (hs : abSmall l) (hm : n ≤ 1048576) :
    Calls Try.prog 33 #[.slice ao n cap] w (RowRet w.heap.size 2 w (i64s (dbtL l)) (dbtC l)) := by
  obtain ⟨i0, hi, hz0, hz1, hz2⟩ := info_parts Try.infoInt64
  have HN := hid hn
  clear hn
  cases hok : okL l
  · have hR := hid (dbt_bad hok)
    go_enter Try.func33, Try.ntmps33
    go_wp2_with (go_at_call 24; refine (ok_any ao n cap l _ HN.out hr hs hm).mono ?_; rw [hok]; rintro e w1 ⟨rfl, hb1⟩)
    go_ret2
    rw [hR.out.1, hR.out.2]
    exact ⟨none, 0, by simp [i64s], World.ownsRow_nil _ _ _ _, hb1⟩
  have hR := hid (dbt_ok hok)
  have h30 := okL_len hok
  rw [← HN.out] at h30
  have hmm := @run_makeMap Try.prog
  go_enter Try.func33, Try.ntmps33
  go_wp2_with (go_at_call 24; refine (ok_any ao n cap l _ HN.out hr hs hm).mono ?_; rw [hok]; rintro e w1 ⟨rfl, hb1⟩; have hr1 := rd_below hr hb1)
  have hrd := rd_ab hr1
  have hz1' := hb1.size
  clear hr hr1
  go_loopw [6, 16] (fun _ i wr => ∃ k : Nat, k ≤ n ∧ i = .int .i64 k ∧ wr.ownsMap (H := Unit) Try.prog 9 (plainElem Try.prog 4) w1.heap.size k (markD ((longsOf l).take k)) ∧ Below w1.heap.size w1 wr) (fun _ i _ => n - (intOf i).toNat)
  case atStart => exact ⟨0, Nat.zero_le _, rfl, World.ownsMap_made _ _ _ _, (Below.refl _ _).alloc (Nat.le_refl _) _⟩
  case round =>
    obtain ⟨k, hk, rfl, hown, hB⟩ := hrel
    have hz := hB.size
    by_cases hlt : k < n
    · rcases hrd with hnil | ⟨b, o, rfl, hbl, hcell⟩
      · exact absurd (by rw [HN.out, hnil]; rfl : n = 0) (by omega)
      have hkl : k < l.length := by rw [← HN.out]; exact hlt
      obtain ⟨h1, h2⟩ := hcell k hkl
      obtain ⟨hs1, hs2⟩ := abSmall_get hs k hkl
      have g1 := (hB.cell (p := ⟨b, o + k * 2, none⟩) hbl).trans h1
      have g2 := (hB.cell (p := ⟨b, o + k * 2 + 1, none⟩) hbl).trans h2
      clear h1 h2 hcell
      have hk0 : (0 : Int) ≤ (k : Int) := by omega
      have hkn : (k : Int) < (n : Int) := by omega
      have hmk := hid (longs_mark hkl)
      obtain ⟨x, hx⟩ : ∃ x, x = l[k] := ⟨_, rfl⟩
      rw [← hx] at g1 g2 hs1 hs2 hmk
      clear hx
      have hkey : keyOf Try.prog 9 (.string x.2) = some (.string x.2.data.toList) := WideMaps.keyOf_string_mk Try.underlying9 hs2
      go_wp2_with (at_mapUpdate; refine wpList_mapUpdate_own _ rfl _ _ _ 70 rfl 9 4 (string_keyed Try.underlying9) Try.underlying70 _ w1.heap.size k _ rfl (hown.alloc _) (by unfold maxLen; omega) _ _ _ rfl rfl hkey _ [] (plainElem_bool Try.underlying4 true) ?_; intro w2 hown2 hgrow2)
      go_roundw
      case rel => exact ⟨k + 1, by omega, by go_num, by rw [hmk.out]; exact hown2, (hB.alloc hz _).grown hgrow2 (by simp; omega) (by intro k hk; simp at hk; omega)⟩
      case measure => simp [intOf]; omega
    · obtain rfl : k = n := by omega
      have hall := hid (show (longsOf l).take k = longsOf l by rw [HN.out]; exact longs_all l)
      rw [hall.out] at hown
      have hmz := hown.lt
      go_wp2_with fail
      obtain ⟨wm, hwm⟩ : ∃ wm, wm = wr := ⟨_, rfl⟩
      rw [← hwm] at hown hB hz hmz ⊢
      clear hwm
      go_loopw [7, 8, 9, 27] (fun v _ _ i wr => ∃ j : Nat, j ≤ k ∧ i = .int .i64 j ∧ wr.ownsRow wm.heap.size 2 1 v (dbtUp l j).length (i64s (dbtUp l j)) ∧ Below wm.heap.size wm wr) (fun _ _ _ i _ => k - (intOf i).toNat)
      case atStart => exact ⟨0, Nat.zero_le _, rfl, World.ownsRow_made _ _ 0 (Nat.le_refl _) (by unfold maxLen; omega) rfl, (Below.refl _ _).alloc (Nat.le_refl _) _⟩
      case round =>
        obtain ⟨j, hj, rfl, hrow, hB2⟩ := hrel
        have hzb := hB2.size
        by_cases hjk : j < k
        · rcases hrd with hnil | ⟨b, o, rfl, hbl, hcell⟩
          · exact absurd (by rw [HN.out, hnil]; rfl : k = 0) (by omega)
          have hjl : j < l.length := by rw [← HN.out]; exact hjk
          have hbm : b < wm.heap.size := by omega
          obtain ⟨h1, h2⟩ := hcell j hjl
          obtain ⟨hs1, hs2⟩ := abSmall_get hs j hjl
          have g1 := (hB2.cell (p := ⟨b, o + j * 2, none⟩) hbm).trans ((hB.cell (p := ⟨b, o + j * 2, none⟩) hbl).trans h1)
          have g2 := (hB2.cell (p := ⟨b, o + j * 2 + 1, none⟩) hbm).trans ((hB.cell (p := ⟨b, o + j * 2 + 1, none⟩) hbl).trans h2)
          clear h1 h2 hcell
          have hj0 : (0 : Int) ≤ (j : Int) := by omega
          have hjn : (j : Int) < (k : Int) := by omega
          have hup := dbtUp_len l j
          have hdb := hid (dbtB_get hjl)
          have hyes := hid (fun h => dbtUp_yes (l := l) (k := j) h)
          have hno := hid (fun h => dbtUp_no (l := l) (k := j) h)
          have hown2 : wr.ownsMap (H := Unit) Try.prog 9 (plainElem Try.prog 4) w1.heap.size k (markD (longsOf l)) := hown.kept (grown_of_below (row := none) hB2) (by simp)
          have hat := markD_at (longsOf l) l[j].1
          obtain ⟨x, hx⟩ : ∃ x, x = l[j] := ⟨_, rfl⟩
          rw [← hx] at g1 g2 hs1 hs2 hdb hat
          clear hx
          have hkey : keyOf Try.prog 9 (.string x.1) = some (.string x.1.data.toList) := WideMaps.keyOf_string_mk Try.underlying9 hs1
          obtain ⟨out, hout⟩ : ∃ out, out = dbtUp l j := ⟨_, rfl⟩
          rw [← hout] at hrow hup hyes hno
          clear hout
          cases hI : isIn (longsOf l) x.1
          · rw [hI] at hat
            have hn := hid (hno.out (by rw [hdb.out, hI]))
            go_wp2_with (at_lookup; refine wpList_lookup_own_bool _ rfl _ _ 70 rfl 9 4 (string_keyed Try.underlying9) Try.underlying70 Try.underlying4 (Try.zeroBool _) w1.heap.size k _ rfl (hown2.alloc _) _ _ rfl hkey _ hat ?_)
            go_roundw
            case rel => exact ⟨j + 1, by omega, by go_num, by rw [hn.out]; exact hrow.alloc _, hB2.alloc hzb _⟩
            case measure => simp [intOf]; omega
          · rw [hI] at hat
            have hy := hid (hyes.out (by rw [hdb.out, hI]))
            go_wp2_with (first | (at_lookup; refine wpList_lookup_own_bool _ rfl _ _ 70 rfl 9 4 (string_keyed Try.underlying9) Try.underlying70 Try.underlying4 (Try.zeroBool _) w1.heap.size k _ rfl (hown2.alloc _) _ _ rfl hkey _ hat ?_) | (at_builtin; refine wpList_append_own _ rfl _ _ 45 rfl wm.heap.size 2 i0 (.int .i64 0) 1 8 Try.underlying45 hi hz0 hz1 hz2 rfl (by decide) _ _ _ rfl ((hrow.alloc _).alloc _) ⟨wr.heap.size + 1, 0, none⟩ 1 1 [.int .i64 (j : Int)] rfl rfl (one_newA _ _ _ _) (one_ok _ _) (by unfold maxLen; omega) (by omega) (by simp; omega) ?_; intro v' w2 hown3 hgrow3 _))
            go_roundw
            case rel => exact ⟨j + 1, by omega, by go_num, by rw [hy.out, i64s_snoc, List.length_append]; exact hown3, below_grown ((hB2.alloc hzb _).alloc (by simp; omega) _) (by simp; omega) ((hrow.alloc _).alloc _) hgrow3⟩
            case measure => simp [intOf]; omega
        · obtain rfl : j = k := by omega
          go_wp2
          go_ret2
          rw [hR.out.1, hR.out.2, ← HN.out]
          exact rowRet_mk (owns_mono hrow (by omega)) ((hb1.trans (hB.mono hz1')).trans (hB2.mono (by omega)))

set_option maxRecDepth 100000 in
set_option maxHeartbeats 4000000 in
theorem sDoubt_any (ao : Option Addr) (n cap : Nat) (l : List Ab) (w : World) (hn : n = l.length) (hr : Rd w ao (abs l)) (hs : abSmall l) (hm : n ≤ 1048576) :
    Calls Try.prog 32 #[.slice ao n cap] w (RowRet w.heap.size 2 w (i64s (dbtL l)) (dbtC l)) := by
  obtain ⟨i0, hi, hz0, hz1, hz2⟩ := info_parts Try.infoInt64
  have HN := hid hn
  clear hn
  cases hok : okL l
  · have hR := hid (dbt_bad hok)
    go_enter Try.func32, Try.ntmps32
    go_wp2_with (go_at_call 55; refine (sOk_any ao n cap l _ HN.out hr hs hm).mono ?_; rw [hok]; rintro e w1 ⟨rfl, hb1⟩)
    go_ret2
    rw [hR.out.1, hR.out.2]
    exact ⟨none, 0, by simp [i64s], World.ownsRow_nil _ _ _ _, hb1⟩
  have hR := hid (dbt_ok hok)
  have h30 := okL_len hok
  rw [← HN.out] at h30
  go_enter Try.func32, Try.ntmps32
  go_wp2_with (go_at_call 55; refine (sOk_any ao n cap l _ HN.out hr hs hm).mono ?_; rw [hok]; rintro e w1 ⟨rfl, hb1⟩; have hr1 := rd_below hr hb1)
  have hrd := rd_ab hr1
  have hz1' := hb1.size
  clear hr hr1
  go_loopw [4, 5] (fun v i wr => ∃ k : Nat, k ≤ n ∧ i = .int .i64 k ∧ wr.ownsRow w1.heap.size 2 1 v (dbtUp l k).length (i64s (dbtUp l k)) ∧ Below w1.heap.size w1 wr) (fun _ i _ => n - (intOf i).toNat)
  case atStart => exact ⟨0, Nat.zero_le _, rfl, World.ownsRow_made _ _ 0 (Nat.le_refl _) (by unfold maxLen; omega) rfl, (Below.refl _ _).alloc (Nat.le_refl _) _⟩
  case round =>
    obtain ⟨k, hk, rfl, hrow, hB⟩ := hrel
    have hz := hB.size
    by_cases hlt : k < n
    · rcases hrd with hnil | ⟨b, o, rfl, hbl, hcell⟩
      · exact absurd (by rw [HN.out, hnil]; rfl : n = 0) (by omega)
      have hkl : k < l.length := by rw [← HN.out]; exact hlt
      obtain ⟨s0, _⟩ := hcell k hkl
      have hk0 : (0 : Int) ≤ (k : Int) := by omega
      have hkn : (k : Int) < (n : Int) := by omega
      have hup := dbtUp_len l k
      have hdb := hid (dbtB_get hkl)
      have hyes := hid (fun h => dbtUp_yes (l := l) (k := k) h)
      have hno := hid (fun h => dbtUp_no (l := l) (k := k) h)
      obtain ⟨s, hsx⟩ : ∃ s, s = l[k].1 := ⟨_, rfl⟩
      rw [← hsx] at s0 hdb
      clear hsx
      have S0 := hid s0
      clear s0
      obtain ⟨out, hout⟩ : ∃ out, out = dbtUp l k := ⟨_, rfl⟩
      rw [← hout] at hrow hup hyes hno
      clear hout
      go_wp2_with fail
      go_loopw [6, 7] (fun f i wr2 => ∃ j : Nat, j ≤ n ∧ i = .int .i64 j ∧ f = .bool (isIn ((longsOf l).take j) s) ∧ wr2.ownsRow w1.heap.size 2 1 u4 out.length (i64s out) ∧ Below w1.heap.size w1 wr2) (fun _ i _ => n - (intOf i).toNat)
      case atStart => exact ⟨0, Nat.zero_le _, rfl, by simp [isIn], hrow, hB⟩
      case round =>
        clear hrow hB hz
        obtain ⟨j, hj, rfl, rfl, hrow, hB⟩ := hrel
        have hz := hB.size
        have hB' := hb1.trans (hB.mono hz1')
        by_cases hjn : j < n
        · have hjl : j < l.length := by rw [← HN.out]; exact hjn
          obtain ⟨_, f2⟩ := hcell j hjl
          have g1 := (hB.cell (p := ⟨b, o + k * 2, none⟩) hbl).trans S0.out
          have g2 := (hB.cell (p := ⟨b, o + j * 2 + 1, none⟩) hbl).trans f2
          have hj0 : (0 : Int) ≤ (j : Int) := by omega
          have hjn1 : (j : Int) < (n : Int) := by omega
          have hin := hid (longs_in hjl s)
          obtain ⟨y, hy⟩ : ∃ y, y = l[j].2 := ⟨_, rfl⟩
          rw [← hy] at f2 g2 hin
          clear hy f2 hcell
          cases hf : isIn ((longsOf l).take j) s
          · cases he : (y.toList == s.toList)
            all_goals
              have hne := hid (hin.out.trans (by rw [hf, he]))
              go_wp2_with fail
              go_quiet (fail)
              go_wp2
              go_roundw
              case rel => exact ⟨j + 1, by omega, by go_num, by simp [hne.out], owns_drewN hrow _, below_drewN hB _⟩
              case measure => simp [intOf]; omega
          · have hne := hid (show isIn ((longsOf l).take (j + 1)) s = true by rw [hin.out, hf]; rfl)
            go_wp2_with fail
            go_quiet (fail)
            go_wp2
            go_roundw
            case rel => exact ⟨j + 1, by omega, by go_num, by simp [hne.out], owns_drewN hrow _, below_drewN hB _⟩
            case measure => simp [intOf]; omega
        · obtain rfl : j = n := by omega
          have hall := hid (show (longsOf l).take j = longsOf l by rw [HN.out]; exact longs_all l)
          rw [hall.out]
          cases hI : isIn (longsOf l) s
          · have hn := hid (hno.out (by rw [hdb.out, hI]))
            go_wp2_with fail
            go_roundw
            case rel => exact ⟨k + 1, by omega, by go_num, by rw [hn.out]; exact hrow, hB⟩
            case measure => simp [intOf]; omega
          · have hy := hid (hyes.out (by rw [hdb.out, hI]))
            go_wp2_with (at_builtin; refine wpList_append_own _ rfl _ _ 45 rfl w1.heap.size 2 i0 (.int .i64 0) 1 8 Try.underlying45 hi hz0 hz1 hz2 rfl (by decide) _ _ _ rfl (hrow.alloc _) ⟨wr.heap.size, 0, none⟩ 1 1 [.int .i64 (k : Int)] rfl rfl (one_new _ _ _) (one_ok _ _) (by unfold maxLen; omega) (by omega) (by simp; omega) ?_; intro v' w2 hown3 hgrow3 _)
            go_roundw
            case rel => exact ⟨k + 1, by omega, by go_num, by rw [hy.out, i64s_snoc, List.length_append]; exact hown3, below_grown (hB.alloc hz _) (by simp; omega) (hrow.alloc _) hgrow3⟩
            case measure => simp [intOf]; omega
    · obtain rfl : k = n := by omega
      go_wp2
      go_ret2
      rw [hR.out.1, hR.out.2, ← HN.out]
      exact rowRet_mk (owns_mono hrow hz1') (hb1.trans (hB.mono hz1'))
end Go.Proofs.Ytkkfnmlomjlckaa
