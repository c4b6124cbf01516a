/-
  The rows of indices: the walks of the program's first and next row.
-/
import Derived.Test.YthhpeanlpikjbaaFlMath
import Derived.Test.YthhpeanlpikjbaaMem2
import Derived.Test.YthhpeanlpikjbaaAppend
import Derived.Test.YthhpeanlpikjbaaFind
import Derived.OwnWalk
namespace Go.Proofs.Ythhpeanlpikjbaa
open Go.RowKit Go.ChangeShapes Go.WideShapes Go.Maps
set_option linter.unusedVariables false
attribute [local go_sem ↓] Go.wp_at_zero Go.wp_at_succ

theorem Try.infoIntF : (Try.prog.info? 3).map (fun i => (i.zero, i.size, i.bytes)) = some (some (.int .i64 0), 1, 8) := by kernel_rfl
def nums (L : List Nat) : List Value := L.map fun x : Nat => Value.int .i64 (x : Int)
theorem nums_len (L : List Nat) : (nums L).length = L.length := by simp [nums]
theorem nums_snoc (L : List Nat) (k : Nat) : nums L ++ [.int .i64 (k : Int)] = nums (L ++ [k]) := by simp [nums]
theorem nums_set (L : List Nat) (j x : Nat) : (nums L).set j (.int .i64 (x : Int)) = nums (L.set j x) := by simp [nums]
theorem nums_get (L : List Nat) (j : Nat) (h : j < L.length) : (nums L)[j]? = some (.int .i64 (L[j] : Int)) := by simp [nums, h]
theorem nums_cell {w : World} {B g m c : Nat} {L : List Nat} (h : w.ownsRow B 3 1 (.slice (some ⟨g, 0, none⟩) m c) m (nums L)) (hm : m = L.length) {j : Nat} (hj : j < L.length) : w.cell? ⟨g, j, none⟩ = some (.int .i64 (L[j] : Int)) := by
  rw [h.cellAt j (by omega), nums_get L j hj]
theorem firstC_snoc (k f : Nat) : firstC (k + 1) f = firstC k f ++ [k + f] := by
  unfold firstC; rw [List.range_succ, List.map_append]; rfl
theorem litInt (w : World) : (w.alloc (.cells #[] 3)).ownsRow w.heap.size 3 1 (.slice (some ⟨w.heap.size, 0, none⟩) 0 0) 0 [] := by
  have h := World.ownsRow_made (e := 3) (size := 1) (base := w.heap.size) w #[] 0 (Nat.le_refl _) (by unfold maxLen; omega) rfl
  simpa using h
theorem one_newI (w : World) (x : Value) (t : TypeId) : ∀ j u, [x][j]? = some u → (w.alloc (.cells #[x] t)).cell? ((⟨w.heap.size, 0, none⟩ : Addr).add j) = some u := by
  intro j u hj
  match j, hj with
  | 0, hj => simpa [Addr.add] using hj
theorem one_okI (x : Int) : ∀ u ∈ [Value.int .i64 x], u.oneCell' = true := by
  intro u hu; rcases List.mem_cons.1 hu with rfl | hu
  · rfl
  · cases hu

set_option maxRecDepth 100000 in
set_option maxHeartbeats 4000000 in
theorem firstC_any (m : Nat) (hm : m ≤ 1000) (w : World) :
    Calls Try.prog 77 #[.int .i64 (m : Int)] w fun e w' => ∃ g c, e = .returned (.slice (some ⟨g, 0, none⟩) m c) ∧ w'.ownsRow w.heap.size 3 1 (.slice (some ⟨g, 0, none⟩) m c) m (nums (firstC m 0)) ∧ Below w.heap.size w w' := by
  obtain ⟨i0, hi, iz0, iz1, iz2⟩ := info_parts Try.infoIntF
  have hlit := litInt w
  have hB0 : Below w.heap.size w (w.alloc (.cells #[] 3)) := (Below.refl _ _).alloc (Nat.le_refl _) _
  go_enter Try.func77, Try.ntmps77
  go_wp2_with fail
  go_loopw [3, 4, 7] (fun v _ i wr => ∃ (k g c : Nat), k ≤ m ∧ i = .int .i64 k ∧ v = .slice (some ⟨g, 0, none⟩) k c ∧ wr.ownsRow w.heap.size 3 1 (.slice (some ⟨g, 0, none⟩) k c) k (nums (firstC k 0)) ∧ Below w.heap.size w wr) (fun _ _ i _ => m - (intOf i).toNat)
  case atStart => exact ⟨0, _, _, Nat.zero_le _, rfl, rfl, hlit, hB0⟩
  case round =>
    clear hlit hB0
    obtain ⟨k, g, c, hk, rfl, rfl, hown, hB⟩ := hrel
    by_cases hlt : k < m
    · have hkm : (k : Int) < (m : Int) := by omega
      have hzz := hB.size
      have hnx := hid (firstC_snoc k 0)
      obtain ⟨X, hX⟩ : ∃ X, X = nums (firstC k 0) := ⟨_, rfl⟩
      rw [← hX] at hown
      have HX := hid hX
      clear hX
      go_wp2_with (at_builtin; refine wpList_append_own _ rfl _ _ 105 rfl w.heap.size 3 i0 (.int .i64 0) 1 8 Try.underlying105 hi iz0 iz1 iz2 rfl (by decide) (.slice (some ⟨g, 0, none⟩) k c) _ _ rfl (hown.alloc _) ⟨wr.heap.size, 0, none⟩ 1 1 [.int .i64 (k : Int)] rfl rfl (one_newI _ _ _) (one_okI _) (by unfold maxLen; omega) (by omega) (by simp; omega) ?_; intro v7 w7 hown7 hgrow7 _; rcases owns_form hown7 with ⟨_, h00, _⟩ | ⟨g7, c7, rfl, _⟩; (exfalso; omega))
      have hB7 := below_grown (hB.alloc hzz _) (by simp; omega) (hown.alloc _) hgrow7
      rw [HX.out, nums_snoc] at hown7
      go_roundw
      case rel => exact ⟨k + 1, g7, c7, by omega, by go_num, rfl, by rw [hnx.out]; exact hown7, hB7⟩
      case measure => simp [intOf]; omega
    · obtain rfl : k = m := by omega
      go_wp2_with fail
      go_ret
      exact ⟨g, c, rfl, hown, hB⟩

def midC (xs : List Nat) (j x t : Nat) : List Nat := xs.take j ++ firstC (t - j) (x + 1) ++ xs.drop t
theorem midC_len {xs : List Nat} {j t : Nat} (x : Nat) (h1 : j ≤ t) (h2 : t ≤ xs.length) : (midC xs j x t).length = xs.length := by
  simp only [midC, List.length_append, List.length_take, List.length_drop, firstC_len]; omega
theorem midC_first {xs : List Nat} {j : Nat} (x : Nat) (h : j < xs.length) : xs.set j (x + 1) = midC xs j x (j + 1) := by
  unfold midC
  rw [show j + 1 - j = 1 by omega, List.set_eq_take_append_cons_drop, if_pos h]
  simp [firstC]
theorem midC_head {xs : List Nat} {j t : Nat} (h1 : j ≤ t) (h2 : t ≤ xs.length) (x : Nat) : (xs.take j ++ firstC (t - j) (x + 1)).length = t := by
  simp only [List.length_append, List.length_take, firstC_len]; omega
theorem midC_get {xs : List Nat} {j t : Nat} (x : Nat) (h1 : j < t) (h2 : t ≤ xs.length) (h : t - 1 < (midC xs j x t).length) : (midC xs j x t)[t - 1] = x + (t - j) := by
  have hl := midC_head (xs := xs) (Nat.le_of_lt h1) h2 x
  have e : (midC xs j x t)[t - 1]? = some (x + (t - j)) := by
    unfold midC
    rw [List.getElem?_append_left (by omega), List.getElem?_append_right (by rw [List.length_take]; omega)]
    rw [List.getElem?_eq_getElem (by rw [firstC_len, List.length_take]; omega)]
    simp only [firstC, List.getElem_map, List.getElem_range, List.length_take, Option.some.injEq]
    omega
  exact (List.getElem?_eq_some_iff.1 e).2
theorem midC_step {xs : List Nat} {j t : Nat} (x : Nat) (h1 : j < t) (h2 : t < xs.length) : (midC xs j x t).set t (x + (t - j) + 1) = midC xs j x (t + 1) := by
  have hl := midC_head (xs := xs) (Nat.le_of_lt h1) (Nat.le_of_lt h2) x
  unfold midC
  rw [List.set_append_right _ _ (by omega), hl, Nat.sub_self, List.drop_eq_getElem_cons h2, List.set_cons_zero, show t + 1 - j = (t - j) + 1 by omega, firstC_snoc]
  rw [show t - j + (x + 1) = x + (t - j) + 1 by omega]
  simp
/-- what the step leaves of a row -/
def stepC (N : Nat) (xs : List Nat) : List Nat := (nextR N xs).getD xs
set_option maxRecDepth 100000 in
set_option maxHeartbeats 4000000 in
theorem nextC_any (B g m c N : Nat) (xs : List Nat) (w : World) (hm : m = xs.length) (hN : N ≤ 1000) (hmN : m ≤ N) (hxs : ∀ x ∈ xs, x < N) (hown : w.ownsRow B 3 1 (.slice (some ⟨g, 0, none⟩) m c) m (nums xs)) :
    Calls Try.prog 78 #[.slice (some ⟨g, 0, none⟩) m c, .int .i64 (N : Int)] w fun e w' => e = .returned (.bool (nextR N xs).isSome) ∧ w'.ownsRow B 3 1 (.slice (some ⟨g, 0, none⟩) m c) m (nums (stepC N xs)) ∧ w.grownBy w' (some g) := by
  have HM := hid hm
  have HOWN := hid hown
  have HXS := hid hxs
  have hnone := hid (fun h => next_none (N := N) (c := xs) h)
  have hhit := hid (fun i hi h1 h2 => next_hit (N := N) (c := xs) (i := i) hi h1 h2)
  have hgl := (hown.lt g rfl).2
  clear hm hown hxs
  go_enter Try.func78, Try.ntmps78
  go_wp2_with fail
  go_loopw [5, 6] (fun i _ wr => ∃ k : Nat, k ≤ m ∧ i = .int .i64 ((k : Int) - 1) ∧ Hid (∀ t (h : t < xs.length), k ≤ t → ¬ (xs[t] + xs.length < N + t)) ∧ w = wr) (fun i _ _ => (intOf i + 1).toNat)
  case atStart => exact ⟨m, Nat.le_refl _, rfl, hid (fun t h1 h2 => absurd h1 (by rw [← HM.out]; omega)), rfl⟩
  case round =>
    obtain ⟨k, hk, rfl, hno, rfl⟩ := hrel
    by_cases hk0 : k = 0
    · subst hk0
      have hn := hnone.out fun t ht => hno.out t ht (Nat.zero_le _)
      have hge : ¬ (0 : Int) ≤ ((0 : Nat) : Int) - 1 := by omega
      have hs := hid (show stepC N xs = xs by unfold stepC; rw [hn]; rfl)
      have hb := hid (show (nextR N xs).isSome = false by rw [hn]; rfl)
      clear hn
      go_wp2_with fail
      go_ret
      exact ⟨ret_bool hb.out.symm, by rw [hs.out]; exact HOWN.out, ⟨rfl, rfl, rfl, Nat.le_refl _, fun _ _ _ => rfl⟩⟩
    · obtain ⟨j, rfl⟩ : ∃ j, k = j + 1 := ⟨k - 1, by omega⟩
      have hj : j < xs.length := by rw [← HM.out]; omega
      have ej : (((j + 1 : Nat) : Int) - 1) = (j : Int) := by omega
      rw [ej]
      have hj0 : (0 : Int) ≤ (j : Int) := by omega
      have hjm : (j : Int) < (m : Int) := by omega
      have hc := nums_cell HOWN.out HM.out hj
      have hx := HXS.out _ (List.getElem_mem hj)
      have hhj := hid (hhit.out j hj)
      obtain ⟨x, hxe⟩ : ∃ x, x = xs[j] := ⟨_, rfl⟩
      rw [← hxe] at hc hx hhj
      have HXE := hid hxe
      clear hxe
      by_cases ht : x + xs.length < N + j
      · have hlt : (x : Int) < (N : Int) - (m : Int) + (j : Int) := by rw [HM.out]; omega
        have hs := hid (hhj.out ht fun t h1 h2 => hno.out t h1 (by omega))
        have hfz := HOWN.out.frozenAt j
        have hst := (HOWN.out.stored j (.int .i64 ((x + 1 : Nat) : Int))).1
        rw [nums_set] at hst
        have hgr : w.grownBy (w.setCell ⟨g, j, none⟩ (.int .i64 ((x + 1 : Nat) : Int))) (some g) := (HOWN.out.stored j (.int .i64 ((x + 1 : Nat) : Int))).2
        rw [midC_first x hj] at hst
        rw [show ((x + 1 : Nat) : Int) = (x : Int) + 1 by omega] at hst hgr
        have hend := hid (show stepC N xs = midC xs j x m by unfold stepC; rw [hs.out, HM.out]; simp [midC])
        have hb := hid (show (nextR N xs).isSome = true by rw [hs.out]; rfl)
        clear hno hhj
        go_wp2_with fail
        go_loopw [6] (fun i wr => ∃ t : Nat, j + 1 ≤ t ∧ t ≤ m ∧ i = .int .i64 t ∧ wr.ownsRow B 3 1 (.slice (some ⟨g, 0, none⟩) m c) m (nums (midC xs j x t)) ∧ w.grownBy wr (some g)) (fun i _ => m - (intOf i).toNat)
        case atStart => exact ⟨j + 1, Nat.le_refl _, by omega, by go_num, hst, hgr⟩
        case round =>
          clear hst hgr hc hfz
          obtain ⟨t, h1t, htm, rfl, hown, hg⟩ := hrel
          by_cases hlt2 : t < m
          · have htx : t < xs.length := by rw [← HM.out]; exact hlt2
            have hml := midC_len (xs := xs) (j := j) (t := t) x (by omega) (by omega)
            have hcell := nums_cell hown (by rw [hml]; exact HM.out) (j := t - 1) (by rw [hml]; omega)
            rw [midC_get x (by omega) (by omega)] at hcell
            have hfz := hown.frozenAt t
            have hst := hown.stored t (.int .i64 ((x + (t - j) + 1 : Nat) : Int))
            rw [nums_set, midC_step x (by omega) htx] at hst
            obtain ⟨hst, hgr⟩ := hst
            have hct := nums_cell hown (by rw [hml]; exact HM.out) (j := t) (by rw [hml]; omega)
            obtain ⟨v, hv⟩ : ∃ v, v = x + (t - j) := ⟨_, rfl⟩
            rw [← hv] at hcell hst hgr
            have hvb : v ≤ 4000 := by omega
            clear hv
            obtain ⟨y, hy⟩ : ∃ y, y = (midC xs j x t)[t]'(by rw [hml]; omega) := ⟨_, rfl⟩
            rw [← hy] at hct
            clear hy
            obtain ⟨p, rfl⟩ : ∃ p, t = p + 1 := ⟨t - 1, by omega⟩
            rw [show p + 1 - 1 = p by omega] at hcell
            have hp0 : (0 : Int) ≤ (p : Int) := by omega
            have hpm : (p : Int) < (m : Int) := by omega
            have ep : ((p + 1 : Nat) : Int) - 1 = (p : Int) := by omega
            rw [show ((v + 1 : Nat) : Int) = (v : Int) + 1 by omega] at hst hgr
            go_wp2_with fail
            go_roundw
            case rel => exact ⟨p + 2, by omega, by omega, by go_num, hst, hg.trans hgr⟩
            case measure => simp [intOf]; omega
          · obtain rfl : t = m := by omega
            go_wp2_with fail
            go_ret
            exact ⟨ret_bool hb.out.symm, by rw [hend.out]; exact hown, hg⟩
      · have hlt : ¬ (x : Int) < (N : Int) - (m : Int) + (j : Int) := by rw [HM.out]; omega
        have hno2 := hid (show ∀ t (h : t < xs.length), j ≤ t → ¬ (xs[t] + xs.length < N + t) from fun t h1 h2 => by
          rcases Nat.lt_or_ge j t with h3 | h3
          · exact hno.out t h1 h3
          · obtain rfl : t = j := by omega
            rw [← HXE.out]; exact ht)
        go_wp2_with fail
        go_roundw
        case rel => exact ⟨j, by omega, by go_num, hno2, trivial⟩
        case measure => simp [intOf] <;> omega
end Go.Proofs.Ythhpeanlpikjbaa
