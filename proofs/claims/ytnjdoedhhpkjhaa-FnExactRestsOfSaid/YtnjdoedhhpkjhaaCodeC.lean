/-
  Walks: where one word is the beginning of another one; is a code free of such words? And its law.
-/
import Derived.Test.YtnjdoedhhpkjhaaCodeB
namespace Go.Proofs.Ytnjdoedhhpkjhaa
open Go.RowKit Go.ChangeShapes Go.WideShapes Go.Maps
set_option linter.unusedVariables false
attribute [local go_sem ↓] Go.wp_at_zero Go.wp_at_succ

abbrev Am := ByteArray × ByteArray
def amF (x : Am) : List Value := [.string x.1, .string x.2]
def ams (l : List Am) : List Value := flat amF l
theorem amF_len (x : Am) : (amF x).length = 2 := rfl
theorem ams_len (l : List Am) : (ams l).length = l.length * 2 := flat_len amF_len l
theorem ams_snoc (l : List Am) (x : Am) : ams (l ++ [x]) = ams l ++ [.string x.1, .string x.2] := by simp [ams, flat, amF]
theorem Try.infoAm : (Try.prog.info? 113).map (fun i => (i.zero, i.size, i.bytes)) = some (some (.agg #[.string ByteArray.empty, .string ByteArray.empty]), 2, 32) := by kernel_rfl
theorem two_new (w : World) (x y : Value) (t : TypeId) : ∀ j u, [x, y][j]? = some u → (w.alloc (.cells #[x, y] t)).cell? ((⟨w.heap.size, 0, none⟩ : Addr).add j) = some u := by
  intro j u hj
  match j, hj with
  | 0, hj => simp at hj; subst hj; simp [Addr.add]
  | 1, hj => simp at hj; subst hj; simp [Addr.add]
  | n + 2, hj => simp at hj
theorem two_okS (x y : ByteArray) : ∀ u ∈ [Value.string x, Value.string y], u.oneCell' = true := by
  intro u hu; simp at hu; rcases hu with rfl | rfl <;> rfl

/-- is word i the beginning of word k, another one? -/
def hitB (l : List ByteArray) (i k : Nat) : Bool := if h : i < l.length ∧ k < l.length then decide (i ≠ k) && preB l[k] l[i] else false
theorem hitB_get {l : List ByteArray} {i k : Nat} (h1 : i < l.length) (h2 : k < l.length) : hitB l i k = (decide (i ≠ k) && preB l[k] l[i]) := by unfold hitB; rw [dif_pos ⟨h1, h2⟩]
def restOf (l : List ByteArray) (i k : Nat) : Am := if h : i < l.length ∧ k < l.length then (l[k], l[k].extract l[i].size l[k].size) else (⟨#[]⟩, ⟨#[]⟩)
theorem restOf_get {l : List ByteArray} {i k : Nat} (h1 : i < l.length) (h2 : k < l.length) : restOf l i k = (l[k], l[k].extract l[i].size l[k].size) := by unfold restOf; rw [dif_pos ⟨h1, h2⟩]
def restsIn (l : List ByteArray) (i : Nat) : Nat → List Am
  | 0 => []
  | k + 1 => if hitB l i k = true then restsIn l i k ++ [restOf l i k] else restsIn l i k
def restsAll (l : List ByteArray) : Nat → List Am
  | 0 => []
  | i + 1 => restsAll l i ++ restsIn l i l.length
theorem restsIn_no {l : List ByteArray} {i k : Nat} (h : hitB l i k = false) : restsIn l i (k + 1) = restsIn l i k := by rw [restsIn, h]; rfl
theorem restsIn_hit {l : List ByteArray} {i k : Nat} (h : hitB l i k = true) : restsIn l i (k + 1) = restsIn l i k ++ [restOf l i k] := by rw [restsIn, h]; rfl
theorem restsIn_le (l : List ByteArray) (i k : Nat) : (restsIn l i k).length ≤ k := by
  induction k with
  | zero => simp [restsIn]
  | succ k ih =>
    rw [restsIn]
    split
    · rw [List.length_append]; simp; omega
    · omega
theorem restsAll_le (l : List ByteArray) (i : Nat) : (restsAll l i).length ≤ i * l.length := by
  induction i with
  | zero => simp [restsAll]
  | succ i ih =>
    rw [restsAll, List.length_append, Nat.add_mul, Nat.one_mul]
    have := restsIn_le l i l.length
    omega
def rests (l : List ByteArray) : List Am := restsAll l l.length
theorem cell_here {w wr : World} {b o : Nat} {l : List ByteArray} (hB : Below w.heap.size w wr) (hbl : b < w.heap.size) (hcell : ∀ j (hj : j < l.length), w.cell? ⟨b, o + j, none⟩ = some (.string l[j])) (k : Nat) (hk : k < l.length) : wr.cell? ⟨b, o + k, none⟩ = some (.string l[k]) := (hB.cell (p := ⟨b, o + k, none⟩) hbl).trans (hcell k hk)

set_option maxRecDepth 100000 in
set_option maxHeartbeats 4000000 in
theorem firstRests_any (ao : Option Addr) (n cap : Nat) (l : List ByteArray) (w : World) (hn : n = l.length) (hr : Rd w ao (strs l)) (hs : ∀ x ∈ l, x.size ≤ maxLen) (hm : n ≤ 1000) :
    Calls Try.prog 69 #[.slice ao n cap] w (FlatRet1 w.heap.size 113 2 (rests l).length w (ams (rests l))) := by
  obtain ⟨i0, hi, hz0, hz1, hz2⟩ := info_parts Try.infoAm
  have HN := hid hn
  have hrd := rd_str hr
  clear hn hr
  go_enter Try.func69, Try.ntmps69
  go_wp2_with fail
  go_loopw [3, 4, 5, 11] (fun v _ _ i wr => ∃ k : Nat, k ≤ n ∧ i = .int .i64 k ∧ wr.ownsRow w.heap.size 113 2 v (restsAll l k).length (ams (restsAll l k)) ∧ Below w.heap.size w wr) (fun _ _ _ i _ => n - (intOf i).toNat)
  case atStart => exact ⟨0, Nat.zero_le _, rfl, World.ownsRow_made _ _ 0 (Nat.le_refl _) (by unfold maxLen; omega) rfl, (Below.refl _ _).alloc (Nat.le_refl _) _⟩
  case round =>
    obtain ⟨k, hk, rfl, hown, hB⟩ := hrel
    by_cases hlt : k < n
    · rcases hrd with hnil | ⟨b, o, rfl, hbl, hcell⟩
      · exact absurd (by rw [HN.out, hnil]; rfl : n = 0) (by omega)
      · have hkl : k < l.length := by rw [← HN.out]; exact hlt
        have g1 := cell_here hB hbl hcell k hkl
        have hs1 := hs _ (List.getElem_mem hkl)
        have hk0 : (0 : Int) ≤ (k : Int) := by omega
        have hkn : (k : Int) < (n : Int) := by omega
        have hle := restsAll_le l k
        obtain ⟨x, hx⟩ : ∃ x, x = l[k] := ⟨_, rfl⟩
        rw [← hx] at g1 hs1
        have Hx := hid hx
        clear hx
        have hle2 : (restsAll l k).length ≤ 1000000 := Nat.le_trans hle (Nat.mul_le_mul (show k ≤ 1000 by omega) (show l.length ≤ 1000 by rw [← HN.out]; exact hm))
        clear hle
        go_wp2_with fail
        go_loopw [3, 6, 7, 18] (fun v _ _ i wr2 => ∃ j : Nat, j ≤ n ∧ i = .int .i64 j ∧ wr2.ownsRow w.heap.size 113 2 v (restsAll l k ++ restsIn l k j).length (ams (restsAll l k ++ restsIn l k j)) ∧ Below w.heap.size w wr2) (fun _ _ _ i _ => n - (intOf i).toNat)
        case atStart => exact ⟨0, Nat.zero_le _, rfl, by rw [restsIn, List.append_nil]; exact hown, hB⟩
        case round =>
          obtain ⟨j, hj, rfl, hown2, hB2⟩ := hrel
          by_cases hjn : j < n
          · have hjl : j < l.length := by rw [← HN.out]; exact hjn
            have g2 := cell_here hB2 hbl hcell j hjl
            have hs2 := hs _ (List.getElem_mem hjl)
            have hj0 : (0 : Int) ≤ (j : Int) := by omega
            have hjn1 : (j : Int) < (n : Int) := by omega
            have hbz := hB2.size
            have hg := hid (hitB_get hkl hjl)
            have hro := hid (restOf_get hkl hjl)
            have hno := hid (fun h => restsIn_no (l := l) (i := k) (k := j) h)
            have hyes := hid (fun h => restsIn_hit (l := l) (i := k) (k := j) h)
            have hli := restsIn_le l k j
            have hlz : (restsAll l k ++ restsIn l k j).length ≤ 1001000 := by rw [List.length_append]; omega
            obtain ⟨y, hy⟩ : ∃ y, y = l[j] := ⟨_, rfl⟩
            rw [← hy] at g2 hs2 hg hro
            rw [← Hx.out] at hg hro
            clear hy hli
            by_cases hkj : k = j
            · have hh := hid (show hitB l k j = false by rw [hg.out]; simp [hkj])
              have hc : ((k : Int) != (j : Int)) = false := by simp; omega
              clear hkj
              go_wp2_with fail
              go_roundw
              case rel => exact ⟨j + 1, by omega, by go_num, by rw [hno.out hh.out]; exact hown2, hB2⟩
              case measure => simp [intOf]; omega
            · have hc : ((k : Int) != (j : Int)) = true := by simp; omega
              cases hp : preB y x
              · have hh := hid (show hitB l k j = false by rw [hg.out, hp]; simp)
                clear hkj
                go_wp2_with (go_at_call 97; refine (hasPre_b _ _ _ hs2 hs1 hp).mono ?_; rintro e w' ⟨rfl, rfl⟩)
                go_roundw
                case rel => exact ⟨j + 1, by omega, by go_num, by rw [hno.out hh.out]; exact hown2, hB2⟩
                case measure => simp [intOf]; omega
              · have hh := hid (show hitB l k j = true by rw [hg.out, hp]; simpa using hkj)
                have hxy : x.size ≤ y.size := by
                  unfold preB at hp
                  simp only [Bool.and_eq_true, decide_eq_true_eq] at hp
                  exact hp.1
                have hxyi : (x.size : Int) ≤ (y.size : Int) := by omega
                clear hkj
                obtain ⟨z, hz⟩ : ∃ z, z = restsAll l k ++ restsIn l k j := ⟨_, rfl⟩
                rw [← hz] at hown2 hlz
                have Hz := hid hz
                clear hz
                go_wp2_with (first | (go_at_call 97; refine (hasPre_b _ _ _ hs2 hs1 hp).mono ?_; rintro e w' ⟨rfl, rfl⟩) | (at_builtin; refine wpList_append_own _ rfl _ _ 110 rfl w.heap.size 113 i0 (.agg #[.string ByteArray.empty, .string ByteArray.empty]) 2 32 Try.underlying110 hi hz0 hz1 hz2 rfl (by decide) _ _ _ rfl (hown2.alloc _) ⟨wr.heap.size, 0, none⟩ 1 1 [.string y, .string (y.extract x.size y.size)] rfl rfl (two_new _ _ _ _) (two_okS _ _) (by unfold maxLen; omega) (by omega) (by simp; omega) ?_; intro v' w2 hown3 hgrow3 _))
                go_roundw
                case rel => exact ⟨j + 1, by omega, by go_num, by rw [hyes.out hh.out, ← List.append_assoc, ← Hz.out, hro.out, ams_snoc, List.length_append]; exact hown3, below_grown (hB2.alloc (by omega) _) (by simp; omega) (hown2.alloc _) hgrow3⟩
                case measure => simp [intOf]; omega
          · obtain rfl : j = n := by omega
            go_wp2
            go_roundw
            case rel => exact ⟨k + 1, by omega, by go_num, by rw [restsAll, ← HN.out]; exact hown2, hB2⟩
            case measure => simp [intOf]; omega
    · obtain rfl : k = n := by omega
      go_wp2
      go_ret
      have hd : rests l = restsAll l k := by unfold rests; rw [← HN.out]
      rw [hd]
      rcases owns_form hown with ⟨rfl, hn0, hx0⟩ | ⟨g, c2, rfl, hBg, hgl, hnc, hcm⟩
      · refine ⟨none, 0, by rw [hn0]; rfl, ?_, hB⟩
        rw [hn0] at hown ⊢
        exact hown
      · exact ⟨_, _, rfl, hown, hB⟩
end Go.Proofs.Ytnjdoedhhpkjhaa
