/-
  The abbreviations by what they save: the saving of one, and the comparison: the walks of the two function values.
-/
import Derived.Test.YtnjdoedhhpkjhaaWoExp
import Derived.Test.YtnjdoedhhpkjhaaUaMath
import Derived.Maps.OwnOps
namespace Go.Proofs.Ytnjdoedhhpkjhaa
open Go.RowKit Go.ChangeShapes Go.WideShapes Go.Maps
set_option linter.unusedVariables false
attribute [local go_sem ↓] Go.wp_at_zero Go.wp_at_succ

/-- how often a text is among the words -/
def cntB (W : List ByteArray) (x : ByteArray) : Nat := (W.filter fun y => y.toList == x.toList).length
theorem cntB_le (W : List ByteArray) (x : ByteArray) : cntB W x ≤ W.length := List.length_filter_le _ _
theorem cntB_zero (x : ByteArray) : cntB [] x = 0 := rfl
theorem cntB_snoc (W : List ByteArray) (y x : ByteArray) : cntB (W ++ [y]) x = cntB W x + (if y.toList == x.toList then 1 else 0) := by
  unfold cntB
  rw [List.filter_append, List.length_append]
  cases h : (y.toList == x.toList) <;> simp [h]
/-- a map that counts texts -/
structure CntS (D : DataW Unit) (W : List ByteArray) : Prop where
  isMap : IsMap D
  at' : ∀ y : ByteArray, D.atKey (.string y.data.toList) (.lit (.int .i64 0)) = .lit (.int .i64 (cntB W y : Int))
theorem cntS_zero : CntS (.map []) [] := ⟨isMap_empty, fun y => rfl⟩
theorem cntS_next {D : DataW Unit} {W : List ByteArray} (h : CntS D W) (x : ByteArray) : CntS (D.put (.string x.data.toList) (.lit (.int .i64 ((cntB W x : Int) + 1)))) (W ++ [x]) := by
  refine ⟨h.isMap.put _ _, fun y => ?_⟩
  rw [cntB_snoc]
  by_cases e : x.toList = y.toList
  · have e2 : x.data.toList = y.data.toList := by rw [← ByteArray.toList_eq, ← ByteArray.toList_eq]; exact e
    rw [← e2, atKey_put_same h.isMap (by trivial)]
    have : cntB W y = cntB W x := by unfold cntB; rw [e]
    rw [this, e]; simp
  · rw [atKey_put_other (by rw [← ByteArray.toList_eq, ← ByteArray.toList_eq]; intro e2; apply e; simpa using e2.symm), h.at' y]
    have : (x.toList == y.toList) = false := by simpa using e
    rw [this]; simp
/-- what the abbreviation at i saves in all -/
def sv (l : List Ab) (W : List ByteArray) (i : Nat) : Int := if h : i < l.length then (cntB W l[i].2 : Int) * ((l[i].2.size : Int) - (l[i].1.size : Int)) else 0
theorem sv_get {l : List Ab} {W : List ByteArray} {i : Nat} (h : i < l.length) : sv l W i = (cntB W l[i].2 : Int) * ((l[i].2.size : Int) - (l[i].1.size : Int)) := by unfold sv; rw [dif_pos h]

theorem Try.zeroIntU (w : World) : (zeroValue 3).run Try.prog w = .ok (.int .i64 0) w := Try.zeroValue3 w
/-- what the function values reach -/
structure UsC (w : World) (bm bl mb nW : Nat) (ao : Option Addr) (n cap : Nat) (l : List Ab) (W : List ByteArray) : Prop where
  hn : n = l.length
  cm : w.cell? ⟨bm, 0, none⟩ = some (.map (some mb))
  cl : w.cell? ⟨bl, 0, none⟩ = some (.slice ao n cap)
  map : ∃ D, w.ownsMap (H := Unit) Try.prog 9 (plainElem Try.prog 3) mb nW D ∧ CntS D W
  rows : ∀ t (h : t < l.length), ∃ b o, ao = some ⟨b, o, none⟩ ∧ w.cell? ⟨b, o + t * 2, none⟩ = some (.string l[t].1) ∧ w.cell? ⟨b, o + t * 2 + 1, none⟩ = some (.string l[t].2)
  small : ∀ x ∈ l, x.1.size ≤ 30 ∧ x.2.size ≤ 30
  few : W.length ≤ 1000
set_option maxRecDepth 100000 in
set_option maxHeartbeats 4000000 in
theorem use_any (bm bl mb nW : Nat) (ao : Option Addr) (n cap : Nat) (l : List Ab) (W : List ByteArray) (w : World) (h : UsC w bm bl mb nW ao n cap l W) (i : Nat) (hi : i < n) :
    Calls Try.prog 36 #[.int .i64 i, .pointer (some ⟨bm, 0, none⟩), .pointer (some ⟨bl, 0, none⟩)] w fun e w' => e = .returned (.int .i64 (sv l W i)) ∧ ∃ q, w' = w.drewN q := by
  obtain ⟨hn, cm, cl, ⟨D, hown, hD⟩, rows, small, few⟩ := h
  have hil : i < l.length := by omega
  obtain ⟨b, o, rfl, c1, c2⟩ := rows i hil
  obtain ⟨hs1, hs2⟩ := small _ (List.getElem_mem hil)
  have hsv := hid (sv_get (W := W) hil)
  have hcl := cntB_le W l[i].2
  obtain ⟨x, hx⟩ : ∃ x, x = l[i] := ⟨_, rfl⟩
  rw [← hx] at c1 c2 hs1 hs2 hsv hcl
  have hi0 : (0 : Int) ≤ (i : Int) := by omega
  have hin : (i : Int) < (n : Int) := by omega
  have hkey : keyOf Try.prog 9 (.string x.2) = some (.string x.2.data.toList) := WideMaps.keyOf_string_mk Try.underlying9 (by unfold maxLen; omega)
  have hlk : ∀ q, (Instr.lookup 60 (.map (some mb)) (.string x.2) false).run Try.prog (w.drewN q) = .ok (.int .i64 (cntB W x.2 : Int)) (w.drewN q) := fun q => by
    obtain ⟨c, hrun, hat, _⟩ := (show (w.drewN q).ownsMap (H := Unit) Try.prog 9 (plainElem Try.prog 3) mb nW D from hown).lookup_int (string_keyed Try.underlying9) Try.underlying60 Try.underlying3 (Try.zeroIntU _) hkey
    rw [hD.at'] at hat
    simp only [DataW.lit.injEq, Lit.int.injEq, true_and] at hat
    rw [hat]; exact hrun
  clear hx hn rows small hil hD hown hkey
  obtain ⟨c, hc⟩ : ∃ c, c = cntB W x.2 := ⟨_, rfl⟩
  rw [← hc] at hsv hcl hlk
  clear hc
  obtain ⟨p, q⟩ := x
  dsimp only at c1 c2 hs1 hs2 hsv hlk
  have hb1 : (c : Int) * ((q.size : Int) - (p.size : Int)) ≤ 30000 := by
    have h1 : (c : Int) * ((q.size : Int) - (p.size : Int)) ≤ (c : Int) * 30 := Int.mul_le_mul_of_nonneg_left (by omega) (by omega)
    omega
  have hb2 : -30000 ≤ (c : Int) * ((q.size : Int) - (p.size : Int)) := by
    have h1 : (c : Int) * (-30) ≤ (c : Int) * ((q.size : Int) - (p.size : Int)) := Int.mul_le_mul_of_nonneg_left (by omega) (by omega)
    omega
  rw [hsv.out]
  go_enter Try.func36, Try.ntmps36
  go_wp2_with fail
  go_quiet (fail)
  go_wp2_with fail
  go_ret
  exact ⟨rfl, nq, rfl⟩
end Go.Proofs.Ytnjdoedhhpkjhaa
