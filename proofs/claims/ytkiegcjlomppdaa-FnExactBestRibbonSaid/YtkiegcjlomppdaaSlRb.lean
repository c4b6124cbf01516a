/-
  Slices of ribbons: sizes, copy, equal.
-/
import Derived.Test.YtkiegcjlomppdaaRibA
import Derived.Test.YtkiegcjlomppdaaSl64
import Derived.Test.YtkiegcjlomppdaaTo64
import Derived.Test.YtkiegcjlomppdaaFlat
import Derived.Test.YtkiegcjlomppdaaOpen
import Derived.Test.YtkiegcjlomppdaaOver
import Derived.Lib.SmallJoins
namespace Go.Proofs.Ytkiegcjlomppdaa
open Go.RowKit Go.ChangeShapes Go.WideShapes
set_option linter.unusedVariables false
attribute [local go_sem ↓] Go.wp_at_zero Go.wp_at_succ

abbrev Rb := Int × Int × Int
def rbF (x : Rb) : List Value := [.int .i64 x.1, .int .i64 x.2.1, .int .i64 x.2.2]
def rbs (l : List Rb) : List Value := flat rbF l
theorem rbF_len (x : Rb) : (rbF x).length = 3 := rfl
theorem rbs_len (l : List Rb) : (rbs l).length = l.length * 3 := flat_len rbF_len l
theorem rbs_get0 (l : List Rb) (j : Nat) (hj : j < l.length) : (rbs l)[j * 3]? = some (.int .i64 l[j].1) := by
  have := flat_get rbF_len l j 0 hj (by omega)
  unfold rbs
  simpa [rbF] using this
theorem rbs_get1 (l : List Rb) (j : Nat) (hj : j < l.length) : (rbs l)[j * 3 + 1]? = some (.int .i64 l[j].2.1) := by
  have := flat_get rbF_len l j 1 hj (by omega)
  unfold rbs
  simpa [rbF] using this
theorem rbs_get2 (l : List Rb) (j : Nat) (hj : j < l.length) : (rbs l)[j * 3 + 2]? = some (.int .i64 l[j].2.2) := by
  have := flat_get rbF_len l j 2 hj (by omega)
  unfold rbs
  simpa [rbF] using this
theorem rbs_set (l : List Rb) (j : Nat) (x : Rb) (hj : j < l.length) :
    (((rbs l).set (j * 3) (.int .i64 x.1)).set (j * 3 + 1) (.int .i64 x.2.1)).set (j * 3 + 2) (.int .i64 x.2.2) = rbs (l.set j x) := by
  apply flat_ext (n := l.length) (sz := 3)
  · simp [rbs_len]
  · simp [rbs_len]
  · intro k i hk hi
    have hr := flat_get rbF_len (l.set j x) k i (by simpa using hk) hi
    have hl := flat_get rbF_len l k i hk hi
    unfold rbs at *
    rw [hr]
    have hle : (flat rbF l).length = l.length * 3 := flat_len rbF_len l
    have hjk := flat_lt (sz := 3) (i := 2) hj (by omega)
    by_cases e : j = k
    · subst e
      rcases (show i = 0 ∨ i = 1 ∨ i = 2 by omega) with rfl | rfl | rfl
      · rw [List.getElem?_set_ne (by omega), List.getElem?_set_ne (by omega), Nat.add_zero, List.getElem?_set_self (by omega)]
        simp [rbF]
      · rw [List.getElem?_set_ne (by omega), List.getElem?_set_self (by simp; omega)]
        simp [rbF]
      · rw [List.getElem?_set_self (by simp; omega)]
        simp [rbF]
    · rw [List.getElem?_set_ne (by omega), List.getElem?_set_ne (by omega), List.getElem?_set_ne (by omega), hl]
      simp [List.getElem_set_ne e]
structure RbCells (w : World) (b o : Nat) (x : Rb) : Prop where
  c0 : w.cell? ⟨b, o, none⟩ = some (.int .i64 x.1)
  c1 : w.cell? ⟨b, o + 1, none⟩ = some (.int .i64 x.2.1)
  c2 : w.cell? ⟨b, o + 2, none⟩ = some (.int .i64 x.2.2)
theorem RbCells.below {w w' : World} {B b o : Nat} {x : Rb} (h : RbCells w b o x) (hb : Below B w w') (hB : b < B) : RbCells w' b o x :=
  ⟨(hb.cell (p := ⟨b, o, none⟩) hB).trans h.c0, (hb.cell (p := ⟨b, o + 1, none⟩) hB).trans h.c1, (hb.cell (p := ⟨b, o + 2, none⟩) hB).trans h.c2⟩
theorem rd_rb {w : World} {ao : Option Addr} {l : List Rb} (h : Rd w ao (rbs l)) : l = [] ∨ ∃ b o, ao = some ⟨b, o, none⟩ ∧ b < w.heap.size ∧ ∀ j (hj : j < l.length), RbCells w b (o + j * 3) l[j] := by
  rcases h with h | ⟨b, o, h1, h2, h3⟩
  · left
    have := congrArg List.length h
    rw [rbs_len] at this
    exact List.eq_nil_of_length_eq_zero (by simp at this; omega)
  · right
    refine ⟨b, o, h1, h2, fun j hj => ⟨?_, ?_, ?_⟩⟩
    · have hlt : j * 3 < (rbs l).length := by rw [rbs_len]; omega
      rw [h3 (j * 3) hlt, ← List.getElem?_eq_getElem hlt, rbs_get0 l j hj]
    · have hlt : j * 3 + 1 < (rbs l).length := by rw [rbs_len]; omega
      rw [Nat.add_assoc, h3 (j * 3 + 1) hlt, ← List.getElem?_eq_getElem hlt, rbs_get1 l j hj]
    · have hlt : j * 3 + 2 < (rbs l).length := by rw [rbs_len]; omega
      rw [Nat.add_assoc, h3 (j * 3 + 2) hlt, ← List.getElem?_eq_getElem hlt, rbs_get2 l j hj]
def RbArg (w : World) (ao : Option Addr) (n cap : Nat) (l : List Rb) : Prop := n = l.length ∧ n ≤ maxLen ∧ Rd w ao (rbs l) ∧ ∀ y ∈ l, True
theorem Try.cellsRb : Try.prog.cellsOf 23 = 3 := by kernel_rfl
section
variable {H : Type} {enc : TypeId × Value → H} {W : World} {base : Nat} {spare : Nat → Bool} {held : Bool}
theorem elem_rb (n : Nat) (cs : List Value) (x : DataW H × List MemPlace) (h : DataW.trod enc Try.prog W base spare held n 23 cs = some x) : ∃ y : Rb, cs = rbF y ∧ True := by
  obtain ⟨y0, y1, y2, m, _, hl, h0, h1, h2⟩ := Go.Deep.trod_struct3 Try.underlying23 h
  rw [Try.cellsRb] at hl
  match cs, hl with
  | [c0, c1, c2], _ =>
    simp only [Try.cellsI1, List.drop_succ_cons, List.drop_zero, List.take_succ_cons, List.take_zero] at h0 h1 h2
    obtain ⟨i0, e0, _, w0⟩ := DataW.trod_int Try.underlying2 h0
    obtain ⟨i1, e1, _, w1⟩ := DataW.trod_int Try.underlying2 h1
    obtain ⟨i2, e2, _, w2⟩ := DataW.trod_int Try.underlying2 h2
    simp at e0 e1 e2
    subst e0; subst e1; subst e2
    exact ⟨(i0, i1, i2), rfl, trivial⟩
theorem openRb {r : Reach} {b0 : Nat} {v : Value} {d : DataW H} {p : List MemPlace}
    (hv : Value.okWide Try.prog W r b0 44 v) (h : DataW.Trod enc Try.prog W base spare held 44 v d p) :
    ∃ (ao : Option Addr) (n cap : Nat) (l : List Rb), v = .slice ao n cap ∧ RbArg W ao n cap l :=
  openFlat (sz := 3) (f := rbF) (good := fun _ => True) rbF_len (by omega) Try.underlying44 Try.cellsRb elem_rb hv h
end
def szRb (lf : Int) (n : Nat) (l : List Rb) : Int := if lf - n < 0 then -1 else lf - n
theorem szRb_len {lf : Int} {n : Nat} {l : List Rb} (h1 : lf ≤ 1048576) (h : ¬ szRb lf n l < 0) : n ≤ 1048576 := by
  unfold szRb at h
  split at h <;> omega
theorem szRb_le (lf : Int) (n : Nat) (l : List Rb) (h : 0 ≤ lf) (h1 : lf ≤ 1048576) : szRb lf n l ≤ 1048576 := by
  unfold szRb
  split <;> omega
set_option maxHeartbeats 2000000 in
theorem szRb_any (ao : Option Addr) (n cap : Nat) (l : List Rb) (lf : Int) (w : World) (hf0 : 0 ≤ lf) (hf1 : lf ≤ 1048576) (hn : n = l.length) (hm : n ≤ maxLen) (hr : Rd w ao (rbs l)) (hs : ∀ y ∈ l, True) :
    Calls Try.prog 38 #[.slice ao n cap, .int .i64 lf] w fun e w' => e = .returned (.int .i64 (szRb lf n l)) ∧ Below w.heap.size w w' := by
  unfold maxLen at hm
  clear hn hr hs
  by_cases h : lf - n < 0
  · have hR := hid (show szRb lf n l = -1 from if_pos h)
    go_enter Try.func38, Try.ntmps38
    go_wp2
    go_ret
    exact ⟨ret_int hR.out.symm, Below.refl _ _⟩
  · have hR := hid (show szRb lf n l = lf - n from if_neg h)
    go_enter Try.func38, Try.ntmps38
    go_wp2
    go_ret
    exact ⟨ret_int hR.out.symm, Below.refl _ _⟩
theorem Try.infoRb : (Try.prog.info? 25).map (fun i => (i.zero, i.size, i.bytes)) = some (some (.agg #[.int .i64 0, .int .i64 0, .int .i64 0]), 3, 24) := by kernel_rfl
set_option maxHeartbeats 2000000 in
theorem toRb_any (ao : Option Addr) (n cap : Nat) (l : List Rb) (w : World) (hn : n = l.length) (hr : Rd w ao (rbs l)) (hm : n ≤ 1048576) :
    Calls Try.prog 40 #[.slice ao n cap] w (FlatRet1 w.heap.size 25 3 n w (rbs l)) := by
  obtain ⟨i0, hi, hz0, hz1, hz2⟩ := info_parts Try.infoRb
  have HN := hid hn
  have hrd := rd_rb hr
  clear hn hr
  go_enter Try.func40, Try.ntmps40
  go_wp2_with (at_make; refine wpList_make_full _ rfl _ _ 48 rfl w.heap.size 25 i0 (.agg #[.int .i64 0, .int .i64 0, .int .i64 0]) 3 Try.underlying48 hi hz0 hz1 .i64 .i64 _ _ n rfl rfl rfl rfl (by rw [hz2]; omega) (by unfold maxLen; omega) (Nat.le_refl _) ?_; intro w1 hown hgrow)
  have hB0 : Below w.heap.size w w1 := (Below.refl _ _).grown hgrow (Nat.le_refl _) (by simp)
  have hown0 : w1.ownsRow w.heap.size 25 3 (.slice (some ⟨w.heap.size, 0, none⟩) n n) n (rbs (fillRow l (0, 0, 0) 0)) := by
    rw [fill_zero, ← HN.out, rbs, ← made_flat rbF_len (.agg #[.int .i64 0, .int .i64 0, .int .i64 0]) (0, 0, 0) n rfl (by omega)]
    exact hown
  clear hown hgrow hi hz0 hz1 hz2
  go_loopw [4] (fun i wr => ∃ k : Nat, k ≤ n ∧ i = .int .i64 k ∧ wr.ownsRow w.heap.size 25 3 (.slice (some ⟨w.heap.size, 0, none⟩) n n) n (rbs (fillRow l (0, 0, 0) k)) ∧ Below w.heap.size w wr) (fun i _ => n - (intOf i).toNat)
  case atStart => exact ⟨0, Nat.zero_le _, rfl, hown0, hB0⟩
  case round =>
    obtain ⟨k, hk, rfl, hown, hB⟩ := hrel
    by_cases hlt : k < n
    · rcases hrd with hnil | ⟨b, o, rfl, hbl, hcell⟩
      · exact absurd (by rw [HN.out, hnil]; rfl : n = 0) (by omega)
      · have hkl : k < l.length := by rw [← HN.out]; exact hlt
        obtain ⟨g1, g2, g3⟩ := (hcell k hkl).below hB hbl
        clear hcell
        have hk0 : (0 : Int) ≤ (k : Int) := by omega
        have hkn : (k : Int) < (n : Int) := by omega
        obtain ⟨x, hx⟩ : ∃ x, x = l[k] := ⟨_, rfl⟩
        rw [← hx] at g1 g2 g3
        have Hx := hid hx
        clear hx
        go_wp2_with fail
        refine (toRibbon_any _ _ _ _).mono ?_
        rintro e w' ⟨rfl, hb⟩
        have ho2 := owns_below hown hb
        have hfl : (fillRow l (0, 0, 0) k).length = n := by rw [fill_len _ _ _ (by omega)]; exact HN.out.symm
        have hal : (rbs (fillRow l (0, 0, 0) k)).length = n * 3 := by rw [rbs_len, hfl]
        obtain ⟨v0, hv0⟩ : ∃ v, w'.cell? ⟨w.heap.size, k * 3, none⟩ = some v := ⟨_, by rw [ho2.cellAt (k * 3) (by omega), List.getElem?_eq_getElem (by rw [hal]; omega)]⟩
        obtain ⟨v1, hv1⟩ : ∃ v, w'.cell? ⟨w.heap.size, k * 3 + 1, none⟩ = some v := ⟨_, by rw [ho2.cellAt (k * 3 + 1) (by omega), List.getElem?_eq_getElem (by rw [hal]; omega)]⟩
        obtain ⟨v2, hv2⟩ : ∃ v, w'.cell? ⟨w.heap.size, k * 3 + 2, none⟩ = some v := ⟨_, by rw [ho2.cellAt (k * 3 + 2) (by omega), List.getElem?_eq_getElem (by rw [hal]; omega)]⟩
        have hf0 := ho2.frozenAt (k * 3)
        have hf1 := ho2.frozenAt (k * 3 + 1)
        have hf2 := ho2.frozenAt (k * 3 + 2)
        have Hfl := hid hfl
        clear hfl hal
        go_wp2_with fail
        go_roundw
        case rel =>
          refine ⟨k + 1, by omega, by go_num, ?_, (((hB.trans (hb.mono hB.size)).setCell (by simp) _).setCell (by simp) _).setCell (by simp) _⟩
          rw [← fill_next l _ k hkl, ← Hx.out, ← rbs_set _ k x (by rw [Hfl.out]; exact hlt)]
          exact (((ho2.stored (k * 3) _).1.stored (k * 3 + 1) _).1.stored (k * 3 + 2) _).1
        case measure => simp [intOf]; omega
    · obtain rfl : k = n := by omega
      have hf := hid (show fillRow l (0, 0, 0) k = l by rw [HN.out]; exact fill_all _ _)
      go_wp2
      go_ret
      rw [hf.out] at hown
      exact ⟨_, _, rfl, hown, hB⟩
theorem eqRb1_any (s i t : Int) (w : World) : Calls Try.prog 65 #[.agg #[.int .i64 s, .int .i64 i, .int .i64 t], .agg #[.int .i64 s, .int .i64 i, .int .i64 t]] w fun e w' => e = .returned (.bool true) ∧ Below w.heap.size w w' := by
  have e1 : (s != s) = false := by simp
  have e2 : (i != i) = false := by simp
  have e3 : (t != t) = false := by simp
  go_enter Try.func65, Try.ntmps65
  go_wp2
  go_ret
  refine ⟨rfl, ?_⟩
  (repeat (first | with_reducible exact Below.refl _ _ | with_reducible assumption | refine Below.drew ?_ | refine below_drewN ?_ _ | (refine Below.alloc ?_ (by first | omega | (simp; done) | (simp; omega)) _) | (refine Below.setCell ?_ (by first | omega | (simp; done) | (simp; omega)) _) | (refine Below.trans ?_ (Below.mono (by assumption) (by first | omega | (simp; done) | (simp; omega))))))
set_option maxHeartbeats 2000000 in
theorem eqRb_any (ao bo : Option Addr) (l : List Rb) (n cap cap2 : Nat) (w : World) (hn : n = l.length) (hm : n ≤ 1073741824) (ha : Rd w ao (rbs l)) (hb : Rd w bo (rbs l)) :
    Calls Try.prog 43 #[.slice ao n cap, .slice bo n cap2] w fun e w' => e = .returned (.bool true) ∧ Below w.heap.size w w' := by
  have hrd := rd_rb ha
  have hrd2 := rd_rb hb
  have HN := hid hn
  clear hn ha hb
  go_enter Try.func43, Try.ntmps43
  go_wp2
  go_loopw [5] (fun i wr => ∃ k : Nat, k ≤ n ∧ i = .int .i64 k ∧ Below w.heap.size w wr) (fun i _ => n - (intOf i).toNat)
  case atStart => exact ⟨0, Nat.zero_le _, rfl, Below.refl _ _⟩
  case round =>
    obtain ⟨k, hk, rfl, hB⟩ := hrel
    by_cases hlt : k < n
    · rcases hrd with hnil | ⟨b, o, rfl, hl1, hcell⟩
      · exact absurd (by rw [HN.out, hnil]; rfl : n = 0) (by omega)
      rcases hrd2 with hnil | ⟨b2, o2, rfl, hl2, hcell2⟩
      · exact absurd (by rw [HN.out, hnil]; rfl : n = 0) (by omega)
      have hkx : k < l.length := by rw [← HN.out]; exact hlt
      obtain ⟨h1, h2, h3⟩ := (hcell k hkx).below hB hl1
      obtain ⟨i1, i2, i3⟩ := (hcell2 k hkx).below hB hl2
      obtain ⟨x, hx⟩ : ∃ x, x = l[k] := ⟨_, rfl⟩
      rw [← hx] at h1 h2 h3 i1 i2 i3
      clear hx hcell hcell2
      have hk0 : (0 : Int) ≤ (k : Int) := by omega
      have hkn : (k : Int) < (n : Int) := by omega
      have z1 := Nat.lt_of_lt_of_le hl1 hB.size
      have z2 := Nat.lt_of_lt_of_le hl2 hB.size
      go_wp2_with fail
      refine wp_region_over (by kernel_rfl) (by kernel_rfl) (fun hov => ?_)
      repeat (go_big_quiet_step (((go_at_call 65; with_reducible exact overCall (eqRb1_any _ _ _ _)))))
      refine wpQuiet_nil ?_
      intro w5 hb5
      clear hov
      go_wp2
      go_roundw
      case rel => exact ⟨k + 1, by omega, by go_num, hB.trans (hb5.mono hB.size)⟩
      case measure => simp [intOf]; omega
    · obtain rfl : k = n := by omega
      go_wp2
      go_ret
      exact ⟨rfl, hB⟩
end Go.Proofs.Ytkiegcjlomppdaa
