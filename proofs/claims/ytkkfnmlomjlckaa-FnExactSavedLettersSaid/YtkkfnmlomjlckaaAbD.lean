/-
  The laws of dictionaries that answer a bool: the walks.
-/
import Derived.Test.YtkkfnmlomjlckaaAbC
import Derived.Test.YtkkfnmlomjlckaaOpen
namespace Go.Proofs.Ytkkfnmlomjlckaa
open Go.RowKit Go.ChangeShapes Go.WideShapes
set_option linter.unusedVariables false
attribute [local go_sem ↓] Go.wp_at_zero Go.wp_at_succ

theorem sValidAbbrs_any (ao : Option Addr) (n cap : Nat) (l : List Ab) (w : World) (hn : n = l.length) (hr : Rd w ao (abs l)) (hs : abSmall l) (hm : n ≤ 1048576) :
    Calls Try.prog 22 #[.slice ao n cap] w fun e w' => e = .returned (.bool (okL l)) ∧ Below w.heap.size w w' := by
  have HN := hid hn
  clear hn
  go_enter Try.func22, Try.ntmps22
  go_wp2_with fail
  refine (sOk_any ao n cap l _ HN.out hr hs hm).mono ?_
  rintro e w1 ⟨rfl, hb1⟩
  go_wp2_with fail
  go_ret
  exact ⟨rfl, hb1⟩

/-- a slice of abbreviations that came in -/
def AbArg (w : World) (ao : Option Addr) (n cap : Nat) (l : List Ab) : Prop := n = l.length ∧ n ≤ maxLen ∧ Rd w ao (abs l) ∧ abSmall l

theorem Try.cellsAbL : Try.prog.cellsOf 23 = 2 := by kernel_rfl
theorem Try.cellsStr : Try.prog.cellsOf 9 = 1 := by kernel_rfl
theorem openAb {H : Type} {enc : TypeId × Value → H} {W : World} {base : Nat} {spare : Nat → Bool} {held : Bool} {r : Reach} {b0 : Nat} {v : Value} {d : DataW H} {p : List MemPlace}
    (hv : Value.okWide Try.prog W r b0 33 v) (h : DataW.Trod enc Try.prog W base spare held 33 v d p) :
    ∃ (ao : Option Addr) (n cap : Nat) (l : List Ab), v = .slice ao n cap ∧ AbArg W ao n cap l :=
  openFlat (f := abF) (good := fun y => y.1.size ≤ maxLen ∧ y.2.size ≤ maxLen) abF_len (by omega) Try.underlying33 Try.cellsAbL (elem_ss Try.underlying23 Try.underlying9 Try.cellsStr rfl rfl rfl rfl Try.cellsAbL) hv h

set_option maxHeartbeats 1000000 in
theorem lawValidAbbrs (w : World) (ao : Option Addr) (n cap : Nat) (l : List Ab) (ha : AbArg w ao n cap l) :
    Calls Try.prog 5 #[.slice ao n cap] w fun e w' => e = .returned (.bool true) ∧ Below w.heap.size w w' := by
  obtain ⟨hn, hm, hr, hs⟩ := ha
  have HN := hid hn
  clear hn
  go_enter Try.func5, Try.ntmps5
  go_wp2_with fail
  refine (szAbbrS_any ao n cap l 1048576 _ (by omega) (by omega) HN.out hm hr hs).mono ?_
  rintro e w1 ⟨rfl, hb1⟩
  by_cases hz : szAllAb 1048576 n l < 0
  · go_wp2_with fail
    go_ret
    exact ⟨rfl, hb1⟩
  · have h20 := szAllAb_len (by omega) hz
    have hr1 := rd_below hr hb1
    go_wp2_with fail
    refine (toAbbrS_any ao n cap l _ HN.out hr1 h20).mono ?_
    rintro e w2 ⟨bo, cap2, rfl, ho2, hb2⟩
    have hr2 := rd_below hr1 hb2
    go_wp2_with fail
    refine (sValidAbbrs_any bo n cap2 l _ HN.out (owns_rdN ho2) hs h20).mono ?_
    rintro e w3 ⟨rfl, hb3⟩
    have hr3 := rd_below hr2 hb3
    go_wp2_with fail
    refine (toAbbrS_any ao n cap l _ HN.out hr3 h20).mono ?_
    rintro e w4 ⟨co, cap4, rfl, ho4, hb4⟩
    have hr4 := rd_below hr3 hb4
    go_wp2_with fail
    refine (ok_any co n cap4 l _ HN.out (owns_rdN ho4) hs h20).mono ?_
    rintro e w5 ⟨rfl, hb5⟩
    have hr5 := rd_below hr4 hb5
    have hx5 := rd_below (owns_rdN ho4) hb5
    go_wp2_with fail
    refine (toAbbrS_any ao n cap l _ HN.out hr5 h20).mono ?_
    rintro e w6 ⟨eo, cap6, rfl, ho6, hb6⟩
    go_wp2_with fail
    refine (eqAbbrS_any co eo l n cap4 cap6 _ HN.out (by omega) (rd_below hx5 hb6) (owns_rdN ho6)).mono ?_
    rintro e w7 ⟨rfl, hb7⟩
    go_wp2_with fail
    go_ret
    have z1 := hb1.size; have z2 := hb2.size; have z3 := hb3.size; have z4 := hb4.size; have z5 := hb5.size; have z6 := hb6.size
    refine ⟨rfl, ?_⟩
    (repeat (first | with_reducible exact Below.refl _ _ | with_reducible assumption | refine Below.drew ?_ | refine below_drewN ?_ _ | (refine Below.alloc ?_ (by first | omega | (simp; done) | (simp; omega)) _) | (refine Below.setCell ?_ (by first | omega | (simp; done) | (simp; omega)) _) | (refine Below.trans ?_ (Below.mono (by assumption) (by first | omega | (simp; done) | (simp; omega))))))

/-- the same dictionary? -/
def sameB (l m : List Ab) (k : Nat) : Bool := if h : k < l.length ∧ k < m.length then !(l[k].1.toList == m[k].1.toList && l[k].2.toList == m[k].2.toList) else true
def sameL (l m : List Ab) : Bool := decide (l.length = m.length) && (firstAt (sameB l m) l.length).isNone
theorem sameL_len {l m : List Ab} (h : ¬ l.length = m.length) : sameL l m = false := by simp [sameL, h]
theorem sameL_hit {l m : List Ab} {k : Nat} (h : k < l.length) (hN : NoneUpTo (sameB l m) k) (hb : sameB l m k = true) : sameL l m = false := by
  unfold sameL; rw [first_hit hN hb h]; simp
theorem sameL_all {l m : List Ab} (h : l.length = m.length) (hN : NoneUpTo (sameB l m) l.length) : sameL l m = true := by
  unfold sameL; rw [first_none hN]; simp [h]
theorem sameB_get {l m : List Ab} {k : Nat} (h1 : k < l.length) (h2 : k < m.length) : sameB l m k = !(l[k].1.toList == m[k].1.toList && l[k].2.toList == m[k].2.toList) := by
  unfold sameB; rw [dif_pos ⟨h1, h2⟩]

set_option maxHeartbeats 2000000 in
theorem sSame_any (ao bo : Option Addr) (n n2 cap cap2 : Nat) (l m : List Ab) (w : World) (hn : n = l.length) (hn2 : n2 = m.length) (hr : Rd w ao (abs l)) (hr2 : Rd w bo (abs m)) (hm : n ≤ 1048576) (hm2 : n2 ≤ 1048576) :
    Calls Try.prog 26 #[.slice ao n cap, .slice bo n2 cap2] w fun e w' => e = .returned (.bool (sameL l m)) ∧ Below w.heap.size w w' := by
  have HN := hid hn
  have HN2 := hid hn2
  have hrd := rd_ab hr
  have hrd2 := rd_ab hr2
  clear hn hr hn2 hr2
  by_cases hne : n = n2
  · subst hne
    go_enter Try.func26, Try.ntmps26
    go_wp2_with fail
    go_loopw [5] (fun i wr => ∃ k : Nat, k ≤ n ∧ i = .int .i64 k ∧ NoneUpTo (sameB l m) k ∧ Below w.heap.size w wr) (fun i _ => n - (intOf i).toNat)
    case atStart => exact ⟨0, Nat.zero_le _, rfl, none_zero _, Below.refl _ _⟩
    case round =>
      obtain ⟨k, hk, rfl, hN, hB⟩ := hrel
      by_cases hlt : k < n
      · rcases hrd with hnil | ⟨b, o, rfl, hbl, hcell⟩
        · exact absurd (by rw [HN.out, hnil]; rfl : n = 0) (by omega)
        rcases hrd2 with hnil | ⟨b2, o2, rfl, hbl2, hcell2⟩
        · exact absurd (by rw [HN2.out, hnil]; rfl : n = 0) (by omega)
        have hkl : k < l.length := by rw [← HN.out]; exact hlt
        have hkm : k < m.length := by rw [← HN2.out]; exact hlt
        obtain ⟨h1, h2⟩ := hcell k hkl
        obtain ⟨h3, h4⟩ := hcell2 k hkm
        have g1 := (hB.cell (p := ⟨b, o + k * 2, none⟩) hbl).trans h1
        have g2 := (hB.cell (p := ⟨b, o + k * 2 + 1, none⟩) hbl).trans h2
        have g3 := (hB.cell (p := ⟨b2, o2 + k * 2, none⟩) hbl2).trans h3
        have g4 := (hB.cell (p := ⟨b2, o2 + k * 2 + 1, none⟩) hbl2).trans h4
        clear h1 h2 h3 h4 hcell hcell2
        have hk0 : (0 : Int) ≤ (k : Int) := by omega
        have hkn : (k : Int) < (n : Int) := by omega
        have hbw : b < wr.heap.size := Nat.lt_of_lt_of_le hbl hB.size
        have hbw2 : b2 < wr.heap.size := Nat.lt_of_lt_of_le hbl2 hB.size
        have hsb := hid (sameB_get hkl hkm)
        have hhit := hid (fun h => sameL_hit hkl hN h)
        have hnxt := hid (fun h => none_next hN h)
        generalize l[k] = x at *
        generalize m[k] = y at *
        cases e1 : (x.1.toList == y.1.toList) <;> cases e2 : (x.2.toList == y.2.toList)
        case true.true =>
          go_wp2_with fail
          refine wp_region_over (by kernel_rfl) (by kernel_rfl) (fun hov => ?_)
          repeat (go_big_quiet_step ((fail)))
          refine wpQuiet_nil ?_
          intro w5 hb5
          clear hov
          go_wp2
          go_roundw
          case rel => exact ⟨k + 1, by omega, by go_num, hnxt.out (by rw [hsb.out, e1, e2]; rfl), hB.trans (hb5.mono hB.size)⟩
          case measure => simp [intOf]; omega
        all_goals
          go_wp2_with fail
          refine wp_region_over (by kernel_rfl) (by kernel_rfl) (fun hov => ?_)
          repeat (go_big_quiet_step ((fail)))
          refine wpQuiet_nil ?_
          intro w5 hb5
          clear hov
          go_wp2
          go_ret
          exact ⟨ret_bool (hhit.out (by rw [hsb.out, e1, e2]; rfl)).symm, hB.trans (hb5.mono hB.size)⟩
      · obtain rfl : k = n := by omega
        have ha := hid (sameL_all (l := l) (m := m) (by rw [← HN.out, ← HN2.out]) (by rw [← HN.out]; exact hN))
        go_wp2
        go_ret
        exact ⟨ret_bool ha.out.symm, hB⟩
  · have hne1 : ((n : Int) != (n2 : Int)) = true := by simp; omega
    have ha := hid (sameL_len (l := l) (m := m) (by rw [← HN.out, ← HN2.out]; exact hne))
    go_enter Try.func26, Try.ntmps26
    go_wp2
    go_ret
    exact ⟨ret_bool ha.out.symm, Below.refl _ _⟩
set_option maxHeartbeats 2000000 in
theorem same_any (ao bo : Option Addr) (n n2 cap cap2 : Nat) (l m : List Ab) (w : World) (hn : n = l.length) (hn2 : n2 = m.length) (hr : Rd w ao (abs l)) (hr2 : Rd w bo (abs m)) (hm : n ≤ 1048576) (hm2 : n2 ≤ 1048576) :
    Calls Try.prog 27 #[.slice ao n cap, .slice bo n2 cap2] w fun e w' => e = .returned (.bool (sameL l m)) ∧ Below w.heap.size w w' := by
  have HN := hid hn
  have HN2 := hid hn2
  have hrd := rd_ab hr
  have hrd2 := rd_ab hr2
  clear hn hr hn2 hr2
  by_cases hne : n = n2
  · subst hne
    go_enter Try.func27, Try.ntmps27
    go_wp2_with fail
    go_loopw [5, 13] (fun _ i wr => ∃ k : Nat, k ≤ n ∧ i = .int .i64 k ∧ NoneUpTo (sameB l m) k ∧ Below w.heap.size w wr) (fun _ i _ => n - (intOf i).toNat)
    case atStart => exact ⟨0, Nat.zero_le _, rfl, none_zero _, Below.refl _ _⟩
    case round =>
      obtain ⟨k, hk, rfl, hN, hB⟩ := hrel
      by_cases hlt : k < n
      · rcases hrd with hnil | ⟨b, o, rfl, hbl, hcell⟩
        · exact absurd (by rw [HN.out, hnil]; rfl : n = 0) (by omega)
        rcases hrd2 with hnil | ⟨b2, o2, rfl, hbl2, hcell2⟩
        · exact absurd (by rw [HN2.out, hnil]; rfl : n = 0) (by omega)
        have hkl : k < l.length := by rw [← HN.out]; exact hlt
        have hkm : k < m.length := by rw [← HN2.out]; exact hlt
        obtain ⟨h1, h2⟩ := hcell k hkl
        obtain ⟨h3, h4⟩ := hcell2 k hkm
        have g1 := (hB.cell (p := ⟨b, o + k * 2, none⟩) hbl).trans h1
        have g2 := (hB.cell (p := ⟨b, o + k * 2 + 1, none⟩) hbl).trans h2
        have g3 := (hB.cell (p := ⟨b2, o2 + k * 2, none⟩) hbl2).trans h3
        have g4 := (hB.cell (p := ⟨b2, o2 + k * 2 + 1, none⟩) hbl2).trans h4
        clear h1 h2 h3 h4 hcell hcell2
        have hk0 : (0 : Int) ≤ (k : Int) := by omega
        have hkn : (k : Int) < (n : Int) := by omega
        have hbw : b < wr.heap.size := Nat.lt_of_lt_of_le hbl hB.size
        have hbw2 : b2 < wr.heap.size := Nat.lt_of_lt_of_le hbl2 hB.size
        have hsb := hid (sameB_get hkl hkm)
        have hhit := hid (fun h => sameL_hit hkl hN h)
        have hnxt := hid (fun h => none_next hN h)
        generalize l[k] = x at *
        generalize m[k] = y at *
        cases e1 : (x.1.toList == y.1.toList) <;> cases e2 : (x.2.toList == y.2.toList)
        case true.true =>
          go_wp2_with fail
          refine wp_region_over (by kernel_rfl) (by kernel_rfl) (fun hov => ?_)
          repeat (go_big_quiet_step ((fail)))
          refine wpQuiet_nil ?_
          intro w5 hb5
          clear hov
          go_wp2
          go_roundw
          case rel => exact ⟨k + 1, by omega, by go_num, hnxt.out (by rw [hsb.out, e1, e2]; rfl), hB.trans (hb5.mono hB.size)⟩
          case measure => simp [intOf]; omega
        all_goals
          go_wp2_with fail
          refine wp_region_over (by kernel_rfl) (by kernel_rfl) (fun hov => ?_)
          repeat (go_big_quiet_step ((fail)))
          refine wpQuiet_nil ?_
          intro w5 hb5
          clear hov
          go_wp2
          go_ret
          exact ⟨ret_bool (hhit.out (by rw [hsb.out, e1, e2]; rfl)).symm, hB.trans (hb5.mono hB.size)⟩
      · obtain rfl : k = n := by omega
        have ha := hid (sameL_all (l := l) (m := m) (by rw [← HN.out, ← HN2.out]) (by rw [← HN.out]; exact hN))
        go_wp2
        go_ret
        exact ⟨ret_bool ha.out.symm, hB⟩
  · have hne1 : ((n : Int) != (n2 : Int)) = true := by simp; omega
    have ha := hid (sameL_len (l := l) (m := m) (by rw [← HN.out, ← HN2.out]; exact hne))
    go_enter Try.func27, Try.ntmps27
    go_wp2
    go_ret
    exact ⟨ret_bool ha.out.symm, Below.refl _ _⟩

set_option maxHeartbeats 2000000 in
theorem lawSameAbbrs (w : World) (ao : Option Addr) (n cap : Nat) (l : List Ab) (ha : AbArg w ao n cap l) (bo : Option Addr) (n2 cap2 : Nat) (m : List Ab) (hb : AbArg w bo n2 cap2 m) :
    Calls Try.prog 6 #[.slice ao n cap, .slice bo n2 cap2] w fun e w' => e = .returned (.bool true) ∧ Below w.heap.size w w' := by
  obtain ⟨hn, hm, hr, hs⟩ := ha
  obtain ⟨kn, km, kr, ks⟩ := hb
  have HN := hid hn
  have KN := hid kn
  clear hn kn
  go_enter Try.func6, Try.ntmps6
  go_wp2_with fail
  refine (szAbbrS_any ao n cap l 1048576 _ (by omega) (by omega) HN.out hm hr hs).mono ?_
  rintro e w1 ⟨rfl, hb1⟩
  have hzl := szAllAb_le 1048576 n l (by omega)
  by_cases hz : szAllAb 1048576 n l < 0
  · go_wp2_with fail
    go_ret
    exact ⟨rfl, hb1⟩
  have h20 := szAllAb_len (by omega) hz
  have hr1 := rd_below hr hb1
  have kr1 := rd_below kr hb1
  go_wp2_with fail
  refine (szAbbrS_any bo n2 cap2 m _ _ (by omega) hzl KN.out km kr1 ks).mono ?_
  rintro e w2 ⟨rfl, hb2⟩
  by_cases kz : szAllAb (szAllAb 1048576 n l) n2 m < 0
  · go_wp2_with fail
    go_ret
    exact ⟨rfl, hb1.trans (hb2.mono hb1.size)⟩
  have k20 : n2 ≤ 1048576 := szAllAb_len (by omega) kz
  have hr2 := rd_below hr1 hb2
  have kr2 := rd_below kr1 hb2
  go_wp2_with fail
  refine (toAbbrS_any ao n cap l _ HN.out hr2 h20).mono ?_
  rintro e w3 ⟨co, cap3, rfl, ho3, hb3⟩
  have hr3 := rd_below hr2 hb3
  have kr3 := rd_below kr2 hb3
  go_wp2_with fail
  refine (toAbbrS_any bo n2 cap2 m _ KN.out kr3 k20).mono ?_
  rintro e w4 ⟨eo, cap4, rfl, ho4, hb4⟩
  have hr4 := rd_below hr3 hb4
  have kr4 := rd_below kr3 hb4
  go_wp2_with fail
  refine (sSame_any co eo n n2 cap3 cap4 l m _ HN.out KN.out (rd_below (owns_rdN ho3) hb4) (owns_rdN ho4) h20 k20).mono ?_
  rintro e w5 ⟨rfl, hb5⟩
  have hr5 := rd_below hr4 hb5
  have kr5 := rd_below kr4 hb5
  go_wp2_with fail
  refine (toAbbrS_any ao n cap l _ HN.out hr5 h20).mono ?_
  rintro e w6 ⟨fo, cap6, rfl, ho6, hb6⟩
  have hr6 := rd_below hr5 hb6
  have kr6 := rd_below kr5 hb6
  go_wp2_with fail
  refine (toAbbrS_any bo n2 cap2 m _ KN.out kr6 k20).mono ?_
  rintro e w7 ⟨go, cap7, rfl, ho7, hb7⟩
  have hr7 := rd_below hr6 hb7
  have kr7 := rd_below kr6 hb7
  have x7 := rd_below (owns_rdN ho6) hb7
  have y7 := owns_rdN ho7
  go_wp2_with fail
  refine (same_any fo go n n2 cap6 cap7 l m _ HN.out KN.out x7 y7 h20 k20).mono ?_
  rintro e w8 ⟨rfl, hb8⟩
  have hr8 := rd_below hr7 hb8
  have kr8 := rd_below kr7 hb8
  have x8 := rd_below x7 hb8
  have y8 := rd_below y7 hb8
  go_wp2_with fail
  refine (toAbbrS_any ao n cap l _ HN.out hr8 h20).mono ?_
  rintro e w9 ⟨io, cap9, rfl, ho9, hb9⟩
  have kr9 := rd_below kr8 hb9
  have y9 := rd_below y8 hb9
  go_wp2_with fail
  refine (eqAbbrS_any fo io l n cap6 cap9 _ HN.out (by omega) (rd_below x8 hb9) (owns_rdN ho9)).mono ?_
  rintro e w10 ⟨rfl, hb10⟩
  have kr10 := rd_below kr9 hb10
  have y10 := rd_below y9 hb10
  go_wp2_with fail
  refine (toAbbrS_any bo n2 cap2 m _ KN.out kr10 k20).mono ?_
  rintro e w11 ⟨jo, cap11, rfl, ho11, hb11⟩
  go_wp2_with fail
  refine (eqAbbrS_any go jo m n2 cap7 cap11 _ KN.out (by omega) (rd_below y10 hb11) (owns_rdN ho11)).mono ?_
  rintro e w12 ⟨rfl, hb12⟩
  go_wp2_with fail
  go_ret
  have z1 := hb1.size; have z2 := hb2.size; have z3 := hb3.size; have z4 := hb4.size; have z5 := hb5.size; have z6 := hb6.size; have z7 := hb7.size; have z8 := hb8.size; have z9 := hb9.size; have z10 := hb10.size; have z11 := hb11.size
  refine ⟨rfl, ?_⟩
  (repeat (first | with_reducible exact Below.refl _ _ | with_reducible assumption | refine Below.drew ?_ | refine below_drewN ?_ _ | (refine Below.alloc ?_ (by first | omega | (simp; done) | (simp; omega)) _) | (refine Below.setCell ?_ (by first | omega | (simp; done) | (simp; omega)) _) | (refine Below.trans ?_ (Below.mono (by assumption) (by first | omega | (simp; done) | (simp; omega))))))
end Go.Proofs.Ytkkfnmlomjlckaa
