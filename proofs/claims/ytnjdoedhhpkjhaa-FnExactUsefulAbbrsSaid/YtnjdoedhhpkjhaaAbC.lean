/-
  Walks: is a dictionary valid?
-/
import Derived.Test.YtnjdoedhhpkjhaaSlAb
import Derived.Test.YtnjdoedhhpkjhaaOver
namespace Go.Proofs.Ytnjdoedhhpkjhaa
open Go.RowKit
set_option linter.unusedVariables false
attribute [local go_sem ↓] Go.wp_at_zero Go.wp_at_succ

/-- of two texts one is less, or they are equal -/
theorem bytesLess_tri (a : List UInt8) : ∀ b, (!(Op.bytesLess a b)) = (Op.bytesLess b a || b == a) := by
  induction a with
  | nil => intro b; cases b <;> simp [Op.bytesLess]
  | cons x a ih =>
    intro b
    cases b with
    | nil => simp [Op.bytesLess]
    | cons y b =>
      simp only [Op.bytesLess]
      have := ih b
      by_cases h1 : x < y
      · have h2 : ¬ y < x := by
          rw [UInt8.lt_iff_toNat_lt] at h1 ⊢; omega
        have h3 : ¬ y = x := by
          intro e; subst e; rw [UInt8.lt_iff_toNat_lt] at h1; omega
        simp [h1, h2, h3]
      · by_cases h2 : y < x
        · have h3 : ¬ x = y := by
            intro e; subst e; rw [UInt8.lt_iff_toNat_lt] at h2; omega
          simp [h1, h2, h3]
        · have h3 : x = y := by
            apply UInt8.toNat_inj.1
            rw [UInt8.lt_iff_toNat_lt] at h1 h2; omega
          subst h3
          simp [h1, this]

def geB (a b : ByteArray) : Bool := !(Op.bytesLess a.toList b.toList)
theorem geB_leq (a b : ByteArray) : (Op.bytesLess b.toList a.toList || b.toList == a.toList) = geB a b := (bytesLess_tri _ _).symm
/-- is something wrong at place k? -/
def badB (l : List Ab) (k : Nat) : Bool := if h : k < l.length then !(abOk l[k].1 l[k].2) || (if h0 : 0 < k then geB (l[k - 1]'(by omega)).1 l[k].1 else false) else false
def okL (l : List Ab) : Bool := (firstAt (badB l) l.length).isNone && decide (l.length ≤ 30)
theorem badB_one {l : List Ab} {k : Nat} (h : k < l.length) (ho : abOk l[k].1 l[k].2 = false) : badB l k = true := by
  unfold badB; rw [dif_pos h, ho]; rfl
theorem badB_first {l : List Ab} (h : 0 < l.length) (ho : abOk l[0].1 l[0].2 = true) : badB l 0 = false := by
  unfold badB; rw [dif_pos h, ho]; rfl
theorem badB_next {l : List Ab} {j : Nat} (h : j + 1 < l.length) (ho : abOk l[j + 1].1 l[j + 1].2 = true) : badB l (j + 1) = geB l[j].1 l[j + 1].1 := by
  unfold badB; rw [dif_pos h, ho, dif_pos (by omega)]; simp
theorem okL_bad {l : List Ab} {k : Nat} (h : k < l.length) (hN : NoneUpTo (badB l) k) (hb : badB l k = true) : okL l = false := by
  unfold okL; rw [first_hit hN hb h]; rfl
theorem okL_all {l : List Ab} (hN : NoneUpTo (badB l) l.length) : okL l = decide (l.length ≤ 30) := by
  unfold okL; rw [first_none hN]; simp

theorem one_q {r : Bool} (b o : Nat) (x y : ByteArray) (w : World) (hx : x.size ≤ maxLen) (hy : y.size ≤ maxLen) (h1 : w.cell? ⟨b, o, none⟩ = some (.string x)) (h2 : w.cell? ⟨b, o + 1, none⟩ = some (.string y)) (hr : abOk x y = r) :
    Calls Try.prog 79 #[.pointer (some ⟨b, o, none⟩)] w fun e w' => e = .returned (.bool r) ∧ ∃ m, w' = w.drewN m := by
  subst hr
  have hx' := hx
  have hy' := hy
  unfold maxLen at hx' hy'
  cases h3 : wordB x 8 <;> cases h4 : wordB y 30 <;> by_cases h5 : (x.size : Int) < (y.size : Int)
  all_goals
    go_enter Try.func79, Try.ntmps79
    go_wp2_with fail
    go_quiet ((go_at_call 81; first | with_reducible exact qs (sWord_b _ _ _ hx h3) | with_reducible exact qs (sWord_b _ _ _ hy h4)))
    go_wp2
    go_ret
    exact ⟨ret_bool (by simp [abOk, h3, h4]; try omega), _, rfl⟩

set_option maxHeartbeats 4000000 in
theorem sOk_any (ao : Option Addr) (n cap : Nat) (l : List Ab) (w : World) (hn : n = l.length) (hr : Rd w ao (abs l)) (hs : abSmall l) (hm : n ≤ 1048576) :
    Calls Try.prog 56 #[.slice ao n cap] w fun e w' => e = .returned (.bool (okL l)) ∧ Below w.heap.size w w' := by
  have HN := hid hn
  have hrd := rd_ab hr
  clear hn hr
  go_enter Try.func56, Try.ntmps56
  go_wp2_with fail
  go_loopw [3] (fun i wr => ∃ k : Nat, k ≤ n ∧ i = .int .i64 k ∧ NoneUpTo (badB l) k ∧ Below w.heap.size w wr) (fun i _ => n - (intOf i).toNat)
  case atStart => exact ⟨0, Nat.zero_le _, rfl, none_zero _, Below.refl _ _⟩
  case round =>
    obtain ⟨k, hk, rfl, hN, hB⟩ := hrel
    by_cases hlt : k < n
    · rcases hrd with hnil | ⟨b, o, rfl, hbl, hcell⟩
      · exact absurd (by rw [HN.out, hnil]; rfl : n = 0) (by omega)
      · have hkl : k < l.length := by rw [← HN.out]; exact hlt
        obtain ⟨h1, h2⟩ := hcell k hkl
        obtain ⟨hs1, hs2⟩ := abSmall_get hs k hkl
        have g1 := (hB.cell (p := ⟨b, o + k * 2, none⟩) hbl).trans h1
        have g2 := (hB.cell (p := ⟨b, o + k * 2 + 1, none⟩) hbl).trans h2
        clear h1 h2
        have hk0 : (0 : Int) ≤ (k : Int) := by omega
        have hkn : (k : Int) < (n : Int) := by omega
        cases hok : abOk l[k].1 l[k].2
        · have hbad := hid (okL_bad hkl hN (badB_one hkl hok))
          generalize l[k] = x at *
          go_wp2_with fail
          go_quiet ((go_at_call 79; with_reducible exact Calls.quiet_of (one_q _ _ x.1 x.2 _ hs1 hs2 (by simp [*]) (by simp [*]) hok)))
          go_wp2
          go_ret
          exact ⟨ret_bool hbad.out.symm, by (repeat (first | with_reducible exact Below.refl _ _ | with_reducible assumption | refine Below.drew ?_ | refine below_drewN ?_ _ | (refine Below.alloc ?_ (by first | omega | (simp; done) | (simp; omega)) _) | (refine Below.setCell ?_ (by first | omega | (simp; done) | (simp; omega)) _) | (refine Below.trans ?_ (Below.mono (by assumption) (by first | omega | (simp; done) | (simp; omega))))))⟩
        · rcases Nat.eq_zero_or_pos k with hz | hpos
          · have hgood := hid (none_next hN (by subst hz; exact badB_first hkl hok))
            have hd : decide ((0 : Int) < (k : Int)) = false := by simp; omega
            have hdN : decide (0 < k) = false := by simp; omega
            clear hz
            generalize l[k] = x at *
            go_wp2_with fail
            go_quiet ((go_at_call 79; with_reducible exact Calls.quiet_of (one_q _ _ x.1 x.2 _ hs1 hs2 (by simp [*]) (by simp [*]) hok)))
            go_wp2
            go_roundw
            case rel => exact ⟨k + 1, by omega, by go_num, hgood.out, by (repeat (first | with_reducible exact Below.refl _ _ | with_reducible assumption | refine Below.drew ?_ | refine below_drewN ?_ _ | (refine Below.alloc ?_ (by first | omega | (simp; done) | (simp; omega)) _) | (refine Below.setCell ?_ (by first | omega | (simp; done) | (simp; omega)) _) | (refine Below.trans ?_ (Below.mono (by assumption) (by first | omega | (simp; done) | (simp; omega))))))⟩
            case measure => simp [intOf]; omega
          · obtain ⟨j, hj⟩ : ∃ j, k = j + 1 := ⟨k - 1, by omega⟩
            have hjl : j < l.length := by omega
            have hbj : badB l k = geB l[j].1 l[k].1 := by subst hj; exact badB_next hkl hok
            obtain ⟨f1, f2⟩ := hcell j hjl
            have g3 := (hB.cell (p := ⟨b, o + j * 2, none⟩) hbl).trans f1
            clear f1 f2 hcell
            have hd : decide ((0 : Int) < (k : Int)) = true := by simp; omega
            have hdN : decide (0 < k) = true := by simp; omega
            have e1 : IntKind.i64.wrap ((k : Int) - 1) = (j : Int) := by rw [hj]; simp; exact IntWalk.i64_in _ (by omega)
            have e2 : (k : Int) - 1 = (j : Int) := by omega
            have e3 : IntKind.i64.wrap (j : Int) = (j : Int) := IntWalk.i64_in _ (by omega)
            have hj0 : (0 : Int) ≤ (j : Int) := by omega
            have hjn : (j : Int) < (n : Int) := by omega
            have HJ := hid hj
            clear hj
            cases hge : Op.bytesLess l[j].1.toList l[k].1.toList
            · have hbad := hid (okL_bad hkl hN (by rw [hbj]; simp [geB, hge]))
              clear hbj
              generalize l[k] = x at *
              generalize l[j] = y at *
              go_wp2_with fail
              go_quiet ((go_at_call 79; with_reducible exact Calls.quiet_of (one_q _ _ x.1 x.2 _ hs1 hs2 (by simp [*]) (by simp [*]) hok)))
              go_wp2
              go_ret
              exact ⟨ret_bool hbad.out.symm, by (repeat (first | with_reducible exact Below.refl _ _ | with_reducible assumption | refine Below.drew ?_ | refine below_drewN ?_ _ | (refine Below.alloc ?_ (by first | omega | (simp; done) | (simp; omega)) _) | (refine Below.setCell ?_ (by first | omega | (simp; done) | (simp; omega)) _) | (refine Below.trans ?_ (Below.mono (by assumption) (by first | omega | (simp; done) | (simp; omega))))))⟩
            · have hgood := hid (none_next hN (by rw [hbj]; simp [geB, hge]))
              clear hbj
              generalize l[k] = x at *
              generalize l[j] = y at *
              go_wp2_with fail
              go_quiet ((go_at_call 79; with_reducible exact Calls.quiet_of (one_q _ _ x.1 x.2 _ hs1 hs2 (by simp [*]) (by simp [*]) hok)))
              go_wp2
              go_roundw
              case rel => exact ⟨k + 1, by omega, by go_num, hgood.out, by (repeat (first | with_reducible exact Below.refl _ _ | with_reducible assumption | refine Below.drew ?_ | refine below_drewN ?_ _ | (refine Below.alloc ?_ (by first | omega | (simp; done) | (simp; omega)) _) | (refine Below.setCell ?_ (by first | omega | (simp; done) | (simp; omega)) _) | (refine Below.trans ?_ (Below.mono (by assumption) (by first | omega | (simp; done) | (simp; omega))))))⟩
              case measure => simp [intOf]; omega
    · obtain rfl : k = n := by omega
      have ha := hid (show okL l = decide (l.length ≤ 30) by rw [HN.out] at hN; exact okL_all hN)
      by_cases h30 : (k : Int) ≤ 30
      all_goals
        go_wp2
        go_ret
        exact ⟨ret_bool (by rw [ha.out, ← HN.out]; simp; omega), hB⟩

theorem validAbbr_b {r : Bool} (x y : ByteArray) (w : World) (hx : x.size ≤ maxLen) (hy : y.size ≤ maxLen) (h : abOk x y = r) :
    Calls Try.prog 82 #[.agg #[.string x, .string y]] w fun e w' => e = .returned (.bool r) ∧ Below w.heap.size w w' := by
  subst h; exact validAbbr_any x y w hx hy
set_option maxHeartbeats 4000000 in
theorem ok_any (ao : Option Addr) (n cap : Nat) (l : List Ab) (w : World) (hn : n = l.length) (hr : Rd w ao (abs l)) (hs : abSmall l) (hm : n ≤ 1048576) :
    Calls Try.prog 58 #[.slice ao n cap] w fun e w' => e = .returned (.bool (okL l)) ∧ Below w.heap.size w w' := by
  have HN := hid hn
  have hrd := rd_ab hr
  clear hn hr
  go_enter Try.func58, Try.ntmps58
  go_wp2_with fail
  go_loopw [3, 4, 7] (fun _ _ i wr => ∃ k : Nat, k ≤ n ∧ i = .int .i64 k ∧ NoneUpTo (badB l) k ∧ Below w.heap.size w wr) (fun _ _ i _ => n - (intOf i).toNat)
  case atStart => exact ⟨0, Nat.zero_le _, rfl, none_zero _, Below.refl _ _⟩
  case round =>
    obtain ⟨k, hk, rfl, hN, hB⟩ := hrel
    have hz := hB.size
    by_cases hlt : k < n
    · rcases hrd with hnil | ⟨b, o, rfl, hbl, hcell⟩
      · exact absurd (by rw [HN.out, hnil]; rfl : n = 0) (by omega)
      · have hkl : k < l.length := by rw [← HN.out]; exact hlt
        obtain ⟨h1, h2⟩ := hcell k hkl
        obtain ⟨hs1, hs2⟩ := abSmall_get hs k hkl
        have g1 := (hB.cell (p := ⟨b, o + k * 2, none⟩) hbl).trans h1
        have g2 := (hB.cell (p := ⟨b, o + k * 2 + 1, none⟩) hbl).trans h2
        have hbw : b < wr.heap.size := by omega
        clear h1 h2
        have hk0 : (0 : Int) ≤ (k : Int) := by omega
        have hkn : (k : Int) < (n : Int) := by omega
        cases hok : abOk l[k].1 l[k].2
        · have hbad := hid (okL_bad hkl hN (badB_one hkl hok))
          generalize l[k] = x at *
          go_wp2_with fail
          refine wp_region_over (by kernel_rfl) (by kernel_rfl) (fun hov => ?_)
          repeat (go_big_quiet_step (((go_at_call 82; with_reducible exact overCall (validAbbr_b _ _ _ hs1 hs2 hok)))))
          refine wpQuiet_nil ?_
          intro w5 hb5
          clear hov
          obtain ⟨hc5, hf5, hz5⟩ := bcell hb5
          go_wp2
          go_ret
          exact ⟨ret_bool hbad.out.symm, by (repeat (first | with_reducible exact Below.refl _ _ | with_reducible assumption | refine Below.drew ?_ | refine below_drewN ?_ _ | (refine Below.alloc ?_ (by first | omega | (simp; done) | (simp; omega)) _) | (refine Below.setCell ?_ (by first | omega | (simp; done) | (simp; omega)) _) | (refine Below.trans ?_ (Below.mono (by assumption) (by first | omega | (simp; done) | (simp; omega))))))⟩
        · rcases Nat.eq_zero_or_pos k with hz0 | hpos
          · have hgood := hid (none_next hN (by subst hz0; exact badB_first hkl hok))
            have hd : decide ((0 : Int) < (k : Int)) = false := by simp; omega
            have hdN : decide (0 < k) = false := by simp; omega
            clear hz0
            generalize l[k] = x at *
            go_wp2_with fail
            refine wp_region_over (by kernel_rfl) (by kernel_rfl) (fun hov => ?_)
            repeat (go_big_quiet_step (((go_at_call 82; with_reducible exact overCall (validAbbr_b _ _ _ hs1 hs2 hok)))))
            refine wpQuiet_nil ?_
            intro w5 hb5
            clear hov
            obtain ⟨hc5, hf5, hz5⟩ := bcell hb5
            go_wp2
            go_roundw
            case rel => exact ⟨k + 1, by omega, by go_num, hgood.out, by (repeat (first | with_reducible exact Below.refl _ _ | with_reducible assumption | refine Below.drew ?_ | refine below_drewN ?_ _ | (refine Below.alloc ?_ (by first | omega | (simp; done) | (simp; omega)) _) | (refine Below.setCell ?_ (by first | omega | (simp; done) | (simp; omega)) _) | (refine Below.trans ?_ (Below.mono (by assumption) (by first | omega | (simp; done) | (simp; omega))))))⟩
            case measure => simp [intOf]; omega
          · obtain ⟨j, hj⟩ : ∃ j, k = j + 1 := ⟨k - 1, by omega⟩
            have hjl : j < l.length := by omega
            have hbj : badB l k = geB l[j].1 l[k].1 := by subst hj; exact badB_next hkl hok
            rw [← geB_leq] at hbj
            obtain ⟨f1, f2⟩ := hcell j hjl
            have g3 := (hB.cell (p := ⟨b, o + j * 2, none⟩) hbl).trans f1
            clear f1 f2 hcell
            have hd : decide ((0 : Int) < (k : Int)) = true := by simp; omega
            have hdN : decide (0 < k) = true := by simp; omega
            have e1 : IntKind.i64.wrap ((k : Int) - 1) = (j : Int) := by rw [hj]; simp; exact IntWalk.i64_in _ (by omega)
            have e2 : (k : Int) - 1 = (j : Int) := by omega
            have e3 : IntKind.i64.wrap (j : Int) = (j : Int) := IntWalk.i64_in _ (by omega)
            have hj0 : (0 : Int) ≤ (j : Int) := by omega
            have hjn : (j : Int) < (n : Int) := by omega
            have HJ := hid hj
            clear hj
            cases hle : Op.bytesLess l[k].1.toList l[j].1.toList <;> cases heq : (l[k].1.toList == l[j].1.toList)
            case false.false =>
              have hgood := hid (none_next hN (by rw [hbj, hle, heq]; rfl))
              clear hbj
              generalize l[k] = x at *
              generalize l[j] = y at *
              go_wp2_with fail
              refine wp_region_over (by kernel_rfl) (by kernel_rfl) (fun hov => ?_)
              repeat (go_big_quiet_step (((go_at_call 82; with_reducible exact overCall (validAbbr_b _ _ _ hs1 hs2 hok)))))
              refine wpQuiet_nil ?_
              intro w5 hb5
              clear hov
              obtain ⟨hc5, hf5, hz5⟩ := bcell hb5
              go_wp2
              go_roundw
              case rel => exact ⟨k + 1, by omega, by go_num, hgood.out, by (repeat (first | with_reducible exact Below.refl _ _ | with_reducible assumption | refine Below.drew ?_ | refine below_drewN ?_ _ | (refine Below.alloc ?_ (by first | omega | (simp; done) | (simp; omega)) _) | (refine Below.setCell ?_ (by first | omega | (simp; done) | (simp; omega)) _) | (refine Below.trans ?_ (Below.mono (by assumption) (by first | omega | (simp; done) | (simp; omega))))))⟩
              case measure => simp [intOf]; omega
            all_goals
              have hbad := hid (okL_bad hkl hN (by rw [hbj, hle, heq]; rfl))
              clear hbj
              generalize l[k] = x at *
              generalize l[j] = y at *
              go_wp2_with fail
              refine wp_region_over (by kernel_rfl) (by kernel_rfl) (fun hov => ?_)
              repeat (go_big_quiet_step (((go_at_call 82; with_reducible exact overCall (validAbbr_b _ _ _ hs1 hs2 hok)))))
              refine wpQuiet_nil ?_
              intro w5 hb5
              clear hov
              obtain ⟨hc5, hf5, hz5⟩ := bcell hb5
              go_wp2
              go_ret
              exact ⟨ret_bool hbad.out.symm, by (repeat (first | with_reducible exact Below.refl _ _ | with_reducible assumption | refine Below.drew ?_ | refine below_drewN ?_ _ | (refine Below.alloc ?_ (by first | omega | (simp; done) | (simp; omega)) _) | (refine Below.setCell ?_ (by first | omega | (simp; done) | (simp; omega)) _) | (refine Below.trans ?_ (Below.mono (by assumption) (by first | omega | (simp; done) | (simp; omega))))))⟩
    · obtain rfl : k = n := by omega
      have ha := hid (show okL l = decide (l.length ≤ 30) by rw [HN.out] at hN; exact okL_all hN)
      by_cases h30 : (k : Int) ≤ 30
      all_goals
        go_wp2
        go_ret
        exact ⟨ret_bool (by rw [ha.out, ← HN.out]; simp; omega), hB⟩
end Go.Proofs.Ytnjdoedhhpkjhaa
