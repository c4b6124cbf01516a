/-
  Walks of the abbreviations' functions: reading the text form.
-/
import Derived.Test.YtkkfnmlomjlckaaAbA
import Derived.Test.YtkkfnmlomjlckaaSlStr
import Derived.Test.YtkkfnmlomjlckaaFind
namespace Go.Proofs.Ytkkfnmlomjlckaa
open Go.RowKit
set_option linter.unusedVariables false
attribute [local go_sem ↓] Go.wp_at_zero Go.wp_at_succ

set_option maxHeartbeats 1000000 in
/-- two equal abbreviations -/
theorem eqAbbr_any (x y : ByteArray) (w : World) : Calls Try.prog 20 #[.agg #[.string x, .string y], .agg #[.string x, .string y]] w fun e w' => e = .returned (.bool true) ∧ Below w.heap.size w w' := by
  go_enter Try.func20, Try.ntmps20
  go_wp2
  go_ret
  refine ⟨rfl, ?_⟩
  (repeat (first | with_reducible exact Below.refl _ _ | with_reducible assumption | refine Below.drew ?_ | refine below_drewN ?_ _ | (refine Below.alloc ?_ (by first | omega | (simp; done) | (simp; omega)) _) | (refine Below.setCell ?_ (by first | omega | (simp; done) | (simp; omega)) _) | (refine Below.trans ?_ (Below.mono (by assumption) (by first | omega | (simp; done) | (simp; omega))))))

/-- the place of the one sign, where both parts are valid -/
def rdP (s : ByteArray) (k : Nat) : Bool := if h : k < s.size then ((s[k].toNat : Int) == 61) && abOk (s.extract 0 k) (s.extract (k + 1) s.size) else false
def rdR (s : ByteArray) : ByteArray × ByteArray × Bool := match firstAt (rdP s) s.size with | some k => (s.extract 0 k, s.extract (k + 1) s.size, true) | none => (⟨#[]⟩, ⟨#[]⟩, false)
def rdV (r : ByteArray × ByteArray × Bool) : Value := .tuple #[.agg #[.string r.1, .string r.2.1], .bool r.2.2]

theorem rd_none {s : ByteArray} (h : ∀ k, k < s.size → rdP s k = false) : rdR s = (⟨#[]⟩, ⟨#[]⟩, false) := by
  unfold rdR; rw [first_none h]
theorem rd_some {s : ByteArray} {p : Nat} (hp : p < s.size) (h : rdP s p = true) (hu : ∀ j, j < p → rdP s j = false) : rdR s = (s.extract 0 p, s.extract (p + 1) s.size, true) := by
  unfold rdR; rw [first_hit hu h hp]
theorem rdP_not {s : ByteArray} {k : Nat} (h : k < s.size) (hc : ¬ (s[k].toNat : Int) = 61) : rdP s k = false := by
  unfold rdP; rw [dif_pos h]; simp [hc]
theorem rdP_sign {s : ByteArray} {k : Nat} (h : k < s.size) (hc : (s[k].toNat : Int) = 61) : rdP s k = abOk (s.extract 0 k) (s.extract (k + 1) s.size) := by
  unfold rdP; rw [dif_pos h]; simp [hc]
theorem word_all {s : ByteArray} {m : Int} (h : wordB s m = true) : s.data.toList.all sm = true := by
  simp only [wordB, Bool.and_eq_true] at h; exact h.1
/-- two signs: no place serves -/
theorem rdP_two {s : ByteArray} {k q : Nat} (hk : k < s.size) (hq : q < s.size) (hne : q ≠ k) (hc : (s[q].toNat : Int) = 61) : rdP s k = false := by
  by_cases hk61 : (s[k].toNat : Int) = 61
  · rw [rdP_sign hk hk61]
    cases h : abOk (s.extract 0 k) (s.extract (k + 1) s.size)
    · rfl
    · obtain ⟨h1, h2, _⟩ := abOk_true h
      have hsm : sm s[q] = true := by
        by_cases hl : q < k
        · exact all_extract hq (Nat.zero_le _) hl (word_all h1)
        · exact all_extract hq (by omega) hq (word_all h2)
      rw [sm_lo (by omega)] at hsm
      exact hsm.symm
  · exact rdP_not hk hk61

set_option maxHeartbeats 4000000 in
theorem sRead_any (s : ByteArray) (w : World) (hs : s.size ≤ 1048576) : Calls Try.prog 18 #[.string s] w fun e w' => e = .returned (rdV (rdR s)) ∧ Below w.heap.size w w' := by
  go_enter Try.func18, Try.ntmps18
  go_wp2_with fail
  refine (split_any s 61 _ hs (by omega)).mono ?_
  rintro e w1 ⟨ao, cap, rfl, hown, hb⟩
  obtain ⟨hc, hf, hz⟩ := bcell hb
  have hl : w.heap.size < w1.heap.size := Nat.lt_of_lt_of_le (by simp) hz
  rw [strs_len]
  rcases spRun_kind s 61 s.size (Nat.le_refl _) with ⟨h1, h2⟩ | ⟨p, hp, h0, h1, h2, h3⟩ | ⟨h1, p, q, hp, hq, h2, h3, h4⟩
  · have hlen : (((splitL s 61).length : Int) != 2) = true := by simp [splitL, h2]
    have hr := hid (rd_none (s := s) fun k hk => rdP_not hk (h1 k hk hk))
    clear h1 h2
    go_wp2
    refine bodyPost_ret (v := rdV (⟨#[]⟩, ⟨#[]⟩, false)) (by simp [rdV, results, Try.results18, go_sem, hc]) rfl ⟨by rw [hr.out], ?_⟩
    (repeat (first | with_reducible exact Below.refl _ _ | with_reducible assumption | refine Below.drew ?_ | refine below_drewN ?_ _ | (refine Below.alloc ?_ (by first | omega | (simp; done) | (simp; omega)) _) | (refine Below.setCell ?_ (by first | omega | (simp; done) | (simp; omega)) _) | (refine Below.trans ?_ (Below.mono (by assumption) (by first | omega | (simp; done) | (simp; omega))))))
  · have hlen : splitL s 61 = [s.extract 0 p, s.extract (p + 1) s.size] := by simp [splitL, h3]
    rw [hlen] at hown ⊢
    have hA1 : (s.extract 0 p).size ≤ maxLen := by unfold maxLen; simp; omega
    have hB1 : (s.extract (p + 1) s.size).size ≤ maxLen := by unfold maxLen; simp; omega
    have hsign := hid (rdP_sign hp h1)
    have hno : ∀ j, j < s.size → j ≠ p → rdP s j = false := fun j hj hne => rdP_not hj (fun e => hne (h2 j hj hj e))
    have Hno := hid hno
    clear hno h1 h2 h3
    have hyes := hid (fun h => rd_some (s := s) hp h (fun j hj => Hno.out j (by omega) (by omega)))
    have hnot := hid (fun h => rd_none (s := s) fun k hk => by
      by_cases e : k = p
      · subst e; exact h
      · exact Hno.out k hk e)
    rw [hsign.out] at hyes hnot
    clear hsign Hno hlen
    generalize hAe : s.extract 0 p = A at *
    generalize hBe : s.extract (p + 1) s.size = B at *
    clear hAe hBe
    rcases owns_form hown with ⟨hv, hn0, hx0⟩ | ⟨g, c, hv, hBg, hgl, hnc, hcm⟩
    · simp [strs] at hx0
    · simp only [Value.slice.injEq] at hv
      obtain ⟨rfl, _, rfl⟩ := hv
      have hc0 : w1.cell? ⟨g, 0, none⟩ = some (.string A) := by rw [hown.cellAt 0 (by simp [strs])]; simp [strs]
      have hc1 : w1.cell? ⟨g, 1, none⟩ = some (.string B) := by rw [hown.cellAt 1 (by simp [strs])]; simp [strs]
      have hgne : w1.heap.size ≠ g := by omega
      clear hown
      simp only [List.length_cons, List.length_nil, Nat.zero_add]
      cases hok : abOk A B
      all_goals
        go_wp2_with fail
        go_region_held3 (fun w' => w'.cell? ⟨g, 0, none⟩ = some (.string A) ∧ w'.cell? ⟨g, 1, none⟩ = some (.string B)) (go_keep) (fail)
        have hl2 : w.heap.size < w1.heap.size + 1 := by omega
        go_wp2_with (go_at_call 52; refine (one_any _ _ A B _ hA1 hB1 (by go_simp) (by go_simp)).mono ?_; rintro e w' ⟨rfl, hb⟩; obtain ⟨hc, hf, hz⟩ := bcell hb; have hl : w.heap.size < w'.heap.size := Nat.lt_of_lt_of_le (by first | assumption | (simp; done) | (simp; omega)) hz)
      · refine bodyPost_ret (v := rdV (⟨#[]⟩, ⟨#[]⟩, false)) (by simp [rdV, results, Try.results18, go_sem, *]) rfl ⟨by rw [hnot.out hok], ?_⟩
        (repeat (first | with_reducible exact Below.refl _ _ | with_reducible assumption | refine Below.drew ?_ | refine below_drewN ?_ _ | (refine Below.alloc ?_ (by first | omega | (simp; done) | (simp; omega)) _) | (refine Below.setCell ?_ (by first | omega | (simp; done) | (simp; omega)) _) | (refine Below.trans ?_ (Below.mono (by assumption) (by first | omega | (simp; done) | (simp; omega))))))
      · refine bodyPost_ret (v := rdV (A, B, true)) (by simp [rdV, results, Try.results18, go_sem, *]) rfl ⟨by rw [hyes.out hok], ?_⟩
        (repeat (first | with_reducible exact Below.refl _ _ | with_reducible assumption | refine Below.drew ?_ | refine below_drewN ?_ _ | (refine Below.alloc ?_ (by first | omega | (simp; done) | (simp; omega)) _) | (refine Below.setCell ?_ (by first | omega | (simp; done) | (simp; omega)) _) | (refine Below.trans ?_ (Below.mono (by assumption) (by first | omega | (simp; done) | (simp; omega))))))
  · have hlen : (((splitL s 61).length : Int) != 2) = true := by simp [splitL]; omega
    have hr := hid (rd_none (s := s) fun k hk => by
      by_cases e : k = p
      · exact rdP_two hk hq (by omega) h4
      · exact rdP_two hk hp (by omega) h3)
    clear h1 h2 h3 h4
    go_wp2
    refine bodyPost_ret (v := rdV (⟨#[]⟩, ⟨#[]⟩, false)) (by simp [rdV, results, Try.results18, go_sem, hc]) rfl ⟨by rw [hr.out], ?_⟩
    (repeat (first | with_reducible exact Below.refl _ _ | with_reducible assumption | refine Below.drew ?_ | refine below_drewN ?_ _ | (refine Below.alloc ?_ (by first | omega | (simp; done) | (simp; omega)) _) | (refine Below.setCell ?_ (by first | omega | (simp; done) | (simp; omega)) _) | (refine Below.trans ?_ (Below.mono (by assumption) (by first | omega | (simp; done) | (simp; omega))))))

theorem boxAb {w : World} {x y : ByteArray} {T : TypeId} {W1 : World} (h : Below (w.heap.size + 1) (w.alloc (.cells #[.string x, .string y] T)) W1) :
    W1.cell? ⟨w.heap.size, 0, none⟩ = some (.string x) ∧ W1.cell? ⟨w.heap.size, 1, none⟩ = some (.string y) ∧ W1.frozen? ⟨w.heap.size, 0, none⟩ = false ∧ W1.frozen? ⟨w.heap.size, 1, none⟩ = false ∧ w.heap.size < W1.heap.size := by
  have hz : w.heap.size < W1.heap.size := by have := h.size; simp at this; omega
  exact ⟨(h.cell (p := ⟨w.heap.size, 0, none⟩) (by simp)).trans (by go_simp), (h.cell (p := ⟨w.heap.size, 1, none⟩) (by simp)).trans (by go_simp), (h.frozen (p := ⟨w.heap.size, 0, none⟩) (by simp)).trans (by go_simp), (h.frozen (p := ⟨w.heap.size, 1, none⟩) (by simp)).trans (by go_simp), hz⟩
theorem boxAbBelow {w : World} {o : Obj} {W1 w' : World} (h : Below (w.heap.size + 1) (w.alloc o) W1) (hb : Below W1.heap.size W1 w') : Below (w.heap.size + 1) (w.alloc o) w' :=
  h.trans (hb.mono (by have := h.size; simp at this; omega))
theorem boxAbOut {w : World} {o : Obj} {W1 : World} (h : Below (w.heap.size + 1) (w.alloc o) W1) : Below w.heap.size w W1 :=
  ((Below.refl _ _).alloc (Nat.le_refl _) o).trans (h.mono (by omega))

set_option maxHeartbeats 4000000 in
theorem read_any (s : ByteArray) (w : World) (hs : s.size ≤ 1048576) : Calls Try.prog 19 #[.string s] w fun e w' => e = .returned (rdV (rdR s)) ∧ Below w.heap.size w w' := by
  go_enter Try.func19, Try.ntmps19
  go_wp2_with fail
  go_loopw [4, 5, 8] (fun _ _ i wr => ∃ k : Nat, k ≤ s.size ∧ i = .int .i64 k ∧ NoneUpTo (rdP s) k ∧ Below (w.heap.size + 1) (w.alloc (.cells #[.string ⟨#[]⟩, .string ⟨#[]⟩] 26)) wr) (fun _ _ i _ => s.size - (intOf i).toNat)
  case atStart => exact ⟨0, Nat.zero_le _, rfl, none_zero _, Below.refl _ _⟩
  case round =>
    obtain ⟨k, hk, rfl, hN, hB⟩ := hrel
    obtain ⟨hc0, hc1, hf0, hf1, hlt⟩ := boxAb hB
    by_cases hks : k < s.size
    · cases h61 : ((s[k].toNat : Int) == 61)
      · have hn := hid (none_next hN (rdP_not hks (by simpa using h61)))
        go_wp2
        go_roundw
        case rel => exact ⟨k + 1, by omega, by go_num, hn.out, hB⟩
        case measure => simp [intOf]; omega
      · have hsg := hid (rdP_sign hks (by simpa using h61))
        have hA1 : (s.extract 0 k).size ≤ maxLen := by unfold maxLen; simp; omega
        have hB1 : (s.extract (k + 1) s.size).size ≤ maxLen := by unfold maxLen; simp; omega
        have hk0 : (0 : Int) ≤ (k : Int) := by omega
        have hk1 : (k : Int) ≤ (s.size : Int) := by omega
        have hk2 : (k : Int) + 1 ≤ (s.size : Int) := by omega
        have hk3 : IntKind.i64.wrap ((k : Int) + 1) = (k : Int) + 1 := IntWalk.i64_in _ (by omega)
        have hk4 : (0 : Int) ≤ (k : Int) + 1 := by omega
        cases hok : abOk (s.extract 0 k) (s.extract (k + 1) s.size)
        all_goals
          go_wp2_with fail
          go_region_held3 (fun w' => Below (w.heap.size + 1) (w.alloc (.cells #[.string ⟨#[]⟩, .string ⟨#[]⟩] 26)) w') (first | exact Below.drew hB | exact Below.drew (Below.alloc hB (by omega) _)) (fail)
          have hB2 := ‹Below (w.heap.size + 1) _ (World.drew _)›
          have hl2 : w.heap.size < wr.heap.size + 1 := by omega
          go_wp2_with (go_at_call 53; refine (validAbbr_any _ _ _ hA1 hB1).mono ?_; rintro e w' ⟨rfl, hb⟩; obtain ⟨hc, hf, hz⟩ := bcell hb; have hl : w.heap.size < w'.heap.size := Nat.lt_of_lt_of_le (by first | assumption | (simp; done) | (simp; omega)) hz)
        · go_roundw
          case rel => exact ⟨k + 1, by omega, by go_num, none_next hN (by rw [hsg.out]; exact hok), boxAbBelow hB2 hb⟩
          case measure => simp [intOf]; omega
        · refine bodyPost_ret (v := rdV (s.extract 0 k, s.extract (k + 1) s.size, true)) (by simp [rdV, results, Try.results19, go_sem, *]) rfl ⟨by rw [rd_some hks (by rw [hsg.out]; exact hok) hN], ?_⟩
          have hB3 := boxAbOut (boxAbBelow hB2 hb)
          (repeat (first | with_reducible exact Below.refl _ _ | with_reducible assumption | refine Below.drew ?_ | refine below_drewN ?_ _ | (refine Below.alloc ?_ (by first | omega | (simp; done) | (simp; omega)) _) | (refine Below.setCell ?_ (by first | omega | (simp; done) | (simp; omega)) _) | (refine Below.trans ?_ (Below.mono (by assumption) (by first | omega | (simp; done) | (simp; omega))))))
    · obtain rfl : k = s.size := by omega
      have hr := hid (rd_none hN)
      go_wp2
      refine bodyPost_ret (v := rdV (⟨#[]⟩, ⟨#[]⟩, false)) (by simp [rdV, results, Try.results19, go_sem, *]) rfl ⟨by rw [hr.out], ?_⟩
      have hB3 := boxAbOut hB
      (repeat (first | with_reducible exact Below.refl _ _ | with_reducible assumption | refine Below.drew ?_ | refine below_drewN ?_ _ | (refine Below.alloc ?_ (by first | omega | (simp; done) | (simp; omega)) _) | (refine Below.setCell ?_ (by first | omega | (simp; done) | (simp; omega)) _) | (refine Below.trans ?_ (Below.mono (by assumption) (by first | omega | (simp; done) | (simp; omega))))))

set_option maxHeartbeats 1000000 in
theorem lawReadAbbr (s : ByteArray) (hs : s.size ≤ maxLen) (w : World) :
    Calls Try.prog 4 #[.string s] w fun e w' => e = .returned (.bool true) ∧ Below w.heap.size w w' := by
  by_cases hz : (1048576 : Int) < (s.size : Int)
  · go_enter Try.func4, Try.ntmps4
    go_wp2
    go_ret
    exact ⟨rfl, Below.refl _ _⟩
  · obtain ⟨a, ha⟩ : ∃ a, a = rdR s := ⟨_, rfl⟩
    obtain ⟨x, y, z⟩ := a
    have hr : rdV (rdR s) = .tuple #[.agg #[.string x, .string y], .bool z] := by rw [← ha]; rfl
    have HR := hid hr
    clear hr ha
    go_enter Try.func4, Try.ntmps4
    go_wp2_with fail
    refine (sRead_any s _ (by omega)).mono ?_
    rw [HR.out]
    rintro e w1 ⟨rfl, hb1⟩
    have hz1 := hb1.size
    go_wp2_with fail
    refine (read_any s _ (by omega)).mono ?_
    rw [HR.out]
    rintro e w2 ⟨rfl, hb2⟩
    obtain ⟨hc2, hf2, hz2⟩ := bcell hb2
    have hl2 : w1.heap.size < w2.heap.size := Nat.lt_of_lt_of_le (by simp) hz2
    go_wp2_with fail
    refine (eqAbbr_any _ _ _).mono ?_
    rintro e w3 ⟨rfl, hb3⟩
    go_wp2_with fail
    go_ret
    refine ⟨rfl, ?_⟩
    (repeat (first | with_reducible exact Below.refl _ _ | with_reducible assumption | refine Below.drew ?_ | refine below_drewN ?_ _ | (refine Below.alloc ?_ (by first | omega | (simp; done) | (simp; omega)) _) | (refine Below.setCell ?_ (by first | omega | (simp; done) | (simp; omega)) _) | (refine Below.trans ?_ (Below.mono (by assumption) (by first | omega | (simp; done) | (simp; omega))))))
end Go.Proofs.Ytkkfnmlomjlckaa
