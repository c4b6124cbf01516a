/-
  Walks: is a text less? what follows where a word is put behind the shorter reading?
-/
import Derived.Test.YtnjdoedhhpkjhaaReach
import Derived.BigRegion
namespace Go.Proofs.Ytnjdoedhhpkjhaa
open Go.RowKit Go.ChangeShapes Go.WideShapes Go.Maps
set_option linter.unusedVariables false
attribute [local go_sem ↓] Go.wp_at_zero Go.wp_at_succ

theorem isLess_any (a b : ByteArray) (w : World) (ha : a.size ≤ maxLen) (hb : b.size ≤ maxLen) : Calls Try.prog 70 #[.string a, .string b] w fun e w' => e = .returned (.bool (decide (rk a < rk b))) ∧ w = w' := by
  unfold maxLen at ha hb
  rcases Nat.lt_trichotomy a.size b.size with h | h | h
  · have hR := hid (less_size h)
    have e1 : ((a.size : Int) != (b.size : Int)) = true := by simp; omega
    have e2 : (a.size : Int) < (b.size : Int) := by omega
    go_enter Try.func70, Try.ntmps70
    go_wp2
    go_ret
    exact ⟨ret_bool (by rw [decide_eq_true hR.out]), rfl⟩
  · have hR := hid (less_same h)
    have e1 : ((a.size : Int) != (b.size : Int)) = false := by simp; omega
    clear h
    go_enter Try.func70, Try.ntmps70
    go_wp2
    go_ret
    exact ⟨ret_bool hR.out, rfl⟩
  · have hR := hid (less_size h)
    have e1 : ((a.size : Int) != (b.size : Int)) = true := by simp; omega
    have e2 : ¬ (a.size : Int) < (b.size : Int) := by omega
    go_enter Try.func70, Try.ntmps70
    go_wp2
    go_ret
    exact ⟨ret_bool (by rw [decide_eq_false (Nat.not_lt.2 (Nat.le_of_lt hR.out))]), rfl⟩
theorem isLess_b {r : Bool} (a b : ByteArray) (w : World) (ha : a.size ≤ maxLen) (hb : b.size ≤ maxLen) (h : decide (rk a < rk b) = r) : Calls Try.prog 70 #[.string a, .string b] w fun e w' => e = .returned (.bool r) ∧ w = w' := by
  subst h; exact isLess_any a b w ha hb

def amV : Option Am → Value
  | some y => .tuple #[.agg #[.string y.1, .string y.2], .bool true]
  | none => .tuple #[.agg #[.string ⟨#[]⟩, .string ⟨#[]⟩], .bool false]

set_option maxRecDepth 100000 in
set_option maxHeartbeats 4000000 in
theorem after_any (x : Am) (v : ByteArray) (w : World) (h1 : x.1.size ≤ 1000) (h2 : x.2.size ≤ 1000) (h3 : v.size ≤ 1000) :
    Calls Try.prog 71 #[.agg #[.string x.1, .string x.2], .string v] w fun e w' => e = .returned (amV (nxt x v)) ∧ Below w.heap.size w w' := by
  obtain ⟨t, r⟩ := x
  simp only at h1 h2
  have hr : r.size ≤ maxLen := by unfold maxLen; omega
  have hv : v.size ≤ maxLen := by unfold maxLen; omega
  cases hp : preB r v
  · cases hq : preB v r
    · have hR := hid (nxt_none (x := (t, r)) hq hp)
      go_enter Try.func71, Try.ntmps71
      go_wp2_with (go_at_call 97; first | (with_reducible refine (hasPre_b _ _ _ hr hv hp).mono ?_; rintro e w' ⟨rfl, rfl⟩) | (with_reducible refine (hasPre_b _ _ _ hv hr hq).mono ?_; rintro e w' ⟨rfl, rfl⟩))
      refine bodyPost_ret (v := amV none) (by simp [amV, results, Try.results71, go_sem, *]) rfl ⟨by rw [hR.out], ?_⟩
      (repeat (first | with_reducible exact Below.refl _ _ | with_reducible assumption | refine Below.drew ?_ | refine below_drewN ?_ _ | (refine Below.alloc ?_ (by first | omega | (simp; done) | (simp; omega)) _) | (refine Below.setCell ?_ (by first | omega | (simp; done) | (simp; omega)) _) | (refine Below.trans ?_ (Below.mono (by assumption) (by first | omega | (simp; done) | (simp; omega))))))
    · have hR := hid (nxt_more (x := (t, r)) hq)
      have hz := preB_sz hq
      have hzi : (r.size : Int) ≤ (v.size : Int) := by omega
      go_enter Try.func71, Try.ntmps71
      go_wp2_with (go_at_call 97; first | (with_reducible refine (hasPre_b _ _ _ hr hv hp).mono ?_; rintro e w' ⟨rfl, rfl⟩) | (with_reducible refine (hasPre_b _ _ _ hv hr hq).mono ?_; rintro e w' ⟨rfl, rfl⟩))
      refine bodyPost_ret (v := amV (some (t ++ v.extract r.size v.size, v.extract r.size v.size))) (by simp [amV, results, Try.results71, go_sem, *]) rfl ⟨by rw [hR.out], ?_⟩
      (repeat (first | with_reducible exact Below.refl _ _ | with_reducible assumption | refine Below.drew ?_ | refine below_drewN ?_ _ | (refine Below.alloc ?_ (by first | omega | (simp; done) | (simp; omega)) _) | (refine Below.setCell ?_ (by first | omega | (simp; done) | (simp; omega)) _) | (refine Below.trans ?_ (Below.mono (by assumption) (by first | omega | (simp; done) | (simp; omega))))))
  · have hR := hid (nxt_less (x := (t, r)) hp)
    have hz := preB_sz hp
    have hzi : (v.size : Int) ≤ (r.size : Int) := by omega
    go_enter Try.func71, Try.ntmps71
    go_wp2_with (go_at_call 97; with_reducible refine (hasPre_b _ _ _ hr hv hp).mono ?_; rintro e w' ⟨rfl, rfl⟩)
    go_region
    go_wp2
    refine bodyPost_ret (v := amV (some (t, r.extract v.size r.size))) (by simp [amV, results, Try.results71, go_sem, *]) rfl ⟨by rw [hR.out], ?_⟩
    (repeat (first | with_reducible exact Below.refl _ _ | with_reducible assumption | refine Below.drew ?_ | refine below_drewN ?_ _ | (refine Below.alloc ?_ (by first | omega | (simp; done) | (simp; omega)) _) | (refine Below.setCell ?_ (by first | omega | (simp; done) | (simp; omega)) _) | (refine Below.trans ?_ (Below.mono (by assumption) (by first | omega | (simp; done) | (simp; omega))))))
end Go.Proofs.Ytnjdoedhhpkjhaa
