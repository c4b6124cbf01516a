/-
  Walks of the functions of carbon copies: how many copies of a typing can be read, how many typings are needed.
-/
import Derived.Test.YtkimlkpepgeolaaOver
namespace Go.Proofs.Ytkimlkpepgeolaa
open Go.RowKit
set_option linter.unusedVariables false

def inB (n lo hi : Int) : Bool := decide (lo ≤ n ∧ n ≤ hi)
theorem inB_true {n lo hi : Int} (h : inB n lo hi = true) : lo ≤ n ∧ n ≤ hi := by simpa [inB] using h
def carbOk (f s e : Int) : Bool := inB f 1 1000 && inB s 1 1000 && inB e 1 f
theorem carbOk_true {f s e : Int} (h : carbOk f s e = true) : 1 ≤ f ∧ f ≤ 1000 ∧ 1 ≤ s ∧ s ≤ 1000 ∧ 1 ≤ e ∧ e ≤ f := by
  simp only [carbOk, Bool.and_eq_true] at h
  have a := inB_true h.1.1; have b := inB_true h.1.2; have c := inB_true h.2
  omega
def goodI (f s e : Int) : Int := min 12 ((f - e) / s + 1)
theorem good_bd {f s e : Int} (h1 : 1 ≤ s) (h2 : e ≤ f) : 1 ≤ goodI f s e ∧ goodI f s e ≤ 12 := by
  have := Int.ediv_nonneg (show 0 ≤ f - e by omega) (show 0 ≤ s by omega)
  unfold goodI; omega
def typI (f s e n : Int) : Int := (n + goodI f s e - 1) / goodI f s e
def typR (f s e n : Int) : Int × Int := if carbOk f s e = true then if inB n 0 500 = true then (typI f s e n, 0) else (0, 2) else (0, 1)

theorem in_any (n lo hi : Int) (w : World) : Calls Try.prog 40 #[.int .i64 n, .int .i64 lo, .int .i64 hi] w fun e w' => e = .returned (.bool (inB n lo hi)) ∧ w = w' := by
  by_cases h1 : lo ≤ n <;> by_cases h2 : n ≤ hi
  all_goals
    go_enter Try.func40, Try.ntmps40
    go_wp2
    go_ret
    exact ⟨by simp [inB, h1, h2], rfl⟩
theorem between_any (n lo hi : Int) (w : World) : Calls Try.prog 26 #[.int .i64 n, .int .i64 lo, .int .i64 hi] w fun e w' => e = .returned (.bool (inB n lo hi)) ∧ w = w' := by
  by_cases h1 : lo ≤ n <;> by_cases h2 : n ≤ hi
  all_goals
    go_enter Try.func26, Try.ntmps26
    go_wp2
    go_ret
    exact ⟨by simp [inB, h1, h2], rfl⟩
theorem min_any (a b : Int) (w : World) : Calls Try.prog 47 #[.int .i64 a, .int .i64 b] w fun e w' => e = .returned (.int .i64 (min a b)) ∧ w = w' := by
  by_cases h : a < b
  all_goals
    go_enter Try.func47, Try.ntmps47
    go_wp2
    go_ret
    exact ⟨ret_int (by omega), rfl⟩
theorem many_any (n : Int) (w : World) : Calls Try.prog 28 #[.int .i64 n] w fun e w' => e = .returned (.bool (inB n 0 500)) ∧ w = w' := by
  go_enter Try.func28, Try.ntmps28
  go_wp2_with (go_at_call 40; refine (in_any _ _ _ _).mono ?_; rintro e w' ⟨rfl, rfl⟩)
  go_ret
  exact ⟨rfl, rfl⟩
theorem toCarbon_any (s i t : Int) (w : World) : Calls Try.prog 15 #[.agg #[.int .i64 s, .int .i64 i, .int .i64 t]] w fun e w' => e = .returned (.agg #[.int .i64 s, .int .i64 i, .int .i64 t]) ∧ Below w.heap.size w w' := by
  go_enter Try.func15, Try.ntmps15
  go_wp2
  refine bodyPost_ret (v := .agg #[.int .i64 s, .int .i64 i, .int .i64 t]) (by simp [results, Try.results15, go_sem]) rfl ⟨rfl, ?_⟩
  (repeat (first | with_reducible exact Below.refl _ _ | with_reducible assumption | refine Below.drew ?_ | refine below_drewN ?_ _ | (refine Below.alloc ?_ (by first | omega | (simp; done) | (simp; omega)) _) | (refine Below.setCell ?_ (by first | omega | (simp; done) | (simp; omega)) _) | (refine Below.trans ?_ (Below.mono (by assumption) (by first | omega | (simp; done) | (simp; omega))))))
theorem sOk_any (f s t : Int) (w : World) : Calls Try.prog 27 #[.agg #[.int .i64 f, .int .i64 s, .int .i64 t]] w fun e w' => e = .returned (.bool (carbOk f s t)) ∧ Below w.heap.size w w' := by
  cases h1 : inB f 1 1000 <;> cases h2 : inB s 1 1000 <;> cases h3 : inB t 1 f
  all_goals
    go_enter Try.func27, Try.ntmps27
    go_wp2_with (go_at_call 40; refine (in_any _ _ _ _).mono ?_; rintro e w' ⟨rfl, rfl⟩)
    go_ret
    refine ⟨ret_bool (by simp [carbOk, h1, h2, h3]), ?_⟩
    (repeat (first | with_reducible exact Below.refl _ _ | with_reducible assumption | refine Below.drew ?_ | refine below_drewN ?_ _ | (refine Below.alloc ?_ (by first | omega | (simp; done) | (simp; omega)) _) | (refine Below.setCell ?_ (by first | omega | (simp; done) | (simp; omega)) _) | (refine Below.trans ?_ (Below.mono (by assumption) (by first | omega | (simp; done) | (simp; omega))))))
theorem carb_impl (f s t : Int) : carbOk f s t = (inB f 1 1000 && inB t 1 1000 && inB s 1 1000 && decide (t ≤ f)) := by
  rw [Bool.eq_iff_iff]
  simp only [carbOk, inB, Bool.and_eq_true, decide_eq_true_eq]
  omega
theorem valid_any (f s t : Int) (w : World) : Calls Try.prog 30 #[.agg #[.int .i64 f, .int .i64 s, .int .i64 t]] w fun e w' => e = .returned (.bool (carbOk f s t)) ∧ Below w.heap.size w w' := by
  have hc := hid (carb_impl f s t)
  cases h1 : inB f 1 1000 <;> cases h2 : inB t 1 1000 <;> cases h3 : inB s 1 1000 <;> by_cases h4 : t ≤ f
  all_goals
    go_enter Try.func30, Try.ntmps30
    go_wp2_with (go_at_call 26; refine (between_any _ _ _ _).mono ?_; rintro e w' ⟨rfl, rfl⟩)
    go_ret
    refine ⟨ret_bool (by rw [hc.out]; simp [h1, h2, h3]; try omega), ?_⟩
    (repeat (first | with_reducible exact Below.refl _ _ | with_reducible assumption | refine Below.drew ?_ | refine below_drewN ?_ _ | (refine Below.alloc ?_ (by first | omega | (simp; done) | (simp; omega)) _) | (refine Below.setCell ?_ (by first | omega | (simp; done) | (simp; omega)) _) | (refine Below.trans ?_ (Below.mono (by assumption) (by first | omega | (simp; done) | (simp; omega))))))

theorem sGood_any (f s t : Int) (w : World) (h1 : 1 ≤ f) (h2 : f ≤ 1000) (h3 : 1 ≤ s) (h4 : s ≤ 1000) (h5 : 1 ≤ t) (h6 : t ≤ f) : Calls Try.prog 41 #[.agg #[.int .i64 f, .int .i64 s, .int .i64 t]] w fun e w' => e = .returned (.int .i64 (goodI f s t)) ∧ Below w.heap.size w w' := by
  have hq0 := Int.ediv_nonneg (show 0 ≤ f - t by omega) (show 0 ≤ s by omega)
  have hq1 : (f - t) / s ≤ f - t := Int.ediv_le_self _ (by omega)
  have e0 : IntKind.i64.wrap (f - t) = f - t := IntWalk.i64_in _ (by omega)
  have e1 : IntKind.i64.wrap ((f - t).tdiv s) = (f - t) / s := IntWalk.i64_quo _ _ ⟨by omega, by omega, by omega⟩
  have e2 : IntKind.i64.wrap ((f - t) / s + 1) = (f - t) / s + 1 := IntWalk.i64_in _ (by omega)
  have e3 : ¬ s = 0 := by omega
  go_enter Try.func41, Try.ntmps41
  go_wp2_with fail
  go_wp2_with (go_at_call 47; refine (min_any _ _ _).mono ?_; rintro e w' ⟨rfl, rfl⟩)
  go_ret
  refine ⟨rfl, ?_⟩
  (repeat (first | with_reducible exact Below.refl _ _ | with_reducible assumption | refine Below.drew ?_ | refine below_drewN ?_ _ | (refine Below.alloc ?_ (by first | omega | (simp; done) | (simp; omega)) _) | (refine Below.setCell ?_ (by first | omega | (simp; done) | (simp; omega)) _) | (refine Below.trans ?_ (Below.mono (by assumption) (by first | omega | (simp; done) | (simp; omega))))))
theorem good_any (f s t : Int) (w : World) (h1 : 1 ≤ f) (h2 : f ≤ 1000) (h3 : 1 ≤ s) (h4 : s ≤ 1000) (h5 : 1 ≤ t) (h6 : t ≤ f) : Calls Try.prog 42 #[.agg #[.int .i64 f, .int .i64 s, .int .i64 t]] w fun e w' => e = .returned (.int .i64 (goodI f s t)) ∧ Below w.heap.size w w' := by
  have hq0 := Int.ediv_nonneg (show 0 ≤ f - t by omega) (show 0 ≤ s by omega)
  have hq1 : (f - t) / s ≤ f - t := Int.ediv_le_self _ (by omega)
  have e0 : IntKind.i64.wrap (f - t) = f - t := IntWalk.i64_in _ (by omega)
  have e1 : IntKind.i64.wrap ((f - t).tdiv s) = (f - t) / s := IntWalk.i64_quo _ _ ⟨by omega, by omega, by omega⟩
  have e2 : IntKind.i64.wrap ((f - t) / s + 1) = (f - t) / s + 1 := IntWalk.i64_in _ (by omega)
  have e3 : ¬ s = 0 := by omega
  go_enter Try.func42, Try.ntmps42
  go_wp2
  all_goals
    go_ret
    refine ⟨ret_int (by unfold goodI; omega), ?_⟩
    (repeat (first | with_reducible exact Below.refl _ _ | with_reducible assumption | refine Below.drew ?_ | refine below_drewN ?_ _ | (refine Below.alloc ?_ (by first | omega | (simp; done) | (simp; omega)) _) | (refine Below.setCell ?_ (by first | omega | (simp; done) | (simp; omega)) _) | (refine Below.trans ?_ (Below.mono (by assumption) (by first | omega | (simp; done) | (simp; omega))))))
theorem sTyp_any (f s t n : Int) (w : World) (h1 : 1 ≤ f) (h2 : f ≤ 1000) (h3 : 1 ≤ s) (h4 : s ≤ 1000) (h5 : 1 ≤ t) (h6 : t ≤ f) (h7 : 0 ≤ n) (h8 : n ≤ 500) : Calls Try.prog 29 #[.agg #[.int .i64 f, .int .i64 s, .int .i64 t], .int .i64 n] w fun e w' => e = .returned (.int .i64 (typI f s t n)) ∧ Below w.heap.size w w' := by
  have hg := good_bd (f := f) h3 h6
  generalize hG : goodI f s t = g at hg
  have e0 : IntKind.i64.wrap (n + g) = n + g := IntWalk.i64_in _ (by omega)
  have e1 : IntKind.i64.wrap (n + g - 1) = n + g - 1 := IntWalk.i64_in _ (by omega)
  have e2 : IntKind.i64.wrap ((n + g - 1).tdiv g) = (n + g - 1) / g := IntWalk.i64_quo _ _ ⟨by omega, by omega, by omega⟩
  have e3 : ¬ g = 0 := by omega
  have hG := hid hG
  go_enter Try.func29, Try.ntmps29
  go_wp2_with fail
  go_at_call 41
  refine (sGood_any f s t _ h1 h2 h3 h4 h5 h6).mono ?_
  rw [hG.out]
  rintro e w' ⟨rfl, hb⟩
  go_wp2
  go_ret
  refine ⟨ret_int (by unfold typI; rw [hG.out]), ?_⟩
  (repeat (first | with_reducible exact Below.refl _ _ | with_reducible assumption | refine Below.drew ?_ | refine below_drewN ?_ _ | (refine Below.alloc ?_ (by first | omega | (simp; done) | (simp; omega)) _) | (refine Below.setCell ?_ (by first | omega | (simp; done) | (simp; omega)) _) | (refine Below.trans ?_ (Below.mono (by assumption) (by first | omega | (simp; done) | (simp; omega))))))
theorem iTyp_any (f s t n : Int) (w : World) (h1 : 1 ≤ f) (h2 : f ≤ 1000) (h3 : 1 ≤ s) (h4 : s ≤ 1000) (h5 : 1 ≤ t) (h6 : t ≤ f) (h7 : 0 ≤ n) (h8 : n ≤ 500) : Calls Try.prog 31 #[.agg #[.int .i64 f, .int .i64 s, .int .i64 t], .int .i64 n] w fun e w' => e = .returned (.int .i64 (typI f s t n)) ∧ Below w.heap.size w w' := by
  have hg := good_bd (f := f) h3 h6
  have hgd : ∀ w, Calls Try.prog 42 #[.agg #[.int .i64 f, .int .i64 s, .int .i64 t]] w fun e w' => e = .returned (.int .i64 (goodI f s t)) ∧ Below w.heap.size w w' := fun w => good_any f s t w h1 h2 h3 h4 h5 h6
  have hT : typI f s t n = (n + goodI f s t - 1) / goodI f s t := rfl
  generalize hG : goodI f s t = g at hg hgd hT
  have e0 : IntKind.i64.wrap (n + g) = n + g := IntWalk.i64_in _ (by omega)
  have e1 : IntKind.i64.wrap (n + g - 1) = n + g - 1 := IntWalk.i64_in _ (by omega)
  have e2 : IntKind.i64.wrap ((n + g - 1).tdiv g) = (n + g - 1) / g := IntWalk.i64_quo _ _ ⟨by omega, by omega, by omega⟩
  have e3 : ¬ g = 0 := by omega
  clear hG
  have hT := hid hT
  go_enter Try.func31, Try.ntmps31
  go_wp2_with fail
  refine wp_region_over (by kernel_rfl) (by kernel_rfl) (fun hov => ?_)
  repeat (go_big_quiet_step (((go_at_call 42; with_reducible exact overCall (hgd _)))))
  refine wpQuiet_nil ?_
  intro w5 hb5
  clear hov
  go_wp2
  go_ret
  refine ⟨ret_int hT.out.symm, ?_⟩
  (repeat (first | with_reducible exact Below.refl _ _ | with_reducible assumption | refine Below.drew ?_ | refine below_drewN ?_ _ | (refine Below.alloc ?_ (by first | omega | (simp; done) | (simp; omega)) _) | (refine Below.setCell ?_ (by first | omega | (simp; done) | (simp; omega)) _) | (refine Below.trans ?_ (Below.mono (by assumption) (by first | omega | (simp; done) | (simp; omega))))))
theorem spec_any (f s t n : Int) (w : World) : Calls Try.prog 14 #[.agg #[.int .i64 f, .int .i64 s, .int .i64 t], .int .i64 n] w fun e w' => e = .returned (.tuple #[.int .i64 (typR f s t n).1, .int .i64 (typR f s t n).2]) ∧ Below w.heap.size w w' := by
  cases ho : carbOk f s t
  · go_enter Try.func14, Try.ntmps14
    go_wp2_with (go_at_call 27; refine (sOk_any _ _ _ _).mono ?_; rw [ho]; rintro e w' ⟨rfl, hb⟩; obtain ⟨hc, hf, hz⟩ := bcell hb; have hl : w.heap.size < w'.heap.size := Nat.lt_of_lt_of_le (by first | assumption | (simp; done) | (simp; omega)) hz)
    go_ret2
    refine ⟨by simp [typR, ho], ?_⟩
    (repeat (first | with_reducible exact Below.refl _ _ | with_reducible assumption | refine Below.drew ?_ | refine below_drewN ?_ _ | (refine Below.alloc ?_ (by first | omega | (simp; done) | (simp; omega)) _) | (refine Below.setCell ?_ (by first | omega | (simp; done) | (simp; omega)) _) | (refine Below.trans ?_ (Below.mono (by assumption) (by first | omega | (simp; done) | (simp; omega))))))
  cases hm : inB n 0 500
  · go_enter Try.func14, Try.ntmps14
    go_wp2_with (first | (go_at_call 27; refine (sOk_any _ _ _ _).mono ?_; rw [ho]; rintro e w' ⟨rfl, hb⟩; obtain ⟨hc, hf, hz⟩ := bcell hb; have hl : w.heap.size < w'.heap.size := Nat.lt_of_lt_of_le (by first | assumption | (simp; done) | (simp; omega)) hz) | (go_at_call 28; refine (many_any _ _).mono ?_; rw [hm]; rintro e w' ⟨rfl, rfl⟩))
    go_ret2
    refine ⟨by simp [typR, ho, hm], ?_⟩
    (repeat (first | with_reducible exact Below.refl _ _ | with_reducible assumption | refine Below.drew ?_ | refine below_drewN ?_ _ | (refine Below.alloc ?_ (by first | omega | (simp; done) | (simp; omega)) _) | (refine Below.setCell ?_ (by first | omega | (simp; done) | (simp; omega)) _) | (refine Below.trans ?_ (Below.mono (by assumption) (by first | omega | (simp; done) | (simp; omega))))))
  obtain ⟨h1, h2, h3, h4, h5, h6⟩ := carbOk_true ho
  obtain ⟨h7, h8⟩ := inB_true hm
  go_enter Try.func14, Try.ntmps14
  go_wp2_with (first | (go_at_call 27; refine (sOk_any _ _ _ _).mono ?_; rw [ho]; rintro e w' ⟨rfl, hb⟩; obtain ⟨hc, hf, hz⟩ := bcell hb; have hl : w.heap.size < w'.heap.size := Nat.lt_of_lt_of_le (by first | assumption | (simp; done) | (simp; omega)) hz) | (go_at_call 28; refine (many_any _ _).mono ?_; rw [hm]; rintro e w' ⟨rfl, rfl⟩) | (go_at_call 29; refine (sTyp_any _ _ _ _ _ h1 h2 h3 h4 h5 h6 h7 h8).mono ?_; rintro e w' ⟨rfl, hb⟩; obtain ⟨hc, hf, hz⟩ := bcell hb; have hl : w.heap.size < w'.heap.size := Nat.lt_of_lt_of_le (by first | assumption | (simp; done) | (simp; omega)) hz))
  go_ret2
  refine ⟨by simp [typR, ho, hm], ?_⟩
  (repeat (first | with_reducible exact Below.refl _ _ | with_reducible assumption | refine Below.drew ?_ | refine below_drewN ?_ _ | (refine Below.alloc ?_ (by first | omega | (simp; done) | (simp; omega)) _) | (refine Below.setCell ?_ (by first | omega | (simp; done) | (simp; omega)) _) | (refine Below.trans ?_ (Below.mono (by assumption) (by first | omega | (simp; done) | (simp; omega))))))
theorem impl_any (f s t n : Int) (w : World) : Calls Try.prog 16 #[.agg #[.int .i64 f, .int .i64 s, .int .i64 t], .int .i64 n] w fun e w' => e = .returned (.tuple #[.int .i64 (typR f s t n).1, .int .i64 (typR f s t n).2]) ∧ Below w.heap.size w w' := by
  cases ho : carbOk f s t
  · go_enter Try.func16, Try.ntmps16
    go_wp2_with (go_at_call 30; refine (valid_any _ _ _ _).mono ?_; rw [ho]; rintro e w' ⟨rfl, hb⟩; obtain ⟨hc, hf, hz⟩ := bcell hb; have hl : w.heap.size < w'.heap.size := Nat.lt_of_lt_of_le (by first | assumption | (simp; done) | (simp; omega)) hz)
    go_ret2
    refine ⟨by simp [typR, ho], ?_⟩
    (repeat (first | with_reducible exact Below.refl _ _ | with_reducible assumption | refine Below.drew ?_ | refine below_drewN ?_ _ | (refine Below.alloc ?_ (by first | omega | (simp; done) | (simp; omega)) _) | (refine Below.setCell ?_ (by first | omega | (simp; done) | (simp; omega)) _) | (refine Below.trans ?_ (Below.mono (by assumption) (by first | omega | (simp; done) | (simp; omega))))))
  cases hm : inB n 0 500
  · go_enter Try.func16, Try.ntmps16
    go_wp2_with (first | (go_at_call 30; refine (valid_any _ _ _ _).mono ?_; rw [ho]; rintro e w' ⟨rfl, hb⟩; obtain ⟨hc, hf, hz⟩ := bcell hb; have hl : w.heap.size < w'.heap.size := Nat.lt_of_lt_of_le (by first | assumption | (simp; done) | (simp; omega)) hz) | (go_at_call 26; refine (between_any _ _ _ _).mono ?_; rw [hm]; rintro e w' ⟨rfl, rfl⟩))
    go_ret2
    refine ⟨by simp [typR, ho, hm], ?_⟩
    (repeat (first | with_reducible exact Below.refl _ _ | with_reducible assumption | refine Below.drew ?_ | refine below_drewN ?_ _ | (refine Below.alloc ?_ (by first | omega | (simp; done) | (simp; omega)) _) | (refine Below.setCell ?_ (by first | omega | (simp; done) | (simp; omega)) _) | (refine Below.trans ?_ (Below.mono (by assumption) (by first | omega | (simp; done) | (simp; omega))))))
  obtain ⟨h1, h2, h3, h4, h5, h6⟩ := carbOk_true ho
  obtain ⟨h7, h8⟩ := inB_true hm
  go_enter Try.func16, Try.ntmps16
  go_wp2_with (first | (go_at_call 30; refine (valid_any _ _ _ _).mono ?_; rw [ho]; rintro e w' ⟨rfl, hb⟩; obtain ⟨hc, hf, hz⟩ := bcell hb; have hl : w.heap.size < w'.heap.size := Nat.lt_of_lt_of_le (by first | assumption | (simp; done) | (simp; omega)) hz) | (go_at_call 26; refine (between_any _ _ _ _).mono ?_; rw [hm]; rintro e w' ⟨rfl, rfl⟩) | (go_at_call 31; refine (iTyp_any _ _ _ _ _ h1 h2 h3 h4 h5 h6 h7 h8).mono ?_; rintro e w' ⟨rfl, hb⟩; obtain ⟨hc, hf, hz⟩ := bcell hb; have hl : w.heap.size < w'.heap.size := Nat.lt_of_lt_of_le (by first | assumption | (simp; done) | (simp; omega)) hz))
  go_ret2
  refine ⟨by simp [typR, ho, hm], ?_⟩
  (repeat (first | with_reducible exact Below.refl _ _ | with_reducible assumption | refine Below.drew ?_ | refine below_drewN ?_ _ | (refine Below.alloc ?_ (by first | omega | (simp; done) | (simp; omega)) _) | (refine Below.setCell ?_ (by first | omega | (simp; done) | (simp; omega)) _) | (refine Below.trans ?_ (Below.mono (by assumption) (by first | omega | (simp; done) | (simp; omega))))))
theorem lawTypingsFor (f s t n : Int) (_hn : -9223372036854775808 ≤ n ∧ n ≤ 9223372036854775807) (w : World) : Calls Try.prog 5 #[.agg #[.int .i64 f, .int .i64 s, .int .i64 t], .int .i64 n] w fun e w' => e = .returned (.bool true) ∧ Below w.heap.size w w' := by
  go_enter Try.func5, Try.ntmps5
  go_wp2_with (first | (go_at_call 15; refine (toCarbon_any _ _ _ _).mono ?_; rintro e w' ⟨rfl, hb⟩; obtain ⟨hc, hf, hz⟩ := bcell hb; have hl : w.heap.size < w'.heap.size := Nat.lt_of_lt_of_le (by first | assumption | (simp; done) | (simp; omega)) hz) | (go_at_call 14; refine (spec_any _ _ _ _ _).mono ?_; rintro e w' ⟨rfl, hb⟩; obtain ⟨hc, hf, hz⟩ := bcell hb; have hl : w.heap.size < w'.heap.size := Nat.lt_of_lt_of_le (by first | assumption | (simp; done) | (simp; omega)) hz) | (go_at_call 16; refine (impl_any _ _ _ _ _).mono ?_; rintro e w' ⟨rfl, hb⟩; obtain ⟨hc, hf, hz⟩ := bcell hb; have hl : w.heap.size < w'.heap.size := Nat.lt_of_lt_of_le (by first | assumption | (simp; done) | (simp; omega)) hz))
  go_ret
  refine ⟨rfl, ?_⟩
  (repeat (first | with_reducible exact Below.refl _ _ | with_reducible assumption | refine Below.drew ?_ | refine below_drewN ?_ _ | (refine Below.alloc ?_ (by first | omega | (simp; done) | (simp; omega)) _) | (refine Below.setCell ?_ (by first | omega | (simp; done) | (simp; omega)) _) | (refine Below.trans ?_ (Below.mono (by assumption) (by first | omega | (simp; done) | (simp; omega))))))
end Go.Proofs.Ytkimlkpepgeolaa
