/-
  The text of a ribbon: both walks and the law.
-/
import Derived.Test.YtnjdoedhhpkjhaaDoorDec
namespace Go.Proofs.YtnjdoedhhpkjhaaDoor
open Go.RowKit Go.ChangeShapes Go.WideShapes
set_option linter.unusedVariables false
attribute [local go_sem ↓] Go.wp_at_zero Go.wp_at_succ

def decI (n : Int) : ByteArray := decT n.toNat
theorem decI_any (n : Int) (w : World) (h1 : 1 ≤ n) (h2 : n ≤ 1000000) (hp : Pow w) : Calls Tryd.prog 10 #[.int .i64 n] w fun e w' => e = .returned (.string (decI n)) ∧ Below w.heap.size w w' := by
  have := dec_any n.toNat w (by omega) hp
  rw [show ((n.toNat : Nat) : Int) = n by omega] at this
  exact this
theorem sDecI_any (n : Int) (w : World) (h1 : 1 ≤ n) (h2 : n ≤ 1000000) : Calls Tryd.prog 8 #[.int .i64 n] w fun e w' => e = .returned (.string (decI n)) ∧ Below w.heap.size w w' := by
  have := sDec_any n.toNat w (by omega) (by omega)
  rw [show ((n.toNat : Nat) : Int) = n by omega] at this
  exact this
theorem decI_size {n : Int} (h1 : 1 ≤ n) (h2 : n ≤ 1000000) : (decI n).size ≤ 7 := by
  have := decR_len 7 n.toNat (by omega)
  unfold decR at this
  rw [if_neg (by omega)] at this
  unfold decI decT
  simpa [ByteArray.size] using this
def ribT (s i t : Int) : ByteArray := if okB s i t = true then decI s ++ ⟨#[32, 115, 112, 111, 116, 115, 32, 111, 102, 32]⟩ ++ decI i ++ ⟨#[32, 108, 101, 115, 115, 32]⟩ ++ decI t else ⟨#[]⟩
theorem ribT_bad {s i t : Int} (h : okB s i t = false) : ribT s i t = ⟨#[]⟩ := by simp [ribT, h]
theorem ribT_ok {s i t : Int} (h : okB s i t = true) : ribT s i t = decI s ++ ⟨#[32, 115, 112, 111, 116, 115, 32, 111, 102, 32]⟩ ++ decI i ++ ⟨#[32, 108, 101, 115, 115, 32]⟩ ++ decI t := by simp [ribT, h]
theorem okB_bd {s i t : Int} (h : okB s i t = true) : 2 ≤ s ∧ s ≤ 200 ∧ 1 ≤ i ∧ i ≤ 1000 ∧ 1 ≤ t ∧ t ≤ i := by
  simp [okB, inB] at h
  omega

set_option maxRecDepth 100000 in
set_option maxHeartbeats 4000000 in
theorem ribText_any (s i t : Int) (w : World) (hp : Pow w) : Calls Tryd.prog 6 #[.agg #[.int .i64 s, .int .i64 i, .int .i64 t]] w fun e w' => e = .returned (.string (ribT s i t)) ∧ Below w.heap.size w w' := by
  cases hok : okB s i t
  · have hR := hid (ribT_bad hok)
    go_enter Tryd.func6, Tryd.ntmps6
    go_wp2_with (go_at_call 9; refine (valid_any s i t _).mono ?_; rw [hok]; rintro e w1 ⟨rfl, hb1⟩)
    go_ret
    exact ⟨by rw [hR.out]; rfl, by (repeat (first | with_reducible exact Below.refl _ _ | with_reducible assumption | refine Below.drew ?_ | refine below_drewN ?_ _ | (refine Below.alloc ?_ (by first | omega | (simp; done) | (simp; omega)) _) | (refine Below.setCell ?_ (by first | omega | (simp; done) | (simp; omega)) _) | (refine Below.trans ?_ (Below.mono (by assumption) (by first | omega | (simp; done) | (simp; omega))))))⟩
  · have hR := hid (ribT_ok hok)
    obtain ⟨b1, b2, b3, b4, b5, b6⟩ := okB_bd hok
    have z1 := decI_size (n := s) (by omega) (by omega)
    have z2 := decI_size (n := i) (by omega) (by omega)
    have z3 := decI_size (n := t) (by omega) (by omega)
    go_enter Tryd.func6, Tryd.ntmps6
    go_wp2_with (go_at_call 9; refine (valid_any s i t _).mono ?_; rw [hok]; rintro e w1 ⟨rfl, hb1⟩)
    have f1 : ¬ 9223372036854775807 < (decI s).size + 10 := by omega
    have f2 : ¬ 9223372036854775807 < (decI s).size + 10 + (decI i).size := by omega
    have f3 : ¬ 9223372036854775807 < (decI s).size + 10 + (decI i).size + 6 := by omega
    have f4 : ¬ 9223372036854775807 < (decI s).size + 10 + (decI i).size + 6 + (decI t).size := by omega
    have hpw : Pow w1.drew := pow_below (pow_below hp ((Below.refl _ _).alloc (Nat.le_refl _) _)) (hb1.drew)
    go_region_held3 (fun w' => Below (w.heap.size + 1) (w.alloc (.cells #[.int .i64 s, .int .i64 i, .int .i64 t] 25)) w' ∧ w'.cell? ⟨w.heap.size, 0, none⟩ = some (.int .i64 s) ∧ w'.cell? ⟨w.heap.size, 1, none⟩ = some (.int .i64 i) ∧ w'.cell? ⟨w.heap.size, 2, none⟩ = some (.int .i64 t)) (first | with_reducible exact ribKeep0 _ _ _ _ _ | with_reducible exact ribKeepD (by assumption) | with_reducible exact ribKeep (by assumption) (by assumption) | with_reducible assumption | exact ribKeepD hb1) (first | (go_at_call 10; refine (decI_any _ _ (by omega) (by omega) (by assumption)).mono ?_; rintro e w' ⟨rfl, hb⟩; have hpw' : Pow w' := pow_below (by assumption) hb))
    obtain ⟨hB, hc0, hc1, hc2⟩ := ‹Below (w.heap.size + 1) _ _ ∧ _›
    go_wp2
    go_ret
    exact ⟨by rw [hR.out]; rfl, boxOut hB⟩
set_option maxRecDepth 100000 in
set_option maxHeartbeats 4000000 in
theorem sRibText_any (s i t : Int) (w : World) : Calls Tryd.prog 4 #[.agg #[.int .i64 s, .int .i64 i, .int .i64 t]] w fun e w' => e = .returned (.string (ribT s i t)) ∧ Below w.heap.size w w' := by
  cases hok : okB s i t
  · have hR := hid (ribT_bad hok)
    go_enter Tryd.func4, Tryd.ntmps4
    go_wp2_with (go_at_call 7; refine (l14Ok_any s i t _).mono ?_; rw [hok]; rintro e w1 ⟨rfl, hb1⟩)
    go_ret
    exact ⟨by rw [hR.out]; rfl, by (repeat (first | with_reducible exact Below.refl _ _ | with_reducible assumption | refine Below.drew ?_ | refine below_drewN ?_ _ | (refine Below.alloc ?_ (by first | omega | (simp; done) | (simp; omega)) _) | (refine Below.setCell ?_ (by first | omega | (simp; done) | (simp; omega)) _) | (refine Below.trans ?_ (Below.mono (by assumption) (by first | omega | (simp; done) | (simp; omega))))))⟩
  · have hR := hid (ribT_ok hok)
    obtain ⟨b1, b2, b3, b4, b5, b6⟩ := okB_bd hok
    have z1 := decI_size (n := s) (by omega) (by omega)
    have z2 := decI_size (n := i) (by omega) (by omega)
    have z3 := decI_size (n := t) (by omega) (by omega)
    go_enter Tryd.func4, Tryd.ntmps4
    go_wp2_with (go_at_call 7; refine (l14Ok_any s i t _).mono ?_; rw [hok]; rintro e w1 ⟨rfl, hb1⟩)
    have f1 : ¬ 9223372036854775807 < (decI s).size + 10 := by omega
    have f2 : ¬ 9223372036854775807 < (decI s).size + 10 + (decI i).size := by omega
    have f3 : ¬ 9223372036854775807 < (decI s).size + 10 + (decI i).size + 6 := by omega
    have f4 : ¬ 9223372036854775807 < (decI s).size + 10 + (decI i).size + 6 + (decI t).size := by omega
    go_region_held3 (fun w' => Below (w.heap.size + 1) (w.alloc (.cells #[.int .i64 s, .int .i64 i, .int .i64 t] 25)) w' ∧ w'.cell? ⟨w.heap.size, 0, none⟩ = some (.int .i64 s) ∧ w'.cell? ⟨w.heap.size, 1, none⟩ = some (.int .i64 i) ∧ w'.cell? ⟨w.heap.size, 2, none⟩ = some (.int .i64 t)) (first | with_reducible exact ribKeep0 _ _ _ _ _ | with_reducible exact ribKeepD (by assumption) | with_reducible exact ribKeep (by assumption) (by assumption) | with_reducible assumption | exact ribKeepD hb1) (first | (go_at_call 8; refine (sDecI_any _ _ (by omega) (by omega)).mono ?_; rintro e w' ⟨rfl, hb⟩))
    obtain ⟨hB, hc0, hc1, hc2⟩ := ‹Below (w.heap.size + 1) _ _ ∧ _›
    go_wp2
    go_ret
    exact ⟨by rw [hR.out]; rfl, boxOut hB⟩

set_option maxRecDepth 100000 in
set_option maxHeartbeats 4000000 in
theorem lawRibbonText (s i t : Int) (w : World) (hp : Pow w) : Calls Tryd.prog 3 #[.agg #[.int .i64 s, .int .i64 i, .int .i64 t]] w fun e w' => e = .returned (.bool true) ∧ Below w.heap.size w w' := by
  go_enter Tryd.func3, Tryd.ntmps3
  go_wp2_with fail
  refine (toRibbon_any s i t _).mono ?_
  rintro e w1 ⟨rfl, hb1⟩
  have c1 := boxCells ((Below.refl (w.heap.size + 1) _).trans (hb1.mono (by simp)))
  go_wp2_with fail
  refine (sRibText_any s i t _).mono ?_
  rintro e w2 ⟨rfl, hb2⟩
  have B2 : Below (w.heap.size + 1) (w.alloc (.cells #[.int .i64 s, .int .i64 i, .int .i64 t] 23)) w2 := boxBelow ((Below.refl _ _).trans (hb1.mono (by simp))) hb2
  obtain ⟨q0, q1, q2, hl2⟩ := boxCells B2
  clear c1
  go_wp2_with fail
  refine (toRibbon_any s i t _).mono ?_
  rintro e w3 ⟨rfl, hb3⟩
  have B3 := boxBelow B2 hb3
  have hp3 : Pow w3 := pow_below hp (boxOut B3)
  go_wp2_with fail
  refine (ribText_any s i t _ hp3).mono ?_
  rintro e w4 ⟨rfl, hb4⟩
  have B4 := boxBelow B3 hb4
  go_wp2_with fail
  go_ret
  exact ⟨rfl, boxOut B4⟩
end Go.Proofs.YtnjdoedhhpkjhaaDoor
