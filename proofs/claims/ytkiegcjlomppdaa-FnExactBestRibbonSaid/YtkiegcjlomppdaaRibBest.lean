/-
  Walks: the ribbon that is cheapest for some strokes.
-/
import Derived.Test.YtkiegcjlomppdaaRibF
import Derived.Test.YtkiegcjlomppdaaSlRb
import Derived.Test.YtkiegcjlomppdaaFind
import Derived.Test.YtkiegcjlomppdaaLess
namespace Go.Proofs.Ytkiegcjlomppdaa
open Go.RowKit Go.ChangeShapes Go.WideShapes
set_option linter.unusedVariables false
attribute [local go_sem ↓] Go.wp_at_zero Go.wp_at_succ

theorem in_b {r : Bool} (n lo hi : Int) (w : World) (h : inB n lo hi = r) : Calls Try.prog 61 #[.int .i64 n, .int .i64 lo, .int .i64 hi] w fun e w' => e = .returned (.bool r) ∧ w = w' := by
  rw [← h]; exact in_any n lo hi w
theorem between_b {r : Bool} (n lo hi : Int) (w : World) (h : inB n lo hi = r) : Calls Try.prog 45 #[.int .i64 n, .int .i64 lo, .int .i64 hi] w fun e w' => e = .returned (.bool r) ∧ w = w' := by
  rw [← h]; exact between_any n lo hi w
theorem isUse_b {r : Bool} (n : Int) (w : World) (h : inB n 0 100000 = r) : Calls Try.prog 48 #[.int .i64 n] w fun e w' => e = .returned (.bool r) ∧ w = w' := by
  rw [← h]; exact isUse_any n w
def badRb (L : List Rb) (k : Nat) : Bool := if h : k < L.length then !(okB L[k].1 L[k].2.1 L[k].2.2) else false
theorem badRb_get {L : List Rb} {k : Nat} (h : k < L.length) : badRb L k = !(okB L[k].1 L[k].2.1 L[k].2.2) := by unfold badRb; rw [dif_pos h]
def badPr (P : List Int) (k : Nat) : Bool := if h : k < P.length then !(inB P[k] 0 100000) else false
theorem badPr_get {P : List Int} {k : Nat} (h : k < P.length) : badPr P k = !(inB P[k] 0 100000) := by unfold badPr; rw [dif_pos h]
def priceOk (P : List Int) : Bool := (firstAt (badPr P) P.length).isNone
def rgB (L : List Rb) (P : List Int) (n m : Int) : Bool := priceOk P && decide (L.length ≤ 20) && decide (P.length = L.length) && inB n 0 100000 && inB m 1 1000
def costAt (L : List Rb) (P : List Int) (n m : Int) (k : Nat) : Int := if h : k < L.length ∧ k < P.length then P[k] * manyI L[k].1 L[k].2.1 L[k].2.2 n m else 0
theorem costAt_get {L : List Rb} {P : List Int} {n m : Int} {k : Nat} (h : k < L.length) (h2 : k < P.length) : costAt L P n m k = P[k] * manyI L[k].1 L[k].2.1 L[k].2.2 n m := by unfold costAt; rw [dif_pos ⟨h, h2⟩]
def inkAt (L : List Rb) (k : Nat) : Int := if h : k < L.length then L[k].2.1 else 0
theorem inkAt_get {L : List Rb} {k : Nat} (h : k < L.length) : inkAt L k = L[k].2.1 := by unfold inkAt; rw [dif_pos h]
def bestTo (L : List Rb) (P : List Int) (n m : Int) : Nat → Int × Int
  | 0 => (-1, 0)
  | k + 1 => if inkAt L k < m then bestTo L P n m k else if (bestTo L P n m k).1 < 0 then ((k : Int), costAt L P n m k) else if costAt L P n m k < (bestTo L P n m k).2 then ((k : Int), costAt L P n m k) else bestTo L P n m k
def bestR (L : List Rb) (P : List Int) (n m : Int) : Int × Int × Int :=
  if (firstAt (badRb L) L.length).isNone = true then (if rgB L P n m = true then (if (bestTo L P n m L.length).1 < 0 then (0, 0, 3) else ((bestTo L P n m L.length).1, (bestTo L P n m L.length).2, 0)) else (0, 0, 2)) else (0, 0, 1)
theorem bestR_bad {L : List Rb} {P : List Int} {n m : Int} {k : Nat} (h : k < L.length) (hN : NoneUpTo (badRb L) k) (hb : badRb L k = true) : bestR L P n m = (0, 0, 1) := by unfold bestR; rw [first_hit hN hb h]; rfl
theorem bestR_rg {L : List Rb} {P : List Int} {n m : Int} (hN : NoneUpTo (badRb L) L.length) (h : rgB L P n m = false) : bestR L P n m = (0, 0, 2) := by unfold bestR; rw [first_none hN, h]; rfl
theorem bestR_no {L : List Rb} {P : List Int} {n m : Int} (hN : NoneUpTo (badRb L) L.length) (h : rgB L P n m = true) (h2 : (bestTo L P n m L.length).1 < 0) : bestR L P n m = (0, 0, 3) := by unfold bestR; rw [first_none hN, h, if_pos h2]; rfl
theorem bestR_ok {L : List Rb} {P : List Int} {n m : Int} (hN : NoneUpTo (badRb L) L.length) (h : rgB L P n m = true) (h2 : ¬ (bestTo L P n m L.length).1 < 0) : bestR L P n m = ((bestTo L P n m L.length).1, (bestTo L P n m L.length).2, 0) := by unfold bestR; rw [first_none hN, h, if_neg h2]; rfl
theorem rg_price {L : List Rb} {P : List Int} {n m : Int} (h : priceOk P = false) : rgB L P n m = false := by unfold rgB; rw [h]; rfl
theorem price_bad {P : List Int} {k : Nat} (h : k < P.length) (hN : NoneUpTo (badPr P) k) (hb : badPr P k = true) : priceOk P = false := by unfold priceOk; rw [first_hit hN hb h]; rfl
theorem price_all {P : List Int} (hN : NoneUpTo (badPr P) P.length) : priceOk P = true := by unfold priceOk; rw [first_none hN]; rfl
theorem rg_20 {L : List Rb} {P : List Int} {n m : Int} (h : ¬ L.length ≤ 20) : rgB L P n m = false := by unfold rgB; rw [decide_eq_false h]; simp
theorem rg_len {L : List Rb} {P : List Int} {n m : Int} (h : ¬ P.length = L.length) : rgB L P n m = false := by unfold rgB; rw [decide_eq_false h]; simp
theorem rg_n {L : List Rb} {P : List Int} {n m : Int} (h : inB n 0 100000 = false) : rgB L P n m = false := by unfold rgB; rw [h]; simp
theorem rg_m {L : List Rb} {P : List Int} {n m : Int} (h : inB m 1 1000 = false) : rgB L P n m = false := by unfold rgB; rw [h]; simp
theorem rg_all {L : List Rb} {P : List Int} {n m : Int} (h1 : priceOk P = true) (h2 : L.length ≤ 20) (h3 : P.length = L.length) (h4 : inB n 0 100000 = true) (h5 : inB m 1 1000 = true) : rgB L P n m = true := by unfold rgB; rw [h1, decide_eq_true h2, decide_eq_true h3, h4, h5]; rfl
theorem best_ink {L : List Rb} {P : List Int} {n m : Int} {k : Nat} (h : inkAt L k < m) : bestTo L P n m (k + 1) = bestTo L P n m k := by rw [bestTo, if_pos h]
theorem best_first {L : List Rb} {P : List Int} {n m : Int} {k : Nat} (h : ¬ inkAt L k < m) (h2 : (bestTo L P n m k).1 < 0) : bestTo L P n m (k + 1) = ((k : Int), costAt L P n m k) := by rw [bestTo, if_neg h, if_pos h2]
theorem best_less {L : List Rb} {P : List Int} {n m : Int} {k : Nat} (h : ¬ inkAt L k < m) (h2 : ¬ (bestTo L P n m k).1 < 0) (h3 : costAt L P n m k < (bestTo L P n m k).2) : bestTo L P n m (k + 1) = ((k : Int), costAt L P n m k) := by rw [bestTo, if_neg h, if_neg h2, if_pos h3]
theorem best_keep {L : List Rb} {P : List Int} {n m : Int} {k : Nat} (h : ¬ inkAt L k < m) (h2 : ¬ (bestTo L P n m k).1 < 0) (h3 : ¬ costAt L P n m k < (bestTo L P n m k).2) : bestTo L P n m (k + 1) = bestTo L P n m k := by rw [bestTo, if_neg h, if_neg h2, if_neg h3]
theorem isNone_at {p : Nat → Bool} {n : Nat} (h : (firstAt p n).isNone = true) : ∀ j, j < n → p j = false := by
  intro j hj
  have h1 : firstAt p n = none := by simpa using h
  unfold firstAt at h1
  have := List.find?_eq_none.1 h1 j (List.mem_range.2 hj)
  simpa using this
theorem price_get {P : List Int} (h : priceOk P = true) {k : Nat} (hk : k < P.length) : 0 ≤ P[k] ∧ P[k] ≤ 100000 := by
  have := isNone_at h k hk
  rw [badPr_get hk] at this
  exact inB_true (by simpa using this)
theorem cost_bd {a b : Int} (h1 : 0 ≤ a) (h2 : a ≤ 100000) (h3 : 0 ≤ b) (h4 : b ≤ 200001) : 0 ≤ a * b ∧ a * b ≤ 20000100000 := by
  refine ⟨Int.mul_nonneg h1 h3, ?_⟩
  have := Int.mul_le_mul h2 h4 h3 (by omega)
  omega

set_option maxRecDepth 100000 in
set_option maxHeartbeats 8000000 in
theorem sBest_any (ao : Option Addr) (n cap : Nat) (L : List Rb) (bo : Option Addr) (n2 cap2 : Nat) (P : List Int) (st lm : Int) (w : World) (hn : n = L.length) (hr : Rd w ao (rbs L)) (hm : n ≤ 1048576) (hn2 : n2 = P.length) (hr2 : Rd w bo (i64s P)) (hm2 : n2 ≤ 1048576) :
    Calls Try.prog 39 #[.slice ao n cap, .slice bo n2 cap2, .int .i64 st, .int .i64 lm] w fun e w' => e = .returned (.tuple #[.int .i64 (bestR L P st lm).1, .int .i64 (bestR L P st lm).2.1, .int .i64 (bestR L P st lm).2.2]) ∧ Below w.heap.size w w' := by
  have HN := hid hn
  have HN2 := hid hn2
  have hrd := rd_rb hr
  have hrd2 := rd_i64 hr2
  clear hn hn2 hr hr2
  go_enter Try.func39, Try.ntmps39
  go_wp2_with fail
  go_loopw [11] (fun i wr => ∃ k : Nat, k ≤ n ∧ i = .int .i64 k ∧ Hid (NoneUpTo (badRb L) k) ∧ Below w.heap.size w wr) (fun i _ => n - (intOf i).toNat)
  case atStart => exact ⟨0, Nat.zero_le _, rfl, hid (none_zero _), Below.refl _ _⟩
  case round =>
    obtain ⟨k, hk, rfl, hN, hB⟩ := hrel
    by_cases hlt : k < n
    · rcases hrd with hnil | ⟨b, o, rfl, hl1, hcell⟩
      · exact absurd (by rw [HN.out, hnil]; rfl : n = 0) (by omega)
      have hka : k < L.length := by rw [← HN.out]; exact hlt
      obtain ⟨h1, h2, h3⟩ := (hcell k hka).below hB hl1
      have hbg := hid (badRb_get hka)
      have hbad := hid (fun hb => bestR_bad (P := P) (n := st) (m := lm) hka hN.out hb)
      clear hcell
      obtain ⟨x, hx⟩ : ∃ x, x = L[k] := ⟨_, rfl⟩
      rw [← hx] at h1 h2 h3 hbg
      clear hx
      have hk0 : (0 : Int) ≤ (k : Int) := by omega
      have hkn : (k : Int) < (n : Int) := by omega
      cases hok : okB x.1 x.2.1 x.2.2
      · have hR := hid (hbad.out (by rw [hbg.out, hok]; rfl))
        go_wp2_with fail
        refine (l14Ok_any _ _ _ _).mono ?_
        rw [hok]
        rintro e w5 ⟨rfl, hb5⟩
        go_wp2_with fail
        go_ret3
        exact ⟨by simp [hR.out], hB.trans (hb5.mono hB.size)⟩
      · have hgo := hid (none_next hN.out (by rw [hbg.out, hok]; rfl))
        go_wp2_with fail
        refine (l14Ok_any _ _ _ _).mono ?_
        rw [hok]
        rintro e w5 ⟨rfl, hb5⟩
        go_wp2_with fail
        go_roundw
        case rel => exact ⟨k + 1, by omega, by go_num, hgo, hB.trans (hb5.mono hB.size)⟩
        case measure => simp [intOf]; omega
    · obtain rfl : k = n := by omega
      have hall := hid (show NoneUpTo (badRb L) L.length by rw [← HN.out]; exact hN.out)
      have hrg := hid (fun h => bestR_rg (P := P) (n := st) (m := lm) hall.out h)
      clear hN
      go_wp2_with fail
      go_loopw [12] (fun i w3 => ∃ q : Nat, q ≤ n2 ∧ i = .int .i64 q ∧ Hid (NoneUpTo (badPr P) q) ∧ Below w.heap.size w w3) (fun i _ => n2 - (intOf i).toNat)
      case atStart => exact ⟨0, Nat.zero_le _, rfl, hid (none_zero _), hB⟩
      case round =>
        clear hB
        obtain ⟨q, hq, rfl, hQ, hB⟩ := hrel
        by_cases hql : q < n2
        · rcases hrd2 with hnil | ⟨g, o2, rfl, hl2, hcell2⟩
          · exact absurd (by rw [HN2.out, hnil]; rfl : n2 = 0) (by omega)
          have hqa : q < P.length := by rw [← HN2.out]; exact hql
          have g1 := (hB.cell (p := ⟨g, o2 + q, none⟩) hl2).trans (hcell2 q hqa)
          have hbg := hid (badPr_get hqa)
          have hbad := hid (fun hb => price_bad hqa hQ.out hb)
          clear hcell2
          obtain ⟨x, hx⟩ : ∃ x, x = P[q] := ⟨_, rfl⟩
          rw [← hx] at g1 hbg
          clear hx hqa
          have hq0 : (0 : Int) ≤ (q : Int) := by omega
          have hqn : (q : Int) < (n2 : Int) := by omega
          cases cp : inB x 0 100000
          · have hR := hid (hrg.out (rg_price (hbad.out (by rw [hbg.out, cp]; rfl))))
            go_wp2_with ((go_at_call 61; refine (in_b _ _ _ _ cp).mono ?_; rintro e w' ⟨rfl, rfl⟩))
            go_ret3
            exact ⟨by simp [hR.out], hB⟩
          · have hgo := hid (none_next hQ.out (by rw [hbg.out, cp]; rfl))
            go_wp2_with ((go_at_call 61; refine (in_b _ _ _ _ cp).mono ?_; rintro e w' ⟨rfl, rfl⟩))
            go_roundw
            case rel => exact ⟨q + 1, by omega, by go_num, hgo, hB⟩
            case measure => simp [intOf]; omega
        · obtain rfl : q = n2 := by omega
          have hprice := hid (price_all (P := P) (by rw [← HN2.out]; exact hQ.out))
          clear hQ
          by_cases c20 : (20 : Int) < (k : Int)
          · have hR := hid (hrg.out (rg_20 (by rw [← HN.out]; omega)))
            go_wp2_with (fail)
            go_ret3
            exact ⟨by simp [hR.out], hB⟩
          by_cases cl : q = k
          case neg =>
            have hR := hid (hrg.out (rg_len (by rw [← HN.out, ← HN2.out]; exact cl)))
            have el : ((q : Int) != (k : Int)) = true := neI_true (by omega)
            go_wp2_with (fail)
            go_ret3
            exact ⟨by simp [hR.out], hB⟩
          have cl2 := cl.symm
          clear cl
          subst cl2
          have el : ((k : Int) != (k : Int)) = false := neI_false rfl
          cases c4 : inB st 0 100000
          · have hR := hid (hrg.out (rg_n c4))
            go_wp2_with ((go_at_call 61; refine (in_b _ _ _ _ c4).mono ?_; rintro e w' ⟨rfl, rfl⟩))
            go_ret3
            exact ⟨by simp [hR.out], hB⟩
          cases c5 : inB lm 1 1000
          · have hR := hid (hrg.out (rg_m c5))
            go_wp2_with (first | (go_at_call 61; with_reducible refine (in_b _ _ _ _ c4).mono ?_; rintro e w' ⟨rfl, rfl⟩) | (go_at_call 61; with_reducible refine (in_b _ _ _ _ c5).mono ?_; rintro e w' ⟨rfl, rfl⟩))
            go_ret3
            exact ⟨by simp [hR.out], hB⟩
          have hrgt := hid (rg_all (L := L) (P := P) (n := st) (m := lm) hprice.out (by rw [← HN.out]; omega) (by rw [← HN.out, ← HN2.out]) c4 c5)
          have hno := hid (fun h => bestR_no hall.out hrgt.out h)
          have hyes := hid (fun h => bestR_ok hall.out hrgt.out h)
          have hst := inB_true c4
          have hlm := inB_true c5
          have hpg := hid (fun q (hq : q < P.length) => price_get hprice.out hq)
          have hok := hid (fun q (hq : q < L.length) => (by have := hall.out q hq; rw [badRb_get hq] at this; simpa using this : okB L[q].1 L[q].2.1 L[q].2.2 = true))
          go_wp2_with (first | (go_at_call 61; with_reducible refine (in_b _ _ _ _ c4).mono ?_; rintro e w' ⟨rfl, rfl⟩) | (go_at_call 61; with_reducible refine (in_b _ _ _ _ c5).mono ?_; rintro e w' ⟨rfl, rfl⟩))
          clear c4 c5 hrg
          clear el
          go_loopw [13, 14, 15, 16] (fun b c i _ w3 => ∃ q : Nat, q ≤ k ∧ i = .int .i64 q ∧ b = .int .i64 (bestTo L P st lm q).1 ∧ c = .int .i64 (bestTo L P st lm q).2 ∧ Below w.heap.size w w3) (fun _ _ i _ _ => k - (intOf i).toNat)
          case atStart => exact ⟨0, Nat.zero_le _, rfl, rfl, rfl, hB⟩
          case round =>
            clear hB
            obtain ⟨q, hq, rfl, rfl, rfl, hB⟩ := hrel
            by_cases hql : q < k
            · rcases hrd with hnil | ⟨b, o, rfl, hl1, hcell⟩
              · exact absurd (by rw [HN.out, hnil]; rfl : k = 0) (by omega)
              rcases hrd2 with hnil | ⟨g, o2, rfl, hl2, hcell2⟩
              · exact absurd (by rw [HN2.out, hnil]; rfl : k = 0) (by omega)
              have hka : q < L.length := by rw [← HN.out]; exact hql
              have hkb : q < P.length := by rw [← HN2.out]; omega
              obtain ⟨h1, h2, h3⟩ := (hcell q hka).below hB hl1
              have g1 := (hB.cell (p := ⟨g, o2 + q, none⟩) hl2).trans (hcell2 q hkb)
              have hpq := hpg.out q hkb
              obtain ⟨b1, b2, b3, b4, b5, b6⟩ := okB_true (hok.out q hka)
              have hct := hid (costAt_get (n := st) (m := lm) hka hkb)
              have hik := hid (inkAt_get hka)
              clear hcell hcell2
              obtain ⟨x, hx⟩ : ∃ x, x = L[q] := ⟨_, rfl⟩
              obtain ⟨y, hy⟩ : ∃ y, y = P[q] := ⟨_, rfl⟩
              rw [← hx] at h1 h2 h3 b1 b2 b3 b4 b5 b6 hct hik
              rw [← hy] at g1 hpq hct
              clear hx hy hka hkb
              have k1 := hid (fun h => best_ink (L := L) (P := P) (n := st) (m := lm) (k := q) h)
              have k2 := hid (fun h g => best_first (L := L) (P := P) (n := st) (m := lm) (k := q) h g)
              have k3 := hid (fun h g e => best_less (L := L) (P := P) (n := st) (m := lm) (k := q) h g e)
              have k4 := hid (fun h g e => best_keep (L := L) (P := P) (n := st) (m := lm) (k := q) h g e)
              rw [hik.out] at k1 k2 k3 k4
              rw [hct.out] at k2 k3 k4
              obtain ⟨s, i, t⟩ := x
              dsimp only at h1 h2 h3 b1 b2 b3 b4 b5 b6 k1 k2 k3 k4
              obtain ⟨bt, hbt⟩ : ∃ bt, bt = bestTo L P st lm q := ⟨_, rfl⟩
              rw [← hbt] at k1 k2 k3 k4 ⊢
              clear hbt hct hik
              obtain ⟨bb, bc⟩ := bt
              dsimp only at k2 k3 k4 ⊢
              have hq0 : (0 : Int) ≤ (q : Int) := by omega
              have hqn : (q : Int) < (k : Int) := by omega
              have hqn2 : (q : Int) < (k : Int) := by omega
              have z1 := Nat.lt_of_lt_of_le hl1 hB.size
              have z2 := Nat.lt_of_lt_of_le hl2 hB.size
              have z3 : g < wr.heap.size + 1 := by omega
              by_cases hi : i < lm
              · have hk1 := hid (k1.out hi)
                go_wp2_with fail
                go_roundw
                case rel => exact ⟨q + 1, by omega, by go_num, by rw [hk1.out], by rw [hk1.out], hB⟩
                case measure => simp [intOf]; omega
              have hmb := many_bd s i t st lm (by omega) (by omega) (by omega) (by omega) (by omega)
              have hcb := cost_bd (a := y) (b := manyI s i t st lm) (by omega) (by omega) hmb.1 hmb.2
              have hmc := fun (W : World) => sMany_any s i t st lm W b1 b2 b3 b4 b5 b6 (by omega) (by omega) (by omega)
              have HMC := hid hmc
              clear hmc
              obtain ⟨mv, hmv⟩ : ∃ mv, mv = manyI s i t st lm := ⟨_, rfl⟩
              rw [← hmv] at k2 k3 k4 hcb HMC
              clear hmv hmb
              have ewz : IntKind.i64.wrap (y * mv) = y * mv := IntWalk.i64_in _ (by omega)
              by_cases hbb : bb < 0
              · have hk2 := hid (k2.out (by omega) hbb)
                clear k1 k2 k3 k4
                go_wp2_with fail
                refine wp_region_over (by kernel_rfl) (by kernel_rfl) (fun hov => ?_)
                repeat (go_big_quiet_step (((go_at_call 58; exact overCall (HMC.out _)))))
                refine wpQuiet_nil ?_
                intro w5 hb5
                clear hov
                go_wp2
                go_roundw
                case rel => exact ⟨q + 1, by omega, by go_num, by rw [hk2.out], by rw [hk2.out], hB.trans (hb5.mono hB.size)⟩
                case measure => simp [intOf]; omega
              by_cases hcc : y * mv < bc
              · have hk2 := hid (k3.out (by omega) hbb hcc)
                clear k1 k2 k3 k4
                go_wp2_with fail
                refine wp_region_over (by kernel_rfl) (by kernel_rfl) (fun hov => ?_)
                repeat (go_big_quiet_step (((go_at_call 58; exact overCall (HMC.out _)))))
                refine wpQuiet_nil ?_
                intro w5 hb5
                clear hov
                go_wp2
                go_roundw
                case rel => exact ⟨q + 1, by omega, by go_num, by rw [hk2.out], by rw [hk2.out], hB.trans (hb5.mono hB.size)⟩
                case measure => simp [intOf]; omega
              · have hk2 := hid (k4.out (by omega) hbb hcc)
                clear k1 k2 k3 k4
                go_wp2_with fail
                refine wp_region_over (by kernel_rfl) (by kernel_rfl) (fun hov => ?_)
                repeat (go_big_quiet_step (((go_at_call 58; exact overCall (HMC.out _)))))
                refine wpQuiet_nil ?_
                intro w5 hb5
                clear hov
                go_wp2
                go_roundw
                case rel => exact ⟨q + 1, by omega, by go_num, by rw [hk2.out], by rw [hk2.out], hB.trans (hb5.mono hB.size)⟩
                case measure => simp [intOf]; omega
            · obtain rfl : q = k := by omega
              have hL := hid (show bestTo L P st lm L.length = bestTo L P st lm q by rw [← HN.out])
              rw [hL.out] at hno hyes
              obtain ⟨bt, hbt⟩ : ∃ bt, bt = bestTo L P st lm q := ⟨_, rfl⟩
              rw [← hbt] at hno hyes ⊢
              clear hbt
              obtain ⟨bb, bc⟩ := bt
              dsimp only at hno hyes ⊢
              by_cases hbb : bb < 0
              · have hR := hid (hno.out hbb)
                go_wp2_with fail
                go_ret3
                exact ⟨by simp [hR.out], hB⟩
              · have hR := hid (hyes.out (by omega))
                go_wp2_with fail
                go_ret3
                exact ⟨by simp [hR.out], hB⟩
set_option maxRecDepth 100000 in
set_option maxHeartbeats 8000000 in
theorem best_any (ao : Option Addr) (n cap : Nat) (L : List Rb) (bo : Option Addr) (n2 cap2 : Nat) (P : List Int) (st lm : Int) (w : World) (hn : n = L.length) (hr : Rd w ao (rbs L)) (hm : n ≤ 1048576) (hn2 : n2 = P.length) (hr2 : Rd w bo (i64s P)) (hm2 : n2 ≤ 1048576) :
    Calls Try.prog 42 #[.slice ao n cap, .slice bo n2 cap2, .int .i64 st, .int .i64 lm] w fun e w' => e = .returned (.tuple #[.int .i64 (bestR L P st lm).1, .int .i64 (bestR L P st lm).2.1, .int .i64 (bestR L P st lm).2.2]) ∧ Below w.heap.size w w' := by
  have HN := hid hn
  have HN2 := hid hn2
  have hrd := rd_rb hr
  have hrd2 := rd_i64 hr2
  clear hn hn2 hr hr2
  go_enter Try.func42, Try.ntmps42
  go_wp2_with fail
  go_loopw [12, 22] (fun _ i wr => ∃ k : Nat, k ≤ n ∧ i = .int .i64 k ∧ Hid (NoneUpTo (badRb L) k) ∧ Below w.heap.size w wr) (fun _ i _ => n - (intOf i).toNat)
  case atStart => exact ⟨0, Nat.zero_le _, rfl, hid (none_zero _), Below.refl _ _⟩
  case round =>
    obtain ⟨k, hk, rfl, hN, hB⟩ := hrel
    by_cases hlt : k < n
    · rcases hrd with hnil | ⟨b, o, rfl, hl1, hcell⟩
      · exact absurd (by rw [HN.out, hnil]; rfl : n = 0) (by omega)
      have hka : k < L.length := by rw [← HN.out]; exact hlt
      obtain ⟨h1, h2, h3⟩ := (hcell k hka).below hB hl1
      have hbg := hid (badRb_get hka)
      have hbad := hid (fun hb => bestR_bad (P := P) (n := st) (m := lm) hka hN.out hb)
      clear hcell
      obtain ⟨x, hx⟩ : ∃ x, x = L[k] := ⟨_, rfl⟩
      rw [← hx] at h1 h2 h3 hbg
      clear hx
      have hk0 : (0 : Int) ≤ (k : Int) := by omega
      have hkn : (k : Int) < (n : Int) := by omega
      cases hok : okB x.1 x.2.1 x.2.2
      · have hR := hid (hbad.out (by rw [hbg.out, hok]; rfl))
        go_wp2_with fail
        refine (valid_any _ _ _ _).mono ?_
        rw [hok]
        rintro e w5 ⟨rfl, hb5⟩
        go_wp2_with fail
        go_ret3
        exact ⟨by simp [hR.out], hB.trans (Below.trans ((Below.refl wr.heap.size wr).alloc (Nat.le_refl _) _) (hb5.mono (by simp)) |>.mono hB.size)⟩
      · have hgo := hid (none_next hN.out (by rw [hbg.out, hok]; rfl))
        go_wp2_with fail
        refine (valid_any _ _ _ _).mono ?_
        rw [hok]
        rintro e w5 ⟨rfl, hb5⟩
        go_wp2_with fail
        go_roundw
        case rel => exact ⟨k + 1, by omega, by go_num, hgo, hB.trans (Below.trans ((Below.refl wr.heap.size wr).alloc (Nat.le_refl _) _) (hb5.mono (by simp)) |>.mono hB.size)⟩
        case measure => simp [intOf]; omega
    · obtain rfl : k = n := by omega
      have hall := hid (show NoneUpTo (badRb L) L.length by rw [← HN.out]; exact hN.out)
      have hrg := hid (fun h => bestR_rg (P := P) (n := st) (m := lm) hall.out h)
      clear hN
      cases c4 : inB st 0 100000
      · have hR := hid (hrg.out (rg_n c4))
        go_wp2_with ((go_at_call 48; refine (isUse_b _ _ c4).mono ?_; rintro e w' ⟨rfl, rfl⟩))
        go_ret3
        exact ⟨by simp [hR.out], hB⟩
      cases c5 : inB lm 1 1000
      · have hR := hid (hrg.out (rg_m c5))
        go_wp2_with (first | (go_at_call 48; refine (isUse_b _ _ c4).mono ?_; rintro e w' ⟨rfl, rfl⟩) | (go_at_call 45; refine (between_b _ _ _ _ c5).mono ?_; rintro e w' ⟨rfl, rfl⟩))
        go_ret3
        exact ⟨by simp [hR.out], hB⟩
      by_cases c20 : (20 : Int) < (k : Int)
      · have hR := hid (hrg.out (rg_20 (by rw [← HN.out]; omega)))
        go_wp2_with (first | (go_at_call 48; refine (isUse_b _ _ c4).mono ?_; rintro e w' ⟨rfl, rfl⟩) | (go_at_call 45; refine (between_b _ _ _ _ c5).mono ?_; rintro e w' ⟨rfl, rfl⟩))
        go_ret3
        exact ⟨by simp [hR.out], hB⟩
      by_cases cl : n2 = k
      case neg =>
        have hR := hid (hrg.out (rg_len (by rw [← HN.out, ← HN2.out]; exact cl)))
        have el : ((n2 : Int) != (k : Int)) = true := neI_true (by omega)
        go_wp2_with (first | (go_at_call 48; refine (isUse_b _ _ c4).mono ?_; rintro e w' ⟨rfl, rfl⟩) | (go_at_call 45; refine (between_b _ _ _ _ c5).mono ?_; rintro e w' ⟨rfl, rfl⟩))
        go_ret3
        exact ⟨by simp [hR.out], hB⟩
      have cl2 := cl.symm
      clear cl
      subst cl2
      have el : ((k : Int) != (k : Int)) = false := neI_false rfl
      go_wp2_with (first | (go_at_call 48; refine (isUse_b _ _ c4).mono ?_; rintro e w' ⟨rfl, rfl⟩) | (go_at_call 45; refine (between_b _ _ _ _ c5).mono ?_; rintro e w' ⟨rfl, rfl⟩))
      go_loopw [14, 52] (fun _ i w3 => ∃ q : Nat, q ≤ k ∧ i = .int .i64 q ∧ Hid (NoneUpTo (badPr P) q) ∧ Below w.heap.size w w3) (fun _ i _ => k - (intOf i).toNat)
      case atStart => exact ⟨0, Nat.zero_le _, rfl, hid (none_zero _), hB⟩
      case round =>
        clear hB
        obtain ⟨q, hq, rfl, hQ, hB⟩ := hrel
        by_cases hql : q < k
        · rcases hrd2 with hnil | ⟨g, o2, rfl, hl2, hcell2⟩
          · exact absurd (by rw [HN2.out, hnil]; rfl : k = 0) (by omega)
          have hqa : q < P.length := by rw [← HN2.out]; exact hql
          have g1 := (hB.cell (p := ⟨g, o2 + q, none⟩) hl2).trans (hcell2 q hqa)
          have hbg := hid (badPr_get hqa)
          have hbad := hid (fun hb => price_bad hqa hQ.out hb)
          clear hcell2
          obtain ⟨x, hx⟩ : ∃ x, x = P[q] := ⟨_, rfl⟩
          rw [← hx] at g1 hbg
          clear hx hqa
          have hq0 : (0 : Int) ≤ (q : Int) := by omega
          have hqn : (q : Int) < (k : Int) := by omega
          cases cp : inB x 0 100000
          · have hR := hid (hrg.out (rg_price (hbad.out (by rw [hbg.out, cp]; rfl))))
            go_wp2_with ((go_at_call 45; refine (between_b _ _ _ _ cp).mono ?_; rintro e w' ⟨rfl, rfl⟩))
            go_ret3
            exact ⟨by simp [hR.out], hB⟩
          · have hgo := hid (none_next hQ.out (by rw [hbg.out, cp]; rfl))
            go_wp2_with ((go_at_call 45; refine (between_b _ _ _ _ cp).mono ?_; rintro e w' ⟨rfl, rfl⟩))
            go_roundw
            case rel => exact ⟨q + 1, by omega, by go_num, hgo, hB⟩
            case measure => simp [intOf]; omega
        · obtain rfl : q = k := by omega
          have hprice := hid (price_all (P := P) (by rw [← HN2.out]; exact hQ.out))
          clear hQ
          have hrgt := hid (rg_all (L := L) (P := P) (n := st) (m := lm) hprice.out (by rw [← HN.out]; omega) (by rw [← HN.out, ← HN2.out]) c4 c5)
          have hno := hid (fun h => bestR_no hall.out hrgt.out h)
          have hyes := hid (fun h => bestR_ok hall.out hrgt.out h)
          have hst := inB_true c4
          have hlm := inB_true c5
          have hpg := hid (fun r (hq : r < P.length) => price_get hprice.out hq)
          have hok := hid (fun r (hq : r < L.length) => (by have := hall.out r hq; rw [badRb_get hq] at this; simpa using this : okB L[r].1 L[r].2.1 L[r].2.2 = true))
          go_wp2_with fail
          clear c4 c5 hrg
          clear el
          go_loopw [15, 16, 17, 18, 19, 62] (fun b c _ _ _ i w3 => ∃ r : Nat, r ≤ q ∧ i = .int .i64 r ∧ b = .int .i64 (bestTo L P st lm r).1 ∧ c = .int .i64 (bestTo L P st lm r).2 ∧ Below w.heap.size w w3) (fun _ _ _ _ _ i _ => q - (intOf i).toNat)
          case atStart => exact ⟨0, Nat.zero_le _, rfl, rfl, rfl, hB⟩
          case round =>
            clear hB
            obtain ⟨r, hq, rfl, rfl, rfl, hB⟩ := hrel
            by_cases hql : r < q
            · rcases hrd with hnil | ⟨b, o, rfl, hl1, hcell⟩
              · exact absurd (by rw [HN.out, hnil]; rfl : q = 0) (by omega)
              rcases hrd2 with hnil | ⟨g, o2, rfl, hl2, hcell2⟩
              · exact absurd (by rw [HN2.out, hnil]; rfl : q = 0) (by omega)
              have hka : r < L.length := by rw [← HN.out]; exact hql
              have hkb : r < P.length := by rw [← HN2.out]; omega
              obtain ⟨h1, h2, h3⟩ := (hcell r hka).below hB hl1
              have g1 := (hB.cell (p := ⟨g, o2 + r, none⟩) hl2).trans (hcell2 r hkb)
              have hpq := hpg.out r hkb
              obtain ⟨b1, b2, b3, b4, b5, b6⟩ := okB_true (hok.out r hka)
              have hct := hid (costAt_get (n := st) (m := lm) hka hkb)
              have hik := hid (inkAt_get hka)
              clear hcell hcell2
              obtain ⟨x, hx⟩ : ∃ x, x = L[r] := ⟨_, rfl⟩
              obtain ⟨y, hy⟩ : ∃ y, y = P[r] := ⟨_, rfl⟩
              rw [← hx] at h1 h2 h3 b1 b2 b3 b4 b5 b6 hct hik
              rw [← hy] at g1 hpq hct
              clear hx hy hka hkb
              have k1 := hid (fun h => best_ink (L := L) (P := P) (n := st) (m := lm) (k := r) h)
              have k2 := hid (fun h g => best_first (L := L) (P := P) (n := st) (m := lm) (k := r) h g)
              have k3 := hid (fun h g e => best_less (L := L) (P := P) (n := st) (m := lm) (k := r) h g e)
              have k4 := hid (fun h g e => best_keep (L := L) (P := P) (n := st) (m := lm) (k := r) h g e)
              rw [hik.out] at k1 k2 k3 k4
              rw [hct.out] at k2 k3 k4
              obtain ⟨s, i, t⟩ := x
              dsimp only at h1 h2 h3 b1 b2 b3 b4 b5 b6 k1 k2 k3 k4
              obtain ⟨bt, hbt⟩ : ∃ bt, bt = bestTo L P st lm r := ⟨_, rfl⟩
              rw [← hbt] at k1 k2 k3 k4 ⊢
              clear hbt hct hik
              obtain ⟨bb, bc⟩ := bt
              dsimp only at k2 k3 k4 ⊢
              have hq0 : (0 : Int) ≤ (r : Int) := by omega
              have hqn : (r : Int) < (q : Int) := by omega
              have hqn2 : (r : Int) < (q : Int) := by omega
              have z1 := Nat.lt_of_lt_of_le hl1 hB.size
              have z2 := Nat.lt_of_lt_of_le hl2 hB.size
              have z3 : g < wr.heap.size + 1 := by omega
              by_cases hi : i < lm
              · have hk1 := hid (k1.out hi)
                go_wp2_with fail
                go_roundw
                case rel => exact ⟨r + 1, by omega, by go_num, by rw [hk1.out], by rw [hk1.out], hB.trans (((Below.refl wr.heap.size wr).alloc (Nat.le_refl _) _).mono hB.size)⟩
                case measure => simp [intOf]; omega
              have hmb := many_bd s i t st lm (by omega) (by omega) (by omega) (by omega) (by omega)
              have hcb := cost_bd (a := y) (b := manyI s i t st lm) (by omega) (by omega) hmb.1 hmb.2
              have hmc := fun (W : World) => needed_any s i t st lm W b1 b2 b3 b4 b5 b6 (by omega) (by omega) (by omega)
              have HMC := hid hmc
              clear hmc
              obtain ⟨mv, hmv⟩ : ∃ mv, mv = manyI s i t st lm := ⟨_, rfl⟩
              rw [← hmv] at k2 k3 k4 hcb HMC
              clear hmv hmb
              have ewz : IntKind.i64.wrap (y * mv) = y * mv := IntWalk.i64_in _ (by omega)
              by_cases hbb : bb < 0
              · have hk2 := hid (k2.out (by omega) hbb)
                clear k1 k2 k3 k4
                go_wp2_with fail
                refine wp_region_over (by kernel_rfl) (by kernel_rfl) (fun hov => ?_)
                repeat (go_big_quiet_step (((go_at_call 59; exact overCall (HMC.out _)))))
                refine wpQuiet_nil ?_
                intro w5 hb5
                clear hov
                go_wp2
                go_roundw
                case rel => exact ⟨r + 1, by omega, by go_num, by rw [hk2.out], by rw [hk2.out], hB.trans (Below.trans ((Below.refl _ _).alloc (Nat.le_refl _) _) (hb5.mono (by simp)) |>.mono hB.size)⟩
                case measure => simp [intOf]; omega
              by_cases hcc : y * mv < bc
              · have hk2 := hid (k3.out (by omega) hbb hcc)
                clear k1 k2 k3 k4
                go_wp2_with fail
                refine wp_region_over (by kernel_rfl) (by kernel_rfl) (fun hov => ?_)
                repeat (go_big_quiet_step (((go_at_call 59; exact overCall (HMC.out _)))))
                refine wpQuiet_nil ?_
                intro w5 hb5
                clear hov
                go_wp2
                go_roundw
                case rel => exact ⟨r + 1, by omega, by go_num, by rw [hk2.out], by rw [hk2.out], hB.trans (Below.trans ((Below.refl _ _).alloc (Nat.le_refl _) _) (hb5.mono (by simp)) |>.mono hB.size)⟩
                case measure => simp [intOf]; omega
              · have hk2 := hid (k4.out (by omega) hbb hcc)
                clear k1 k2 k3 k4
                go_wp2_with fail
                refine wp_region_over (by kernel_rfl) (by kernel_rfl) (fun hov => ?_)
                repeat (go_big_quiet_step (((go_at_call 59; exact overCall (HMC.out _)))))
                refine wpQuiet_nil ?_
                intro w5 hb5
                clear hov
                go_wp2
                go_roundw
                case rel => exact ⟨r + 1, by omega, by go_num, by rw [hk2.out], by rw [hk2.out], hB.trans (Below.trans ((Below.refl _ _).alloc (Nat.le_refl _) _) (hb5.mono (by simp)) |>.mono hB.size)⟩
                case measure => simp [intOf]; omega
            · obtain rfl : r = q := by omega
              have hL := hid (show bestTo L P st lm L.length = bestTo L P st lm r by rw [← HN.out])
              rw [hL.out] at hno hyes
              obtain ⟨bt, hbt⟩ : ∃ bt, bt = bestTo L P st lm r := ⟨_, rfl⟩
              rw [← hbt] at hno hyes ⊢
              clear hbt
              obtain ⟨bb, bc⟩ := bt
              dsimp only at hno hyes ⊢
              by_cases hbb : bb < 0
              · have hR := hid (hno.out hbb)
                go_wp2_with fail
                go_ret3
                exact ⟨by simp [hR.out], hB⟩
              · have hR := hid (hyes.out (by omega))
                go_wp2_with fail
                go_ret3
                exact ⟨by simp [hR.out], hB⟩
end Go.Proofs.Ytkiegcjlomppdaa
