/-
  Walks of the laws' helpers over slices of faults: sizes, copy, equal.
-/
import Derived.Test.YthhpeanlpikjbaaSlSe
namespace Go.Proofs.Ythhpeanlpikjbaa
open Go.RowKit Go.ChangeShapes Go.WideShapes
set_option linter.unusedVariables false
attribute [local go_sem ↓] Go.wp_at_zero Go.wp_at_succ

theorem toFault_any (x : ByteArray) (y : Int) (w : World) : Calls Try.prog 83 #[.agg #[.string x, .int .i64 y]] w fun e w' => e = .returned (.agg #[.string x, .int .i64 y]) ∧ Below w.heap.size w w' := by
  go_enter Try.func83, Try.ntmps83
  go_wp2
  refine bodyPost_ret (v := .agg #[.string x, .int .i64 y]) (by simp [results, Try.results83, go_sem]) rfl ⟨rfl, ?_⟩
  (repeat (first | with_reducible exact Below.refl _ _ | with_reducible assumption | refine Below.drew ?_ | refine below_drewN ?_ _ | (refine Below.alloc ?_ (by first | omega | (simp; done) | (simp; omega)) _) | (refine Below.setCell ?_ (by first | omega | (simp; done) | (simp; omega)) _) | (refine Below.trans ?_ (Below.mono (by assumption) (by first | omega | (simp; done) | (simp; omega))))))
theorem eqFault_any (x : ByteArray) (y : Int) (w : World) : Calls Try.prog 84 #[.agg #[.string x, .int .i64 y], .agg #[.string x, .int .i64 y]] w fun e w' => e = .returned (.bool true) ∧ Below w.heap.size w w' := by
  go_enter Try.func84, Try.ntmps84
  go_wp2
  go_ret
  refine ⟨rfl, ?_⟩
  (repeat (first | with_reducible exact Below.refl _ _ | with_reducible assumption | refine Below.drew ?_ | refine below_drewN ?_ _ | (refine Below.alloc ?_ (by first | omega | (simp; done) | (simp; omega)) _) | (refine Below.setCell ?_ (by first | omega | (simp; done) | (simp; omega)) _) | (refine Below.trans ?_ (Below.mono (by assumption) (by first | omega | (simp; done) | (simp; omega))))))

theorem szFault_any (x : ByteArray) (y left : Int) (w : World) (hx : x.size ≤ maxLen) (h1 : 0 ≤ left) (h2 : left ≤ 1048576) : Calls Try.prog 81 #[.agg #[.string x, .int .i64 y], .int .i64 left] w fun e w' => e = .returned (.int .i64 (szSe x left)) ∧ Below w.heap.size w w' := by
  unfold maxLen at hx
  by_cases h3 : left - x.size < 0
  all_goals
    go_enter Try.func81, Try.ntmps81
    go_wp2
  all_goals
    go_ret
    refine ⟨ret_int (by unfold szSe; split <;> omega), ?_⟩
    (repeat (first | with_reducible exact Below.refl _ _ | with_reducible assumption | refine Below.drew ?_ | refine below_drewN ?_ _ | (refine Below.alloc ?_ (by first | omega | (simp; done) | (simp; omega)) _) | (refine Below.setCell ?_ (by first | omega | (simp; done) | (simp; omega)) _) | (refine Below.trans ?_ (Below.mono (by assumption) (by first | omega | (simp; done) | (simp; omega))))))

theorem Try.infoTf : (Try.prog.info? 109).map (fun i => (i.zero, i.size, i.bytes)) = some (some (.agg #[.string ByteArray.empty, .int .i64 0]), 2, 24) := by kernel_rfl


set_option maxHeartbeats 2000000 in
theorem toFaultS_any (ao : Option Addr) (n cap : Nat) (l : List Se) (w : World) (hn : n = l.length) (hr : Rd w ao (ses l)) (hm : n ≤ 1048576) :
    Calls Try.prog 61 #[.slice ao n cap] w (FlatRet1 w.heap.size 109 2 n w (ses l)) := by
  obtain ⟨i0, hi, hz0, hz1, hz2⟩ := info_parts Try.infoTf
  have HN := hid hn
  have hrd := rd_se hr
  clear hn hr
  go_enter Try.func61, Try.ntmps61
  go_wp2_with (at_make; refine wpList_make_full _ rfl _ _ 42 rfl w.heap.size 109 i0 (.agg #[.string ByteArray.empty, .int .i64 0]) 2 Try.underlying42 hi hz0 hz1 .i64 .i64 _ _ n rfl rfl rfl rfl (by rw [hz2]; omega) (by unfold maxLen; omega) (Nat.le_refl _) ?_; intro w1 hown hgrow)
  have hB0 : Below w.heap.size w w1 := (Below.refl _ _).grown hgrow (Nat.le_refl _) (by simp)
  have hown0 : w1.ownsRow w.heap.size 109 2 (.slice (some ⟨w.heap.size, 0, none⟩) n n) n (ses (fillRow l (ByteArray.empty, (0 : Int)) 0)) := by
    rw [fill_zero, ← HN.out, ses, ← made_flat seF_len (.agg #[.string ByteArray.empty, .int .i64 0]) (ByteArray.empty, (0 : Int)) n rfl (by omega)]
    exact hown
  clear hown hgrow hi hz0 hz1 hz2
  go_loopw [4] (fun i wr => ∃ k : Nat, k ≤ n ∧ i = .int .i64 k ∧ wr.ownsRow w.heap.size 109 2 (.slice (some ⟨w.heap.size, 0, none⟩) n n) n (ses (fillRow l (ByteArray.empty, (0 : Int)) k)) ∧ Below w.heap.size w wr) (fun i _ => n - (intOf i).toNat)
  case atStart => exact ⟨0, Nat.zero_le _, rfl, hown0, hB0⟩
  case round =>
    obtain ⟨k, hk, rfl, hown, hB⟩ := hrel
    by_cases hlt : k < n
    · rcases hrd with hnil | ⟨b, o, rfl, hbl, hcell⟩
      · exact absurd (by rw [HN.out, hnil]; rfl : n = 0) (by omega)
      · have hkl : k < l.length := by rw [← HN.out]; exact hlt
        obtain ⟨h1, h2⟩ := hcell k hkl
        have g1 := (hB.cell (p := ⟨b, o + k * 2, none⟩) hbl).trans h1
        have g2 := (hB.cell (p := ⟨b, o + k * 2 + 1, none⟩) hbl).trans h2
        clear hcell h1 h2
        have hk0 : (0 : Int) ≤ (k : Int) := by omega
        have hkn : (k : Int) < (n : Int) := by omega
        obtain ⟨x, hx⟩ : ∃ x, x = l[k] := ⟨_, rfl⟩
        rw [← hx] at g1 g2
        have Hx := hid hx
        clear hx
        go_wp2_with fail
        refine (toFault_any _ _ _).mono ?_
        rintro e w' ⟨rfl, hb⟩
        have ho2 := owns_below hown hb
        have hfl : (fillRow l (ByteArray.empty, (0 : Int)) k).length = n := by rw [fill_len _ _ _ (by omega)]; exact HN.out.symm
        have hal : (ses (fillRow l (ByteArray.empty, (0 : Int)) k)).length = n * 2 := by rw [ses_len, hfl]
        obtain ⟨v0, hv0⟩ : ∃ v, w'.cell? ⟨w.heap.size, k * 2, none⟩ = some v := ⟨_, by rw [ho2.cellAt (k * 2) (by omega), List.getElem?_eq_getElem (by rw [hal]; omega)]⟩
        obtain ⟨v1, hv1⟩ : ∃ v, w'.cell? ⟨w.heap.size, k * 2 + 1, none⟩ = some v := ⟨_, by rw [ho2.cellAt (k * 2 + 1) (by omega), List.getElem?_eq_getElem (by rw [hal]; omega)]⟩
        have hf0 := ho2.frozenAt (k * 2)
        have hf1 := ho2.frozenAt (k * 2 + 1)
        have Hfl := hid hfl
        clear hfl hal
        go_wp2_with fail
        go_roundw
        case rel =>
          refine ⟨k + 1, by omega, by go_num, ?_, ((hB.trans (hb.mono hB.size)).setCell (by simp) _).setCell (by simp) _⟩
          rw [← fill_next l _ k hkl, ← Hx.out, ← ses_set _ k x (by rw [Hfl.out]; exact hlt)]
          exact ((ho2.stored (k * 2) _).1.stored (k * 2 + 1) _).1
        case measure => simp [intOf]; omega
    · obtain rfl : k = n := by omega
      have hf := hid (show fillRow l (ByteArray.empty, (0 : Int)) k = l by rw [HN.out]; exact fill_all _ _)
      go_wp2
      go_ret
      rw [hf.out] at hown
      exact ⟨_, _, rfl, hown, hB⟩

set_option maxHeartbeats 1000000 in
theorem eqFaultS_any (ao bo : Option Addr) (l : List Se) (n cap cap2 : Nat) (w : World) (hn : n = l.length) (hm : n ≤ 1073741824) (ha : Rd w ao (ses l)) (hb : Rd w bo (ses l)) :
    Calls Try.prog 63 #[.slice ao n cap, .slice bo n cap2] w fun e w' => e = .returned (.bool true) ∧ Below w.heap.size w w' := by
  have hcase : n = 0 ∨ ∃ b o b2 o2, ao = some ⟨b, o, none⟩ ∧ bo = some ⟨b2, o2, none⟩ ∧ b < w.heap.size ∧ b2 < w.heap.size ∧ ∀ j, (h : j < l.length) → (w.cell? ⟨b, o + j * 2, none⟩ = some (.string l[j].1) ∧ w.cell? ⟨b, o + j * 2 + 1, none⟩ = some (.int .i64 l[j].2)) ∧ (w.cell? ⟨b2, o2 + j * 2, none⟩ = some (.string l[j].1) ∧ w.cell? ⟨b2, o2 + j * 2 + 1, none⟩ = some (.int .i64 l[j].2)) := by
    rcases rd_se ha with ha | ⟨b, o, h1, h2, h3⟩
    · left; rw [hn, ha]; rfl
    · rcases rd_se hb with hb | ⟨b2, o2, g1, g2, g3⟩
      · left; rw [hn, hb]; rfl
      · exact .inr ⟨b, o, b2, o2, h1, g1, h2, g2, fun j h => ⟨h3 j h, g3 j h⟩⟩
  clear ha hb
  rcases hcase with h0 | ⟨b, o, b2, o2, rfl, rfl, hl1, hl2, hc⟩
  · subst h0
    clear hn
    go_enter Try.func63, Try.ntmps63
    go_wp2
    refine wp_loop_rounds 1 ?_
    rw [rounds_succ]
    go_wp2
    go_ret
    exact ⟨rfl, Below.refl _ _⟩
  · have HC := hid hc
    have HN := hid hn
    clear hc hn
    go_enter Try.func63, Try.ntmps63
    go_wp2
    go_loopw [5] (fun i wr => ∃ k : Nat, k ≤ n ∧ i = .int .i64 k ∧ Below w.heap.size w wr) (fun i _ => n - (intOf i).toNat)
    case atStart => exact ⟨0, Nat.zero_le _, rfl, Below.refl _ _⟩
    case round =>
      obtain ⟨k, hk, rfl, hB⟩ := hrel
      by_cases hlt : k < n
      · have hkx : k < l.length := by rw [← HN.out]; exact hlt
        obtain ⟨x, hx⟩ : ∃ x, x = l[k] := ⟨_, rfl⟩
        obtain ⟨⟨f1, f2⟩, f3, f4⟩ := HC.out k hkx
        have h1 := (hB.cell (p := ⟨b, o + k * 2, none⟩) hl1).trans f1
        have h2 := (hB.cell (p := ⟨b, o + k * 2 + 1, none⟩) hl1).trans f2
        have h3 := (hB.cell (p := ⟨b2, o2 + k * 2, none⟩) hl2).trans f3
        have h4 := (hB.cell (p := ⟨b2, o2 + k * 2 + 1, none⟩) hl2).trans f4
        rw [← hx] at h1 h2 h3 h4
        clear hx f1 f2 f3 f4
        have hk0 : (0 : Int) ≤ (k : Int) := by omega
        have hkn : (k : Int) < (n : Int) := by omega
        have hlb : Below w.heap.size w wr.drew := hB.drew
        go_wp2_with fail
        go_region_held3 (fun w' => w'.cell? ⟨b, o + k * 2, none⟩ = some (.string x.1) ∧ w'.cell? ⟨b, o + k * 2 + 1, none⟩ = some (.int .i64 x.2) ∧ w'.cell? ⟨b2, o2 + k * 2, none⟩ = some (.string x.1) ∧ w'.cell? ⟨b2, o2 + k * 2 + 1, none⟩ = some (.int .i64 x.2))
          (first | exact ⟨(hb.cell (p := ⟨b, o + k * 2, none⟩) (Nat.lt_of_lt_of_le hl1 hB.size)).trans h1, (hb.cell (p := ⟨b, o + k * 2 + 1, none⟩) (Nat.lt_of_lt_of_le hl1 hB.size)).trans h2, (hb.cell (p := ⟨b2, o2 + k * 2, none⟩) (Nat.lt_of_lt_of_le hl2 hB.size)).trans h3, (hb.cell (p := ⟨b2, o2 + k * 2 + 1, none⟩) (Nat.lt_of_lt_of_le hl2 hB.size)).trans h4⟩ | (refine ⟨?_, ?_, ?_, ?_⟩ <;> assumption))
          (first | (go_at_call 84; refine (eqFault_any _ _ _).mono ?_; rintro e w' ⟨rfl, hb⟩))
        go_wp2
        go_roundw
        case rel => exact ⟨k + 1, by omega, by go_num, hlb.trans (hb.mono hlb.size)⟩
        case measure => simp [intOf]; omega
      · obtain rfl : k = n := by omega
        go_wp2
        go_ret
        exact ⟨rfl, hB⟩


set_option maxHeartbeats 1000000 in
theorem szFaultS_any (ao : Option Addr) (n cap : Nat) (l : List Se) (lf : Int) (w : World) (hf0 : 0 ≤ lf) (hf1 : lf ≤ 1048576) (hn : n = l.length) (hm : n ≤ maxLen) (hr : Rd w ao (ses l)) (hs : seSmall l) :
    Calls Try.prog 57 #[.slice ao n cap, .int .i64 lf] w fun e w' => e = .returned (.int .i64 (szAllSe lf n l)) ∧ Below w.heap.size w w' := by
  unfold maxLen at hm
  by_cases hbig : lf - (n : Int) < 0
  · go_enter Try.func57, Try.ntmps57
    go_wp2
    go_ret
    exact ⟨ret_int (szAllSe_big (by omega)).symm, Below.refl _ _⟩
  · have HN := hid hn
    have hrd := rd_se hr
    clear hn hr
    have hR := hid (szAllSe_small (l := l) hbig)
    go_enter Try.func57, Try.ntmps57
    go_wp2
    go_loopw [1, 5] (fun lv i wr => ∃ (k : Nat) (left : Int), k ≤ n ∧ i = .int .i64 k ∧ lv = .int .i64 left ∧ 0 ≤ left ∧ left ≤ 1048576 ∧ Hid (szSes (lf - n) l = szSes left (l.drop k)) ∧ Below w.heap.size w wr) (fun _ i _ => n - (intOf i).toNat)
    case atStart => exact ⟨0, _, Nat.zero_le _, rfl, rfl, by omega, by omega, rfl, Below.refl _ _⟩
    case round =>
      obtain ⟨k, left, hk, rfl, rfl, hl0, hl1, hS, hB⟩ := hrel
      by_cases hlt : k < n
      · rcases hrd with hnil | ⟨b, o, rfl, hbl, hcell⟩
        · exact absurd (by rw [HN.out, hnil]; rfl : n = 0) (by omega)
        · have hkl : k < l.length := by rw [← HN.out]; exact hlt
          obtain ⟨h1, h2⟩ := hcell k hkl
          have hs1 := seSmall_get hs k hkl
          have g1 := (hB.cell (p := ⟨b, o + k * 2, none⟩) hbl).trans h1
          have g2 := (hB.cell (p := ⟨b, o + k * 2 + 1, none⟩) hbl).trans h2
          clear hcell h1 h2
          have hk0 : (0 : Int) ≤ (k : Int) := by omega
          have hkn : (k : Int) < (n : Int) := by omega
          obtain ⟨x, hx⟩ : ∃ x, x = l[k] := ⟨_, rfl⟩
          have hst := hid (show szSes left (l.drop k) = if szSe x.1 left < 0 then -1 else szSes (szSe x.1 left) (l.drop (k + 1)) by rw [List.drop_eq_getElem_cons hkl, hx]; rfl)
          rw [← hx] at g1 g2 hs1
          have Hx := hid hx
          clear hx
          have hzl := szSe_bd x.1 left hl0
          by_cases hz : szSe x.1 left < 0
          · go_wp2_with (go_at_call 81; refine (szFault_any _ _ _ _ hs1 hl0 hl1).mono ?_; rintro e w' ⟨rfl, hb⟩)
            go_ret
            exact ⟨ret_int (by rw [hR.out, hS.out, hst.out, if_pos (by omega)]), hB.trans (hb.mono hB.size)⟩
          · go_wp2_with (go_at_call 81; refine (szFault_any _ _ _ _ hs1 hl0 hl1).mono ?_; rintro e w' ⟨rfl, hb⟩)
            go_roundw
            case rel => exact ⟨k + 1, _, by omega, by go_num, rfl, by omega, by omega, hid (by rw [hS.out, hst.out, if_neg (by omega)]), hB.trans (hb.mono hB.size)⟩
            case measure => simp [intOf]; omega
      · obtain rfl : k = n := by omega
        have hd := hid (show l.drop k = [] from List.drop_eq_nil_of_le (by rw [HN.out]; exact Nat.le_refl _))
        go_wp2
        go_ret
        exact ⟨ret_int (by rw [hR.out, hS.out, hd.out]; rfl), hB⟩

end Go.Proofs.Ythhpeanlpikjbaa
