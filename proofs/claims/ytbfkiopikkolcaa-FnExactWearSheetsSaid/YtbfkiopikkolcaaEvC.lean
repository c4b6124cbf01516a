/-
  Sheets: the reference's order.
-/
import Derived.Test.YtbfkiopikkolcaaEvB
import Derived.Test.YtbfkiopikkolcaaAppend
namespace Go.Proofs.Ytbfkiopikkolcaa
open Go.RowKit Go.ChangeShapes Go.WideShapes
set_option linter.unusedVariables false
attribute [local go_sem ↓] Go.wp_at_zero Go.wp_at_succ

theorem adds (b o j : Nat) : (⟨b, o, none⟩ : Addr).add j = ⟨b, o + j, none⟩ := by
  by_cases h0 : j = 0
  · subst h0; simp [Addr.add]
  · simp [Addr.add, h0]
/-- the cells of a row of numbers -/
def CellsI (W : World) (b o : Nat) (L : List Int) : Prop := ∀ j (hj : j < L.length), W.cell? ⟨b, o + j, none⟩ = some (.int .i64 L[j])
theorem CellsI.below {W W' : World} {b o : Nat} {L : List Int} (h : CellsI W b o L) (hb : Below W.heap.size W W') (hl : b < W.heap.size) : CellsI W' b o L := fun j hj => (hb.cell (p := ⟨b, o + j, none⟩) hl).trans (h j hj)
theorem CellsI.below2 {W W' : World} {B b o : Nat} {L : List Int} (h : CellsI W b o L) (hb : Below B W W') (hl : b < B) : CellsI W' b o L := fun j hj => (hb.cell (p := ⟨b, o + j, none⟩) hl).trans (h j hj)
theorem CellsI.take {W : World} {b o k : Nat} {L : List Int} (h : CellsI W b o L) : CellsI W b o (L.take k) := by
  intro j hj
  rw [List.getElem_take]
  exact h j (by rw [List.length_take] at hj; omega)
theorem CellsI.drop {W : World} {b o k : Nat} {L : List Int} (h : CellsI W b o L) : CellsI W b (o + k) (L.drop k) := by
  intro j hj
  rw [List.getElem_drop, Nat.add_assoc]
  exact h (k + j) (by rw [List.length_drop] at hj; omega)
theorem cells_owned {W : World} {B g n c : Nat} {E : TypeId} {L : List Int} (h : W.ownsRow B E 1 (.slice (some ⟨g, 0, none⟩) n c) n (i64s L)) (hn : n = L.length) : CellsI W g 0 L := by
  intro j hj
  rw [Nat.zero_add, h.cellAt j (by omega), i64s_getD hj, List.getD_eq_getElem?_getD, List.getElem?_eq_getElem hj]; rfl
theorem news_i {W : World} {b o : Nat} {L : List Int} (h : CellsI W b o L) : ∀ j u, (i64s L)[j]? = some u → W.cell? ((⟨b, o, none⟩ : Addr).add j) = some u := by
  intro j u hu
  rw [adds]
  have hj : j < L.length := by
    rcases Nat.lt_or_ge j L.length with h1 | h1
    · exact h1
    · rw [List.getElem?_eq_none (by rw [i64s_len]; exact h1)] at hu; cases hu
  rw [h j hj, ← hu, i64s_getD hj, List.getD_eq_getElem?_getD, List.getElem?_eq_getElem hj]; rfl
theorem i64s_one (L : List Int) : ∀ u ∈ i64s L, u.oneCell' = true := fun u hu => by obtain ⟨x, _, rfl⟩ := List.mem_map.1 hu; rfl
theorem src_tailI {W : World} {b k n cap : Nat} {L : List Int} (h : CellsI W b 0 L) (hn : n = L.length) (hk : k ≤ n) (hc : n ≤ cap) : SrcOk W 1 (.slice (if cap = k then some ⟨b, 0, none⟩ else some ⟨b, k, none⟩) (n - k) (cap - k)) (n - k) (i64s (L.drop k)) := by
  have hl : (i64s (L.drop k)).length = (n - k) * 1 := by rw [i64s_len, List.length_drop]; omega
  by_cases e : cap = k
  · rw [if_pos e]
    refine .inr ⟨_, _, rfl, hl, ?_, i64s_one _⟩
    intro j u hu
    rw [List.getElem?_eq_none (by rw [hl]; omega)] at hu; cases hu
  · rw [if_neg e]
    refine .inr ⟨_, _, rfl, hl, ?_, i64s_one _⟩
    have := news_i (h.drop (k := k))
    rw [Nat.zero_add] at this
    exact this
theorem owns_lit (w : World) (E : TypeId) (B : Nat) (hB : B ≤ w.heap.size) : (w.alloc (.cells #[] E)).ownsRow B E 1 (.slice (some ⟨w.heap.size, 0, none⟩) 0 0) 0 [] := by
  have h := World.ownsRow_made (e := E) (size := 1) (base := B) w #[] 0 hB (by unfold maxLen; omega) rfl
  simpa using h
/-- one result, a row of numbers that is not nil, of the call's own -/
def OwnRet (w : World) (n : Nat) (L : List Int) (e : Ending) (w' : World) : Prop :=
  ∃ g c, e = .returned (.slice (some ⟨g, 0, none⟩) n c) ∧ w'.ownsRow w.heap.size 2 1 (.slice (some ⟨g, 0, none⟩) n c) n (i64s L) ∧ Below w.heap.size w w'
set_option maxHeartbeats 2000000 in
theorem own_any (b o n cap : Nat) (L : List Int) (w : World) (hL : n = L.length) (hn : n ≤ 1048576) (hc : CellsI w b o L) (hb : b < w.heap.size) :
    Calls Try.prog 60 #[.slice (some ⟨b, o, none⟩) n cap] w (OwnRet w n L) := by
  obtain ⟨i0, hi, iz0, iz1, iz2⟩ := info_parts Try.infoInt64
  have hlen : (i64s L).length = n * 1 := by rw [i64s_len]; omega
  have hB0 : Below w.heap.size w (w.alloc (.cells #[] 2)) := (Below.refl _ _).alloc (Nat.le_refl _) _
  have hnews := hid (news_i (hc.below hB0 hb))
  have hlit := owns_lit w 2 w.heap.size (Nat.le_refl _)
  clear hL hc
  go_enter Try.func60, Try.ntmps60
  go_wp2_with (at_builtin; refine wpList_append_own _ rfl _ _ 37 rfl w.heap.size 2 i0 (.int .i64 0) 1 8 Try.underlying37 hi iz0 iz1 iz2 rfl (by decide) (.slice (some ⟨w.heap.size, 0, none⟩) 0 0) _ _ rfl hlit ⟨b, o, none⟩ n cap (i64s L) rfl hlen hnews.out (i64s_one _) (by unfold maxLen; omega) (by omega) (by simp) ?_; intro v' w2 hown hgrow hnil)
  have hB2 := below_grown hB0 (by simp) hlit hgrow
  rw [Nat.zero_add] at hown
  rw [List.nil_append] at hown
  rcases owns_form hown with ⟨rfl, _, _⟩ | ⟨g, c, rfl, _⟩
  · have := (hnil.1 rfl).1; simp at this
  go_ret
  exact ⟨g, c, rfl, hown, hB2⟩

theorem ev_put (G : Nat → Int) (k j : Nat) (h : kpos (evLt G k) (evN G k) k = j) : i64s ((evI G k).take j) ++ [.int .i64 (k : Int)] ++ i64s ((evI G k).drop j) = i64s (evI G (k + 1)) := by
  rw [evI, evI, evN_succ, evStep, evN_len, h]
  simp [i64s, List.map_take, List.map_drop]
theorem kpos_yes (G : Nat → Int) (k j : Nat) (hj : j < (evN G k).length) (h : G k < G (evN G k)[j]) : kpos (evLt G k) (evN G k) (j + 1) = kpos (evLt G k) (evN G k) j := by
  rw [kpos, List.getElem?_eq_getElem hj]
  simp [evLt, h]
theorem kpos_no (G : Nat → Int) (k j : Nat) (hj : j < (evN G k).length) (h : ¬ G k < G (evN G k)[j]) : kpos (evLt G k) (evN G k) (j + 1) = j + 1 := by
  rw [kpos, List.getElem?_eq_getElem hj]
  simp [evLt, h]

set_option maxRecDepth 100000 in
set_option maxHeartbeats 8000000 in
theorem sEven_any (ao : Option Addr) (n cap : Nat) (l : List Int) (w : World) (hn : n = l.length) (hr : Rd w ao (i64s l)) (h12 : n ≤ 12) :
    Calls Try.prog 56 #[.slice ao n cap] w (RowRet1 w.heap.size 2 w (i64s (evI (gI l) n))) := by
  obtain ⟨i0, hi, iz0, iz1, iz2⟩ := info_parts Try.infoInt64
  have hrd := rd_gI hn hr
  clear hn hr
  generalize gI l = G at *
  have hlit := owns_lit w 2 w.heap.size (Nat.le_refl _)
  have hB0 : Below w.heap.size w (w.alloc (.cells #[] 2)) := (Below.refl _ _).alloc (Nat.le_refl _) _
  go_enter Try.func56, Try.ntmps56
  go_wp2_with fail
  go_loopw [3, 4, 5, 6] (fun v i _ _ wr => ∃ (k c g0 : Nat), k ≤ n ∧ i = .int .i64 k ∧ v = .slice (some ⟨g0, 0, none⟩) k c ∧ wr.ownsRow w.heap.size 2 1 v k (i64s (evI G k)) ∧ Below w.heap.size w wr) (fun _ i _ _ _ => n - (intOf i).toNat)
  case atStart => exact ⟨0, 0, w.heap.size, Nat.zero_le _, rfl, rfl, hlit, hB0⟩
  case round =>
    clear hlit hB0
    obtain ⟨k, c, g0, hk, rfl, rfl, hown, hB⟩ := hrel
    have hk0 : (0 : Int) ≤ (k : Int) := by omega
    by_cases hlt : k < n
    · have hkn : (k : Int) < (n : Int) := by omega
      rcases hrd with hnil | ⟨b, o, rfl, hbl, hcell⟩
      · omega
      have HC := hid hcell
      clear hcell
      have HLN := hid (evN_len G k)
      have HYL := hid (evN_lt G k)
      go_wp2_with fail
      generalize wr = wo at *
      go_loopw [5] (fun q wr => ∃ j : Nat, j ≤ k ∧ q = .int .i64 j ∧ Hid (kpos (evLt G k) (evN G k) k = kpos (evLt G k) (evN G k) j) ∧ wr.ownsRow w.heap.size 2 1 (.slice (some ⟨g0, 0, none⟩) k c) k (i64s (evI G k)) ∧ Below w.heap.size w wr) (fun q _ => (intOf q).toNat)
      case atStart => exact ⟨k, Nat.le_refl _, rfl, hid rfl, hown, hB⟩
      case round =>
        clear hown hB
        obtain ⟨j, hj, rfl, hK, hown, hB⟩ := hrel
        have hg0 := (hown.lt g0 rfl).2
        have hkc : k ≤ c := by
          rcases owns_form hown with ⟨h1, _⟩ | ⟨g1, c1, h1, _, _, h2, _⟩
          · simp at h1
          · simp at h1; omega
        have hj0 : (0 : Int) ≤ (j : Int) := by omega
        have hjk : (j : Int) ≤ (k : Int) := by omega
        have hjc : (j : Int) ≤ (c : Int) := by omega
        rcases Nat.eq_zero_or_pos j with hz0 | hpos
        · have hd : decide ((0 : Int) < (j : Int)) = false := by simp; omega
          have hdN : decide (0 < j) = false := by simp; omega
          have hat := hid (ev_put G k j (by rw [hK.out, hz0]; rfl))
          clear hz0
          go_wp2_with fail
          go_quiet (fail)
          go_wp2_with fail
          obtain ⟨wx, hwx⟩ : ∃ wx, wx = wr.drewN nq := ⟨_, rfl⟩
          rw [← hwx]
          have hownx : wx.ownsRow w.heap.size 2 1 (.slice (some ⟨g0, 0, none⟩) k c) k (i64s (evI G k)) := by rw [hwx]; exact owns_drewN hown _
          have hBx : Below w.heap.size w wx := by rw [hwx]; exact below_drewN hB _
          clear hwx hown hB hK
          have hg0 := (hownx.lt g0 rfl).2
          have hzx := hBx.size
          have hC := cells_owned hownx (evI_len G k).symm
          have htl : j = ((evI G k).take j).length := by rw [List.length_take, evI_len]; omega
          have HTL := hid htl
          clear htl
          go_wp2_with (first | (go_at_call 60; refine (own_any g0 0 j c ((evI G k).take j) _ HTL.out (by omega) hC.take hg0).mono ?_; rintro e w3 ⟨g1, c1, rfl, hown1, hb1⟩; have hz1 := hb1.size) | (at_builtin; refine wpList_append_own _ rfl _ _ 37 rfl wx.heap.size 2 i0 (.int .i64 0) 1 8 Try.underlying37 hi iz0 iz1 iz2 rfl (by decide) (.slice (some ⟨g1, 0, none⟩) j c1) _ _ rfl (hown1.alloc _) ⟨_, 0, none⟩ 1 1 [.int .i64 (k : Int)] rfl rfl (one_new _ _ _) (one_ok _ _) (by unfold maxLen; omega) (by omega) (by simp; omega) ?_; intro v2 w4 hown2 hgrow2 _; have hb2 := hb1.trans (below_grown ((Below.refl wx.heap.size w3).alloc (by omega) _) (by simp; omega) (hown1.alloc _) hgrow2); have hz2 := hb2.size; have hC2 := hC.below hb2 hg0; rcases owns_form hown2 with ⟨_, h00, _⟩ | ⟨g2, c2, rfl, _⟩; (exfalso; omega)) | (at_builtin; refine wpList_append_src rfl _ _ 37 rfl wx.heap.size 2 i0 (.int .i64 0) 1 8 Try.underlying37 hi iz0 iz1 iz2 rfl (by decide) (.slice (some ⟨g2, 0, none⟩) (j + 1) c2) _ _ rfl hown2 _ (k - j) (i64s ((evI G k).drop j)) rfl (src_tailI hC2 (evI_len G k).symm hj hkc) (by unfold maxLen; omega) (by omega) (by omega) ?_; intro v3 w5 hown3 hgrow3; have hb3 := hb2.trans (below_grown (Below.refl wx.heap.size w4) hz2 hown2 hgrow3)))
          have hnum : j + 1 + (k - j) = k + 1 := by omega
          rw [hnum, hat.out] at hown3
          rcases owns_form hown3 with ⟨_, h00, _⟩ | ⟨g3, c3, rfl, _⟩
          · omega
          go_roundw
          case rel => exact ⟨k + 1, c3, g3, by omega, by go_num, rfl, owns_mono hown3 (by omega), hBx.trans (hb3.mono (by omega))⟩
          case measure => simp [intOf]; omega
        · obtain ⟨i, hji⟩ : ∃ i, j = i + 1 := ⟨j - 1, by omega⟩
          have hil : i < (evN G k).length := by rw [HLN.out]; omega
          have hd : decide ((0 : Int) < (j : Int)) = true := by simp; omega
          have hdN : decide (0 < j) = true := by simp; omega
          have e4 : IntKind.i64.wrap ((j : Int) - 1) = (i : Int) := by rw [hji]; simp; exact IntWalk.i64_in _ (by omega)
          have e5 : (j : Int) - 1 = (i : Int) := by omega
          have e6 : IntKind.i64.wrap (i : Int) = (i : Int) := IntWalk.i64_in _ (by omega)
          have hi0 : (0 : Int) ≤ (i : Int) := by omega
          have hik : (i : Int) < (k : Int) := by omega
          have hikN : i < k := by omega
          have hy := HYL.out _ (List.getElem_mem hil)
          have c1 := cells_owned hown (evI_len G k).symm i (by rw [evI_len]; omega)
          have c1' : (evI G k)[i]'(by rw [evI_len]; omega) = ((evN G k)[i] : Int) := by simp [evI]
          rw [c1', Nat.zero_add] at c1
          have hyes := hid (fun h => kpos_yes G k i hil h)
          have hno := hid (fun h => kpos_no G k i hil h)
          obtain ⟨y, hyy⟩ : ∃ y, y = (evN G k)[i] := ⟨_, rfl⟩
          rw [← hyy] at hy c1 hyes hno
          clear hyy c1' hil
          have c2 := (hB.cell (p := ⟨b, o + y, none⟩) hbl).trans (HC.out y (by omega))
          have c3 := (hB.cell (p := ⟨b, o + k, none⟩) hbl).trans (HC.out k hlt)
          have hy0 : (0 : Int) ≤ (y : Int) := by omega
          have hyn : (y : Int) < (n : Int) := by omega
          have hynN : y < n := by omega
          obtain ⟨p, hp⟩ : ∃ p, p = G y := ⟨_, rfl⟩
          obtain ⟨q, hq⟩ : ∃ q, q = G k := ⟨_, rfl⟩
          rw [← hp] at c2 hyes hno
          rw [← hq] at c3 hyes hno
          clear hp hq
          have HJ := hid hji
          clear hji
          by_cases hgt : q < p
          · have hde : decide (q < p) = true := decide_eq_true hgt
            have hnx := hid (hK.out.trans (show kpos (evLt G k) (evN G k) j = kpos (evLt G k) (evN G k) i from by rw [HJ.out]; exact hyes.out hgt))
            clear hyes hno
            go_wp2_with fail
            go_quiet (fail)
            go_wp2
            go_roundw
            case rel => exact ⟨i, by omega, by go_num, hnx, owns_drewN hown _, below_drewN hB _⟩
            case measure => simp [intOf]; omega
          · have hde : decide (q < p) = false := decide_eq_false hgt
            have hat := hid (ev_put G k j (hK.out.trans (show kpos (evLt G k) (evN G k) j = j from by rw [HJ.out]; exact hno.out hgt)))
            clear hyes hno
            go_wp2_with fail
            go_quiet (fail)
            go_wp2_with fail
            obtain ⟨wx, hwx⟩ : ∃ wx, wx = wr.drewN nq := ⟨_, rfl⟩
            rw [← hwx]
            have hownx : wx.ownsRow w.heap.size 2 1 (.slice (some ⟨g0, 0, none⟩) k c) k (i64s (evI G k)) := by rw [hwx]; exact owns_drewN hown _
            have hBx : Below w.heap.size w wx := by rw [hwx]; exact below_drewN hB _
            clear hwx hown hB hK
            have hg0 := (hownx.lt g0 rfl).2
            have hzx := hBx.size
            have hC := cells_owned hownx (evI_len G k).symm
            have htl : j = ((evI G k).take j).length := by rw [List.length_take, evI_len]; omega
            have HTL := hid htl
            clear htl
            go_wp2_with (first | (go_at_call 60; refine (own_any g0 0 j c ((evI G k).take j) _ HTL.out (by omega) hC.take hg0).mono ?_; rintro e w3 ⟨g1, c1, rfl, hown1, hb1⟩; have hz1 := hb1.size) | (at_builtin; refine wpList_append_own _ rfl _ _ 37 rfl wx.heap.size 2 i0 (.int .i64 0) 1 8 Try.underlying37 hi iz0 iz1 iz2 rfl (by decide) (.slice (some ⟨g1, 0, none⟩) j c1) _ _ rfl (hown1.alloc _) ⟨_, 0, none⟩ 1 1 [.int .i64 (k : Int)] rfl rfl (one_new _ _ _) (one_ok _ _) (by unfold maxLen; omega) (by omega) (by simp; omega) ?_; intro v2 w4 hown2 hgrow2 _; have hb2 := hb1.trans (below_grown ((Below.refl wx.heap.size w3).alloc (by omega) _) (by simp; omega) (hown1.alloc _) hgrow2); have hz2 := hb2.size; have hC2 := hC.below hb2 hg0; rcases owns_form hown2 with ⟨_, h00, _⟩ | ⟨g2, c2, rfl, _⟩; (exfalso; omega)) | (at_builtin; refine wpList_append_src rfl _ _ 37 rfl wx.heap.size 2 i0 (.int .i64 0) 1 8 Try.underlying37 hi iz0 iz1 iz2 rfl (by decide) (.slice (some ⟨g2, 0, none⟩) (j + 1) c2) _ _ rfl hown2 _ (k - j) (i64s ((evI G k).drop j)) rfl (src_tailI hC2 (evI_len G k).symm hj hkc) (by unfold maxLen; omega) (by omega) (by omega) ?_; intro v3 w5 hown3 hgrow3; have hb3 := hb2.trans (below_grown (Below.refl wx.heap.size w4) hz2 hown2 hgrow3)))
            have hnum : j + 1 + (k - j) = k + 1 := by omega
            rw [hnum, hat.out] at hown3
            rcases owns_form hown3 with ⟨_, h00, _⟩ | ⟨g3, c3, rfl, _⟩
            · omega
            go_roundw
            case rel => exact ⟨k + 1, c3, g3, by omega, by go_num, rfl, owns_mono hown3 (by omega), hBx.trans (hb3.mono (by omega))⟩
            case measure => simp [intOf]; omega
    · obtain rfl : n = k := by omega
      go_wp2
      go_ret
      have hlen : (i64s (evI G n)).length = n := by rw [i64s_len, evI_len]
      refine ⟨some ⟨g0, 0, none⟩, c, by rw [hlen]; rfl, ?_, hB⟩
      rw [hlen]
      exact hown
end Go.Proofs.Ytbfkiopikkolcaa
