/-
  Sheets: WearSheets, walks of both sides.
-/
import Derived.Test.YtbfkiopikkolcaaEvD
namespace Go.Proofs.Ytbfkiopikkolcaa
open Go.RowKit Go.ChangeShapes Go.WideShapes
set_option linter.unusedVariables false
attribute [local go_sem ↓] Go.wp_at_zero Go.wp_at_succ

def wIn (L : List Int) (ord : List Nat) : Nat → List Int
  | 0 => L
  | k + 1 => (wIn L ord k).set (ord.getD k 0) (wrap64 ((wIn L ord k).getD (ord.getD k 0) 0 + ((L.length : Int) - (k : Int))))
theorem wIn_len (L : List Int) (ord : List Nat) : ∀ k, (wIn L ord k).length = L.length
  | 0 => rfl
  | k + 1 => by rw [wIn, List.length_set, wIn_len L ord k]
theorem wIn_next {L : List Int} {ord : List Nat} {k n : Nat} (hk : k < ord.length) (hn : n = L.length) (hy : ord[k] < (wIn L ord k).length) :
    wIn L ord (k + 1) = (wIn L ord k).set ord[k] (wrap64 ((wIn L ord k)[ord[k]] + ((n : Int) - (k : Int)))) := by
  have e : ord.getD k 0 = ord[k] := by rw [List.getD_eq_getElem?_getD, List.getElem?_eq_getElem hk]; rfl
  rw [wIn, e, List.getD_eq_getElem?_getD, List.getElem?_eq_getElem hy, hn]; rfl
def wearStep (L : List Int) : List Int := wIn L (evN (gI L) L.length) L.length
def wearTo (l : List Int) : Nat → List Int | 0 => l | r + 1 => wearStep (wearTo l r)
theorem wearTo_len (l : List Int) : ∀ r, (wearTo l r).length = l.length
  | 0 => rfl
  | r + 1 => by rw [wearTo, wearStep, wIn_len, wearTo_len l r]
def wearR (l : List Int) (t : Int) : List Int := if wornB l && inB t 0 1000 then wearTo l t.toNat else []
def wearC (l : List Int) (t : Int) : Int := if wornB l && inB t 0 1000 then 0 else 2
theorem wear_no1 {l : List Int} {t : Int} (h : wornB l = false) : wearR l t = [] ∧ wearC l t = 2 := by unfold wearR wearC; rw [h]; exact ⟨rfl, rfl⟩
theorem wear_no2 {l : List Int} {t : Int} (h : inB t 0 1000 = false) : wearR l t = [] ∧ wearC l t = 2 := by unfold wearR wearC; rw [h, Bool.and_false]; exact ⟨rfl, rfl⟩
theorem wear_yes {l : List Int} {t : Nat} (h : wornB l = true) (h2 : inB (t : Int) 0 1000 = true) : wearR l t = wearTo l t ∧ wearC l t = 0 := by unfold wearR wearC; rw [h, h2]; exact ⟨rfl, rfl⟩
theorem wearR_len (l : List Int) (t : Int) : (wearR l t).length ≤ 12 := by
  unfold wearR
  cases h : wornB l
  · simp
  · split
    · rw [wearTo_len]; exact worn_len h
    · simp
theorem src_own {W W' : World} {B : Nat} {E : TypeId} {ao : Option Addr} {n cap : Nat} {L : List Int} (h : W.ownsRow B E 1 (.slice ao n cap) n (i64s L)) (hn : n = L.length) (hb : Below W.heap.size W W') : SrcOk W' 1 (.slice ao n cap) n (i64s L) := by
  have h' := owns_below h hb
  rcases owns_form h' with ⟨h1, h2, h3⟩ | ⟨g, c, h1, _⟩
  · cases h1; exact .inl ⟨rfl, rfl, h3⟩
  · cases h1
    exact .inr ⟨_, _, rfl, by rw [i64s_len]; omega, news_i (cells_owned h' hn), i64s_one _⟩
set_option maxHeartbeats 2000000 in
theorem own2_any (B : Nat) (ao : Option Addr) (n cap : Nat) (L : List Int) (w : World) (hL : n = L.length) (hn : n ≤ 1048576) (hown : w.ownsRow B 2 1 (.slice ao n cap) n (i64s L)) :
    Calls Try.prog 60 #[.slice ao n cap] w (RowRet1 w.heap.size 2 w (i64s L)) := by
  obtain ⟨i0, hi, iz0, iz1, iz2⟩ := info_parts Try.infoInt64
  have hlen : (i64s L).length = n := by rw [i64s_len]; omega
  have hB0 : Below w.heap.size w (w.alloc (.cells #[] 2)) := (Below.refl _ _).alloc (Nat.le_refl _) _
  have hsrc := hid (src_own hown hL hB0)
  have hlit := owns_lit w 2 w.heap.size (Nat.le_refl _)
  clear hL hown
  go_enter Try.func60, Try.ntmps60
  go_wp2_with (at_builtin; refine wpList_append_src rfl _ _ 37 rfl w.heap.size 2 i0 (.int .i64 0) 1 8 Try.underlying37 hi iz0 iz1 iz2 rfl (by decide) (.slice (some ⟨w.heap.size, 0, none⟩) 0 0) _ _ rfl hlit (.slice ao n cap) n (i64s L) rfl hsrc.out (by unfold maxLen; omega) (by omega) (by simp) ?_; intro v' w2 hown2 hgrow)
  have hB2 := below_grown hB0 (by simp) hlit hgrow
  rw [Nat.zero_add, List.nil_append] at hown2
  rcases owns_form hown2 with ⟨rfl, hn0, hx⟩ | ⟨g, c, rfl, _⟩
  · go_ret
    rw [hx]
    exact ⟨none, 0, rfl, World.ownsRow_nil _ _ _ _, hB2⟩
  · go_ret
    exact ⟨some ⟨g, 0, none⟩, c, by rw [hlen]; rfl, by rw [hlen]; exact hown2, hB2⟩

set_option maxRecDepth 100000 in
set_option maxHeartbeats 8000000 in
theorem sWear_any (B : Nat) (ao : Option Addr) (n cap : Nat) (l : List Int) (t : Int) (w : World) (hn : n = l.length) (hownI : w.ownsRow B 2 1 (.slice ao n cap) n (i64s l)) (hm : n ≤ 1048576) :
    Calls Try.prog 30 #[.slice ao n cap, .int .i64 t] w (RowRet w.heap.size 2 w (i64s (wearR l t)) (wearC l t)) := by
  obtain ⟨i0, hi, iz0, iz1, iz2⟩ := info_parts Try.infoInt64
  have HN := hid hn
  have hr := owns_rd hownI
  have hlen : (i64s l).length = n := by rw [i64s_len]; omega
  clear hn
  cases hw : wornB l
  · have hR := hid (wear_no1 (t := t) hw)
    go_enter Try.func30, Try.ntmps30
    go_wp2_with (go_at_call 55; refine (sWorn_any ao n cap l _ HN.out hr hm).mono ?_; rw [hw]; rintro e w1 ⟨rfl, hb1⟩)
    go_ret2
    rw [hR.out.1, hR.out.2]
    exact ⟨none, 0, by simp [i64s], World.ownsRow_nil _ _ _ _, hb1⟩
  have h12 : n ≤ 12 := by rw [HN.out]; exact worn_len hw
  have HW := hid hw
  cases ht : inB t 0 1000
  · have hR := hid (wear_no2 (l := l) ht)
    clear hw
    go_enter Try.func30, Try.ntmps30
    go_wp2_with (first | (go_at_call 55; refine (sWorn_any ao n cap l _ HN.out hr hm).mono ?_; rw [HW.out]; rintro e w1 ⟨rfl, hb1⟩) | (go_at_call 59; refine (in_b _ _ _ _ ht).mono ?_; rintro e w2 ⟨rfl, rfl⟩))
    go_ret2
    rw [hR.out.1, hR.out.2]
    exact ⟨none, 0, by simp [i64s], World.ownsRow_nil _ _ _ _, hb1⟩
  obtain ⟨T, rfl⟩ : ∃ T : Nat, t = T := ⟨t.toNat, by have := inB_of ht; omega⟩
  have hT : T ≤ 1000 := by have := inB_of ht; omega
  have hR := hid (wear_yes hw ht)
  clear hw
  go_enter Try.func30, Try.ntmps30
  go_wp2_with (first | (go_at_call 55; refine (sWorn_any ao n cap l _ HN.out hr hm).mono ?_; rw [HW.out]; rintro e w1 ⟨rfl, hb1⟩; have hown1 := owns_below hownI hb1; have hlit := owns_lit w1 2 w1.heap.size (Nat.le_refl _); have hB0 : Below w1.heap.size w1 (w1.alloc (.cells #[] 2)) := (Below.refl _ _).alloc (Nat.le_refl _) _; have hsrc := hid (src_own hown1 HN.out hB0)) | (go_at_call 59; refine (in_b _ _ _ _ ht).mono ?_; rintro e w2 ⟨rfl, rfl⟩) | (go_at_call 60; refine (own2_any B ao n cap l _ HN.out hm hown1).mono ?_; rintro e w2 ⟨ao2, c2, he2, hown2, hb2⟩; rw [hlen] at he2 hown2; subst he2))
  have hownS : w2.ownsRow w.heap.size 2 1 (.slice ao2 n c2) n (i64s (wearTo l 0)) := owns_mono hown2 hb1.size
  have hBS : Below w.heap.size w w2 := hb1.trans (hb2.mono hb1.size)
  clear hown2 hb2 hb1 hown1 hlit hB0 hsrc hr hownI
  go_loopw [1, 7, 8] (fun i _ _ wr => ∃ q : Nat, q ≤ T ∧ i = .int .i64 q ∧ wr.ownsRow w.heap.size 2 1 (.slice ao2 n c2) n (i64s (wearTo l (T - q))) ∧ Below w.heap.size w wr) (fun i _ _ _ => (intOf i).toNat)
  case atStart => exact ⟨T, Nat.le_refl _, rfl, by rw [Nat.sub_self]; exact hownS, hBS⟩
  case round =>
    clear hownS hBS
    obtain ⟨q, hq, rfl, hown, hB⟩ := hrel
    by_cases hlt : 0 < q
    · have hq0 : (0 : Int) ≤ (q : Int) := by omega
      have hd : decide ((0 : Int) < (q : Int)) = true := by simp; omega
      obtain ⟨q1, hq1⟩ : ∃ q1, q = q1 + 1 := ⟨q - 1, by omega⟩
      have e4 : IntKind.i64.wrap ((q : Int) - 1) = (q1 : Int) := by rw [hq1]; simp; exact IntWalk.i64_in _ (by omega)
      have e5 : (q : Int) - 1 = (q1 : Int) := by omega
      have hst : wearStep (wearTo l (T - q)) = wearTo l (T - q1) := by rw [show T - q1 = (T - q) + 1 by omega]; rfl
      have HST := hid hst
      clear hst
      have hLn := hid (show n = (wearTo l (T - q)).length by rw [wearTo_len]; exact HN.out)
      generalize wearTo l (T - q) = L at *
      have hr3 := owns_rd hown
      have hle3 : (i64s (evI (gI L) n)).length = n := by rw [i64s_len, evI_len]
      go_wp2_with (go_at_call 56; refine (sEven_any ao2 n c2 L _ hLn.out hr3 h12).mono ?_; rintro e w3 ⟨ao3, c3, he3, hown3, hb3⟩; rw [hle3] at he3 hown3; subst he3)
      have hAO := hid (fun (b : Addr) (hb : ao2 = some b) => (by subst hb; exact (hown.lt b.block rfl).2 : b.block < wr.heap.size))
      have hownA := owns_below hown hb3
      have hBA := hB.trans (hb3.mono hB.size)
      have hzA := hb3.size
      have hzz := hB.size
      clear hown hB hb3 hr3
      have HLE := hid (evN_len (gI L) n)
      have HYL := hid (evN_lt (gI L) n)
      generalize wr = wo at *
      go_loopw [8] (fun j wr => ∃ k : Nat, k ≤ n ∧ j = .int .i64 k ∧ wr.ownsRow w.heap.size 2 1 (.slice ao2 n c2) n (i64s (wIn L (evN (gI L) n) k)) ∧ wr.ownsRow wo.heap.size 2 1 (.slice ao3 n c3) n (i64s (evI (gI L) n)) ∧ Below w.heap.size w wr) (fun j _ => n - (intOf j).toNat)
      case atStart => exact ⟨0, Nat.zero_le _, rfl, hownA, hown3, hBA⟩
      case round =>
        clear hownA hown3 hBA
        obtain ⟨k, hk, rfl, hown, hown3, hB⟩ := hrel
        by_cases hkn : k < n
        · have hk0 : (0 : Int) ≤ (k : Int) := by omega
          have hkI : (k : Int) < (n : Int) := by omega
          rcases owns_form hown with ⟨_, h00, _⟩ | ⟨g, cc, hg, hg1, hg2, _⟩
          · omega
          cases hg
          rcases owns_form hown3 with ⟨_, h00, _⟩ | ⟨g3, cc3, hg3, hg4, hg5, _⟩
          · omega
          cases hg3
          have hgo : g < wo.heap.size := hAO.out _ rfl
          have hil : k < (evN (gI L) n).length := by rw [HLE.out]; exact hkn
          have hy := HYL.out _ (List.getElem_mem hil)
          have d1 := cells_owned hown3 (evI_len (gI L) n).symm k (by rw [evI_len]; exact hkn)
          have d1' : (evI (gI L) n)[k]'(by rw [evI_len]; exact hkn) = ((evN (gI L) n)[k] : Int) := by simp [evI]
          rw [d1', Nat.zero_add] at d1
          have hyl : (evN (gI L) n)[k] < (wIn L (evN (gI L) n) k).length := by rw [wIn_len, ← hLn.out]; exact hy
          have d2 := cells_owned hown (by rw [wIn_len]; exact hLn.out) _ hyl
          rw [Nat.zero_add] at d2
          have hnx := hid (wIn_next hil hLn.out hyl)
          have f2 := hown.frozenAt (evN (gI L) n)[k]
          obtain ⟨x, hx⟩ : ∃ x, x = (wIn L (evN (gI L) n) k)[(evN (gI L) n)[k]] := ⟨_, rfl⟩
          rw [← hx] at d2 hnx
          clear hx hyl
          obtain ⟨y, hyy⟩ : ∃ y, y = (evN (gI L) n)[k] := ⟨_, rfl⟩
          rw [← hyy] at hy d1 d2 hnx f2
          clear hyy d1' hil
          have hy0 : (0 : Int) ≤ (y : Int) := by omega
          have hyn : (y : Int) < (n : Int) := by omega
          have e7 : IntKind.i64.wrap ((n : Int) - (k : Int)) = (n : Int) - (k : Int) := IntWalk.i64_in _ (by omega)
          have hne : g ≠ g3 := by omega
          go_wp2
          go_roundw
          case rel => exact ⟨k + 1, by omega, by go_num, by rw [hnx.out, ← i64s_set]; exact (hown.stored y _).1, ownsRow_setCell_below hown3 hgo _, hB.setCell hg1 _⟩
          case measure => simp [intOf]; omega
        · obtain rfl : n = k := by omega
          have HWI := hid (show wr.ownsRow w.heap.size 2 1 (.slice ao2 n c2) n (i64s (wearStep L)) from by unfold wearStep; rw [← hLn.out]; exact hown)
          go_wp2
          go_roundw
          case rel => exact ⟨q1, by omega, by go_num, by rw [← HST.out]; exact HWI.out, hB⟩
          case measure => simp [intOf]; omega
    · have hq00 : q = 0 := by omega
      subst hq00
      have hlw : (i64s (wearTo l T)).length = n := by rw [i64s_len, wearTo_len]; exact HN.out.symm
      rw [Nat.sub_zero] at hown
      go_wp2
      go_ret2
      rw [hR.out.1, hR.out.2]
      exact ⟨ao2, c2, by rw [hlw]; rfl, by rw [hlw]; exact hown, hB⟩

set_option maxRecDepth 100000 in
set_option maxHeartbeats 8000000 in
theorem wear_any (B : Nat) (ao : Option Addr) (n cap : Nat) (l : List Int) (t : Int) (w : World) (hn : n = l.length) (hownI : w.ownsRow B 2 1 (.slice ao n cap) n (i64s l)) (hm : n ≤ 1048576) :
    Calls Try.prog 31 #[.slice ao n cap, .int .i64 t] w (RowRet w.heap.size 2 w (i64s (wearR l t)) (wearC l t)) := by
  obtain ⟨i0, hi, iz0, iz1, iz2⟩ := info_parts Try.infoInt64
  have HN := hid hn
  have hr := owns_rd hownI
  have hlen : (i64s l).length = n := by rw [i64s_len]; omega
  clear hn
  cases hw : wornB l
  · have hR := hid (wear_no1 (t := t) hw)
    go_enter Try.func31, Try.ntmps31
    go_wp2_with (go_at_call 57; refine (worn_any ao n cap l _ HN.out hr hm).mono ?_; rw [hw]; rintro e w1 ⟨rfl, hb1⟩)
    go_ret2
    rw [hR.out.1, hR.out.2]
    exact ⟨none, 0, by simp [i64s], World.ownsRow_nil _ _ _ _, hb1⟩
  have h12 : n ≤ 12 := by rw [HN.out]; exact worn_len hw
  have HW := hid hw
  cases ht : inB t 0 1000
  · have hR := hid (wear_no2 (l := l) ht)
    clear hw
    go_enter Try.func31, Try.ntmps31
    go_wp2_with (first | (go_at_call 57; refine (worn_any ao n cap l _ HN.out hr hm).mono ?_; rw [HW.out]; rintro e w1 ⟨rfl, hb1⟩) | (go_at_call 36; refine (between_b _ _ _ _ ht).mono ?_; rintro e w2 ⟨rfl, rfl⟩))
    go_ret2
    rw [hR.out.1, hR.out.2]
    exact ⟨none, 0, by simp [i64s], World.ownsRow_nil _ _ _ _, hb1⟩
  obtain ⟨T, rfl⟩ : ∃ T : Nat, t = T := ⟨t.toNat, by have := inB_of ht; omega⟩
  have hT : T ≤ 1000 := by have := inB_of ht; omega
  have hR := hid (wear_yes hw ht)
  clear hw
  go_enter Try.func31, Try.ntmps31
  go_wp2_with (first | (go_at_call 57; refine (worn_any ao n cap l _ HN.out hr hm).mono ?_; rw [HW.out]; rintro e w1 ⟨rfl, hb1⟩; have hown1 := owns_below hownI hb1; have hlit := owns_lit w1 2 w1.heap.size (Nat.le_refl _); have hB0 : Below w1.heap.size w1 (w1.alloc (.cells #[] 2)) := (Below.refl _ _).alloc (Nat.le_refl _) _; have hsrc := hid (src_own hown1 HN.out hB0)) | (go_at_call 36; refine (between_b _ _ _ _ ht).mono ?_; rintro e w2 ⟨rfl, rfl⟩) | (at_builtin; refine wpList_append_src rfl _ _ 37 rfl w1.heap.size 2 i0 (.int .i64 0) 1 8 Try.underlying37 hi iz0 iz1 iz2 rfl (by decide) (.slice (some ⟨w1.heap.size, 0, none⟩) 0 0) _ _ rfl hlit (.slice ao n cap) n (i64s l) rfl hsrc.out (by unfold maxLen; omega) (by omega) (by simp) ?_; intro v2 w2 hown2 hgrow2))
  have hb2 : Below w1.heap.size w1 w2 := below_grown hB0 (by simp) hlit hgrow2
  rw [Nat.zero_add, List.nil_append] at hown2
  obtain ⟨ao2, c2, rfl⟩ : ∃ ao2 c2, v2 = .slice ao2 n c2 := by
    rcases owns_form hown2 with ⟨rfl, hn0, _⟩ | ⟨g, c, rfl, _⟩
    · exact ⟨none, 0, by rw [hn0]⟩
    · exact ⟨_, c, rfl⟩
  have hownS : w2.ownsRow w.heap.size 2 1 (.slice ao2 n c2) n (i64s (wearTo l 0)) := owns_mono hown2 hb1.size
  have hBS : Below w.heap.size w w2 := hb1.trans (hb2.mono hb1.size)
  clear hown2 hgrow2 hb2 hb1 hown1 hlit hB0 hsrc hr hownI
  go_loopw [7, 8, 21] (fun _ _ i wr => ∃ q : Nat, q ≤ T ∧ i = .int .i64 q ∧ wr.ownsRow w.heap.size 2 1 (.slice ao2 n c2) n (i64s (wearTo l q)) ∧ Below w.heap.size w wr) (fun _ _ i _ => T - (intOf i).toNat)
  case atStart => exact ⟨0, Nat.zero_le _, rfl, hownS, hBS⟩
  case round =>
    clear hownS hBS
    obtain ⟨q, hq, rfl, hown, hB⟩ := hrel
    by_cases hlt : q < T
    · have hq0 : (0 : Int) ≤ (q : Int) := by omega
      have hd : (q : Int) < (T : Int) := by omega
      have hst : wearStep (wearTo l q) = wearTo l (q + 1) := rfl
      have HST := hid hst
      clear hst
      have hLn := hid (show n = (wearTo l (q)).length by rw [wearTo_len]; exact HN.out)
      generalize wearTo l (q) = L at *
      have hr3 := owns_rd hown
      have hle3 : (i64s (evI (gI L) n)).length = n := by rw [i64s_len, evI_len]
      go_wp2_with (go_at_call 58; refine (evenly_any ao2 n c2 L _ hLn.out hr3 h12).mono ?_; rintro e w3 ⟨ao3, c3, he3, hown3, hb3⟩; rw [hle3] at he3 hown3; subst he3)
      have hAO := hid (fun (b : Addr) (hb : ao2 = some b) => (by subst hb; exact (hown.lt b.block rfl).2 : b.block < wr.heap.size))
      have hownA := owns_below hown hb3
      have hBA := hB.trans (hb3.mono hB.size)
      have hzA := hb3.size
      have hzz := hB.size
      clear hown hB hb3 hr3
      have HLE := hid (evN_len (gI L) n)
      have HYL := hid (evN_lt (gI L) n)
      generalize wr = wo at *
      go_loopw [7, 8, 26] (fun _ _ j wr => ∃ k : Nat, k ≤ n ∧ j = .int .i64 k ∧ wr.ownsRow w.heap.size 2 1 (.slice ao2 n c2) n (i64s (wIn L (evN (gI L) n) k)) ∧ wr.ownsRow wo.heap.size 2 1 (.slice ao3 n c3) n (i64s (evI (gI L) n)) ∧ Below w.heap.size w wr) (fun _ _ j _ => n - (intOf j).toNat)
      case atStart => exact ⟨0, Nat.zero_le _, rfl, hownA, hown3, hBA⟩
      case round =>
        clear hownA hown3 hBA
        obtain ⟨k, hk, rfl, hown, hown3, hB⟩ := hrel
        by_cases hkn : k < n
        · have hk0 : (0 : Int) ≤ (k : Int) := by omega
          have hkI : (k : Int) < (n : Int) := by omega
          rcases owns_form hown with ⟨_, h00, _⟩ | ⟨g, cc, hg, hg1, hg2, _⟩
          · omega
          cases hg
          rcases owns_form hown3 with ⟨_, h00, _⟩ | ⟨g3, cc3, hg3, hg4, hg5, _⟩
          · omega
          cases hg3
          have hgo : g < wo.heap.size := hAO.out _ rfl
          have hil : k < (evN (gI L) n).length := by rw [HLE.out]; exact hkn
          have hy := HYL.out _ (List.getElem_mem hil)
          have d1 := cells_owned hown3 (evI_len (gI L) n).symm k (by rw [evI_len]; exact hkn)
          have d1' : (evI (gI L) n)[k]'(by rw [evI_len]; exact hkn) = ((evN (gI L) n)[k] : Int) := by simp [evI]
          rw [d1', Nat.zero_add] at d1
          have hyl : (evN (gI L) n)[k] < (wIn L (evN (gI L) n) k).length := by rw [wIn_len, ← hLn.out]; exact hy
          have d2 := cells_owned hown (by rw [wIn_len]; exact hLn.out) _ hyl
          rw [Nat.zero_add] at d2
          have hnx := hid (wIn_next hil hLn.out hyl)
          have f2 := hown.frozenAt (evN (gI L) n)[k]
          obtain ⟨x, hx⟩ : ∃ x, x = (wIn L (evN (gI L) n) k)[(evN (gI L) n)[k]] := ⟨_, rfl⟩
          rw [← hx] at d2 hnx
          clear hx hyl
          obtain ⟨y, hyy⟩ : ∃ y, y = (evN (gI L) n)[k] := ⟨_, rfl⟩
          rw [← hyy] at hy d1 d2 hnx f2
          clear hyy d1' hil
          have hy0 : (0 : Int) ≤ (y : Int) := by omega
          have hyn : (y : Int) < (n : Int) := by omega
          have e7 : IntKind.i64.wrap ((n : Int) - (k : Int)) = (n : Int) - (k : Int) := IntWalk.i64_in _ (by omega)
          have hne : g ≠ g3 := by omega
          go_wp2
          go_roundw
          case rel => exact ⟨k + 1, by omega, by go_num, by rw [hnx.out, ← i64s_set]; exact (hown.stored y _).1, ownsRow_setCell_below hown3 hgo _, hB.setCell hg1 _⟩
          case measure => simp [intOf]; omega
        · obtain rfl : n = k := by omega
          have HWI := hid (show wr.ownsRow w.heap.size 2 1 (.slice ao2 n c2) n (i64s (wearStep L)) from by unfold wearStep; rw [← hLn.out]; exact hown)
          go_wp2
          go_roundw
          case rel => exact ⟨q + 1, by omega, by go_num, by rw [← HST.out]; exact HWI.out, hB⟩
          case measure => simp [intOf]; omega
    · have hq00 : q = T := by omega
      subst hq00
      have hlw : (i64s (wearTo l q)).length = n := by rw [i64s_len, wearTo_len]; exact HN.out.symm
      go_wp2
      go_ret2
      rw [hR.out.1, hR.out.2]
      exact ⟨ao2, c2, by rw [hlw]; rfl, by rw [hlw]; exact hown, hB⟩
end Go.Proofs.Ytbfkiopikkolcaa
