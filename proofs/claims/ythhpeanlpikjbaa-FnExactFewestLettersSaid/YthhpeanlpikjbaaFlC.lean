/-
  The reference's choice of letters: the walk of l15Choose, which calls itself.
-/
import Derived.Test.YthhpeanlpikjbaaFlB
namespace Go.Proofs.Ythhpeanlpikjbaa
open Go.RowKit Go.ChangeShapes Go.WideShapes Go.Maps
set_option linter.unusedVariables false
attribute [local go_sem ↓] Go.wp_at_zero Go.wp_at_succ

def ltK (L : List ByteArray) (c : Nat) : ByteArray := if h : c < L.length then L[c] else ⟨#[]⟩
theorem ltK_get {L : List ByteArray} {c : Nat} (h : c < L.length) : ltK L c = L[c] := by unfold ltK; rw [dif_pos h]
def pB (l : List Ws) (L bs : List ByteArray) (c : List Nat) : Bool := goodL l (bs ++ c.map (ltK L))
def choR (l : List Ws) (L bs : List ByteArray) (m f : Nat) : Option (List Nat) := (combos L.length m f).find? (pB l L bs)
theorem choR_zero_yes {l : List Ws} {L bs : List ByteArray} {f : Nat} (h : goodL l bs = true) : choR l L bs 0 f = some [] := by
  unfold choR; rw [combos_zero, List.find?_cons]; unfold pB; simp [h]
theorem choR_zero_no {l : List Ws} {L bs : List ByteArray} {f : Nat} (h : goodL l bs = false) : choR l L bs 0 f = none := by
  unfold choR; rw [combos_zero, List.find?_cons]; unfold pB; simp [h]
theorem choR_step {l : List Ws} {L bs : List ByteArray} {m f : Nat} (h : f < L.length) : choR l L bs (m + 1) f = ((choR l L (bs ++ [L[f]]) m (f + 1)).map (f :: ·)).or (choR l L bs (m + 1) (f + 1)) := by
  unfold choR
  rw [find_step h]
  have e : (fun c => pB l L bs (f :: c)) = pB l L (bs ++ [L[f]]) := by
    funext c
    unfold pB
    simp [ltK_get h]
  rw [e]
theorem choR_none {l : List Ws} {L bs : List ByteArray} {m f : Nat} (h : L.length < f + (m + 1)) : choR l L bs (m + 1) f = none := find_none h _
/-- what l15Choose hands back -/
def ChoRet (B : Nat) (L bs : List ByteArray) (r : Option (List Nat)) (w : World) (e : Ending) (w' : World) : Prop :=
  ∃ v, e = .returned (.tuple #[v, .bool r.isSome]) ∧ Below w.heap.size w w' ∧ ∀ c, r = some c → ∃ g k, v = .slice (some ⟨g, 0, none⟩) (bs ++ c.map (ltK L)).length k ∧ w'.ownsRow B 9 1 (.slice (some ⟨g, 0, none⟩) (bs ++ c.map (ltK L)).length k) (bs ++ c.map (ltK L)).length (strs (bs ++ c.map (ltK L)))
theorem own_news {w : World} {B g n c : Nat} {T : List ByteArray} (h : w.ownsRow B 9 1 (.slice (some ⟨g, 0, none⟩) n c) n (strs T)) (hn : n = T.length) : ∀ j u, (strs T)[j]? = some u → w.cell? ((⟨g, 0, none⟩ : Addr).add j) = some u := by
  intro j u hj
  rw [adds, Nat.zero_add]
  have hjl : j < (strs T).length := by
    rcases Nat.lt_or_ge j (strs T).length with h1 | h1
    · exact h1
    · rw [List.getElem?_eq_none h1] at hj; cases hj
  rw [h.cellAt j (by rw [strs_len] at hjl; omega)]
  exact hj

set_option maxRecDepth 100000 in
set_option maxHeartbeats 8000000 in
theorem choose_any (l : List Ws) (ao : Option Addr) (n cap : Nat) (L : List ByteArray) (lp : Option Addr) (NL lc : Nat) (hs : WsSmall l) (hNL : NL = L.length) (h16 : NL ≤ 16) : ∀ (m : Nat) (μ : Int) (bs : List ByteArray) (B g nb c f : Nat) (φ : Int) (w : World), μ = m → φ = f → WsArg w ao n cap l → Rd w lp (strs L) → nb = bs.length → nb + m ≤ 40 → f ≤ 40 → B ≤ w.heap.size → w.ownsRow B 9 1 (.slice (some ⟨g, 0, none⟩) nb c) nb (strs bs) →
    Calls Try.prog 76 #[.slice ao n cap, .slice lp NL lc, .slice (some ⟨g, 0, none⟩) nb c, .int .i64 φ, .int .i64 μ] w (ChoRet B L bs (choR l L bs m f) w) := by
  intro m
  induction m with
  | zero =>
    intro μ bs B g nb c f φ w hμ hφ ha hrL hnb hb40 hf40 hBw hown
    have hrb : Rd w (some ⟨g, 0, none⟩) (strs bs) := owns_rdN hown
    have HO := hid hown
    have HNB := hid hnb
    have hnb2 : nb ≤ 1000 := by omega
    clear hown hnb hNL
    cases hgd : goodL l bs
    · have hR := hid (choR_zero_no (L := L) (f := f) hgd)
      have hz : (μ == (0 : Int)) = true := eqI_true hμ
      go_enter Try.func76, Try.ntmps76
      go_wp2_with (go_at_call 85; refine (tells_any ao n cap l (some ⟨g, 0, none⟩) nb c bs _ ha hs HNB.out hnb2 hrb).mono ?_; rw [hgd]; rintro e w1 ⟨rfl, hb1⟩)
      go_ret2
      rw [hR.out]
      exact ⟨_, rfl, hb1, fun c h => by cases h⟩
    · have hR := hid (choR_zero_yes (L := L) (f := f) hgd)
      have hz : (μ == (0 : Int)) = true := eqI_true hμ
      go_enter Try.func76, Try.ntmps76
      go_wp2_with (go_at_call 85; refine (tells_any ao n cap l (some ⟨g, 0, none⟩) nb c bs _ ha hs HNB.out hnb2 hrb).mono ?_; rw [hgd]; rintro e w1 ⟨rfl, hb1⟩)
      go_ret2
      rw [hR.out]
      refine ⟨_, rfl, hb1, fun c2 h => ?_⟩
      obtain rfl : [] = c2 := by simpa using h
      refine ⟨g, c, ?_, ?_⟩
      · simp [HNB.out]
      · have := owns_below HO.out hb1
        simpa [HNB.out] using this
  | succ m ih =>
    intro μ bs B g nb c f φ w hμ hφ ha hrL hnb hb40 hf40 hBw hown
    obtain ⟨i0, hi, iz0, iz1, iz2⟩ := info_parts Try.infoStrP
    have HNL := hid hNL
    have HNB := hid hnb
    have HIH := hid ih
    have HA := hid ha
    have HL := hid hrL
    have hstep := hid (fun k (h : k < L.length) => choR_step (l := l) (bs := bs) (m := m) h)
    have hnone := hid (fun k (h : L.length < k + (m + 1)) => choR_none (l := l) (bs := bs) h)
    have hrd := rd_strs hrL
    have hz : (μ == (0 : Int)) = false := eqI_false (by omega)
    have HMU := hid (show μ = (m : Int) + 1 by omega)
    have hμ3 : μ ≤ (m : Int) + 1 := by omega
    have hμ4 : (m : Int) + 1 ≤ μ := by omega
    have HOWN := hid hown
    have HPHI := hid hφ
    clear ih ha hrL hnb hown hμ hNL hφ
    go_enter Try.func76, Try.ntmps76
    go_wp2_with fail
    go_loopw [12, 13, 14, 15] (fun i _ _ _ wr => ∃ (k : Nat), k ≤ 41 ∧ i = .int .i64 (k : Int) ∧ Hid (choR l L bs (m + 1) f = choR l L bs (m + 1) k) ∧ Below w.heap.size w wr) (fun i _ _ _ _ => 41 - (intOf i).toNat)
    case atStart => exact ⟨f, by omega, by rw [HPHI.out], hid rfl, Below.refl _ _⟩
    case round =>
      obtain ⟨k, hk41, rfl, heq, hB⟩ := hrel
      by_cases hlt : k + (m + 1) ≤ NL
      · have hcond : (k : Int) + μ ≤ (NL : Int) := by omega
        rcases hrd with hnil | ⟨b, o, rfl, hl1, hcell⟩
        · exact absurd (by rw [HNL.out, hnil]; rfl : NL = 0) (by omega)
        have hka : k < L.length := by rw [← HNL.out]; omega
        have hk0 : (0 : Int) ≤ (k : Int) := by omega
        have hkn : (k : Int) < (NL : Int) := by omega
        have g1 := (hB.cell (p := ⟨b, o + k, none⟩) hl1).trans (hcell k hka)
        have hst := hid (heq.out.trans (hstep.out k hka))
        clear hcell
        obtain ⟨z, hz2⟩ : ∃ z, z = L[k] := ⟨_, rfl⟩
        rw [← hz2] at g1 hst
        have hze := hid hz2.symm
        clear hz2
        have hzz := hB.size
        have hownr := owns_below HOWN.out hB
        have hlit := owns_lit wr 9 w.heap.size hzz
        have hnews := hid (own_news (hownr.alloc (.cells #[] 9)) HNB.out)
        have hlenb : (strs bs).length = nb * 1 := by rw [strs_len, HNB.out]; omega
        have hB0 : Below w.heap.size w (wr.alloc (.cells #[] 9)) := hB.alloc hzz _
        have g1b : (wr.alloc (.cells #[] 9)).cell? ⟨b, o + k, none⟩ = some (.string z) := by
          have := (hB0.cell (p := ⟨b, o + k, none⟩) hl1).trans ((hB.cell (p := ⟨b, o + k, none⟩) hl1).symm.trans g1)
          exact this
        obtain ⟨r, hr⟩ : ∃ r, r = choR l L (bs ++ [z]) m (k + 1) := ⟨_, rfl⟩
        rw [← hr] at hst
        have hsnoc : strs bs ++ [.string z] = strs (bs ++ [z]) := by simp [strs]
        have HIH2 := hid (fun B g c w4 a1 a2 a3 a4 a5 => HIH.out (μ - 1) (bs ++ [z]) B g (nb + 1) c (k + 1) ((k : Int) + 1) w4 (by rw [HMU.out]; omega) (by omega) a1 a2 (by rw [List.length_append, HNB.out]; rfl) (by omega) a3 a4 a5)
        rw [← hr] at HIH2
        clear hr hownr
        cases r with
        | none =>
          go_wp2_with (first
            | (at_builtin; refine wpList_append_own _ rfl _ _ 48 rfl w.heap.size 9 i0 (.string ByteArray.empty) 1 16 Try.underlying48 hi iz0 iz1 iz2 rfl (by decide) (.slice (some ⟨wr.heap.size, 0, none⟩) 0 0) 0 [] rfl hlit ⟨g, 0, none⟩ nb c (strs bs) rfl hlenb hnews.out (strs_one _) (by unfold maxLen; omega) (by omega) (by simp; omega) ?_; intro v1 w3 ho3 hg3 hni3; have hB3 : Below w.heap.size w w3 := below_grown hB0 (by simp; omega) hlit hg3; rw [Nat.zero_add, List.nil_append] at ho3; have hz3 := hB3.size; rcases owns_form ho3 with ⟨hv1, _⟩ | ⟨g3, c3, rfl, _⟩; (exact absurd (hni3.1 hv1).1 (by simp)); have g1c := (hB3.cell (p := ⟨b, o + k, none⟩) hl1).trans ((hB.cell (p := ⟨b, o + k, none⟩) hl1).symm.trans g1))
            | (at_builtin; (refine wpList_append_own _ rfl _ _ 48 rfl w.heap.size 9 i0 (.string ByteArray.empty) 1 16 Try.underlying48 hi iz0 iz1 iz2 rfl (by decide) (.slice (some ⟨g3, 0, none⟩) nb c3) _ _ rfl (ho3.alloc _) ⟨w3.heap.size, 0, none⟩ 1 1 [.string z] rfl rfl (one_new _ _ _) (one_okS _) (by unfold maxLen; omega) (by omega) (by simp; omega) ?_; intro v5 w5 ho5 hg5 hni5; have hB5 := below_grown (hB3.alloc hz3 _) (by simp; omega) (ho3.alloc _) hg5; rcases owns_form ho5 with ⟨_, h00, _⟩ | ⟨g5, c5, rfl, _⟩; (exfalso; omega); rw [hsnoc] at ho5)))
          have hk40 : k + 1 ≤ 40 := by omega
          have hz5 := hB5.size
          refine (HIH2.out w.heap.size g5 c5 _ (HA.out.below hB5) (rd_below HL.out hB5) hk40 hz5 ho5).mono ?_
          rintro e w6 ⟨v, rfl, hb6, hv⟩
          clear hv
          have hR := hid (show choR l L bs (m + 1) f = choR l L bs (m + 1) (k + 1) by rw [hst.out]; rfl)
          have hB6 := hB5.trans (hb6.mono hz5)
          go_wp2_with fail
          go_roundw
          case rel => exact ⟨k + 1, by omega, by go_num, hR, hB6⟩
          case measure => simp [intOf]; omega
        | some c2 =>
          have hR := hid (show choR l L bs (m + 1) f = some (k :: c2) by rw [hst.out]; rfl)
          go_wp2_with (first
            | (at_builtin; refine wpList_append_own _ rfl _ _ 48 rfl w.heap.size 9 i0 (.string ByteArray.empty) 1 16 Try.underlying48 hi iz0 iz1 iz2 rfl (by decide) (.slice (some ⟨wr.heap.size, 0, none⟩) 0 0) 0 [] rfl hlit ⟨g, 0, none⟩ nb c (strs bs) rfl hlenb hnews.out (strs_one _) (by unfold maxLen; omega) (by omega) (by simp; omega) ?_; intro v1 w3 ho3 hg3 hni3; have hB3 : Below w.heap.size w w3 := below_grown hB0 (by simp; omega) hlit hg3; rw [Nat.zero_add, List.nil_append] at ho3; have hz3 := hB3.size; rcases owns_form ho3 with ⟨hv1, _⟩ | ⟨g3, c3, rfl, _⟩; (exact absurd (hni3.1 hv1).1 (by simp)); have g1c := (hB3.cell (p := ⟨b, o + k, none⟩) hl1).trans ((hB.cell (p := ⟨b, o + k, none⟩) hl1).symm.trans g1))
            | (at_builtin; (refine wpList_append_own _ rfl _ _ 48 rfl w.heap.size 9 i0 (.string ByteArray.empty) 1 16 Try.underlying48 hi iz0 iz1 iz2 rfl (by decide) (.slice (some ⟨g3, 0, none⟩) nb c3) _ _ rfl (ho3.alloc _) ⟨w3.heap.size, 0, none⟩ 1 1 [.string z] rfl rfl (one_new _ _ _) (one_okS _) (by unfold maxLen; omega) (by omega) (by simp; omega) ?_; intro v5 w5 ho5 hg5 hni5; have hB5 := below_grown (hB3.alloc hz3 _) (by simp; omega) (ho3.alloc _) hg5; rcases owns_form ho5 with ⟨_, h00, _⟩ | ⟨g5, c5, rfl, _⟩; (exfalso; omega); rw [hsnoc] at ho5)))
          have hk40 : k + 1 ≤ 40 := by omega
          have hz5 := hB5.size
          refine (HIH2.out w.heap.size g5 c5 _ (HA.out.below hB5) (rd_below HL.out hB5) hk40 hz5 ho5).mono ?_
          rintro e w6 ⟨v, rfl, hb6, hv⟩
          obtain ⟨gr, kr, rfl, hor⟩ := hv c2 rfl
          have hl2 : bs ++ [z] ++ c2.map (ltK L) = bs ++ (k :: c2).map (ltK L) := by rw [List.map_cons, ltK_get hka, hze.out]; simp
          rw [hl2] at hor ⊢
          clear hl2 hv
          obtain ⟨nn, hnn⟩ : ∃ nn, nn = (bs ++ (k :: c2).map (ltK L)).length := ⟨_, rfl⟩
          rw [← hnn] at hor ⊢
          have HNN := hid hnn
          clear hnn
          go_wp2_with fail
          go_ret2
          rw [hR.out]
          refine ⟨_, rfl, hB5.trans (hb6.mono hz5), fun c3 h => ?_⟩
          obtain rfl : k :: c2 = c3 := by simpa using h
          rw [← HNN.out]
          exact ⟨gr, kr, rfl, owns_mono hor hBw⟩
      · have hcond : ¬ (k : Int) + μ ≤ (NL : Int) := by omega
        have hR := hid (heq.out.trans (hnone.out k (by rw [← HNL.out]; omega)))
        go_wp2_with fail
        go_ret2
        rw [hR.out]
        exact ⟨_, rfl, hB, fun c h => by cases h⟩
end Go.Proofs.Ythhpeanlpikjbaa
