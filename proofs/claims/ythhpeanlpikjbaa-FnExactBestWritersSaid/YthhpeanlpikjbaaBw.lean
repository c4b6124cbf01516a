/-
  The machines that fit a page best: plain functions, and the walk of the program.
-/
import Derived.Test.YthhpeanlpikjbaaCo
import Derived.Test.YthhpeanlpikjbaaPut
import Derived.Test.YthhpeanlpikjbaaWsV
import Derived.Test.YthhpeanlpikjbaaSl64
import Derived.OwnWalk
namespace Go.Proofs.Ythhpeanlpikjbaa
open Go.RowKit Go.ChangeShapes Go.WideShapes Go.Maps
set_option linter.unusedVariables false
attribute [local go_sem ↓] Go.wp_at_zero Go.wp_at_succ

def agF (l : List Ws) (p : List Se) (k : Nat) : Int := if h : k < l.length then againstI l[k].fs p else 0
theorem agF_get {l : List Ws} {p : List Se} {k : Nat} (h : k < l.length) : agF l p k = againstI l[k].fs p := by unfold agF; rw [dif_pos h]
theorem agF_nn (l : List Ws) (p : List Se) (k : Nat) : 0 ≤ agF l p k := by
  unfold agF; split
  · exact (against_bd _ _ _).1
  · omega
def bwStep (f : Nat → Int) (k : Nat) (st : Int × List Nat) : Int × List Nat :=
  if st.1 < 0 ∨ f k < st.1 then (f k, [k]) else if f k = st.1 then (st.1, st.2 ++ [k]) else st
def bw (f : Nat → Int) : Nat → Int × List Nat | 0 => (-1, []) | k + 1 => bwStep f k (bw f k)
def mnS (f : Nat → Int) : Nat → Int | 0 => f 0 | k + 1 => min (mnS f k) (f (k + 1))
theorem mnS_le (f : Nat → Int) : ∀ k j, j ≤ k → mnS f k ≤ f j
  | 0, j, h => by obtain rfl : j = 0 := by omega
                  exact Int.le_refl _
  | k + 1, j, h => by
    rw [mnS]
    rcases Nat.lt_or_ge k j with h1 | h1
    · obtain rfl : j = k + 1 := by omega
      omega
    · have := mnS_le f k j h1; omega
theorem mnS_nn (f : Nat → Int) (hf : ∀ k, 0 ≤ f k) : ∀ k, 0 ≤ mnS f k
  | 0 => hf 0
  | k + 1 => by rw [mnS]; have := mnS_nn f hf k; have := hf (k + 1); omega
theorem bw_new (f : Nat → Int) (k : Nat) (st : Int × List Nat) (h : st.1 < 0 ∨ f k < st.1) : bwStep f k st = (f k, [k]) := by unfold bwStep; rw [if_pos h]
theorem bw_same (f : Nat → Int) (k : Nat) (st : Int × List Nat) (h1 : ¬ st.1 < 0) (h : f k = st.1) : bwStep f k st = (st.1, st.2 ++ [k]) := by unfold bwStep; rw [if_neg (by omega), if_pos h]
theorem bw_more (f : Nat → Int) (k : Nat) (st : Int × List Nat) (h1 : ¬ st.1 < 0) (h2 : ¬ f k < st.1) (h : ¬ f k = st.1) : bwStep f k st = st := by unfold bwStep; rw [if_neg (by omega), if_neg h]
def eqsF (f : Nat → Int) (m : Int) (k : Nat) : List Nat := (List.range k).filter fun j => decide (f j = m)
theorem eqsF_succ (f : Nat → Int) (m : Int) (k : Nat) : eqsF f m (k + 1) = eqsF f m k ++ (if f k = m then [k] else []) := by
  unfold eqsF
  rw [List.range_succ, List.filter_append]
  by_cases h : f k = m <;> simp [h]
theorem eqsF_none (f : Nat → Int) (m : Int) : ∀ k, (∀ j, j < k → ¬ f j = m) → eqsF f m k = []
  | 0, _ => rfl
  | k + 1, h => by rw [eqsF_succ, eqsF_none f m k fun j hj => h j (by omega), if_neg (h k (by omega))]; rfl
theorem bw_eq (f : Nat → Int) (hf : ∀ k, 0 ≤ f k) : ∀ k, bw f (k + 1) = (mnS f k, eqsF f (mnS f k) (k + 1))
  | 0 => by
    rw [bw, bw_new _ _ _ (Or.inl (by simp [bw])), eqsF_succ]
    simp [mnS, eqsF]
  | k + 1 => by
    have ih := bw_eq f hf k
    have hn := mnS_nn f hf k
    rw [bw, ih, mnS, eqsF_succ f _ (k + 1)]
    by_cases h1 : f (k + 1) < mnS f k
    · rw [bw_new _ _ _ (Or.inr h1), show min (mnS f k) (f (k + 1)) = f (k + 1) by omega, if_pos rfl, eqsF_none]
      · rfl
      · intro j hj; have := mnS_le f k j (by omega); omega
    · rw [show min (mnS f k) (f (k + 1)) = mnS f k by omega]
      by_cases h2 : f (k + 1) = mnS f k
      · rw [bw_same _ _ _ (by simp; omega) (by simpa using h2), if_pos h2]
      · rw [bw_more _ _ _ (by simp; omega) (by simpa using h1) (by simpa using h2), if_neg h2, List.append_nil]
theorem bw_len (f : Nat → Int) : ∀ k, (bw f k).2.length ≤ k
  | 0 => by simp [bw]
  | k + 1 => by
    have ih := bw_len f k
    rw [bw]; unfold bwStep
    split
    · simp
    · split
      · simp; omega
      · omega
def natI (L : List Nat) : List Value := L.map fun x : Nat => Value.int .i64 (x : Int)
theorem natI_snoc (L : List Nat) (k : Nat) : natI L ++ [.int .i64 (k : Int)] = natI (L ++ [k]) := by simp [natI]
theorem natI_len (L : List Nat) : (natI L).length = L.length := by simp [natI]
def bwAll (l : List Ws) (p : List Se) : List Nat × Int × Int :=
  if okWs (l.map Ws.d) && pageOk p then if l.length = 0 then ([], 0, 3) else ((bw (agF l p) l.length).2, (bw (agF l p) l.length).1, 0) else ([], 0, 1)
theorem bwAll_bad {l : List Ws} {p : List Se} (h : (okWs (l.map Ws.d) && pageOk p) = false) : bwAll l p = ([], 0, 1) := by unfold bwAll; rw [h]; rfl
theorem bwAll_none {l : List Ws} {p : List Se} (h : (okWs (l.map Ws.d) && pageOk p) = true) (h0 : l.length = 0) : bwAll l p = ([], 0, 3) := by unfold bwAll; rw [h, if_pos rfl, if_pos h0]
theorem bwAll_ok {l : List Ws} {p : List Se} (h : (okWs (l.map Ws.d) && pageOk p) = true) (h0 : ¬ l.length = 0) : bwAll l p = ((bw (agF l p) l.length).2, (bw (agF l p) l.length).1, 0) := by unfold bwAll; rw [h, if_pos rfl, if_neg h0]
theorem okWs_len {l : List Ws} (h : okWs (l.map Ws.d) = true) : l.length ≤ 12 := by
  have := h; unfold okWs at this; simp at this; omega
theorem one_new2 (w : World) (o : Obj) (x : Value) (t : TypeId) : ∀ j u, [x][j]? = some u → ((w.alloc o).alloc (.cells #[x] t)).cell? ((⟨w.heap.size + 1, 0, none⟩ : Addr).add j) = some u := by
  have h := one_new (w.alloc o) x t
  have e : (w.alloc o).heap.size = w.heap.size + 1 := by simp
  rw [e] at h
  exact h
/-- three results: a row of numbers, two numbers -/
def RowRet3 (B : Nat) (E : TypeId) (w : World) (xs : List Value) (v c : Int) (e : Ending) (w' : World) : Prop :=
  ∃ ao cap, e = .returned (.tuple #[.slice ao xs.length cap, .int .i64 v, .int .i64 c]) ∧ w'.ownsRow B E 1 (.slice ao xs.length cap) xs.length xs ∧ Below B w w'

set_option maxRecDepth 100000 in
set_option maxHeartbeats 8000000 in
theorem bestW_any (ao : Option Addr) (n cap : Nat) (l : List Ws) (bo : Option Addr) (n2 cap2 : Nat) (p : List Se) (w : World) (ha : WsArg w ao n cap l) (hs : WsSmall l) (hn2 : n2 = p.length) (hr2 : Rd w bo (ses p)) (hs2 : seSmall p) (hm2 : n2 ≤ 1048576) :
    Calls Try.prog 42 #[.slice ao n cap, .slice bo n2 cap2] w (RowRet3 w.heap.size 2 w (natI (bwAll l p).1) (bwAll l p).2.1 (bwAll l p).2.2) := by
  obtain ⟨i0, hi, iz0, iz1, iz2⟩ := info_parts Try.infoInt64
  have HN2 := hid hn2
  clear hn2
  cases h1 : okWs (l.map Ws.d)
  · have hR := hid (bwAll_bad (p := p) (show (okWs (l.map Ws.d) && pageOk p) = false by rw [h1]; rfl))
    go_enter Try.func42, Try.ntmps42
    go_wp2_with (go_at_call 20; refine (okWs_any ao n cap l _ ha hs).mono ?_; rw [h1]; rintro e w1 ⟨rfl, hb1⟩)
    go_ret3
    rw [hR.out]
    exact ⟨none, 0, by simp [natI], World.ownsRow_nil _ _ _ _, hb1⟩
  have H1 := hid h1
  cases h2 : pageOk p
  · have hR := hid (bwAll_bad (l := l) (p := p) (by rw [h2, Bool.and_false]))
    clear h1
    go_enter Try.func42, Try.ntmps42
    go_wp2_with (first | (go_at_call 20; refine (okWs_any ao n cap l _ ha hs).mono ?_; rw [H1.out]; rintro e w1 ⟨rfl, hb1⟩) | (go_at_call 15; refine (page_any bo n2 cap2 p _ HN2.out (rd_below hr2 hb1) hs2 hm2).mono ?_; rw [h2]; rintro e w2 ⟨rfl, hb2⟩))
    go_ret3
    rw [hR.out]
    exact ⟨none, 0, by simp [natI], World.ownsRow_nil _ _ _ _, hb1.trans (hb2.mono hb1.size)⟩
  have H2 := hid h2
  have hok : (okWs (l.map Ws.d) && pageOk p) = true := by rw [h1, h2]; rfl
  have h12 := okWs_len h1
  have hRn := hid (bwAll_none hok)
  have hRy := hid (bwAll_ok hok)
  clear h1 h2 hok
  have hnl : n = l.length := ha.1
  have HN := hid hnl
  rw [← hnl] at h12
  clear hnl
  by_cases h0 : n = 0
  · have hR := hid (hRn.out (by rw [← HN.out]; exact h0))
    subst h0
    go_enter Try.func42, Try.ntmps42
    go_wp2_with (first | (go_at_call 20; refine (okWs_any ao 0 cap l _ ha hs).mono ?_; rw [H1.out]; rintro e w1 ⟨rfl, hb1⟩) | (go_at_call 15; refine (page_any bo n2 cap2 p _ HN2.out (rd_below hr2 hb1) hs2 hm2).mono ?_; rw [H2.out]; rintro e w2 ⟨rfl, hb2⟩))
    go_ret3
    rw [hR.out]
    exact ⟨none, 0, by simp [natI], World.ownsRow_nil _ _ _ _, hb1.trans (hb2.mono hb1.size)⟩
  have hR := hid (hRy.out (by rw [← HN.out]; exact h0))
  have e0 : ((n : Int) == 0) = false := eqI_false (by omega)
  clear hRn hRy
  rw [← HN.out] at hR
  have hag := hid (fun k (h : k < l.length) => agF_get (p := p) h)
  have hsn := hid (fun k => bw_len (agF l p) k)
  generalize agF l p = f at *
  go_enter Try.func42, Try.ntmps42
  go_wp2_with (first | (go_at_call 20; refine (okWs_any ao n cap l _ ha hs).mono ?_; rw [H1.out]; rintro e w1 ⟨rfl, hb1⟩) | (go_at_call 15; refine (page_any bo n2 cap2 p _ HN2.out (rd_below hr2 hb1) hs2 hm2).mono ?_; rw [H2.out]; rintro e w2 ⟨rfl, hb2⟩))
  have hb12 := hb1.trans (hb2.mono hb1.size)
  have ha2 := ha.below hb12
  have hp2 := rd_below hr2 hb12
  obtain ⟨hx1, hx2, hr, hg⟩ := ha2
  clear hx1 hx2
  have HS := hid hs.2
  have HG := hid hg
  have hrd := rd_ws hr
  have hlit := owns_lit w2 2 w2.heap.size (Nat.le_refl _)
  have hB0 : Below w2.heap.size w2 (w2.alloc (.cells #[] 2)) := (Below.refl _ _).alloc (Nat.le_refl _) _
  clear hr hg ha hs hr2 hb1 hb2
  go_loopw [7, 8, 9, 10, 11, 26] (fun v m _ _ _ i wr => ∃ (k g c : Nat), k ≤ n ∧ i = .int .i64 k ∧ v = .slice (some ⟨g, 0, none⟩) (bw f k).2.length c ∧ m = .int .i64 (bw f k).1 ∧ wr.ownsRow w2.heap.size 2 1 v (bw f k).2.length (natI (bw f k).2) ∧ Below w2.heap.size w2 wr) (fun _ _ _ _ _ i _ => n - (intOf i).toNat)
  case atStart => exact ⟨0, w2.heap.size, 0, Nat.zero_le _, rfl, rfl, rfl, hlit, hB0⟩
  case round =>
    clear hlit hB0
    obtain ⟨k, g, c, hk, rfl, rfl, rfl, hown, hB⟩ := hrel
    by_cases hlt : k < n
    · rcases hrd with hnil | ⟨b, o, rfl, hl1, hcell⟩
      · exact absurd (by rw [HN.out, hnil]; rfl : n = 0) (by omega)
      have hka : k < l.length := by rw [← HN.out]; exact hlt
      have hk0 : (0 : Int) ≤ (k : Int) := by omega
      have hkn : (k : Int) < (n : Int) := by omega
      have hnd := (HS.out _ (List.getElem_mem hka)).2
      have hgk := hid (hag.out k hka)
      obtain ⟨h1, h2⟩ := (hcell k hka).below hB hl1
      have R1 := hid (rd_below (HG.out _ (List.getElem_mem hka)).rd hB)
      have P1 := rd_below hp2 hB
      clear hcell
      obtain ⟨x, hx⟩ : ∃ x, x = l[k] := ⟨_, rfl⟩
      rw [← hx] at h1 h2 R1 hnd hgk
      clear hx
      obtain ⟨nx, ax, cx, fx⟩ := x
      dsimp only at h1 h2 R1 hnd hgk
      obtain ⟨mx, hmx⟩ : ∃ m, m = fx.length := ⟨_, rfl⟩
      rw [← hmx] at h2 hnd
      have HMX := hid hmx
      clear hmx
      have hB1 : Below wr.heap.size wr (wr.alloc (.cells #[.string nx, .slice ax mx cx] 44)) := (Below.refl _ _).alloc (Nat.le_refl _) _
      have hBB := hB.trans (hB1.mono hB.size)
      have R2 := hid (rd_below R1.out hB1)
      have P2 := rd_below P1 hB1
      have hown1 := hown.alloc (.cells #[.string nx, .slice ax mx cx] 44)
      have hln := hsn.out k
      have hnx : bw f (k + 1) = bwStep f k (bw f k) := rfl
      have hnew := hid (fun h => hnx.trans (bw_new f k (bw f k) h))
      have hsame := hid (fun h1 h => hnx.trans (bw_same f k (bw f k) h1 h))
      have hmore := hid (fun h1 h2 h => hnx.trans (bw_more f k (bw f k) h1 h2 h))
      clear hnx
      obtain ⟨a, hae⟩ : ∃ a, a = f k := ⟨_, rfl⟩
      rw [← hae] at hnew hsame hmore hgk
      clear hae
      obtain ⟨m, hme⟩ : ∃ m, m = (bw f k).1 := ⟨_, rfl⟩
      rw [← hme] at hnew hsame hmore
      rw [← hme]
      have HME := hid hme
      clear hme
      obtain ⟨L, hL⟩ : ∃ L, L = (bw f k).2 := ⟨_, rfl⟩
      rw [← hL] at hsame hown hown1 hln
      rw [← hL]
      have HL := hid hL
      clear hL
      obtain ⟨N, hN⟩ : ∃ N, N = L.length := ⟨_, rfl⟩
      rw [← hN] at hown hown1 hln
      rw [← hN]
      have HNL := hid hN
      clear hN
      by_cases q1 : m < 0
      · have d1 : decide (m < (0 : Int)) = true := decide_eq_true q1
        have hst := hid (hnew.out (Or.inl q1))
        clear hnew hsame hmore
        go_wp2_with (first | (go_at_call 69; refine (against_any nx ax mx cx fx bo n2 cap2 p _ HMX.out R2.out hnd HN2.out P2 hm2).mono ?_; rw [← hgk.out]; rintro e w5 ⟨rfl, hb5⟩; have hB5 := hBB.trans (hb5.mono hBB.size); have hown5 := owns_below hown1 hb5; have hz5 := hB5.size) | (at_builtin; refine wpList_append_own _ rfl _ _ 61 rfl w2.heap.size 2 i0 (.int .i64 0) 1 8 Try.underlying61 hi iz0 iz1 iz2 rfl (by decide) (.slice (some ⟨w5.heap.size, 0, none⟩) 0 0) _ _ rfl ((owns_lit w5 2 w2.heap.size hz5).alloc _) ⟨_, 0, none⟩ 1 1 [.int .i64 (k : Int)] rfl rfl (one_new2 _ _ _ _) (one_ok _ _) (by unfold maxLen; omega) (by omega) (by simp; omega) ?_; intro v7 w7 hown7 hgrow7 _))
        have hB7 := below_grown ((hB5.alloc hz5 _).alloc (by simp; omega) _) (by simp; omega) ((owns_lit w5 2 w2.heap.size hz5).alloc _) hgrow7
        rcases owns_form hown7 with ⟨_, h00, _⟩ | ⟨g7, c7, rfl, _⟩
        · omega
        go_roundw
        case rel => exact ⟨k + 1, g7, c7, by omega, by go_num, by rw [hst.out]; rfl, by rw [hst.out], by rw [hst.out]; exact hown7, hB7⟩
        case measure => simp [intOf]; omega
      have d1 : decide (m < (0 : Int)) = false := decide_eq_false q1
      by_cases q2 : a < m
      · have d2 : decide (a < m) = true := decide_eq_true q2
        have hst := hid (hnew.out (Or.inr q2))
        clear hnew hsame hmore
        go_wp2_with (first | (go_at_call 69; refine (against_any nx ax mx cx fx bo n2 cap2 p _ HMX.out R2.out hnd HN2.out P2 hm2).mono ?_; rw [← hgk.out]; rintro e w5 ⟨rfl, hb5⟩; have hB5 := hBB.trans (hb5.mono hBB.size); have hown5 := owns_below hown1 hb5; have hz5 := hB5.size) | (at_builtin; refine wpList_append_own _ rfl _ _ 61 rfl w2.heap.size 2 i0 (.int .i64 0) 1 8 Try.underlying61 hi iz0 iz1 iz2 rfl (by decide) (.slice (some ⟨w5.heap.size, 0, none⟩) 0 0) _ _ rfl ((owns_lit w5 2 w2.heap.size hz5).alloc _) ⟨_, 0, none⟩ 1 1 [.int .i64 (k : Int)] rfl rfl (one_new2 _ _ _ _) (one_ok _ _) (by unfold maxLen; omega) (by omega) (by simp; omega) ?_; intro v7 w7 hown7 hgrow7 _))
        have hB7 := below_grown ((hB5.alloc hz5 _).alloc (by simp; omega) _) (by simp; omega) ((owns_lit w5 2 w2.heap.size hz5).alloc _) hgrow7
        rcases owns_form hown7 with ⟨_, h00, _⟩ | ⟨g7, c7, rfl, _⟩
        · omega
        go_roundw
        case rel => exact ⟨k + 1, g7, c7, by omega, by go_num, by rw [hst.out]; rfl, by rw [hst.out], by rw [hst.out]; exact hown7, hB7⟩
        case measure => simp [intOf]; omega
      have d2 : decide (a < m) = false := decide_eq_false q2
      by_cases q3 : a = m
      · have d3 : (a == m) = true := eqI_true q3
        have hst := hid (hsame.out q1 q3)
        clear hnew hsame hmore
        go_wp2_with (first | (go_at_call 69; refine (against_any nx ax mx cx fx bo n2 cap2 p _ HMX.out R2.out hnd HN2.out P2 hm2).mono ?_; rw [← hgk.out]; rintro e w5 ⟨rfl, hb5⟩; have hB5 := hBB.trans (hb5.mono hBB.size); have hown5 := owns_below hown1 hb5; have hz5 := hB5.size) | (at_builtin; refine wpList_append_own _ rfl _ _ 61 rfl w2.heap.size 2 i0 (.int .i64 0) 1 8 Try.underlying61 hi iz0 iz1 iz2 rfl (by decide) (.slice (some ⟨g, 0, none⟩) N c) _ _ rfl (hown5.alloc _) ⟨_, 0, none⟩ 1 1 [.int .i64 (k : Int)] rfl rfl (one_new _ _ _) (one_ok _ _) (by unfold maxLen; omega) (by omega) (by simp; omega) ?_; intro v7 w7 hown7 hgrow7 _))
        have hB7 := below_grown (hB5.alloc hz5 _) (by simp; omega) (hown5.alloc _) hgrow7
        rw [natI_snoc] at hown7
        rcases owns_form hown7 with ⟨_, h00, _⟩ | ⟨g7, c7, rfl, _⟩
        · omega
        have hnl1 : (L ++ [k]).length = N + 1 := by rw [List.length_append, ← HNL.out]; rfl
        go_roundw
        case rel => exact ⟨k + 1, g7, c7, by omega, by go_num, by rw [hst.out]; dsimp only; rw [hnl1], by rw [hst.out], by rw [hst.out]; dsimp only; rw [hnl1]; exact hown7, hB7⟩
        case measure => simp [intOf]; omega
      · have d3 : (a == m) = false := eqI_false q3
        have hst := hid (hmore.out q1 q2 q3)
        clear hnew hsame hmore
        go_wp2_with (go_at_call 69; refine (against_any nx ax mx cx fx bo n2 cap2 p _ HMX.out R2.out hnd HN2.out P2 hm2).mono ?_; rw [← hgk.out]; rintro e w5 ⟨rfl, hb5⟩; have hB5 := hBB.trans (hb5.mono hBB.size); have hown5 := owns_below hown1 hb5; have hz5 := hB5.size)
        go_roundw
        case rel => exact ⟨k + 1, g, c, by omega, by go_num, by rw [hst.out, ← HL.out, ← HNL.out], by rw [hst.out, ← HME.out], by rw [hst.out, ← HL.out, ← HNL.out]; exact hown5, hB5⟩
        case measure => simp [intOf]; omega
    · obtain rfl : k = n := by omega
      go_wp2
      go_ret3
      rw [hR.out]
      exact ⟨some ⟨g, 0, none⟩, c, by rw [natI_len]; rfl, by rw [natI_len]; exact owns_mono hown hb12.size, hb12.trans (hB.mono hb12.size)⟩
end Go.Proofs.Ythhpeanlpikjbaa
