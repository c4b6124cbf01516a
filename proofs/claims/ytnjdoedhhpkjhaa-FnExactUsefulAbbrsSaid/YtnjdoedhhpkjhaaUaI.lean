/-
  The abbreviations by what they save: the program's walk.
-/
import Derived.Test.YtnjdoedhhpkjhaaUaC
import Derived.OwnWalk
import Derived.Maps.AppendAt
import Derived.Laws.EntriesVeiled
namespace Go.Proofs.Ytnjdoedhhpkjhaa
open Go.RowKit Go.ChangeShapes Go.WideShapes Go.Maps
set_option linter.unusedVariables false
attribute [local go_sem ↓] Go.wp_at_zero Go.wp_at_succ

theorem rowI_apart {w : World} {B : Nat} {E : TypeId} {k : Nat} {L : List Int} {v : Value} {b : Nat} {p : Option Addr} {n c : Nat} (h : w.ownsRow B E 1 v (k + 1) (i64s L)) (hq : w.cell? ⟨b, 0, none⟩ = some (.slice p n c)) :
    ∃ g c, v = .slice (some ⟨g, 0, none⟩) (k + 1) c ∧ B ≤ g ∧ g ≠ b := by
  rcases owns_form h with ⟨_, h0, _⟩ | ⟨g, c, rfl, hg, _⟩
  · omega
  · refine ⟨g, c, rfl, hg, ?_⟩
    rintro rfl
    have hc := h.cellAt 0 (by omega)
    rw [hq] at hc
    cases L <;> simp [i64s] at hc
theorem uL_snoc {S : Nat → Int} {i : Nat} (h : 0 < S i) : i64s (natI (uL S i)) ++ [.int .i64 (i : Int)] = i64s (natI (uL S (i + 1))) ∧ (uL S (i + 1)).length = (uL S i).length + 1 := by
  rw [uL_yes h]; simp [i64s, natI]
theorem UsC.below {w w' : World} {H bm bl mb nW : Nat} {ao : Option Addr} {n cap : Nat} {l : List Ab} {W : List ByteArray} (h : UsC w bm bl mb nW ao n cap l W) (hB : Below H w w') (h1 : bm < H) (h2 : bl < H) (h3 : mb < H) (h4 : ∀ b o, ao = some ⟨b, o, none⟩ → l = [] ∨ b < H) :
    UsC w' bm bl mb nW ao n cap l W := by
  obtain ⟨hn, cm, cl, ⟨D, hD, hC⟩, rows, small, few⟩ := h
  obtain ⟨es, clock, hb, F, hs, hDD⟩ := hD
  refine ⟨hn, (hB.cell (p := ⟨bm, 0, none⟩) h1).trans cm, (hB.cell (p := ⟨bl, 0, none⟩) h2).trans cl, ⟨D, ⟨es, clock, (hB.block mb h3).trans hb, F, hs, hDD⟩, hC⟩, fun t ht => ?_, small, few⟩
  obtain ⟨b, o, rfl, c1, c2⟩ := rows t ht
  rcases h4 b o rfl with h5 | h5
  · rw [h5] at ht; simp at ht
  · exact ⟨b, o, rfl, (hB.cell (p := ⟨b, o + t * 2, none⟩) h5).trans c1, (hB.cell (p := ⟨b, o + t * 2 + 1, none⟩) h5).trans c2⟩
/-- the loop that picks the useful ones stands at i -/
structure PickAt (wb wr : World) (bm bl mb nW : Nat) (ao : Option Addr) (n cap : Nat) (l : List Ab) (W : List ByteArray) (H i g kc : Nat) : Prop where
  us : UsC wr bm bl mb nW ao n cap l W
  ne : g ≠ H + 2
  row : wr.ownsRow (H + 1) 2 1 (.slice (some ⟨g, 0, none⟩) (uL (sv l W) i).length kc) (uL (sv l W) i).length (i64s (natI (uL (sv l W) i)))
  cu : wr.cell? ⟨H, 0, none⟩ = some (.func (.func 36) #[] #[.pointer (some ⟨bm, 0, none⟩), .pointer (some ⟨bl, 0, none⟩)])
  co : wr.cell? ⟨H + 2, 0, none⟩ = some (.slice (some ⟨g, 0, none⟩) (uL (sv l W) i).length kc)
  fz : wr.frozen? ⟨H + 2, 0, none⟩ = false
  size : H + 3 ≤ wr.heap.size
  below : Below H wb wr
theorem PickAt.drewN {wb wr : World} {bm bl mb nW : Nat} {ao : Option Addr} {n cap : Nat} {l : List Ab} {W : List ByteArray} {H i g kc : Nat} (h : PickAt wb wr bm bl mb nW ao n cap l W H i g kc) (q : Nat) : PickAt wb (wr.drewN q) bm bl mb nW ao n cap l W H i g kc :=
  ⟨h.us.drewN q, h.ne, owns_drewN h.row q, h.cu, h.co, h.fz, h.size, below_drewN h.below q⟩
theorem PickAt.skip {wb wr : World} {bm bl mb nW : Nat} {ao : Option Addr} {n cap : Nat} {l : List Ab} {W : List ByteArray} {H i g kc : Nat} (h : PickAt wb wr bm bl mb nW ao n cap l W H i g kc) (hz : ¬ 0 < sv l W i) : PickAt wb wr bm bl mb nW ao n cap l W H (i + 1) g kc := by
  obtain ⟨h1, h2, h3, h4, h5, h6, h7, h8⟩ := h
  exact ⟨h1, h2, by rw [uL_no hz]; exact h3, h4, by rw [uL_no hz]; exact h5, h6, h7, h8⟩
/-- what is handed back -/
def uaL (l : List Ab) (s : ByteArray) : List Int := if noteC l s = 0 then natI (uN (sv l (wordsL s)) l.length) else []
theorem uaL_no {l : List Ab} {s : ByteArray} (h : noteC l s ≠ 0) : uaL l s = [] := by unfold uaL; rw [if_neg h]
theorem uaL_yes {l : List Ab} {s : ByteArray} (h : noteC l s = 0) : uaL l s = natI (uN (sv l (wordsL s)) l.length) := by unfold uaL; rw [if_pos h]
theorem noteC_zero {l : List Ab} {s : ByteArray} (h : noteC l s = 0) : okL l = true ∧ noteB s = true ∧ noteW l s = wordsL s := by
  unfold noteC at h
  cases h1 : okL l <;> cases h2 : noteB s <;> rw [h1, h2] at h <;> simp at h
  exact ⟨rfl, rfl, (note_ok h1 h2).1⟩
theorem okL_sizes {l : List Ab} (h : okL l = true) : l.length ≤ 30 ∧ ∀ x ∈ l, x.1.size ≤ 30 ∧ x.2.size ≤ 30 ∧ x.1.size < x.2.size := by
  refine ⟨?_, fun x hx => ?_⟩
  · have h2 := h
    unfold okL at h2
    rw [Bool.and_eq_true] at h2
    exact of_decide_eq_true h2.2
  · obtain ⟨k, hk, rfl⟩ := List.getElem_of_mem hx
    obtain ⟨_, _, h1, _, h3, h4⟩ := abOk_true (okL_ab h hk)
    exact ⟨by omega, h4, h1⟩

set_option maxRecDepth 100000 in
set_option maxHeartbeats 8000000 in
theorem useful_any (ao : Option Addr) (n cap : Nat) (l : List Ab) (s : ByteArray) (w : World) (hn : n = l.length) (hr : Rd w ao (abs l)) (hs : abSmall l) (hm : n ≤ 1048576) (hs2 : s.size ≤ 1048576) :
    Calls Try.prog 9 #[.slice ao n cap, .string s] w (RowRet w.heap.size 2 w (i64s (uaL l s)) (noteC l s)) := by
  have HN := hid hn
  have hmm := @run_makeMap Try.prog
  have hB0 : Below w.heap.size w (w.alloc (.cells #[.slice ao n cap] 27)) := (Below.refl _ _).alloc (Nat.le_refl _) _
  have hnc := hid (noteCode_any ao n cap l s (w.alloc (.cells #[.slice ao n cap] 27)) hn (rd_below hr hB0) hs hm hs2)
  have HR := hid hr
  have HS := hid hs
  clear hn hr hs
  by_cases hc : noteC l s = 0
  · obtain ⟨hok, hno, hnw⟩ := noteC_zero hc
    have hR := hid (uaL_yes hc)
    rw [hc] at hnc ⊢
    rw [hnw] at hnc
    obtain ⟨h30, hsm⟩ := okL_sizes hok
    have hwl := words_len s
    have hw200 := note_200 hno
    have hwo := hid (fun x hx => wd_size (note_okTo hno x hx))
    obtain ⟨W, hW⟩ : ∃ W, W = wordsL s := ⟨_, rfl⟩
    rw [← hW] at hnc hR hwl hwo
    clear hW hc hnw hok hno
    obtain ⟨N, hNW⟩ : ∃ N, N = W.length := ⟨_, rfl⟩
    have hnc2 : Calls Try.prog 35 #[.slice ao n cap, .string s] (w.alloc (.cells #[.slice ao n cap] 27)) fun e w' => ∃ bo c2, e = .returned (.tuple #[.slice bo N c2, .int .i64 0]) ∧ w'.ownsRow (w.alloc (.cells #[.slice ao n cap] 27)).heap.size 9 1 (.slice bo N c2) N (strs W) ∧ Below (w.alloc (.cells #[.slice ao n cap] 27)).heap.size (w.alloc (.cells #[.slice ao n cap] 27)) w' := by
      rw [hNW]; exact hnc.out
    rw [← hNW] at hwl
    have HNW := hid hNW
    have HSM := hid hsm
    have HC2 := hid hnc2
    clear hnc hnc2 hNW hsm
    have hl30 : n ≤ 30 := by rw [HN.out]; exact h30
    clear h30
    have hcl0 : (w.alloc (.cells #[.slice ao n cap] 27)).cell? ⟨w.heap.size, 0, none⟩ = some (.slice ao n cap) := by simp
    go_enter Try.func9, Try.ntmps9
    go_wp2_with (go_at_call 35; refine HC2.out.mono ?_; rintro e w1 ⟨bo, c2, rfl, ho2, hb2⟩; have hcl1 := (hb2.cell (p := ⟨w.heap.size, 0, none⟩) (show w.heap.size < _ by simp)).trans hcl0; have hz1 := hb2.size)
    have hb2w : Below w.heap.size w w1 := hB0.trans (hb2.mono hB0.size)
    have hrw := rd_str (owns_rdN ho2)
    have hz0 : w.heap.size < w1.heap.size := Nat.lt_of_lt_of_le (by simp) hz1
    have HRD := hid (show Rd w1 ao (abs l) from rd_below HR.out hb2w)
    have hm0 : ((w1.alloc (.map #[] 0)).alloc (.cells #[.map (some w1.heap.size)] 60)).ownsMap (H := Unit) Try.prog 9 (plainElem Try.prog 3) w1.heap.size 0 (.map []) := (World.ownsMap_made w1 Try.prog _ _).alloc _
    have hx0 : ((w1.alloc (.map #[] 0)).alloc (.cells #[.map (some w1.heap.size)] 60)).cell? ⟨w1.heap.size + 1, 0, none⟩ = some (.map (some w1.heap.size)) := (World.cell?_alloc_at _ _ _ _ (by simp)).trans rfl
    have hy0 : Below w1.heap.size w1 ((w1.alloc (.map #[] 0)).alloc (.cells #[.map (some w1.heap.size)] 60)) := ((Below.refl _ _).alloc (Nat.le_refl _) _).alloc (by simp) _
    have hsz0 : w1.heap.size + 2 ≤ ((w1.alloc (.map #[] 0)).alloc (.cells #[.map (some w1.heap.size)] 60)).heap.size := by simp
    clear ho2 hb2 hz1 hcl0 hB0
    go_loopw [10, 26] (fun _ i wr => ∃ k : Nat, k ≤ N ∧ i = .int .i64 k ∧ (∃ D, wr.ownsMap (H := Unit) Try.prog 9 (plainElem Try.prog 3) w1.heap.size k D ∧ CntS D (W.take k)) ∧ wr.cell? ⟨w1.heap.size + 1, 0, none⟩ = some (.map (some w1.heap.size)) ∧ w1.heap.size + 2 ≤ wr.heap.size ∧ Below w1.heap.size w1 wr) (fun _ i _ => N - (intOf i).toNat)
    case atStart => exact ⟨0, Nat.zero_le _, rfl, ⟨_, hm0, cntS_zero⟩, hx0, hsz0, hy0⟩
    case round =>
      clear hm0 hx0 hy0 hsz0
      obtain ⟨k, hk, rfl, ⟨D, hown, hD⟩, hx, hsz, hB⟩ := hrel
      by_cases hlt : k < N
      · rcases hrw with hnil | ⟨b, o, rfl, hbl, hcell⟩
        · exact absurd (by rw [HNW.out, hnil]; rfl : N = 0) (by omega)
        have hkl : k < W.length := by rw [← HNW.out]; exact hlt
        have g1 := (hB.cell (p := ⟨b, o + k, none⟩) hbl).trans (hcell k hkl)
        have hwx := hwo.out _ (List.getElem_mem hkl)
        have hk0 : (0 : Int) ≤ (k : Int) := by omega
        have hkn : (k : Int) < (N : Int) := by omega
        have hcl := cntB_le (W.take k) W[k]
        rw [List.length_take, Nat.min_eq_left (by omega)] at hcl
        have hnx := hid (show CntS (D.put (.string W[k].data.toList) (.lit (.int .i64 ((cntB (W.take k) W[k] : Int) + 1)))) (W.take (k + 1)) by rw [List.take_succ_eq_append_getElem hkl]; exact cntS_next hD W[k])
        have hat0 := hD.at' W[k]
        clear hcell hD
        obtain ⟨x, hxx⟩ : ∃ x, x = W[k] := ⟨_, rfl⟩
        rw [← hxx] at g1 hwx hcl hnx hat0
        clear hxx
        obtain ⟨q, hq⟩ : ∃ q, q = cntB (W.take k) x := ⟨_, rfl⟩
        rw [← hq] at hcl hnx hat0
        clear hq
        have hkey : keyOf Try.prog 9 (.string x) = some (.string x.data.toList) := WideMaps.keyOf_string_mk Try.underlying9 (by unfold maxLen; omega)
        have hlk : (Instr.lookup 60 (.map (some w1.heap.size)) (.string x) false).run Try.prog wr = .ok (.int .i64 (q : Int)) wr := by
          obtain ⟨c, hrun, hat, _⟩ := hown.lookup_int (string_keyed Try.underlying9) Try.underlying60 Try.underlying3 (Try.zeroIntU _) hkey
          rw [hat0] at hat
          simp only [DataW.lit.injEq, Lit.int.injEq, true_and] at hat
          rw [hat]; exact hrun
        have hwf : (Lit.int .i64 ((q : Int) + 1)).wf = true := by simp [Lit.wf, IntKind.min, IntKind.max, IntKind.signed, IntKind.bits]; omega
        clear hat0
        go_wp2_with (at_mapUpdate; refine wpList_mapUpdate_own _ rfl _ _ _ 60 rfl 9 3 (string_keyed Try.underlying9) Try.underlying60 _ w1.heap.size k _ rfl hown (by unfold maxLen; omega) _ _ _ rfl rfl hkey _ [] (plainElem_int Try.underlying3 hwf) ?_; intro w5 hown5 hgrow5)
        have hB5 := hB.grown hgrow5 hB.size (by intro k hk; simp at hk; omega)
        have hx5 := (World.cell?_of_block (a := ⟨w1.heap.size + 1, 0, none⟩) (hgrow5.block (w1.heap.size + 1) (by omega) (by simp))).trans hx
        have hz5 := hgrow5.size
        go_roundw
        case rel => exact ⟨k + 1, by omega, by go_num, ⟨_, hown5, hnx.out⟩, hx5, by omega, hB5⟩
        case measure => simp [intOf]; omega
      · obtain rfl : k = N := by omega
        have hWt : W.take k = W := List.take_of_length_le (by rw [HNW.out]; exact Nat.le_refl _)
        rw [hWt] at hD
        clear hWt
        have hb3 : Below wr.heap.size wr (((wr.alloc (.cells #[.func (.func 36) #[] #[.pointer (some ⟨w1.heap.size + 1, 0, none⟩), .pointer (some ⟨w.heap.size, 0, none⟩)]] 61)).alloc (.cells #[] 2)).alloc (.cells #[.slice (some ⟨wr.heap.size + 1, 0, none⟩) 0 0] 24)) := (((Below.refl _ _).alloc (Nat.le_refl _) _).alloc (by simp) _).alloc (by simp; omega) _
        have hwr0 : w.heap.size < wr.heap.size := by omega
        have hcl3 : (((wr.alloc (.cells #[.func (.func 36) #[] #[.pointer (some ⟨w1.heap.size + 1, 0, none⟩), .pointer (some ⟨w.heap.size, 0, none⟩)]] 61)).alloc (.cells #[] 2)).alloc (.cells #[.slice (some ⟨wr.heap.size + 1, 0, none⟩) 0 0] 24)).cell? ⟨w.heap.size, 0, none⟩ = some (.slice ao n cap) := (hb3.cell (p := ⟨w.heap.size, 0, none⟩) hwr0).trans ((hB.cell (p := ⟨w.heap.size, 0, none⟩) hz0).trans hcl1)
        go_wp2_with fail
        have hcu3 : (((wr.alloc (.cells #[.func (.func 36) #[] #[.pointer (some ⟨w1.heap.size + 1, 0, none⟩), .pointer (some ⟨w.heap.size, 0, none⟩)]] 61)).alloc (.cells #[] 2)).alloc (.cells #[.slice (some ⟨wr.heap.size + 1, 0, none⟩) 0 0] 24)).cell? ⟨wr.heap.size, 0, none⟩ = some (.func (.func 36) #[] #[.pointer (some ⟨w1.heap.size + 1, 0, none⟩), .pointer (some ⟨w.heap.size, 0, none⟩)]) := (World.cell?_alloc_past _ _ _ (by simp <;> omega)).trans ((World.cell?_alloc_past _ _ _ (by simp)).trans ((World.cell?_alloc_at _ _ _ _ rfl).trans rfl))
        have hco3 : (((wr.alloc (.cells #[.func (.func 36) #[] #[.pointer (some ⟨w1.heap.size + 1, 0, none⟩), .pointer (some ⟨w.heap.size, 0, none⟩)]] 61)).alloc (.cells #[] 2)).alloc (.cells #[.slice (some ⟨wr.heap.size + 1, 0, none⟩) 0 0] 24)).cell? ⟨wr.heap.size + 2, 0, none⟩ = some (.slice (some ⟨wr.heap.size + 1, 0, none⟩) 0 0) := (World.cell?_alloc_at _ _ _ _ (by simp)).trans rfl
        have hf3 : (((wr.alloc (.cells #[.func (.func 36) #[] #[.pointer (some ⟨w1.heap.size + 1, 0, none⟩), .pointer (some ⟨w.heap.size, 0, none⟩)]] 61)).alloc (.cells #[] 2)).alloc (.cells #[.slice (some ⟨wr.heap.size + 1, 0, none⟩) 0 0] 24)).frozen? ⟨wr.heap.size + 2, 0, none⟩ = false := World.frozen?_alloc_at _ _ _ _ (by simp)
        have hr3 : (((wr.alloc (.cells #[.func (.func 36) #[] #[.pointer (some ⟨w1.heap.size + 1, 0, none⟩), .pointer (some ⟨w.heap.size, 0, none⟩)]] 61)).alloc (.cells #[] 2)).alloc (.cells #[.slice (some ⟨wr.heap.size + 1, 0, none⟩) 0 0] 24)).ownsRow (wr.heap.size + 1) 2 1 (.slice (some ⟨wr.heap.size + 1, 0, none⟩) 0 0) 0 (i64s (natI (uL (sv l W) 0))) := by
          have := ((World.ownsRow_made (e := 2) (size := 1) (base := wr.heap.size + 1) (wr.alloc (.cells #[.func (.func 36) #[] #[.pointer (some ⟨w1.heap.size + 1, 0, none⟩), .pointer (some ⟨w.heap.size, 0, none⟩)]] 61)) #[] 0 (by simp) (by unfold maxLen; omega) rfl)).alloc (.cells #[.slice (some ⟨wr.heap.size + 1, 0, none⟩) 0 0] 24)
          simpa [uL, natI, i64s] using this
        have hz3 : wr.heap.size + 3 ≤ (((wr.alloc (.cells #[.func (.func 36) #[] #[.pointer (some ⟨w1.heap.size + 1, 0, none⟩), .pointer (some ⟨w.heap.size, 0, none⟩)]] 61)).alloc (.cells #[] 2)).alloc (.cells #[.slice (some ⟨wr.heap.size + 1, 0, none⟩) 0 0] 24)).heap.size := by simp
        have hm3 : (((wr.alloc (.cells #[.func (.func 36) #[] #[.pointer (some ⟨w1.heap.size + 1, 0, none⟩), .pointer (some ⟨w.heap.size, 0, none⟩)]] 61)).alloc (.cells #[] 2)).alloc (.cells #[.slice (some ⟨wr.heap.size + 1, 0, none⟩) 0 0] 24)).ownsMap (H := Unit) Try.prog 9 (plainElem Try.prog 3) w1.heap.size k D := ((hown.alloc _).alloc _).alloc _
        obtain ⟨w3, hw3⟩ : ∃ w3, w3 = ((wr.alloc (.cells #[.func (.func 36) #[] #[.pointer (some ⟨w1.heap.size + 1, 0, none⟩), .pointer (some ⟨w.heap.size, 0, none⟩)]] 61)).alloc (.cells #[] 2)).alloc (.cells #[.slice (some ⟨wr.heap.size + 1, 0, none⟩) 0 0] 24) := ⟨_, rfl⟩
        rw [← hw3] at hb3 hcl3 hcu3 hco3 hf3 hr3 hz3 hm3 ⊢
        clear hw3
        have hzB := hB.size
        have hus : UsC w3 (w1.heap.size + 1) w.heap.size w1.heap.size k ao n cap l W := by
          refine ⟨HN.out, (hb3.cell (p := ⟨w1.heap.size + 1, 0, none⟩) (show w1.heap.size + 1 < wr.heap.size by omega)).trans hx, hcl3, ⟨D, hm3, hD⟩, fun t ht => ?_, fun x hx => ⟨(HSM.out x hx).1, (HSM.out x hx).2.1⟩, by rw [← HNW.out]; omega⟩
          rcases rd_ab HRD.out with h | ⟨b, o, rfl, h1, h2⟩
          · rw [h] at ht; simp at ht
          · obtain ⟨h3, h4⟩ := h2 t ht
            have hbw : b < wr.heap.size := by omega
            exact ⟨b, o, rfl, (hb3.cell (p := ⟨b, o + t * 2, none⟩) hbw).trans ((hB.cell (p := ⟨b, o + t * 2, none⟩) h1).trans h3), (hb3.cell (p := ⟨b, o + t * 2 + 1, none⟩) hbw).trans ((hB.cell (p := ⟨b, o + t * 2 + 1, none⟩) h1).trans h4)⟩
        have hao := hid (show ∀ b o, ao = some ⟨b, o, none⟩ → l = [] ∨ b < w1.heap.size from fun b o h => by
          rcases rd_ab HRD.out with h2 | ⟨b2, o2, h2, h1, _⟩
          · exact Or.inl h2
          · rw [h2] at h
            simp only [Option.some.injEq, Addr.mk.injEq] at h
            rw [← h.1]; exact Or.inr h1)
        have hB3 : Below w.heap.size w wr := hb2w.trans (hB.mono (Nat.le_of_lt hz0))
        have hp3 : PickAt wr w3 (w1.heap.size + 1) w.heap.size w1.heap.size k ao n cap l W wr.heap.size 0 (wr.heap.size + 1) 0 := ⟨hus, by omega, hr3, hcu3, hco3, hf3, hz3, hb3⟩
        have hHH : w1.heap.size + 2 ≤ wr.heap.size := hsz
        clear hus hr3 hcu3 hco3 hf3 hz3 hb3 hcl3 hm3 hD hown hx hsz hB hb2w hmm hcl1
        obtain ⟨H, hH⟩ : ∃ H, H = wr.heap.size := ⟨_, rfl⟩
        rw [← hH] at hp3 hHH hwr0 hzB ⊢
        obtain ⟨wb, hwb⟩ : ∃ wb, wb = wr := ⟨_, rfl⟩
        subst hwb
        have HH := hid hH
        clear hH
        have eu := Try.enterUse
        obtain ⟨i0, hi, iz0, iz1, iz2⟩ := info_parts Try.infoInt64
        go_loopw [13, 39] (fun _ v wr => ∃ (i g kc : Nat), i ≤ n ∧ v = .int .i64 i ∧ Hid (PickAt wb wr (w1.heap.size + 1) w.heap.size w1.heap.size k ao n cap l W H i g kc)) (fun _ v _ => n - (intOf v).toNat)
        case atStart => exact ⟨0, _, _, Nat.zero_le _, rfl, hid hp3⟩
        case round =>
          clear hp3
          obtain ⟨i, g, kc, hin, rfl, hpk⟩ := hrel
          obtain ⟨us, ne, row, cu, co, fz, size, below⟩ := hpk.out
          by_cases hlt2 : i < n
          · have hi0 : (0 : Int) ≤ (i : Int) := by omega
            have hin2 : (i : Int) < (n : Int) := by omega
            obtain ⟨z, hz⟩ : ∃ z, z = sv l W i := ⟨_, rfl⟩
            have HU := hid (use_q (w1.heap.size + 1) w.heap.size w1.heap.size k ao n cap l W wr us i hlt2 hz.symm)
            have hkl := uL_len (sv l W) i
            have hgl := (row.lt g rfl)
            by_cases hp : 0 < z
            · have HU2 := hid (HU.out.mono (fun e w' (h : e = .returned (.int .i64 z) ∧ ∃ q, w' = wr.drewN q) => (show e = .returned (.int .i64 z) ∧ Hid (PickAt wb w' (w1.heap.size + 1) w.heap.size w1.heap.size k ao n cap l W H i g kc) from ⟨h.1, by obtain ⟨q, rfl⟩ := h.2; exact hid (hpk.out.drewN q)⟩)))
              have hsn := hid (uL_snoc (S := sv l W) (i := i) (by rw [← hz]; exact hp))
              obtain ⟨m, hmm⟩ : ∃ m, m = (uL (sv l W) i).length := ⟨_, rfl⟩
              have hmi : m ≤ 30 := by omega
              have HMM := hid hmm
              clear us row fz size below hmm hgl hkl
              go_wp2_with (first | (go_at_fn 36; refine HU2.out.mono ?_; rintro e w5 ⟨rfl, hp5⟩; obtain ⟨us5, ne5, row5, cu5, co5, fz5, size5, below5⟩ := id hp5.out; rw [← HMM.out] at row5 co5; have hgl5 := (row5.lt g rfl).2; clear us5) | (at_builtin; refine wpList_append_own _ rfl _ _ 24 rfl (H + 1) 2 i0 (.int .i64 0) 1 8 Try.underlying24 hi iz0 iz1 iz2 rfl (by decide) (.slice (some ⟨g, 0, none⟩) m kc) _ _ rfl (row5.alloc _) ⟨_, 0, none⟩ 1 1 [.int .i64 (i : Int)] rfl rfl (one_new _ _ _) (one_ok _ _) (by unfold maxLen; omega) (by omega) (by simp; omega) ?_; intro v' w6 hown6 hgrow6 _; have q6 := ((grown_cell hgrow6 (show H + 2 < _ by simp; omega) ne5).trans (((Below.refl w5.heap.size w5).alloc (Nat.le_refl _) _).cell (p := ⟨H + 2, 0, none⟩) (show H + 2 < w5.heap.size by omega))).trans co5; have f6 := ((grown_frozen hgrow6 (show H + 2 < _ by simp; omega) ne5).trans (((Below.refl w5.heap.size w5).alloc (Nat.le_refl _) _).frozen (p := ⟨H + 2, 0, none⟩) (show H + 2 < w5.heap.size by omega))).trans fz5; have hb6 := below_grown ((Below.refl (H + 1) w5).alloc (by omega) _) (by simp; omega) (row5.alloc _) hgrow6; rw [hsn.out.1] at hown6; obtain ⟨g6, c6, rfl, hg6, hg6n⟩ := rowI_apart hown6 q6))
              have hbf : Below H w5 (w6.setCell ⟨H + 2, 0, none⟩ (.slice (some ⟨g6, 0, none⟩) (m + 1) c6)) := (hb6.mono (by omega)).setCell (by simp) _
              have hm1 : (uL (sv l W) (i + 1)).length = m + 1 := by rw [hsn.out.2, HMM.out]
              have hz6 := hb6.size
              have hp6 := hid (show PickAt wb (w6.setCell ⟨H + 2, 0, none⟩ (.slice (some ⟨g6, 0, none⟩) (m + 1) c6)) (w1.heap.size + 1) w.heap.size w1.heap.size k ao n cap l W H (i + 1) g6 c6 from
                ⟨hp5.out.us.below hbf (by omega) (by omega) (by omega) (fun b o h => (hao.out b o h).imp_right (fun h => by omega)), hg6n, by rw [hm1]; exact ownsRow_setCell_other hown6 (by simp [Value.ownBlock]; omega) _,
                  by rw [World.cell?_setCell_other _ _ _ _ (by simp)]; exact (hb6.cell (p := ⟨H, 0, none⟩) (show H < H + 1 by omega)).trans cu5, by rw [hm1]; exact World.cell?_setCell_same _ _ _ q6, by rw [World.frozen?_setCell]; exact f6, by simp; omega, below5.trans hbf⟩)
              go_roundw
              case rel => exact ⟨i + 1, g6, c6, by omega, by go_num, hp6⟩
              case measure => simp [intOf]; omega
            · have hpk2 := hid (fun q => (hpk.out.drewN q).skip (by rw [← hz]; exact hp))
              clear us ne row fz size below
              go_wp2_with (go_at_fn 36; refine HU.out.mono ?_; rintro e w5 ⟨rfl, q, rfl⟩)
              go_roundw
              case rel => exact ⟨i + 1, g, kc, by omega, by go_num, hid (hpk2.out q)⟩
              case measure => simp [intOf]; omega
          · have hni : n = i := by omega
            subst hni
            have hgl := (row.lt g rfl)
            have hlen := hid (show (i64s (natI (uN (sv l W) l.length))).length = (uL (sv l W) n).length by rw [i64s_len, natI_len, uN_len, HN.out])
            have hul := uL_len (sv l W) n
            have hst := hid (stableU_any (w1.heap.size + 1) w.heap.size H (H + 2) w1.heap.size k g (uL (sv l W) n).length kc (H + 1) ao n cap l W (uL (sv l W) n) wr us cu co rfl (fun x hx => uL_lt hx) (uL_asc _ _) (by omega) row
              ⟨by omega, by omega⟩ ⟨by omega, by omega⟩ (by omega) (fun b o h => (hao.out b o h).imp_right (fun h => ⟨by omega, by omega⟩)) ⟨by omega, by omega⟩ ⟨by omega, fun e => ne e.symm⟩)
            obtain ⟨m, hmm⟩ : ∃ m, m = (uL (sv l W) n).length := ⟨_, rfl⟩
            rw [← hmm] at hst co hlen row
            have hR2 := hid (show uaL l s = natI ((uL (sv l W) n).foldl (evStep (uLt (sv l W))) []) by rw [hR.out, HN.out]; rfl)
            have hlen2 := hid (show (i64s (natI ((uL (sv l W) n).foldl (evStep (uLt (sv l W))) []))).length = m by rw [← hlen.out, HN.out]; rfl)
            obtain ⟨XS, hXS⟩ : ∃ XS, XS = i64s (natI ((uL (sv l W) n).foldl (evStep (uLt (sv l W))) [])) := ⟨_, rfl⟩
            rw [← hXS] at hst hlen2
            have hR3 := hid (show i64s (uaL l s) = XS by rw [hR2.out, hXS])
            have hsz2 : H + 2 < wr.heap.size := by omega
            clear us hmm hXS hul row hlen hpk
            go_wp2_with (go_at_call 37; refine hst.out.mono ?_; rintro e w5 ⟨rfl, hgr, hrow5⟩; have q5 := (World.cell?_of_block (a := ⟨H + 2, 0, none⟩) (hgr.block (H + 2) hsz2 (by simp; omega))).trans co; have hb5 := Below.grown (below.mono (Nat.le_refl H)) hgr (by omega) (by intro k hk; simp at hk; omega))
            go_ret2
            rw [hR3.out]
            exact ⟨some ⟨g, 0, none⟩, kc, by rw [hlen2.out]; rfl, by rw [hlen2.out]; exact owns_mono hrow5 (by omega), hB3.trans (hb5.mono (by omega))⟩
  · have hR := hid (uaL_no hc)
    obtain ⟨c, hcc⟩ : ∃ c, c = noteC l s := ⟨_, rfl⟩
    rw [← hcc] at hnc hc ⊢
    clear hcc
    go_enter Try.func9, Try.ntmps9
    go_wp2_with (go_at_call 35; refine hnc.out.mono ?_; rintro e w1 ⟨bo, c2, rfl, ho2, hb2⟩)
    go_ret2
    rw [hR.out]
    exact ⟨none, 0, rfl, World.ownsRow_nil _ _ _ _, hB0.trans (hb2.mono hB0.size)⟩
end Go.Proofs.Ytnjdoedhhpkjhaa
