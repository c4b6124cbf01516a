/-
  The letters that tell machines apart: the walk of the program.
-/
import Derived.Test.YthhpeanlpikjbaaFlP
import Derived.Laws.Rows
import Derived.Great.BuildSlice
namespace Go.Proofs.Ythhpeanlpikjbaa
open Go.RowKit Go.ChangeShapes Go.WideShapes Go.Maps
set_option linter.unusedVariables false
attribute [local go_sem ↓] Go.wp_at_zero Go.wp_at_succ

theorem prK_len (l : List Ws) (i : Nat) (rs : List (List Bool)) : ∀ k, (prK l i rs k).length = rs.length + k
  | 0 => rfl
  | k + 1 => by rw [prK, List.length_append, prK_len l i rs k]; rfl
theorem prI_len (l : List Ws) : ∀ i, i ≤ 12 → (prI l i).length ≤ 12 * i
  | 0, _ => by simp [prI]
  | i + 1, h => by
    have := prI_len l i (by omega)
    rw [prI, prK_len]; omega
def flM (rs : List (List Bool)) : List Value := rs.flatMap bools
/-- marks, a row of rows of marks, and where they lie -/
structure PairsAt (B : Nat) (ms : List Bool) (rs : List (List Bool)) (N g c : Nat) (w : World) : Prop where
  marks : HoldsM w B B ms
  row : w.ownsRow B 88 256 (.slice (some ⟨g, 0, none⟩) N c) N (flM rs)
  ne : g ≠ B
theorem pairs_new (w : World) : PairsAt w.heap.size noMk [] 0 (w.heap.size + 1) 0 ((w.alloc (.cells zb256 88)).alloc (.cells #[] 88)) where
  marks := (holds_new w w.heap.size (Nat.le_refl _)).below ((Below.refl _ _).alloc (Nat.le_refl _) _)
  row := by
    have h := World.ownsRow_made (e := 88) (size := 256) (base := w.heap.size) (w.alloc (.cells zb256 88)) #[] 0 (by simp) (by unfold maxLen; omega) rfl
    simpa [flM] using h
  ne := by omega

theorem holdsM_heap {w : World} {B g : Nat} {ms : List Bool} (h : HoldsM w B g ms) : w.heap[g]? = some (.cells (bools ms).toArray 88) := by
  obtain ⟨hl, h1, h2⟩ := h
  rcases h2 with ⟨hv, _⟩ | ⟨g', cap, cur, hv, hb, hg, _, _, hc, ht⟩
  · cases hv
  cases hv
  rw [hg]
  have : cur = (bools ms).toArray := by
    apply Array.toList_inj.1
    rw [← ht, List.take_of_length_le (by rw [Array.length_toList, hc]; omega)]
  rw [this]
/-- the loop over the choices of one size stands at the choice x, m more are to come -/
def ChSt (l : List Ws) (ms : List Bool) (N s gc cc : Nat) (wq : World) (m : Nat) (wr : World) : Prop :=
  ∃ (x : List Nat) (pre r : List (List Nat)), r.length = m ∧ Hid (combos N s 0 = pre ++ x :: r) ∧ Hid (∀ z ∈ pre, pB l (letL ms) [] z = false) ∧ Runs (nextR N) x r ∧ wr.ownsRow wq.heap.size 3 1 (.slice (some ⟨gc, 0, none⟩) s cc) s (nums x) ∧ Below wq.heap.size wq wr
theorem Try.infoRow : (Try.prog.info? 88).map (fun i => (i.zero, i.size, i.bytes)) = some (some (.agg zb256), 256, 256) := by kernel_rfl
theorem fill_marks {os : List Bool} (ho : os.length = 256) {s : Nat} (hs : s = 256) (f : Nat → Value) : Instr.fill (fun i => some (i * s, s)) ((Array.range (1 * s)).map f) [(0, .agg (bools os).toArray)] = some (bools os).toArray := by
  subst hs
  have h := Great.fill_whole (s := 256) (by omega) [.agg (bools os).toArray] ((Array.range (1 * 256)).map f) (by
    intro v hv
    rw [List.mem_singleton] at hv
    subst hv
    show (bools os).toArray.size = 256
    rw [List.size_toArray, bools_len, ho]) (by simp)
  simpa [Value.cells] using h
theorem marks_new (w : World) (os : List Bool) (t : TypeId) : ∀ j u, (bools os)[j]? = some u → (w.alloc (.cells (bools os).toArray t)).cell? ((⟨w.heap.size, 0, none⟩ : Addr).add j) = some u := by
  intro j u hj
  rw [adds, Nat.zero_add, cell_of_row _ _ _ (bools os).toArray t (0, 0) (MapKept.heap_alloc w _).1]
  simpa using hj
theorem marks_one (os : List Bool) : ∀ u ∈ bools os, u.oneCell' = true := by
  intro u hu
  obtain ⟨x, _, rfl⟩ := List.mem_map.1 hu
  rfl
theorem flM_snoc (rs : List (List Bool)) (os : List Bool) : flM rs ++ bools os = flM (rs ++ [os]) := by simp [flM]
theorem four_cells {w w' : World} {b i k na nb : Nat} {x y : Ws} (hx : WsCells w b i x) (hy : WsCells w b k y) (hna : na = x.fs.length) (hnb : nb = y.fs.length) (hB : Below w.heap.size w w') (hl : b < w.heap.size) :
    w'.cell? ⟨b, i, none⟩ = some (.string x.nm) ∧ w'.cell? ⟨b, i + 1, none⟩ = some (.slice x.ao na x.cap) ∧ w'.cell? ⟨b, k, none⟩ = some (.string y.nm) ∧ w'.cell? ⟨b, k + 1, none⟩ = some (.slice y.ao nb y.cap) := by
  subst hna hnb
  exact ⟨(wsAt hx hB hl).c0, (wsAt hx hB hl).c1, (wsAt hy hB hl).c0, (wsAt hy hB hl).c1⟩
set_option maxRecDepth 100000 in
set_option maxHeartbeats 2000000 in
theorem few_any (ao : Option Addr) (n cap : Nat) (l : List Ws) (w : World) (ha : WsArg w ao n cap l) (hs : WsSmall l) :
    Calls Try.prog 48 #[.slice ao n cap] w (FewRet w.heap.size (fewAll l).1 (fewAll l).2 w) := by
  obtain ⟨i0, hi, iz0, iz1, iz2⟩ := info_parts Try.infoRow
  cases h1 : okWs (l.map Ws.d)
  · have hR := hid (few_bad h1)
    go_enter Try.func48, Try.ntmps48
    go_wp2_with (go_at_call 20; refine (okWs_any ao n cap l _ ha hs).mono ?_; rw [h1]; rintro e w1 ⟨rfl, hb1⟩)
    go_ret2
    rw [hR.out]
    exact ⟨none, 0, rfl, World.ownsRow_nil _ _ _ _, hb1⟩
  have H1 := hid h1
  obtain ⟨hones, h12⟩ := okWs_ones h1
  have HO := hid hones
  have hnl : n = l.length := ha.1
  have HN := hid hnl
  rw [← hnl] at h12
  clear hnl hones h1
  have hzv := zero256
  have hsv := store256
  have hzs := zb_size
  go_enter Try.func48, Try.ntmps48
  go_wp2_with (go_at_call 20; refine (okWs_any ao n cap l _ ha hs).mono ?_; rw [H1.out]; rintro e w1 ⟨rfl, hb1⟩)
  have ha1 := ha.below hb1
  have HA1 := hid ha1
  obtain ⟨hx1, hx2, hr, hg⟩ := ha1
  have HB1 := hid hb1
  have HG := hid hg
  have HS := hid hs.2
  have hrd := rd_ws hr
  clear hx1 hx2 hr hg ha hs hb1
  have hp0 := pairs_new w1
  have hB0 : Below w1.heap.size w1 ((w1.alloc (.cells zb256 88)).alloc (.cells #[] 88)) := ((Below.refl _ _).alloc (Nat.le_refl _) _).alloc (by simp) _
  go_loopw [5, 6, 7, 8, 27, 31] (fun v _ _ _ i _ wr => ∃ (k g c : Nat), k ≤ n ∧ i = .int .i64 k ∧ v = .slice (some ⟨g, 0, none⟩) (prI l k).length c ∧ PairsAt w1.heap.size (muI l k) (prI l k) (prI l k).length g c wr ∧ Hid (FreeTo l k) ∧ Below w1.heap.size w1 wr) (fun _ _ _ _ i _ _ => n - (intOf i).toNat)
  case atStart => exact ⟨0, w1.heap.size + 1, 0, Nat.zero_le _, rfl, rfl, hp0, hid (fun a h => absurd h (Nat.not_lt_zero a)), hB0⟩
  case round =>
    clear hp0 hB0
    obtain ⟨i, g, c, hik, rfl, rfl, hpa, hfr, hB⟩ := hrel
    by_cases hlt : i < n
    · rcases hrd with hnil | ⟨b, o, rfl, hl1, hcell⟩
      · exact absurd (by rw [HN.out, hnil]; rfl : n = 0) (by omega)
      have hia : i < l.length := by rw [← HN.out]; exact hlt
      have hi0 : (0 : Int) ≤ (i : Int) := by omega
      have hin : (i : Int) < (n : Int) := by omega
      go_wp2_with fail
      go_loopw [5, 7, 8, 31] (fun v _ _ q wi => ∃ (k g c : Nat), k ≤ i ∧ q = .int .i64 k ∧ v = .slice (some ⟨g, 0, none⟩) (prK l i (prI l i) k).length c ∧ PairsAt w1.heap.size (muK l i (muI l i) k) (prK l i (prI l i) k) (prK l i (prI l i) k).length g c wi ∧ Hid (∀ b, b < k → ¬ (ownL l i b).length = 0) ∧ Below w1.heap.size w1 wi) (fun _ _ _ q _ => i - (intOf q).toNat)
      case atStart => exact ⟨0, g, c, Nat.zero_le _, rfl, rfl, hpa, hid (fun a h => absurd h (Nat.not_lt_zero a)), hB⟩
      case round =>
        clear hpa hB
        obtain ⟨k, g, c, hki, rfl, rfl, hpa, hfk, hB⟩ := hrel
        by_cases hkt : k < i
        · have hka : k < l.length := by omega
          have hk0 : (0 : Int) ≤ (k : Int) := by omega
          have hkn : (k : Int) < (n : Int) := by omega
          have hki2 : (k : Int) < (i : Int) := by omega
          have hzz := hB.size
          obtain ⟨ms, hms⟩ : ∃ ms, ms = muK l i (muI l i) k := ⟨_, rfl⟩
          rw [← hms] at hpa
          obtain ⟨rs, hrs⟩ : ∃ rs, rs = prK l i (prI l i) k := ⟨_, rfl⟩
          rw [← hrs] at hpa ⊢
          obtain ⟨N, hN⟩ : ∃ N, N = rs.length := ⟨_, rfl⟩
          rw [← hN] at hpa ⊢
          have HMS := hid hms
          have HRS := hid hrs
          have HNR := hid hN
          clear hms hrs hN
          have hB1 : Below w1.heap.size w1 (wr.alloc (.cells zb256 88)) := hB.alloc hzz _
          have WAC := hid (hcell i hia)
          have WBC := hid (hcell k hka)
          have WA := wsAt (hcell i hia) hB1 hl1
          have WB := wsAt (hcell k hka) hB1 hl1
          have RA := hid (rd_below (HG.out _ (List.getElem_mem hia)).rd hB1)
          have RB := hid (rd_below (HG.out _ (List.getElem_mem hka)).rd hB1)
          have RA1 := hid (HG.out _ (List.getElem_mem hia)).rd
          have RB1 := hid (HG.out _ (List.getElem_mem hka)).rd
          have hma := (HS.out _ (List.getElem_mem hia)).2
          have hmb := (HS.out _ (List.getElem_mem hka)).2
          have hoA := HO.out i
          have hoB := HO.out k
          rw [fsK_get hia] at hoA
          rw [fsK_get hka] at hoB
          have hol : ownL l i k = letL (apM noMk l[i].fs l[k].fs) := by unfold ownL; rw [fsK_get hia, fsK_get hka]
          obtain ⟨x, hx⟩ : ∃ x, x = l[i] := ⟨_, rfl⟩
          obtain ⟨y, hy⟩ : ∃ y, y = l[k] := ⟨_, rfl⟩
          have HFA := hid (fsK_get hia)
          have HFB := hid (fsK_get hka)
          rw [← hx] at WAC WA RA RA1 hma hoA hol HFA
          rw [← hy] at WBC WB RB RB1 hmb hoB hol HFB
          clear hx hy hcell
          obtain ⟨xa, pa, ca, fa⟩ := x
          obtain ⟨xb, pb, cb, fb⟩ := y
          dsimp only at HFA HFB WA WB RA RB RA1 RB1 hma hmb hoA hoB hol
          obtain ⟨na, hna⟩ : ∃ m, m = fa.length := ⟨_, rfl⟩
          obtain ⟨nb, hnb⟩ : ∃ m, m = fb.length := ⟨_, rfl⟩
          rw [← hna] at WA hma
          rw [← hnb] at WB hmb
          have HNA := hid hna
          have HNB := hid hnb
          have HOL := hid hol
          clear hna hnb hol
          obtain ⟨wa0, wa1, wa2⟩ := id WA
          obtain ⟨wb0, wb1, wb2⟩ := id WB
          have hnw := hid (holds_new wr wr.heap.size (Nat.le_refl _))
          have RA0 := hid (rd_below (RA1.out) hB)
          have RB0 := hid (rd_below (RB1.out) hB)
          have hfA := hid (rd_old RA0.out)
          have hfB := hid (rd_old RB0.out)
          have hf1A := hid (rd_old RA1.out)
          have hf1B := hid (rd_old RB1.out)
          have hBr : Below wr.heap.size wr (wr.alloc (.cells zb256 88)) := (Below.refl _ _).alloc (Nat.le_refl _) _
          have hcl := hid (fun h => clash_yes hia hkt h)
          go_wp2_with fail
          go_region_held3 (fun W => W.cell? ⟨b, o + i * 2, none⟩ = some (.string xa) ∧ W.cell? ⟨b, o + i * 2 + 1, none⟩ = some (.slice pa na ca) ∧ W.cell? ⟨b, o + k * 2, none⟩ = some (.string xb) ∧ W.cell? ⟨b, o + k * 2 + 1, none⟩ = some (.slice pb nb cb)) (first | exact ⟨wa1, wa2, wb1, wb2⟩ | exact four_cells WAC.out WBC.out HNA.out HNB.out hB3 hl1) (first | (go_at_call 74; refine (apart_any wr.heap.size wr.heap.size noMk xa pa na ca fa xb pb nb cb fb _ HNA.out (rdDrew RA.out) hma hoA HNB.out (rdDrew RB.out) hmb hoB (show HoldsM _ wr.heap.size wr.heap.size noMk from hnw.out) hfA.out hfB.out).mono ?_; rintro e w3 ⟨rfl, hH3, hg3⟩; have hb3 : Below wr.heap.size wr w3 := hBr.drew.grown hg3 (by simp) (fun k hk => by cases hk; exact Nat.le_refl _); have hB3 := hB.trans (hb3.mono hzz)))
          obtain ⟨os, hos⟩ : ∃ os, os = apM noMk fa fb := ⟨_, rfl⟩
          rw [← hos] at hH3
          have HOS := hid hos
          clear hos hzv hsv hzs
          by_cases hn0 : (ascB os).toList = []
          · have e0 : (ascB os).toList.isEmpty = true := by rw [hn0]; rfl
            go_wp2_with (go_at_call 66; refine (asc_any _ _ _ _ hH3).mono ?_; rintro e w4 ⟨rfl, hb4⟩)
            have hz0 : (ownL l i k).length = 0 := by
              rw [HOL.out, ← HOS.out, letL_len, ← ascB_size]
              rw [ByteArray.toList_eq] at hn0
              show (ascB os).data.size = 0
              rw [← Array.length_toList, hn0]; rfl
            have hR := few_clash H1.out (hcl.out hz0)
            go_ret2
            rw [hR]
            have hB4 := hB3.trans (hb4.mono (Nat.le_trans hzz hb3.size))
            exact ⟨none, 0, rfl, World.ownsRow_nil _ _ _ _, HB1.out.trans (hB4.mono HB1.out.size)⟩
          have e0 : (ascB os).toList.isEmpty = false := by simpa using hn0
          have hnz : ¬ (ownL l i k).length = 0 := by
            rw [HOL.out, ← HOS.out, letL_len, ← ascB_size]
            intro hc
            apply hn0
            rw [ByteArray.toList_eq]
            exact List.eq_nil_of_length_eq_zero (by rw [Array.length_toList]; exact hc)
          clear hn0
          go_wp2_with (go_at_call 66; refine (asc_any _ _ _ _ hH3).mono ?_; rintro e w4 ⟨rfl, hb4⟩)
          have hb34 := hb3.trans (hb4.mono hb3.size)
          have hB4 := hB.trans (hb34.mono hzz)
          have hM4 := hpa.marks.below hb34
          have hN4 := hH3.below hb4
          have hRow4 := owns_below hpa.row hb34
          have WA4 := wsAt WAC.out hB4 hl1
          have WB4 := wsAt WBC.out hB4 hl1
          have RA4 := hid (rd_below RA1.out hB4)
          have RB4 := hid (rd_below RB1.out hB4)
          obtain ⟨wc0, wc1, wc2⟩ := id WA4
          obtain ⟨wd0, wd1, wd2⟩ := id WB4
          rw [← HNA.out] at wc2
          rw [← HNB.out] at wd2
          dsimp only at wc1 wd1
          go_wp2_with fail
          go_region_held3 (fun W => W.cell? ⟨b, o + i * 2, none⟩ = some (.string xa) ∧ W.cell? ⟨b, o + i * 2 + 1, none⟩ = some (.slice pa na ca) ∧ W.cell? ⟨b, o + k * 2, none⟩ = some (.string xb) ∧ W.cell? ⟨b, o + k * 2 + 1, none⟩ = some (.slice pb nb cb)) (first | exact ⟨wc1, wc2, wd1, wd2⟩ | exact four_cells WAC.out WBC.out HNA.out HNB.out hB5 hl1) (first | (go_at_call 74; refine (apart_any w1.heap.size w1.heap.size ms xa pa na ca fa xb pb nb cb fb _ HNA.out (rdDrew RA4.out) hma hoA HNB.out (rdDrew RB4.out) hmb hoB (show HoldsM _ w1.heap.size w1.heap.size ms from hM4) hf1A.out hf1B.out).mono ?_; rintro e w5 ⟨rfl, hH5, hg5⟩; have hB5 : Below w1.heap.size w1 w5 := hB4.drew.grown hg5 hB4.size (fun k hk => by cases hk; exact Nat.le_refl _)))
          have hgd4 : w4.grownBy w5 (some w1.heap.size) := ⟨hg5.os, hg5.tape, hg5.output, hg5.size, hg5.block⟩
          have hwlt : w1.heap.size < wr.heap.size := hpa.marks.lt.2
          have hne1 : ¬ wr.heap.size = w1.heap.size := by omega
          have hne2 : ¬ g = w1.heap.size := hpa.ne
          have hN5 : HoldsM w5 w1.heap.size wr.heap.size os := ⟨hN4.1, (owns_mono hN4.2 hzz).kept hgd4 (by simp [Value.ownBlock]; exact hne1)⟩
          have hRow5 := hRow4.kept hgd4 (by simp [Value.ownBlock]; exact hne2)
          have hh5 := holdsM_heap hN5
          have hol5 := hN5.1
          have hz5 := hB5.size
          have hlb5 : (bools os).length = 1 * 256 := by rw [bools_len, hol5]
          have hN66 : N ≤ 1000 := by rw [HNR.out, HRS.out, prK_len]; have := prI_len l i (by omega); omega
          have hsz5 : (Try.prog.info? 88).map (·.size) = some (bools os).toArray.size := by
            rw [List.size_toArray, bools_len, hN5.1]; kernel_rfl
          go_wp2_with (first | (refine wpList_load_row rfl 88 _ rfl wr.heap.size rfl 88 _ _ _ hh5 Try.underlying88 rfl hsz5 ?_) | ((refine wpList_buildSlice rfl 104 88 1 #[(0, .tmp 56)] rfl (bools os).toArray i0 (.agg zb256) Try.underlying104 hi iz0 (by rw [iz1]; decide) (by rw [iz1]; decide) (Eq.trans (congrArg _ (show _ = [((0 : Nat), Value.agg (bools os).toArray)] from by simp [Act.eval, Act.put])) (fill_marks hol5 iz1 _)) ?_)) | (at_builtin; (refine wpList_append_own_at _ rfl _ _ 104 rfl w1.heap.size 88 i0 (.agg zb256) 256 256 Try.underlying104 hi iz0 iz1 iz2 (show zb256.size = 256 from zb_size) (by decide) (.slice (some ⟨g, 0, none⟩) N c) _ _ (by simp [Act.eval, Act.put]) (hRow5.alloc _) ⟨w5.heap.size, 0, none⟩ 1 1 (bools os) (by simp [Act.eval, Act.put]) hlb5 (marks_new _ _ _) (marks_one _) (by unfold maxLen; omega) (by omega) (by simp; omega) ?_; intro v7 w7 hown7 hgrow7 hn7 hloc7; rcases owns_form hown7 with ⟨_, h00, _⟩ | ⟨g7, c7, rfl, _⟩; (exfalso; omega))))
          have hB7 := below_grown (hB5.alloc hz5 _) (by simp; omega) (hRow5.alloc _) hgrow7
          have hg7 : g7 ≠ w1.heap.size := by
            rcases hloc7 with h | h
            · have : g7 = g := by simpa [Value.ownBlock] using h
              rw [this]; exact hne2
            · have : g7 = w5.heap.size + 1 := by simpa [Value.ownBlock] using h
              omega
          have hM7 : HoldsM w7 w1.heap.size w1.heap.size (apM ms fa fb) := ⟨hH5.1, (hH5.2.alloc _).kept hgrow7 (by simp [Value.ownBlock]; exact fun e => hne2 e.symm)⟩
          rw [flM_snoc] at hown7
          have hap : apM noMk (fsK l i) (fsK l k) = os := by rw [HOS.out, HFA.out, HFB.out]
          have hms7 : muK l i (muI l i) (k + 1) = apM ms fa fb := by rw [HMS.out, ← HFA.out, ← HFB.out]; rfl
          have hrs7 : prK l i (prI l i) (k + 1) = rs ++ [os] := by rw [HRS.out, ← hap]; rfl
          have hln7 : (prK l i (prI l i) (k + 1)).length = N + 1 := by rw [hrs7, List.length_append, HNR.out]; rfl
          have hfk2 := hid (show ∀ b, b < k + 1 → ¬ (ownL l i b).length = 0 from fun q hq => by
            rcases Nat.lt_or_ge q k with h | h
            · exact hfk.out q h
            · obtain rfl : q = k := by omega
              exact hnz)
          clear hap
          go_roundw
          case rel => exact ⟨k + 1, g7, c7, by omega, by go_num, by rw [hln7], ⟨by rw [hms7]; exact hM7, by rw [hln7, hrs7]; exact hown7, hg7⟩, hfk2, hB7⟩
          case measure => simp [intOf]; omega
        · have hki3 : i = k := by omega
          subst hki3
          have hfr2 := hid (show FreeTo l (i + 1) from fun a ha q hq => by
            rcases Nat.lt_or_ge a i with h | h
            · exact hfr.out a h q hq
            · obtain rfl : a = i := by omega
              exact hfk.out q hq)
          go_wp2_with fail
          go_roundw
          case rel => exact ⟨i + 1, g, c, by omega, by go_num, rfl, hpa, hfr2, hB⟩
          case measure => simp [intOf]; omega
    · have hin2 : n = i := by omega
      subst hin2
      have hfree : FreeTo l l.length := by rw [← HN.out]; exact hfr.out
      have hnc := clash_no hfree
      have hgood := full_good HO.out hfree
      have hfull := hid (few_full H1.out hnc)
      have hok := hid (fun h3 s c hs h1 h2 => few_ok H1.out hnc h3 (s := s) (c := c) hs h1 h2)
      rw [← HN.out] at hgood hfull hok
      obtain ⟨ms, hms⟩ : ∃ ms, ms = muI l n := ⟨_, rfl⟩
      rw [← hms] at hgood hfull hok hpa
      have HMS := hid hms
      clear hms hnc hfree hzv hsv hzs
      have HALL := hid (choR_full hgood)
      have hsz := hid (show (ascB ms).size = (letL ms).length by rw [ascB_size, letL_len])
      have hsl : (letL ms).length ≤ 256 := by rw [letL_len]; exact bytes_len ms
      obtain ⟨N, hN⟩ : ∃ N, N = (letL ms).length := ⟨_, rfl⟩
      rw [← hN] at hfull hok hsl HALL hsz
      have HNL := hid hN
      clear hN hgood
      by_cases h16 : 16 < N
      · have hR := hid (hfull.out h16)
        have e0 : (16 : Int) < ((ascB ms).size : Int) := by rw [hsz.out]; omega
        go_wp2_with (go_at_call 66; refine (asc_any _ _ _ _ hpa.marks).mono ?_; rintro e wq ⟨rfl, hb4⟩)
        go_ret2
        rw [hR.out]
        have hBq := hB.trans (hb4.mono hB.size)
        exact ⟨none, 0, rfl, World.ownsRow_nil _ _ _ _, HB1.out.trans (hBq.mono HB1.out.size)⟩
      have hok2 := hid (hok.out h16)
      have e0 : ¬ (16 : Int) < ((ascB ms).size : Int) := by rw [hsz.out]; omega
      clear hok hfull
      go_wp2_with (go_at_call 66; refine (asc_any _ _ _ _ hpa.marks).mono ?_; rintro e wq ⟨rfl, hb4⟩)
      have hrow := owns_below hpa.row hb4
      have hBq := hB.trans (hb4.mono hB.size)
      have hrl := prI_len l n (by omega)
      have hrow0 := hrow
      obtain ⟨rs, hrs⟩ : ∃ rs, rs = prI l n := ⟨_, rfl⟩
      rw [← hrs] at hrow hrow0 hrl
      rw [← hrs]
      have HRS := hid hrs
      clear hrs hrow0
      obtain ⟨NR, hNR⟩ : ∃ N, N = rs.length := ⟨_, rfl⟩
      rw [← hNR] at hrow hrl
      rw [← hNR]
      have HNR := hid hNR
      have h256 : ∀ row ∈ rs, row.length = 256 := by rw [HRS.out]; exact prI_256 l n
      have HCELL := hid (show ∀ p b (hp : p < rs.length), b < 256 → wq.cell? ⟨g, p * 256 + b, none⟩ = some (.bool (marked rs[p] b)) from fun p b hp hb => by
        rw [hrow.cellAt (p * 256 + b) (by rw [HNR.out]; omega)]
        exact rows_get h256 hp hb)
      have hgq := (hrow.lt g rfl).2
      clear hNR hpa hB hb4 hrd h256
      go_wp2_with fail
      go_loopw [10, 11, 12, 13, 14, 16, 71, 76] (fun z _ _ _ _ _ _ _ wr => ∃ s : Nat, s ≤ N ∧ z = .int .i64 s ∧ Hid (∀ t, t < s → choR l (letL ms) [] t 0 = none) ∧ Below wq.heap.size wq wr) (fun z _ _ _ _ _ _ _ _ => N + 1 - (intOf z).toNat)
      case atStart => exact ⟨0, Nat.zero_le _, rfl, hid (fun t h => absurd h (Nat.not_lt_zero t)), Below.refl _ _⟩
      case round =>
        obtain ⟨s, hsN, rfl, hno, hBw⟩ := hrel
        have hzw := hBw.size
        have hs16 : s ≤ 1000 := by omega
        go_wp2_with (go_at_call 77; refine (firstC_any s hs16 _).mono ?_; rintro e w5 ⟨gc, cc, rfl, hoc, hb5⟩)
        obtain ⟨r0, hr0, hru0⟩ := combos_runs N s 0 (by omega)
        have hB5 := hBw.trans (hb5.mono hzw)
        have hoc5 := owns_mono hoc hzw
        clear hoc
        go_wp2_with fail
        obtain ⟨μ, hμ⟩ := least_fun (ChSt l ms N s gc cc wq)
        have HMU := hid hμ
        clear hμ
        go_loopw [12, 13, 14, 16, 71, 76] (fun _ _ _ _ _ _ wr => ∃ m, ChSt l ms N s gc cc wq m wr) (fun _ _ _ _ _ _ wr => μ wr)
        case atStart => exact ⟨_, firstC s 0, [], r0, rfl, hid hr0, hid (fun z hz => absurd hz List.not_mem_nil), hru0, hoc5, hB5⟩
        case round =>
          obtain ⟨⟨x, pre, r, hrm, hcb, hpre, hru, hox, hBx⟩, hleast⟩ := HMU.out _ hrel
          have hleast' := hid hleast
          clear hleast hrel hoc5 hB5
          obtain ⟨hxl, hxb, _⟩ := combos_mem (z := x) (N := N) (m := s) (f := 0) (by rw [hcb.out]; simp)
          have HXB := hid hxb
          have HXL := hid hxl
          clear hxl hxb
          have hz0 : rs.take 0 = [] := List.take_zero
          go_wp2_with fail
          go_loopw [12, 13, 14, 16, 71, 76] (fun a _ _ _ q _ wi => ∃ p : Nat, p ≤ NR ∧ q = .int .i64 p ∧ a = .bool ((rs.take p).all (told x ms)) ∧ wi.ownsRow wq.heap.size 3 1 (.slice (some ⟨gc, 0, none⟩) s cc) s (nums x) ∧ Below wq.heap.size wq wi) (fun _ _ _ _ q _ _ => NR - (intOf q).toNat)
          case atStart => exact ⟨0, Nat.zero_le _, rfl, by rw [hz0]; rfl, hox, hBx⟩
          case round =>
            clear hox hBx
            obtain ⟨p, hpn, rfl, rfl, hox, hBx⟩ := hrel
            by_cases hpt : p < NR
            · have hpa : p < rs.length := by rw [← HNR.out]; exact hpt
              have hp0 : (0 : Int) ≤ (p : Int) := by omega
              have hpm : (p : Int) < (NR : Int) := by omega
              have hps := hid (show (rs.take (p + 1)).all (told x ms) = ((rs.take p).all (told x ms) && told x ms rs[p]) by rw [List.take_succ_eq_append_getElem hpa, List.all_append]; simp)
              obtain ⟨A0, hA0⟩ : ∃ A0, A0 = (rs.take p).all (told x ms) := ⟨_, rfl⟩
              rw [← hA0] at hps ⊢
              clear hA0
              go_wp2_with fail
              go_loopw [14, 16, 76] (fun a _ q wi => ∃ t : Nat, t ≤ s ∧ q = .int .i64 t ∧ a = .bool (told (x.take t) ms rs[p]) ∧ wi.ownsRow wq.heap.size 3 1 (.slice (some ⟨gc, 0, none⟩) s cc) s (nums x) ∧ Below wq.heap.size wq wi) (fun _ _ q _ => s - (intOf q).toNat)
              case atStart => exact ⟨0, Nat.zero_le _, rfl, by simp [told], hox, hBx⟩
              case round =>
                clear hox hBx
                obtain ⟨t, htn, rfl, rfl, hox, hBx⟩ := hrel
                by_cases htt : t < s
                · have hta : t < x.length := by rw [HXL.out]; exact htt
                  have ht0 : (0 : Int) ≤ (t : Int) := by omega
                  have htm : (t : Int) < (s : Int) := by omega
                  have gx := nums_cell hox HXL.out.symm hta
                  have hcN := (HXB.out _ (List.getElem_mem hta)).2
                  have hts := hid (show told (x.take (t + 1)) ms rs[p] = (told (x.take t) ms rs[p] || marked rs[p] (byK ms x[t])) by unfold told; rw [List.take_succ_eq_append_getElem hta, List.any_append]; simp)
                  obtain ⟨q, hq⟩ : ∃ q, q = x[t] := ⟨_, rfl⟩
                  rw [← hq] at gx hcN hts
                  clear hq
                  obtain ⟨d, hd⟩ : ∃ d, d = told (x.take t) ms rs[p] := ⟨_, rfl⟩
                  rw [← hd] at hts ⊢
                  clear hd
                  cases d
                  · have hq0 : (0 : Int) ≤ (q : Int) := by omega
                    have hqs : q < (ascB ms).size := by rw [hsz.out]; exact hcN
                    have hqi : (q : Int) < ((ascB ms).size : Int) := by omega
                    have hby : (ascB ms)[q].toNat = byK ms q := by rw [ascB_get hqs, byK_get]
                    have h256 : (ascB ms)[q].toNat < 256 := UInt8.toNat_lt _
                    have hb0 : (0 : Int) ≤ (((ascB ms)[q].toNat : Nat) : Int) := by omega
                    have hb1 : (((ascB ms)[q].toNat : Nat) : Int) < 256 := by omega
                    have hcc := (hBx.cell (p := ⟨g, p * 256 + (ascB ms)[q].toNat, none⟩) hgq).trans (HCELL.out p _ hpa h256)
                    rw [show marked rs[p] (ascB ms)[q].toNat = marked rs[p] (byK ms q) by rw [hby]] at hcc
                    have hn1 := hid (show told (x.take (t + 1)) ms rs[p] = marked rs[p] (byK ms q) by rw [hts.out]; rfl)
                    clear hby hts
                    obtain ⟨d1, hd1⟩ : ∃ d, d = marked rs[p] (byK ms q) := ⟨_, rfl⟩
                    rw [← hd1] at hcc hn1
                    clear hd1
                    go_wp2_with fail
                    go_quiet (fail)
                    go_wp2_with fail
                    go_roundw
                    case rel => exact ⟨t + 1, by omega, by go_num, by rw [hn1.out], owns_drewN hox _, below_drewN hBx _⟩
                    case measure => simp [intOf]; omega
                  · have hn1 := hid (show told (x.take (t + 1)) ms rs[p] = true by rw [hts.out]; rfl)
                    go_wp2_with fail
                    go_quiet (fail)
                    go_wp2_with fail
                    go_roundw
                    case rel => exact ⟨t + 1, by omega, by go_num, by rw [hn1.out], owns_drewN hox _, below_drewN hBx _⟩
                    case measure => simp [intOf]; omega
                · have hts2 : s = t := by omega
                  subst hts2
                  have hxs : x.take s = x := List.take_of_length_le (by rw [HXL.out]; exact Nat.le_refl _)
                  rw [hxs]
                  clear hxs
                  obtain ⟨d, hd⟩ : ∃ d, d = told x ms rs[p] := ⟨_, rfl⟩
                  rw [← hd] at hps ⊢
                  clear hd
                  have hBx2 : Below wq.heap.size wq wr := hBx
                  cases A0
                  · have hn1 := hid (show (rs.take (p + 1)).all (told x ms) = false by rw [hps.out]; rfl)
                    go_wp2_with fail
                    go_roundw
                    case rel => exact ⟨p + 1, by omega, by go_num, by rw [hn1.out], hox, hBx⟩
                    case measure => simp [intOf]; omega
                  · have hn1 := hid (show (rs.take (p + 1)).all (told x ms) = d by rw [hps.out]; rfl)
                    go_wp2_with fail
                    go_roundw
                    case rel => exact ⟨p + 1, by omega, by go_num, by rw [hn1.out], hox, hBx⟩
                    case measure => simp [intOf]; omega
            · have hpe : NR = p := by omega
              subst hpe
              have hrt : rs.take NR = rs := List.take_of_length_le (by rw [HNR.out]; exact Nat.le_refl _)
              rw [hrt]
              clear hrt
              have hpx := hid (show pB l (letL ms) [] x = rs.all (told x ms) by
                unfold pB
                rw [List.nil_append, good_rows HO.out (fun c hc => by rw [← HNL.out]; exact (HXB.out c hc).2), HRS.out, ← HN.out])
              obtain ⟨d, hd⟩ : ∃ d, d = rs.all (told x ms) := ⟨_, rfl⟩
              rw [← hd] at hpx ⊢
              clear hd
              cases d
              · -- not good: the next choice
                have hxN : ∀ z ∈ x, z < N := fun z hz => (HXB.out z hz).2
                have hnc0 := nextC_any wq.heap.size gc s cc N x wr HXL.out.symm (by omega) hsN hxN hox
                rw [show ((N : Nat) : Int) = (((ascB ms).size : Nat) : Int) by rw [hsz.out]] at hnc0
                have hBx2 := hBx.size
                cases r with
                | nil =>
                  have hnx : nextR N x = none := hru
                  have hsx : stepC N x = x := by unfold stepC; rw [hnx]; rfl
                  rw [hnx, hsx] at hnc0
                  have hnc := hid hnc0
                  have hch : choR l (letL ms) [] s 0 = none := by
                    unfold choR
                    rw [List.find?_eq_none, ← HNL.out, hcb.out]
                    intro z hz
                    rcases List.mem_append.1 hz with h | h
                    · rw [hpre.out z h]; decide
                    · rw [List.mem_singleton] at h
                      rw [h, hpx.out]; decide
                  have hsN2 : s < N := by
                    rcases Nat.lt_or_ge s N with h | h
                    · exact h
                    · obtain rfl : s = N := by omega
                      obtain ⟨c, hc⟩ := HALL.out
                      rw [hch] at hc; cases hc
                  have hno2 := hid (show ∀ t, t < s + 1 → choR l (letL ms) [] t 0 = none from fun t ht => by
                    rcases Nat.lt_or_ge t s with h | h
                    · exact hno.out t h
                    · obtain rfl : t = s := by omega
                      exact hch)
                  clear hnx hsx hnc0 hxN hru hrm hch
                  go_wp2_with (go_at_call 78; refine hnc.out.mono ?_; rintro e w6 ⟨rfl, ho6, hg6⟩; have hB6 := below_grown hBx hBx2 hox hg6)
                  go_roundw
                  case rel => exact ⟨s + 1, by omega, by go_num, hno2, hB6⟩
                  case measure => simp [intOf]; omega
                | cons y r' =>
                  have hnx : nextR N x = some y := hru.1
                  have hru2 := hid (show Runs (nextR N) y r' from hru.2)
                  have hsx : stepC N x = y := by unfold stepC; rw [hnx]; rfl
                  rw [hnx, hsx] at hnc0
                  have hnc := hid hnc0
                  have hcb2 := hid (show combos N s 0 = (pre ++ [x]) ++ y :: r' by rw [hcb.out]; simp)
                  have hpre2 := hid (show ∀ z ∈ pre ++ [x], pB l (letL ms) [] z = false from fun z hz => by
                    rcases List.mem_append.1 hz with h | h
                    · exact hpre.out z h
                    · rw [List.mem_singleton] at h
                      rw [h]; exact hpx.out)
                  have HRM := hid hrm
                  clear hnx hsx hnc0 hxN hru hrm
                  go_wp2_with (go_at_call 78; refine hnc.out.mono ?_; rintro e w6 ⟨rfl, ho6, hg6⟩; have hB6 := below_grown hBx hBx2 hox hg6)
                  have hst6 : ChSt l ms N s gc cc wq r'.length w6 := ⟨y, pre ++ [x], r', rfl, hcb2, hpre2, hru2.out, ho6, hB6⟩
                  go_roundw
                  case rel => exact ⟨_, hst6⟩
                  case measure =>
                    have h1 := (HMU.out w6 ⟨_, hst6⟩).2 _ hst6
                    have h2 := HRM.out
                    rw [List.length_cons] at h2
                    omega
              · -- good
                have hch : choR l (letL ms) [] s 0 = some x := by
                  unfold choR
                  rw [← HNL.out, hcb.out, List.find?_append, List.find?_eq_none.2 (fun z hz => by rw [hpre.out z hz]; decide), Option.none_or, List.find?_cons, hpx.out]
                have hR := hid (hok2.out s x hsN hno.out hch)
                have hBx2 := hBx.size
                have HRM := hid hrm
                clear hru hrm hch
                obtain ⟨wp, hwp⟩ : ∃ wp, wp = wr := ⟨_, rfl⟩
                subst hwp
                obtain ⟨j0, hj, jz0, jz1, jz2⟩ := info_parts Try.infoStrP
                have hlit := owns_lit wp 9 wp.heap.size (Nat.le_refl _)
                have hBl : Below wp.heap.size wp (wp.alloc (.cells #[] 9)) := (Below.refl _ _).alloc (Nat.le_refl _) _
                have hgcl := (hox.lt gc rfl).2
                have hle := ascB_size ms
                have hext := hid (fun c (h : c < (ascB ms).size) => (show (ascB ms).extract c (c + 1) = ltK (letL ms) c by
                  have h1 : c < (letL ms).length := by rw [letL_len, ← ascB_size]; exact h
                  obtain ⟨h2, h3⟩ := one_at h
                  rw [ltK_get h1, letL_get h1, of_one h2, h3, ascB_get h]))
                obtain ⟨Z, hZ⟩ : ∃ Z, Z = ltK (letL ms) := ⟨_, rfl⟩
                rw [← hZ] at hext hR
                clear hZ hle
                have hown0 : (wp.alloc (.cells #[] 9)).ownsRow wp.heap.size 9 1 (.slice (some ⟨wp.heap.size, 0, none⟩) 0 0) 0 (strs ((x.take 0).map Z)) := by simpa [strs] using hlit
                clear hlit
                go_wp2_with fail
                go_loopw [17, 19, 101] (fun v _ i wr => ∃ (k g c : Nat), k ≤ s ∧ i = .int .i64 k ∧ v = .slice (some ⟨g, 0, none⟩) k c ∧ wr.ownsRow wp.heap.size 9 1 (.slice (some ⟨g, 0, none⟩) k c) k (strs ((x.take k).map Z)) ∧ Below wp.heap.size wp wr) (fun _ _ i _ => s - (intOf i).toNat)
                case atStart => exact ⟨0, _, 0, Nat.zero_le _, rfl, rfl, hown0, hBl⟩
                case round =>
                  clear hown0 hBl
                  obtain ⟨k, g8, c8, hks, rfl, rfl, hown, hB8⟩ := hrel
                  have hz8 := hB8.size
                  by_cases hkt : k < s
                  · have hka : k < x.length := by rw [HXL.out]; exact hkt
                    have hk0 : (0 : Int) ≤ (k : Int) := by omega
                    have hks2 : (k : Int) < (s : Int) := by omega
                    have gx := (hB8.cell (p := ⟨gc, k, none⟩) hgcl).trans (nums_cell hox HXL.out.symm hka)
                    have hqN := (HXB.out _ (List.getElem_mem hka)).2
                    have hsn := hid (show (x.take (k + 1)).map Z = (x.take k).map Z ++ [Z x[k]] by rw [List.take_succ_eq_append_getElem hka, List.map_append]; rfl)
                    obtain ⟨q, hq⟩ : ∃ q, q = x[k] := ⟨_, rfl⟩
                    rw [← hq] at gx hqN hsn
                    clear hq
                    have hqs : q < (ascB ms).size := by rw [hsz.out]; exact hqN
                    have hex := hid (hext.out q hqs)
                    have hq0 : (0 : Int) ≤ (q : Int) := by omega
                    have hq1 : (0 : Int) ≤ (q : Int) + 1 := by omega
                    have hqn : (q : Int) < ((ascB ms).size : Int) := by omega
                    have hqn1 : (q : Int) + 1 ≤ ((ascB ms).size : Int) := by omega
                    have hqq : (q : Int) ≤ (q : Int) + 1 := by omega
                    have ew : IntKind.i64.wrap ((q : Int) + 1) = (q : Int) + 1 := IntWalk.i64_in _ (by omega)
                    have htn : ((q : Int) + 1).toNat = q + 1 := by omega
                    go_wp2_with (at_builtin; refine wpList_append_own _ rfl _ _ 48 rfl wp.heap.size 9 j0 (.string ByteArray.empty) 1 16 Try.underlying48 hj jz0 jz1 jz2 rfl (by decide) _ _ _ rfl (hown.alloc _) ⟨wr.heap.size, 0, none⟩ 1 1 [.string ((ascB ms).extract q (q + 1))] rfl rfl (one_new _ _ _) (one_okS _) (by unfold maxLen; omega) (by omega) (by simp; omega) ?_; intro v' w2 hown3 hgrow3 hnil)
                    have hB3 := below_grown (hB8.alloc (by omega) _) (by simp; omega) (hown.alloc _) hgrow3
                    rcases owns_form hown3 with ⟨hv, hn0, _⟩ | ⟨g3, c3, rfl, _⟩
                    · omega
                    rw [hex.out] at hown3
                    go_roundw
                    case rel =>
                      refine ⟨k + 1, g3, c3, by omega, by go_num, rfl, ?_, hB3⟩
                      rw [hsn.out]
                      simpa [strs] using hown3
                    case measure => simp [intOf]; omega
                  · have hks3 : s = k := by omega
                    subst hks3
                    have hxs : x.take s = x := List.take_of_length_le (by rw [HXL.out]; exact Nat.le_refl _)
                    rw [hxs] at hown
                    clear hxs
                    go_wp2_with fail
                    go_ret2
                    rw [hR.out]
                    have hz1 := HB1.out.size
                    have hz2 := hBq.size
                    have hXL := HXL.out
                    refine ⟨some ⟨g8, 0, none⟩, c8, ?_, ?_, HB1.out.trans ((hBq.trans ((hBx.trans (hB8.mono hBx2)).mono hz2)).mono hz1)⟩
                    · dsimp only; rw [List.length_map, hXL]; rfl
                    · dsimp only; rw [List.length_map, hXL]; exact owns_mono hown (by omega)
end Go.Proofs.Ythhpeanlpikjbaa
