/-
  RestsOf: the walks of both sides.
-/
import Derived.Test.YtnjdoedhhpkjhaaRestK
import Derived.Test.YtnjdoedhhpkjhaaSortS
import Derived.Test.YtnjdoedhhpkjhaaMem2
namespace Go.Proofs.Ytnjdoedhhpkjhaa
open Go.RowKit Go.ChangeShapes Go.WideShapes Go.Maps
set_option linter.unusedVariables false
attribute [local go_sem ↓] Go.wp_at_zero Go.wp_at_succ

def restsL (l : List ByteArray) (S : List Am) : List ByteArray := if codeOk l = true then sortB (keysL S) else []
def restsC (l : List ByteArray) : Int := if codeOk l = true then 0 else 1
theorem restsL_bad {l : List ByteArray} {S : List Am} (h : codeOk l = false) : restsL l S = [] ∧ restsC l = 1 := by simp [restsL, restsC, h]
theorem restsL_ok {l : List ByteArray} {S : List Am} (h : codeOk l = true) : restsL l S = sortB (keysL S) ∧ restsC l = 0 := by simp [restsL, restsC, h]
theorem restsL_len {l : List ByteArray} {S : List Am} (h : Good l S) : (restsL l S).length ≤ 90 := by
  unfold restsL
  split
  · rename_i hok
    rw [sortB_len, keysL_len]
    exact good_90 (codeOk_8 hok) (codeOk_10 hok) h
  · simp
theorem keysL_mem {S : List Am} {x : ByteArray} : x ∈ keysL S ↔ ∃ y ∈ S, y.2 = x := by unfold keysL; rw [List.mem_map]
theorem keysL_good {l : List ByteArray} {S T : List Am} (hS : Good l S) (hT : Good l T) (x : ByteArray) : x ∈ keysL S ↔ x ∈ keysL T := by
  rw [keysL_mem, keysL_mem]
  constructor
  · rintro ⟨y, hy, e⟩; exact ⟨y, good_mem hS hT hy, e⟩
  · rintro ⟨y, hy, e⟩; exact ⟨y, good_mem hT hS hy, e⟩
theorem sort_good {l : List ByteArray} {S : List Am} (hS : Good l S) {K : List ByteArray} (hK : Rise K) (h : ∀ x, x ∈ K ↔ x ∈ keysL S) : K = sortB (keysL S) :=
  rise_uniq hK (sortB_rise hS.keys) fun x => (h x).trans (sortB_mem _ x).symm
theorem fold_ins : ∀ (L K : List ByteArray), Rise K → Rise (L.foldl insP K) ∧ ∀ x, x ∈ L.foldl insP K ↔ x ∈ K ∨ x ∈ L
  | [], K, h => ⟨h, fun x => by simp⟩
  | y :: L, K, h => by
    obtain ⟨h1, h2⟩ := ins_facts h y
    obtain ⟨h3, h4⟩ := fold_ins L _ h1
    refine ⟨h3, fun x => ?_⟩
    rw [List.foldl_cons, h4, h2]
    simp only [List.mem_cons]
    constructor
    · rintro ((h | h) | h)
      · exact .inl h
      · exact .inr (.inl h)
      · exact .inr (.inr h)
    · rintro (h | h | h)
      · exact .inl (.inl h)
      · exact .inl (.inr h)
      · exact .inr h
def insTo (L : List ByteArray) (k : Nat) : List ByteArray := (L.take k).foldl insP []
theorem insTo_zero (L : List ByteArray) : insTo L 0 = [] := by simp [insTo]
theorem insTo_next {L : List ByteArray} {k : Nat} (h : k < L.length) : insTo L (k + 1) = insP (insTo L k) L[k] := by
  unfold insTo
  rw [List.take_succ_eq_append_getElem h, List.foldl_append]
  rfl
theorem insTo_len (L : List ByteArray) : ∀ k, (insTo L k).length ≤ k
  | 0 => by rw [insTo_zero]; exact Nat.le_refl _
  | k + 1 => by
    have ih := insTo_len L k
    by_cases h : k < L.length
    · rw [insTo_next h]
      have := insP_len (insTo L k) L[k]
      omega
    · have e : insTo L (k + 1) = insTo L k := by
        unfold insTo
        rw [List.take_of_length_le (by omega), List.take_of_length_le (by omega)]
      rw [e]; omega
theorem insTo_all {l : List ByteArray} {S S0 : List Am} (hS : Good l S) (hS0 : Good l S0) : insTo (keysL S) (keysL S).length = sortB (keysL S0) := by
  obtain ⟨h1, h2⟩ := fold_ins (keysL S) [] List.Pairwise.nil
  unfold insTo
  rw [List.take_length]
  refine sort_good hS0 h1 fun x => ?_
  rw [h2, ← keysL_good hS hS0]
  simp
theorem rs_rd' {B p : Nat} {S : List Am} {b : Bool} {w : World} (h : RsAt B p S b w) : ∃ ra rc, w.cell? ⟨p, 0, none⟩ = some (.slice ra S.length rc) ∧ Rd w ra (strs (keysL S)) := by
  obtain ⟨ra, rc, ta, tc, H⟩ := h
  exact ⟨ra, rc, H.c0, owns_rdN H.rrow⟩

set_option maxRecDepth 100000 in
set_option maxHeartbeats 4000000 in
theorem sRestsOf_any (S0 : List Am) (ao : Option Addr) (n cap : Nat) (l : List ByteArray) (w : World) (hS0 : Good l S0) (hn : n = l.length) (hr : Rd w ao (strs l)) (hs : ∀ x ∈ l, x.size ≤ maxLen) (hm : n ≤ 1048576) (hcap : n ≤ cap) (hcm : cap ≤ maxLen) :
    Calls Try.prog 16 #[.slice ao n cap] w (RowRet w.heap.size 9 w (strs (restsL l S0)) (restsC l)) := by
  have HN := hid hn
  clear hn
  cases hok : codeOk l
  · have hR := hid (restsL_bad (S := S0) hok)
    go_enter Try.func16, Try.ntmps16
    go_wp2_with (go_at_call 41; refine (sCode_any ao n cap l _ HN.out hr hs hm hcap hcm).mono ?_; rw [hok]; rintro e w1 ⟨rfl, hb1⟩)
    go_ret2
    rw [hR.out.1, hR.out.2]
    exact ⟨none, 0, by simp [strs], World.ownsRow_nil _ _ _ _, hb1⟩
  have hR := hid (restsL_ok (S := S0) hok)
  have H8 := hid (codeOk_8 hok)
  have h10 := codeOk_10 hok
  have H10 := hid h10
  rw [← HN.out] at h10
  go_enter Try.func16, Try.ntmps16
  go_wp2_with (first | (go_at_call 41; refine (sCode_any ao n cap l _ HN.out hr hs hm hcap hcm).mono ?_; rw [hok]; rintro e w1 ⟨rfl, hb1⟩; have hr1 := rd_below hr hb1) | (go_at_call 42; refine (sRests_any ao n cap l _ HN.out hr1 H8.out h10).mono ?_; rintro e w2 ⟨p, S, rfl, hgd, hrs, hb2⟩; have h90 := good_90 H8.out H10.out hgd; obtain ⟨ra, rc, q0, hrd⟩ := rs_rd' hrs))
  have hbb := hb1.trans (hb2.mono hb1.size)
  have hsz2 := hbb.size
  have hkl := keysL_len S
  have HALL := hid (insTo_all hgd hS0)
  have hrd' := rd_str hrd
  obtain ⟨K, hK⟩ : ∃ K, K = keysL S := ⟨_, rfl⟩
  rw [← hK] at hkl HALL hrd'
  obtain ⟨m, hmm⟩ : ∃ m, m = S.length := ⟨_, rfl⟩
  rw [← hmm] at hkl h90 q0 ⊢
  have HKL := hid hkl
  clear hr hr1 hrd hK hmm hkl
  go_loopw [5, 6] (fun v i wr => ∃ k g c : Nat, k ≤ m ∧ i = .int .i64 k ∧ v = .slice (some ⟨g, 0, none⟩) (insTo K k).length c ∧ wr.ownsRow w.heap.size 9 1 (.slice (some ⟨g, 0, none⟩) (insTo K k).length c) (insTo K k).length (strs (insTo K k)) ∧ Below w2.heap.size w2 wr) (fun _ i _ => m - (intOf i).toNat)
  case atStart =>
    refine ⟨0, w2.heap.size, 0, Nat.zero_le _, rfl, by rw [insTo_zero]; rfl, ?_, (Below.refl _ _).alloc (Nat.le_refl _) _⟩
    rw [insTo_zero]
    exact World.ownsRow_made _ _ 0 hsz2 (by unfold maxLen; omega) rfl
  case round =>
    obtain ⟨k, g, c, hk, rfl, rfl, hown, hB⟩ := hrel
    have hz := hB.size
    have hlen := insTo_len K k
    have hk0 : (0 : Int) ≤ (k : Int) := by omega
    by_cases hlt : k < m
    · rcases hrd' with hnil | ⟨b, o, rfl, hbl, hcell⟩
      · exact absurd (by rw [← HKL.out, hnil]; rfl : m = 0) (by omega)
      have hkK : k < K.length := by rw [HKL.out]; exact hlt
      have g1 := (hB.cell (p := ⟨b, o + k, none⟩) hbl).trans (hcell k hkK)
      have hkm : (k : Int) < (m : Int) := by omega
      have hnx := hid (insTo_next hkK)
      obtain ⟨x, hx⟩ : ∃ x, x = K[k] := ⟨_, rfl⟩
      rw [← hx] at g1 hnx
      obtain ⟨Y, hY⟩ : ∃ Y, Y = insTo K k := ⟨_, rfl⟩
      rw [← hY] at hown hlen hnx
      rw [← hY]
      clear hx hcell hY
      go_wp2_with (go_at_call 43; refine (sPutG_any w.heap.size g c Y x _ (by omega) (by omega) hown).mono ?_; rintro e w3 ⟨g3, c3, rfl, ho3, hb3⟩)
      go_roundw
      case rel => exact ⟨k + 1, g3, c3, by omega, by go_num, by rw [hnx.out], by rw [hnx.out]; exact ho3, hB.trans (hb3.mono hz)⟩
      case measure => simp [intOf]; omega
    · obtain rfl : m = k := by omega
      have hfin := hid (show insTo K m = sortB (keysL S0) by rw [← HALL.out, HKL.out])
      have hmk : ¬ (m : Int) < (m : Int) := by omega
      obtain ⟨Y, hY⟩ : ∃ Y, Y = insTo K m := ⟨_, rfl⟩
      rw [← hY] at hown hlen hfin
      rw [← hY]
      clear hY
      go_wp2_with fail
      go_ret2
      rw [hR.out.1, hR.out.2, ← hfin.out]
      exact rowRet_mk hown (hbb.trans (hB.mono hsz2))

def Left (left : Lit → Bool) (D : List Am) (K : List ByteArray) : Prop :=
  (∀ y ∈ D, left (.string y.2.data.toList) = true ∨ y.2 ∈ K) ∧ (∀ x ∈ K, left (.string x.data.toList) = false) ∧ K.Nodup ∧ ∀ x ∈ K, x ∈ keysL D
theorem left_start {D : List Am} : Left (Maps.has (mapA D)) D [] :=
  ⟨fun y hy => .inl ((mapA_has D y.2).trans (keyOn_of hy)), (fun x h => by cases h), List.nodup_nil, (fun x h => by cases h)⟩
theorem left_more {left : Lit → Bool} {D : List Am} {K : List ByteArray} {x : ByteArray} (h : Left left D K) (hx : left (.string x.data.toList) = true) (hD : keyOn D x = true) : Left (fun z => left z && !z.sameKey (.string x.data.toList)) D (K ++ [x]) := by
  obtain ⟨h1, h2, h3, h4⟩ := h
  refine ⟨?_, ?_, ?_, ?_⟩
  · intro y hy
    by_cases e : y.2 = x
    · right; rw [e]; simp
    · rcases h1 y hy with h5 | h5
      · left
        show (left _ && !_) = true
        rw [h5]
        cases hs : (Lit.string y.2.data.toList).sameKey (.string x.data.toList)
        · rfl
        · exact absurd (data_inj (WideAt.sameKey_eq hs)) e
      · right; exact List.mem_append_left _ h5
  · intro y hy
    show (left _ && !_) = false
    rcases List.mem_append.1 hy with hy | hy
    · rw [h2 y hy]; rfl
    · rw [List.mem_singleton.1 hy, WideAt.sameKey_self (by trivial)]
      simp
  · refine nodup_snoc h3 fun hk => ?_
    rw [h2 x hk] at hx
    cases hx
  · intro y hy
    rcases List.mem_append.1 hy with hy | hy
    · exact h4 y hy
    · rw [List.mem_singleton.1 hy]
      obtain ⟨z, hz, e⟩ := keyOn_mem hD
      exact keysL_mem.2 ⟨z, hz, e⟩
theorem left_end {l : List ByteArray} {left : Lit → Bool} {D S0 : List Am} {K : List ByteArray} (h : Left left D K) (hl : ∀ kl, left kl = false) (hD : Good l D) (hS0 : Good l S0) : sortB K = sortB (keysL S0) := by
  obtain ⟨h1, _, h3, h4⟩ := h
  refine sort_good hS0 (sortB_rise h3) fun x => ?_
  rw [sortB_mem, ← keysL_good hD hS0]
  constructor
  · exact h4 x
  · intro hx
    obtain ⟨y, hy, rfl⟩ := keysL_mem.1 hx
    rcases h1 y hy with h5 | h5
    · rw [hl] at h5; cases h5
    · exact h5
theorem left_len {left : Lit → Bool} {D : List Am} {K : List ByteArray} (h : Left left D K) : K.length ≤ D.length := by
  have := nodup_le K (keysL D) h.2.2.1 h.2.2.2
  rwa [keysL_len] at this

set_option maxRecDepth 100000 in
set_option maxHeartbeats 4000000 in
theorem restsOf_any (S0 : List Am) (ao : Option Addr) (n cap : Nat) (l : List ByteArray) (w : World) (hS0 : Good l S0) (hn : n = l.length) (hr : Rd w ao (strs l)) (hs : ∀ x ∈ l, x.size ≤ maxLen) (hm : n ≤ 1048576) :
    Calls Try.prog 18 #[.slice ao n cap] w (RowRet w.heap.size 9 w (strs (restsL l S0)) (restsC l)) := by
  obtain ⟨i0, hi, hz0, hz1, hz2⟩ := info_parts Try.infoStr
  have HN := hid hn
  clear hn
  cases hok : codeOk l
  · have hR := hid (restsL_bad (S := S0) hok)
    go_enter Try.func18, Try.ntmps18
    go_wp2_with (go_at_call 44; refine (code_any ao n cap l _ HN.out hr hs hm).mono ?_; rw [hok]; rintro e w1 ⟨rfl, hb1⟩)
    go_ret2
    rw [hR.out.1, hR.out.2]
    exact ⟨none, 0, by simp [strs], World.ownsRow_nil _ _ _ _, hb1⟩
  have hR := hid (restsL_ok (S := S0) hok)
  have H8 := hid (codeOk_8 hok)
  have h10 := codeOk_10 hok
  have H10 := hid h10
  rw [← HN.out] at h10
  go_enter Try.func18, Try.ntmps18
  go_wp2_with (first | (go_at_call 44; refine (code_any ao n cap l _ HN.out hr hs hm).mono ?_; rw [hok]; rintro e w1 ⟨rfl, hb1⟩; have hr1 := rd_below hr (hb1.alloc hb1.size (.cells #[] 9))) | (go_at_call 45; refine (restTexts_any ao n cap l _ HN.out hr1 H8.out h10).mono ?_; rintro e w2 ⟨bm, D, rfl, hgd, hmap, hbm, hb2⟩) | (at_range; refine wpList_range_own _ rfl _ 71 rfl 9 9 (string_keyed Try.underlying9) Try.underlying71 (plainElem Try.prog 9) bm D.length (mapA D) rfl hmap ?_; intro w3 hrg0 hg0 hs0))
  have hb1' : Below w.heap.size w (w1.alloc (.cells #[] 9)) := hb1.alloc hb1.size _
  have hbb := hb1'.trans (hb2.mono hb1'.size)
  have hb3 : Below w.heap.size w w3 := hbb.grown hg0 hbb.size (fun k hk => by cases hk)
  have hsz2 := hbb.size
  have h90 := good_90 H8.out H10.out hgd
  have hown0 : w3.ownsRow w.heap.size 9 1 (.slice (some ⟨w1.heap.size, 0, none⟩) 0 0) 0 [] := (owns_below (World.ownsRow_made w1 #[] 0 hb1.size (by unfold maxLen; omega) rfl) hb2).kept hg0 (.inr (by simp [Value.ownBlock]))
  have hgb : w1.heap.size < bm := by simp at hbm; omega
  have hg2 : w1.heap.size < w2.heap.size := by have := hb2.size; simp at this; omega
  have hbm2 : bm < w2.heap.size := hmap.lt
  clear hr hr1 hmap
  go_frame
  go_loopw [4] (fun v wr => ∃ (left : Lit → Bool) (cnt : Nat) (K : List ByteArray) (g c : Nat), wr.ranges Try.prog 9 (plainElem (H := Unit) Try.prog 9) bm w2.heap.size D.length (mapA D) left cnt ∧ v = .slice (some ⟨g, 0, none⟩) K.length c ∧ wr.ownsRow w.heap.size 9 1 (.slice (some ⟨g, 0, none⟩) K.length c) K.length (strs K) ∧ g ≠ bm ∧ g ≠ w2.heap.size ∧ w2.heap.size < wr.heap.size ∧ Left left D K ∧ Below w.heap.size w wr) (fun _ wr => wr.rangeLeft bm w2.heap.size)
  case atStart => exact ⟨_, _, [], w1.heap.size, 0, hrg0, rfl, hown0, by omega, by omega, by omega, left_start, hb3⟩
  case round =>
    clear hrg0 hg0 hs0 hown0 hb3
    obtain ⟨left, cnt, K, g, c, hrg, rfl, hown, hgm, hgr2, hw2, hleft, hB⟩ := hrel
    have HL := hid hleft
    have hKl := left_len hleft
    clear hleft
    go_wp2_with (at_next; refine wpList_next_ranges_ss _ rfl _ rfl 9 9 (string_keyed Try.underlying9) Try.underlying9 Try.underlying9 bm w2.heap.size D.length (mapA D) left cnt rfl hrg ?_ ?_)
    · intro hc0 hl0
      have hfin := hid (left_end HL.out hl0 hgd hS0)
      obtain ⟨m, hmm⟩ : ∃ m, m = K.length := ⟨_, rfl⟩
      rw [← hmm] at hown hKl
      rw [← hmm]
      have HM := hid hmm
      clear hl0 hmm
      go_wp2_with (go_at_call 46; refine (strSort_any w.heap.size g c m K _ HM.out (by omega) hown).mono ?_; rintro e w5 ⟨rfl, ho5, hg5⟩)
      go_ret2
      rw [hR.out.1, hR.out.2, ← hfin.out]
      exact rowRet_mk ho5 (hB.grown hg5 hB.size (fun k hk => by simp at hk; have := (hown.lt g rfl).1; omega))
    · intro x c' w4 cnt' hxs hlx hhx hrg4 hlt hgr hsz hen
      have hxk : keyOn D x = true := (mapA_has D x).symm.trans hhx
      have hL' := hid (left_more HL.out hlx hxk)
      have hB4 : Below w.heap.size w w4 := hB.grown hgr hB.size (fun k hk => by simp at hk; omega)
      have hown4 : w4.ownsRow w.heap.size 9 1 (.slice (some ⟨g, 0, none⟩) K.length c) K.length (strs K) := hown.kept hgr (.inr (by simp [Value.ownBlock]; exact hgr2))
      have hsz4 := hB4.size
      have HSZ := hid hsz
      clear hxk hhx hlx hsz
      go_wp2_with (at_builtin; refine wpList_append_own_at _ rfl _ _ 34 rfl w.heap.size 9 i0 (.string ByteArray.empty) 1 16 Try.underlying34 hi hz0 hz1 hz2 rfl (by decide) (.slice (some ⟨g, 0, none⟩) K.length c) K.length (strs K) rfl (hown4.alloc _) ⟨w4.heap.size, 0, none⟩ 1 1 [.string x] rfl rfl (one_new _ _ _) (one_okS _) (by unfold maxLen; omega) (by omega) (by simp; omega) ?_; intro v5 w5 ho5 hg5 _ hat5; obtain ⟨g5, k5, rfl, hg5B, hg5l⟩ := own_some ho5; rw [← strs_snoc] at ho5)
      have hg5m : g5 ≠ bm ∧ g5 ≠ w2.heap.size := by
        rcases hat5 with e | e
        · simp [Value.ownBlock] at e; subst e; exact ⟨hgm, hgr2⟩
        · simp [Value.ownBlock] at e; have := HSZ.out; omega
      have hrg5 := (hrg4.alloc (.cells #[.string x] 9)).kept hg5 (by simp [Value.ownBlock]; omega) (by simp [Value.ownBlock]; omega)
      have hlen : (K ++ [x]).length = K.length + 1 := by simp
      go_roundw
      case rel => exact ⟨_, cnt', K ++ [x], g5, k5, hrg5, by rw [hlen], by rw [hlen]; exact ho5, hg5m.1, hg5m.2, by have h1 := hg5.size; have h2 := HSZ.out; simp at h1; omega, hL'.out, below_grown (hB4.alloc hsz4 _) (by simp; omega) (hown4.alloc _) hg5⟩
      case measure => rw [hrg5.left_eq, hrg.left_eq]; omega
end Go.Proofs.Ytnjdoedhhpkjhaa
