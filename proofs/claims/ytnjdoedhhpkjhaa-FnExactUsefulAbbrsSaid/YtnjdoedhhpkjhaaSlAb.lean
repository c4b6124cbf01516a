/-
  Walks of the laws' helpers over slices of abbreviations: sizes, copy, equal.
-/
import Derived.Test.YtnjdoedhhpkjhaaAbB
import Derived.Test.YtnjdoedhhpkjhaaFlat
import Derived.Deep.Slices
namespace Go.Proofs.Ytnjdoedhhpkjhaa
open Go.RowKit Go.ChangeShapes Go.WideShapes
set_option linter.unusedVariables false
attribute [local go_sem ↓] Go.wp_at_zero Go.wp_at_succ

abbrev Ab := ByteArray × ByteArray
def abF (x : Ab) : List Value := [.string x.1, .string x.2]
def abs (l : List Ab) : List Value := flat abF l
theorem abF_len (x : Ab) : (abF x).length = 2 := rfl
theorem abs_len (l : List Ab) : (abs l).length = l.length * 2 := flat_len abF_len l
def abSmall (l : List Ab) : Prop := ∀ x ∈ l, x.1.size ≤ maxLen ∧ x.2.size ≤ maxLen
theorem abSmall_get {l : List Ab} (h : abSmall l) (j : Nat) (hj : j < l.length) : l[j].1.size ≤ maxLen ∧ l[j].2.size ≤ maxLen := h _ (List.getElem_mem hj)
theorem abs_get0 (l : List Ab) (j : Nat) (hj : j < l.length) : (abs l)[j * 2]? = some (.string l[j].1) := by
  have := flat_get abF_len l j 0 hj (by omega)
  unfold abs
  simpa [abF] using this
theorem abs_get1 (l : List Ab) (j : Nat) (hj : j < l.length) : (abs l)[j * 2 + 1]? = some (.string l[j].2) := by
  have := flat_get abF_len l j 1 hj (by omega)
  unfold abs
  simpa [abF] using this
theorem abs_set (l : List Ab) (j : Nat) (x : Ab) (hj : j < l.length) : ((abs l).set (j * 2) (.string x.1)).set (j * 2 + 1) (.string x.2) = abs (l.set j x) := by
  apply flat_ext (n := l.length) (sz := 2)
  · simp [abs_len]
  · simp [abs_len]
  · intro k i hk hi
    have hr := flat_get abF_len (l.set j x) k i (by simpa using hk) hi
    have hl := flat_get abF_len l k i hk hi
    unfold abs at *
    rw [hr]
    have hle : (flat abF l).length = l.length * 2 := flat_len abF_len l
    have hjk := flat_lt (sz := 2) (i := 1) hj (by omega)
    by_cases e : j = k
    · subst e
      rcases (show i = 0 ∨ i = 1 by omega) with rfl | rfl
      · rw [List.getElem?_set_ne (by omega), Nat.add_zero, List.getElem?_set_self (by omega)]
        simp [abF]
      · rw [List.getElem?_set_self (by simp; omega)]
        simp [abF]
    · rw [List.getElem?_set_ne (by omega), List.getElem?_set_ne (by omega), hl]
      simp [List.getElem_set_ne e]

/-- what a slice of abbreviations reads -/
theorem rd_ab {w : World} {ao : Option Addr} {l : List Ab} (h : Rd w ao (abs l)) : l = [] ∨ ∃ b o, ao = some ⟨b, o, none⟩ ∧ b < w.heap.size ∧ ∀ j (hj : j < l.length), w.cell? ⟨b, o + j * 2, none⟩ = some (.string l[j].1) ∧ w.cell? ⟨b, o + j * 2 + 1, none⟩ = some (.string l[j].2) := by
  rcases h with h | ⟨b, o, h1, h2, h3⟩
  · left
    have := congrArg List.length h
    rw [abs_len] at this
    exact List.eq_nil_of_length_eq_zero (by simp at this; omega)
  · right
    refine ⟨b, o, h1, h2, fun j hj => ⟨?_, ?_⟩⟩
    · have hlt : j * 2 < (abs l).length := by rw [abs_len]; omega
      rw [h3 (j * 2) hlt, ← List.getElem?_eq_getElem hlt, abs_get0 l j hj]
    · have hlt : j * 2 + 1 < (abs l).length := by rw [abs_len]; omega
      rw [Nat.add_assoc, h3 (j * 2 + 1) hlt, ← List.getElem?_eq_getElem hlt, abs_get1 l j hj]

theorem Try.infoAb : (Try.prog.info? 57).map (fun i => (i.zero, i.size, i.bytes)) = some (some (.agg #[.string ByteArray.empty, .string ByteArray.empty]), 2, 32) := by kernel_rfl

/-- what is left of a size behind some abbreviations -/
def szAbs (left : Int) : List Ab → Int
  | [] => left
  | x :: r => if szAb x.1 x.2 left < 0 then -1 else szAbs (szAb x.1 x.2 left) r

set_option maxHeartbeats 2000000 in
theorem toAbbrS_any (ao : Option Addr) (n cap : Nat) (l : List Ab) (w : World) (hn : n = l.length) (hr : Rd w ao (abs l)) (hm : n ≤ 1048576) :
    Calls Try.prog 8 #[.slice ao n cap] w (FlatRet1 w.heap.size 57 2 n w (abs l)) := by
  obtain ⟨i0, hi, hz0, hz1, hz2⟩ := info_parts Try.infoAb
  have HN := hid hn
  have hrd := rd_ab hr
  clear hn hr
  go_enter Try.func8, Try.ntmps8
  go_wp2_with (at_make; refine wpList_make_full _ rfl _ _ 27 rfl w.heap.size 57 i0 (.agg #[.string ByteArray.empty, .string ByteArray.empty]) 2 Try.underlying27 hi hz0 hz1 .i64 .i64 _ _ n rfl rfl rfl rfl (by rw [hz2]; omega) (by unfold maxLen; omega) (Nat.le_refl _) ?_; intro w1 hown hgrow)
  have hB0 : Below w.heap.size w w1 := (Below.refl _ _).grown hgrow (Nat.le_refl _) (by simp)
  have hown0 : w1.ownsRow w.heap.size 57 2 (.slice (some ⟨w.heap.size, 0, none⟩) n n) n (abs (fillRow l (ByteArray.empty, ByteArray.empty) 0)) := by
    rw [fill_zero, ← HN.out, abs, ← made_flat abF_len (.agg #[.string ByteArray.empty, .string ByteArray.empty]) (ByteArray.empty, ByteArray.empty) n rfl (by omega)]
    exact hown
  clear hown hgrow hi hz0 hz1 hz2
  go_loopw [4] (fun i wr => ∃ k : Nat, k ≤ n ∧ i = .int .i64 k ∧ wr.ownsRow w.heap.size 57 2 (.slice (some ⟨w.heap.size, 0, none⟩) n n) n (abs (fillRow l (ByteArray.empty, ByteArray.empty) k)) ∧ Below w.heap.size w wr) (fun i _ => n - (intOf i).toNat)
  case atStart => exact ⟨0, Nat.zero_le _, rfl, hown0, hB0⟩
  case round =>
    obtain ⟨k, hk, rfl, hown, hB⟩ := hrel
    by_cases hlt : k < n
    · rcases hrd with hnil | ⟨b, o, rfl, hbl, hcell⟩
      · exact absurd (by rw [HN.out, hnil]; rfl : n = 0) (by omega)
      · have hkl : k < l.length := by rw [← HN.out]; exact hlt
        obtain ⟨h1, h2⟩ := hcell k hkl
        have g1 := (hB.cell (p := ⟨b, o + k * 2, none⟩) hbl).trans h1
        have g2 := (hB.cell (p := ⟨b, o + k * 2 + 1, none⟩) hbl).trans h2
        clear hcell h1 h2
        have hk0 : (0 : Int) ≤ (k : Int) := by omega
        have hkn : (k : Int) < (n : Int) := by omega
        obtain ⟨x, hx⟩ : ∃ x, x = l[k] := ⟨_, rfl⟩
        rw [← hx] at g1 g2
        have Hx := hid hx
        clear hx
        go_wp2_with fail
        refine (toAbbr_any _ _ _).mono ?_
        rintro e w' ⟨rfl, hb⟩
        have ho2 := owns_below hown hb
        have hfl : (fillRow l (ByteArray.empty, ByteArray.empty) k).length = n := by rw [fill_len _ _ _ (by omega)]; exact HN.out.symm
        have hal : (abs (fillRow l (ByteArray.empty, ByteArray.empty) k)).length = n * 2 := by rw [abs_len, hfl]
        obtain ⟨v0, hv0⟩ : ∃ v, w'.cell? ⟨w.heap.size, k * 2, none⟩ = some v := ⟨_, by rw [ho2.cellAt (k * 2) (by omega), List.getElem?_eq_getElem (by rw [hal]; omega)]⟩
        obtain ⟨v1, hv1⟩ : ∃ v, w'.cell? ⟨w.heap.size, k * 2 + 1, none⟩ = some v := ⟨_, by rw [ho2.cellAt (k * 2 + 1) (by omega), List.getElem?_eq_getElem (by rw [hal]; omega)]⟩
        have hf0 := ho2.frozenAt (k * 2)
        have hf1 := ho2.frozenAt (k * 2 + 1)
        have Hfl := hid hfl
        clear hfl hal
        go_wp2_with fail
        go_roundw
        case rel =>
          refine ⟨k + 1, by omega, by go_num, ?_, ((hB.trans (hb.mono hB.size)).setCell (by simp) _).setCell (by simp) _⟩
          rw [← fill_next l _ k hkl, ← Hx.out, ← abs_set _ k x (by rw [Hfl.out]; exact hlt)]
          exact ((ho2.stored (k * 2) _).1.stored (k * 2 + 1) _).1
        case measure => simp [intOf]; omega
    · obtain rfl : k = n := by omega
      have hf := hid (show fillRow l (ByteArray.empty, ByteArray.empty) k = l by rw [HN.out]; exact fill_all _ _)
      go_wp2
      go_ret
      rw [hf.out] at hown
      exact ⟨_, _, rfl, hown, hB⟩

set_option maxHeartbeats 1000000 in
theorem eqAbbrS_any (ao bo : Option Addr) (l : List Ab) (n cap cap2 : Nat) (w : World) (hn : n = l.length) (hm : n ≤ 1073741824) (ha : Rd w ao (abs l)) (hb : Rd w bo (abs l)) :
    Calls Try.prog 11 #[.slice ao n cap, .slice bo n cap2] w fun e w' => e = .returned (.bool true) ∧ Below w.heap.size w w' := by
  have hcase : n = 0 ∨ ∃ b o b2 o2, ao = some ⟨b, o, none⟩ ∧ bo = some ⟨b2, o2, none⟩ ∧ b < w.heap.size ∧ b2 < w.heap.size ∧ ∀ j, (h : j < l.length) → (w.cell? ⟨b, o + j * 2, none⟩ = some (.string l[j].1) ∧ w.cell? ⟨b, o + j * 2 + 1, none⟩ = some (.string l[j].2)) ∧ (w.cell? ⟨b2, o2 + j * 2, none⟩ = some (.string l[j].1) ∧ w.cell? ⟨b2, o2 + j * 2 + 1, none⟩ = some (.string l[j].2)) := by
    rcases rd_ab ha with ha | ⟨b, o, h1, h2, h3⟩
    · left; rw [hn, ha]; rfl
    · rcases rd_ab hb with hb | ⟨b2, o2, g1, g2, g3⟩
      · left; rw [hn, hb]; rfl
      · exact .inr ⟨b, o, b2, o2, h1, g1, h2, g2, fun j h => ⟨h3 j h, g3 j h⟩⟩
  clear ha hb
  rcases hcase with h0 | ⟨b, o, b2, o2, rfl, rfl, hl1, hl2, hc⟩
  · subst h0
    clear hn
    go_enter Try.func11, Try.ntmps11
    go_wp2
    refine wp_loop_rounds 1 ?_
    rw [rounds_succ]
    go_wp2
    go_ret
    exact ⟨rfl, Below.refl _ _⟩
  · have HC := hid hc
    have HN := hid hn
    clear hc hn
    go_enter Try.func11, Try.ntmps11
    go_wp2
    go_loopw [5] (fun i wr => ∃ k : Nat, k ≤ n ∧ i = .int .i64 k ∧ Below w.heap.size w wr) (fun i _ => n - (intOf i).toNat)
    case atStart => exact ⟨0, Nat.zero_le _, rfl, Below.refl _ _⟩
    case round =>
      obtain ⟨k, hk, rfl, hB⟩ := hrel
      by_cases hlt : k < n
      · have hkx : k < l.length := by rw [← HN.out]; exact hlt
        obtain ⟨x, hx⟩ : ∃ x, x = l[k] := ⟨_, rfl⟩
        obtain ⟨⟨f1, f2⟩, f3, f4⟩ := HC.out k hkx
        have h1 := (hB.cell (p := ⟨b, o + k * 2, none⟩) hl1).trans f1
        have h2 := (hB.cell (p := ⟨b, o + k * 2 + 1, none⟩) hl1).trans f2
        have h3 := (hB.cell (p := ⟨b2, o2 + k * 2, none⟩) hl2).trans f3
        have h4 := (hB.cell (p := ⟨b2, o2 + k * 2 + 1, none⟩) hl2).trans f4
        rw [← hx] at h1 h2 h3 h4
        clear hx f1 f2 f3 f4
        have hk0 : (0 : Int) ≤ (k : Int) := by omega
        have hkn : (k : Int) < (n : Int) := by omega
        have hlb : Below w.heap.size w wr.drew := hB.drew
        go_wp2_with fail
        go_region_held3 (fun w' => w'.cell? ⟨b, o + k * 2, none⟩ = some (.string x.1) ∧ w'.cell? ⟨b, o + k * 2 + 1, none⟩ = some (.string x.2) ∧ w'.cell? ⟨b2, o2 + k * 2, none⟩ = some (.string x.1) ∧ w'.cell? ⟨b2, o2 + k * 2 + 1, none⟩ = some (.string x.2))
          (first | exact ⟨(hb.cell (p := ⟨b, o + k * 2, none⟩) (Nat.lt_of_lt_of_le hl1 hB.size)).trans h1, (hb.cell (p := ⟨b, o + k * 2 + 1, none⟩) (Nat.lt_of_lt_of_le hl1 hB.size)).trans h2, (hb.cell (p := ⟨b2, o2 + k * 2, none⟩) (Nat.lt_of_lt_of_le hl2 hB.size)).trans h3, (hb.cell (p := ⟨b2, o2 + k * 2 + 1, none⟩) (Nat.lt_of_lt_of_le hl2 hB.size)).trans h4⟩ | (refine ⟨?_, ?_, ?_, ?_⟩ <;> assumption))
          (first | (go_at_call 39; refine (eqAbbr_any _ _ _).mono ?_; rintro e w' ⟨rfl, hb⟩))
        go_wp2
        go_roundw
        case rel => exact ⟨k + 1, by omega, by go_num, hlb.trans (hb.mono hlb.size)⟩
        case measure => simp [intOf]; omega
      · obtain rfl : k = n := by omega
        go_wp2
        go_ret
        exact ⟨rfl, hB⟩

def szAllAb (left : Int) (n : Nat) (l : List Ab) : Int := if left - (n : Int) < 0 then -1 else szAbs (left - n) l
theorem szAllAb_big {lf : Int} {n : Nat} {l : List Ab} (h : lf - (n : Int) < 0) : szAllAb lf n l = -1 := by rw [szAllAb, if_pos h]
theorem szAllAb_small {lf : Int} {n : Nat} {l : List Ab} (h : ¬ lf - (n : Int) < 0) : szAllAb lf n l = szAbs (lf - n) l := by rw [szAllAb, if_neg h]
theorem szAllAb_len {lf : Int} {n : Nat} {l : List Ab} (h1 : lf ≤ 1048576) (h : ¬ szAllAb lf n l < 0) : n ≤ 1048576 := by
  by_cases hb : lf - (n : Int) < 0
  · rw [szAllAb_big hb] at h; omega
  · omega
theorem szAbs_le (l : List Ab) : ∀ lf : Int, 0 ≤ lf → szAbs lf l ≤ lf := by
  induction l with
  | nil => intro lf _; simp [szAbs]
  | cons x r ih =>
    intro lf h
    rw [szAbs]
    have := szAb_bd x.1 x.2 lf h
    split
    · omega
    · have := ih _ (show 0 ≤ szAb x.1 x.2 lf by omega); omega
theorem szAllAb_le (lf : Int) (n : Nat) (l : List Ab) (h : 0 ≤ lf) (h1 : lf ≤ 1048576 := by omega) : szAllAb lf n l ≤ 1048576 := by
  unfold szAllAb
  split
  · omega
  · have := szAbs_le l (lf - n) (by omega); omega
set_option maxHeartbeats 1000000 in
theorem szAbbrS_any (ao : Option Addr) (n cap : Nat) (l : List Ab) (lf : Int) (w : World) (hf0 : 0 ≤ lf) (hf1 : lf ≤ 1048576) (hn : n = l.length) (hm : n ≤ maxLen) (hr : Rd w ao (abs l)) (hs : abSmall l) :
    Calls Try.prog 6 #[.slice ao n cap, .int .i64 lf] w fun e w' => e = .returned (.int .i64 (szAllAb lf n l)) ∧ Below w.heap.size w w' := by
  unfold maxLen at hm
  by_cases hbig : lf - (n : Int) < 0
  · go_enter Try.func6, Try.ntmps6
    go_wp2
    go_ret
    exact ⟨ret_int (szAllAb_big (by omega)).symm, Below.refl _ _⟩
  · have HN := hid hn
    have hrd := rd_ab hr
    clear hn hr
    have hR := hid (szAllAb_small (l := l) hbig)
    go_enter Try.func6, Try.ntmps6
    go_wp2
    go_loopw [1, 5] (fun lv i wr => ∃ (k : Nat) (left : Int), k ≤ n ∧ i = .int .i64 k ∧ lv = .int .i64 left ∧ 0 ≤ left ∧ left ≤ 1048576 ∧ Hid (szAbs (lf - n) l = szAbs left (l.drop k)) ∧ Below w.heap.size w wr) (fun _ i _ => n - (intOf i).toNat)
    case atStart => exact ⟨0, _, Nat.zero_le _, rfl, rfl, by omega, by omega, rfl, Below.refl _ _⟩
    case round =>
      obtain ⟨k, left, hk, rfl, rfl, hl0, hl1, hS, hB⟩ := hrel
      by_cases hlt : k < n
      · rcases hrd with hnil | ⟨b, o, rfl, hbl, hcell⟩
        · exact absurd (by rw [HN.out, hnil]; rfl : n = 0) (by omega)
        · have hkl : k < l.length := by rw [← HN.out]; exact hlt
          obtain ⟨h1, h2⟩ := hcell k hkl
          obtain ⟨hs1, hs2⟩ := abSmall_get hs k hkl
          have g1 := (hB.cell (p := ⟨b, o + k * 2, none⟩) hbl).trans h1
          have g2 := (hB.cell (p := ⟨b, o + k * 2 + 1, none⟩) hbl).trans h2
          clear hcell h1 h2
          have hk0 : (0 : Int) ≤ (k : Int) := by omega
          have hkn : (k : Int) < (n : Int) := by omega
          obtain ⟨x, hx⟩ : ∃ x, x = l[k] := ⟨_, rfl⟩
          have hst := hid (show szAbs left (l.drop k) = if szAb x.1 x.2 left < 0 then -1 else szAbs (szAb x.1 x.2 left) (l.drop (k + 1)) by rw [List.drop_eq_getElem_cons hkl, hx]; rfl)
          rw [← hx] at g1 g2 hs1 hs2
          have Hx := hid hx
          clear hx
          have hzl := szAb_bd x.1 x.2 left hl0
          by_cases hz : szAb x.1 x.2 left < 0
          · go_wp2_with (go_at_call 31; refine (szAbbr_any _ _ _ _ hs1 hs2 hl0 hl1).mono ?_; rintro e w' ⟨rfl, hb⟩)
            go_ret
            exact ⟨ret_int (by rw [hR.out, hS.out, hst.out, if_pos (by omega)]), hB.trans (hb.mono hB.size)⟩
          · go_wp2_with (go_at_call 31; refine (szAbbr_any _ _ _ _ hs1 hs2 hl0 hl1).mono ?_; rintro e w' ⟨rfl, hb⟩)
            go_roundw
            case rel => exact ⟨k + 1, _, by omega, by go_num, rfl, by omega, by omega, hid (by rw [hS.out, hst.out, if_neg (by omega)]), hB.trans (hb.mono hB.size)⟩
            case measure => simp [intOf]; omega
      · obtain rfl : k = n := by omega
        have hd := hid (show l.drop k = [] from List.drop_eq_nil_of_le (by rw [HN.out]; exact Nat.le_refl _))
        go_wp2
        go_ret
        exact ⟨ret_int (by rw [hR.out, hS.out, hd.out]; rfl), hB⟩
end Go.Proofs.Ytnjdoedhhpkjhaa
