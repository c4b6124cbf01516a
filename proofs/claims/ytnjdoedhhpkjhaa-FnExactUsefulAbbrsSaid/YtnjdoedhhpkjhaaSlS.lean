/-
  Walks of the laws' helpers over slices of texts: sizes, copy, equal, mark, held.
-/
import Derived.Test.YtnjdoedhhpkjhaaSlStr
import Derived.Test.YtnjdoedhhpkjhaaOver
import Derived.Test.YtnjdoedhhpkjhaaOpen
namespace Go.Proofs.Ytnjdoedhhpkjhaa
open Go.RowKit Go.ChangeShapes Go.WideShapes
set_option linter.unusedVariables false
attribute [local go_sem ↓] Go.wp_at_zero Go.wp_at_succ

theorem rd_str {w : World} {ao : Option Addr} {l : List ByteArray} (h : Rd w ao (strs l)) : l = [] ∨ ∃ b o, ao = some ⟨b, o, none⟩ ∧ b < w.heap.size ∧ ∀ j (hj : j < l.length), w.cell? ⟨b, o + j, none⟩ = some (.string l[j]) := by
  rcases h with h | ⟨b, o, h1, h2, h3⟩
  · left
    have := congrArg List.length h
    rw [strs_len] at this
    exact List.eq_nil_of_length_eq_zero (by simpa using this)
  · right
    exact ⟨b, o, h1, h2, fun j hj => by rw [h3 j (by rw [strs_len]; exact hj), strs_get]⟩
theorem grown_of_below {w w' : World} {row : Option Nat} (h : Below w.heap.size w w') : w.grownBy w' row := ⟨h.os, h.tape, h.output, h.size, fun i hi _ => h.block i hi⟩
theorem grownBy_tr {a b c : World} {row : Option Nat} (h : a.grownBy b row) (k : b.grownBy c row) : a.grownBy c row :=
  ⟨k.os.trans h.os, k.tape.trans h.tape, k.output.trans h.output, Nat.le_trans h.size k.size, fun i hi hne => (k.block i (Nat.lt_of_lt_of_le hi h.size) hne).trans (h.block i hi hne)⟩

/-- a slice of texts that came in -/
def StArg (w : World) (ao : Option Addr) (n cap : Nat) (l : List ByteArray) : Prop := n = l.length ∧ n ≤ maxLen ∧ Rd w ao (strs l) ∧ ∀ x ∈ l, x.size ≤ maxLen
theorem Try.cellsStr1 : Try.prog.cellsOf 9 = 1 := by kernel_rfl
theorem strs_flat (l : List ByteArray) : strs l = flat (fun x => [Value.string x]) l := by
  induction l with
  | nil => rfl
  | cons x l ih =>
    have e : flat (fun x => [Value.string x]) (x :: l) = [Value.string x] ++ flat (fun x => [Value.string x]) l := by simp [flat]
    rw [e, ← ih]; rfl
set_option maxRecDepth 100000 in
theorem openSt {H : Type} {enc : TypeId × Value → H} {W : World} {base : Nat} {spare : Nat → Bool} {held : Bool} {r : Reach} {b0 : Nat} {v : Value} {d : DataW H} {p : List MemPlace}
    (hv : Value.okWide Try.prog W r b0 34 v) (h : DataW.Trod enc Try.prog W base spare held 34 v d p) :
    ∃ (ao : Option Addr) (n cap : Nat) (l : List ByteArray), v = .slice ao n cap ∧ StArg W ao n cap l := by
  obtain ⟨ao, n, cap, l, e, h1, h2, h3, h4⟩ := openFlat (sz := 1) (f := fun x => [Value.string x]) (good := fun y => y.size ≤ maxLen) (fun _ => rfl) (by omega) Try.underlying34 Try.cellsStr1 (elem_s Try.underlying9) hv h
  exact ⟨ao, n, cap, l, e, h1, h2, by rw [strs_flat]; exact h3, h4⟩
/-- what is left of a size behind some texts -/
def szStrs (left : Int) : List ByteArray → Int
  | [] => left
  | x :: r => if left - x.size < 0 then -1 else szStrs (left - x.size) r
def szAllSt (left : Int) (n : Nat) (l : List ByteArray) : Int := if left - (n : Int) < 0 then -1 else szStrs (left - n) l
theorem szAllSt_big {lf : Int} {n : Nat} {l : List ByteArray} (h : lf - (n : Int) < 0) : szAllSt lf n l = -1 := by rw [szAllSt, if_pos h]
theorem szAllSt_small {lf : Int} {n : Nat} {l : List ByteArray} (h : ¬ lf - (n : Int) < 0) : szAllSt lf n l = szStrs (lf - n) l := by rw [szAllSt, if_neg h]
theorem szAllSt_len {lf : Int} {n : Nat} {l : List ByteArray} (h1 : lf ≤ 1048576) (h : ¬ szAllSt lf n l < 0) : n ≤ 1048576 := by
  by_cases hb : lf - (n : Int) < 0
  · rw [szAllSt_big hb] at h; omega
  · omega
theorem szStrs_le (l : List ByteArray) : ∀ lf : Int, 0 ≤ lf → szStrs lf l ≤ lf ∧ (0 ≤ szStrs lf l → ∀ x ∈ l, (x.size : Int) ≤ lf) := by
  induction l with
  | nil => intro lf _; simp [szStrs]
  | cons x r ih =>
    intro lf h
    rw [szStrs]
    split
    · exact ⟨by omega, fun h => by omega⟩
    · obtain ⟨a, b⟩ := ih (lf - x.size) (by omega)
      refine ⟨by omega, fun h y hy => ?_⟩
      rcases List.mem_cons.1 hy with rfl | hy
      · omega
      · have := b h y hy; omega
theorem szAllSt_le (lf : Int) (n : Nat) (l : List ByteArray) (h : 0 ≤ lf) (h1 : lf ≤ 1048576) : szAllSt lf n l ≤ 1048576 := by
  unfold szAllSt
  split
  · omega
  · have := (szStrs_le l (lf - n) (by omega)).1; omega
theorem szAllSt_each {lf : Int} {n : Nat} {l : List ByteArray} (h : 0 ≤ lf) (h1 : lf ≤ 1048576) (hz : ¬ szAllSt lf n l < 0) : ∀ x ∈ l, x.size ≤ 1048576 := by
  by_cases hb : lf - (n : Int) < 0
  · rw [szAllSt_big hb] at hz; omega
  · rw [szAllSt_small hb] at hz
    intro x hx
    have := (szStrs_le l (lf - n) (by omega)).2 (by omega) x hx
    omega

set_option maxHeartbeats 1000000 in
theorem szStringS_any (ao : Option Addr) (n cap : Nat) (l : List ByteArray) (lf : Int) (w : World) (hf0 : 0 ≤ lf) (hf1 : lf ≤ 1048576) (hn : n = l.length) (hm : n ≤ maxLen) (hr : Rd w ao (strs l)) (hs : ∀ x ∈ l, x.size ≤ maxLen) :
    Calls Try.prog 15 #[.slice ao n cap, .int .i64 lf] w fun e w' => e = .returned (.int .i64 (szAllSt lf n l)) ∧ Below w.heap.size w w' := by
  unfold maxLen at hm
  by_cases hbig : lf - (n : Int) < 0
  · go_enter Try.func15, Try.ntmps15
    go_wp2
    go_ret
    exact ⟨ret_int (szAllSt_big (by omega)).symm, Below.refl _ _⟩
  · have HN := hid hn
    have hrd := rd_str hr
    clear hn hr
    have hR := hid (szAllSt_small (l := l) hbig)
    go_enter Try.func15, Try.ntmps15
    go_wp2
    go_loopw [1, 5] (fun lv i wr => ∃ (k : Nat) (left : Int), k ≤ n ∧ i = .int .i64 k ∧ lv = .int .i64 left ∧ 0 ≤ left ∧ left ≤ 1048576 ∧ Hid (szStrs (lf - n) l = szStrs left (l.drop k)) ∧ Below w.heap.size w wr) (fun _ i _ => n - (intOf i).toNat)
    case atStart => exact ⟨0, _, Nat.zero_le _, rfl, rfl, by omega, by omega, rfl, Below.refl _ _⟩
    case round =>
      obtain ⟨k, left, hk, rfl, rfl, hl0, hl1, hS, hB⟩ := hrel
      by_cases hlt : k < n
      · rcases hrd with hnil | ⟨b, o, rfl, hbl, hcell⟩
        · exact absurd (by rw [HN.out, hnil]; rfl : n = 0) (by omega)
        · have hkl : k < l.length := by rw [← HN.out]; exact hlt
          have g1 := (hB.cell (p := ⟨b, o + k, none⟩) hbl).trans (hcell k hkl)
          have hs1 := hs _ (List.getElem_mem hkl)
          clear hcell
          have hk0 : (0 : Int) ≤ (k : Int) := by omega
          have hkn : (k : Int) < (n : Int) := by omega
          obtain ⟨x, hx⟩ : ∃ x, x = l[k] := ⟨_, rfl⟩
          have hst := hid (show szStrs left (l.drop k) = if left - x.size < 0 then -1 else szStrs (left - x.size) (l.drop (k + 1)) by rw [List.drop_eq_getElem_cons hkl, hx]; rfl)
          rw [← hx] at g1 hs1
          have Hx := hid hx
          clear hx
          unfold maxLen at hs1
          by_cases hz : left - (x.size : Int) < 0
          · go_wp2
            go_ret
            exact ⟨ret_int (by rw [hR.out, hS.out, hst.out, if_pos (by omega)]), hB⟩
          · go_wp2
            go_roundw
            case rel => exact ⟨k + 1, left - x.size, by omega, by go_num, by go_num, by omega, by omega, hid (by rw [hS.out, hst.out, if_neg (by omega)]), hB⟩
            case measure => simp [intOf]; omega
      · obtain rfl : k = n := by omega
        have hd := hid (show l.drop k = [] from List.drop_eq_nil_of_le (by rw [HN.out]; exact Nat.le_refl _))
        go_wp2
        go_ret
        exact ⟨ret_int (by rw [hR.out, hS.out, hd.out]; rfl), hB⟩

theorem fillS_set (l : List ByteArray) (j : Nat) (x : ByteArray) (hj : j < l.length) : (strs l).set j (.string x) = strs (l.set j x) := by simp [strs]
set_option maxHeartbeats 2000000 in
theorem toStringS_any (ao : Option Addr) (n cap : Nat) (l : List ByteArray) (w : World) (hn : n = l.length) (hr : Rd w ao (strs l)) (hm : n ≤ 1048576) :
    Calls Try.prog 17 #[.slice ao n cap] w (FlatRet1 w.heap.size 9 1 n w (strs l)) := by
  obtain ⟨i0, hi, hz0, hz1, hz2⟩ := info_parts Try.infoStr
  have HN := hid hn
  have hrd := rd_str hr
  clear hn hr
  go_enter Try.func17, Try.ntmps17
  go_wp2_with (at_make; refine wpList_make_full _ rfl _ _ 34 rfl w.heap.size 9 i0 (.string ByteArray.empty) 1 Try.underlying34 hi hz0 hz1 .i64 .i64 _ _ n rfl rfl rfl rfl (by rw [hz2]; omega) (by unfold maxLen; omega) (Nat.le_refl _) ?_; intro w1 hown hgrow)
  have hB0 : Below w.heap.size w w1 := (Below.refl _ _).grown hgrow (Nat.le_refl _) (by simp)
  have hown0 : w1.ownsRow w.heap.size 9 1 (.slice (some ⟨w.heap.size, 0, none⟩) n n) n (strs (fillRow l ByteArray.empty 0)) := by
    rw [fill_zero, ← HN.out, strs_flat, ← made_flat (sz := 1) (fun _ => rfl) (.string ByteArray.empty) ByteArray.empty n rfl (by omega)]
    exact hown
  clear hown hgrow hi hz0 hz1 hz2
  go_loopw [4] (fun i wr => ∃ k : Nat, k ≤ n ∧ i = .int .i64 k ∧ wr.ownsRow w.heap.size 9 1 (.slice (some ⟨w.heap.size, 0, none⟩) n n) n (strs (fillRow l ByteArray.empty k)) ∧ Below w.heap.size w wr) (fun i _ => n - (intOf i).toNat)
  case atStart => exact ⟨0, Nat.zero_le _, rfl, hown0, hB0⟩
  case round =>
    obtain ⟨k, hk, rfl, hown, hB⟩ := hrel
    by_cases hlt : k < n
    · rcases hrd with hnil | ⟨b, o, rfl, hbl, hcell⟩
      · exact absurd (by rw [HN.out, hnil]; rfl : n = 0) (by omega)
      · have hkl : k < l.length := by rw [← HN.out]; exact hlt
        have g1 := (hB.cell (p := ⟨b, o + k, none⟩) hbl).trans (hcell k hkl)
        clear hcell
        have hk0 : (0 : Int) ≤ (k : Int) := by omega
        have hkn : (k : Int) < (n : Int) := by omega
        obtain ⟨x, hx⟩ : ∃ x, x = l[k] := ⟨_, rfl⟩
        rw [← hx] at g1
        have Hx := hid hx
        clear hx
        have hfl : (fillRow l ByteArray.empty k).length = n := by rw [fill_len _ _ _ (by omega)]; exact HN.out.symm
        obtain ⟨v0, hv0⟩ : ∃ v, wr.cell? ⟨w.heap.size, k, none⟩ = some v := ⟨_, by rw [hown.cellAt k (by omega), List.getElem?_eq_getElem (by rw [strs_len, hfl]; omega)]⟩
        have hf0 := hown.frozenAt k
        have Hfl := hid hfl
        clear hfl
        go_wp2_with fail
        go_roundw
        case rel =>
          refine ⟨k + 1, by omega, by go_num, ?_, hB.setCell (by simp) _⟩
          rw [← fill_next l _ k hkl, ← Hx.out, ← fillS_set _ k x (by rw [Hfl.out]; exact hlt)]
          exact (hown.stored k _).1
        case measure => simp [intOf]; omega
    · obtain rfl : k = n := by omega
      have hf := hid (show fillRow l ByteArray.empty k = l by rw [HN.out]; exact fill_all _ _)
      go_wp2
      go_ret
      rw [hf.out] at hown
      exact ⟨_, _, rfl, hown, hB⟩

set_option maxHeartbeats 1000000 in
theorem eqStringS_any (ao bo : Option Addr) (l : List ByteArray) (n cap cap2 : Nat) (w : World) (hn : n = l.length) (hm : n ≤ 1073741824) (ha : Rd w ao (strs l)) (hb : Rd w bo (strs l)) :
    Calls Try.prog 19 #[.slice ao n cap, .slice bo n cap2] w fun e w' => e = .returned (.bool true) ∧ Below w.heap.size w w' := by
  have hcase : n = 0 ∨ ∃ b o b2 o2, ao = some ⟨b, o, none⟩ ∧ bo = some ⟨b2, o2, none⟩ ∧ b < w.heap.size ∧ b2 < w.heap.size ∧ ∀ j, (h : j < l.length) → w.cell? ⟨b, o + j, none⟩ = some (.string l[j]) ∧ w.cell? ⟨b2, o2 + j, none⟩ = some (.string l[j]) := by
    rcases rd_str ha with ha | ⟨b, o, h1, h2, h3⟩
    · left; rw [hn, ha]; rfl
    · rcases rd_str hb with hb | ⟨b2, o2, g1, g2, g3⟩
      · left; rw [hn, hb]; rfl
      · exact .inr ⟨b, o, b2, o2, h1, g1, h2, g2, fun j h => ⟨h3 j h, g3 j h⟩⟩
  clear ha hb
  rcases hcase with h0 | ⟨b, o, b2, o2, rfl, rfl, hl1, hl2, hc⟩
  · subst h0
    clear hn
    go_enter Try.func19, Try.ntmps19
    go_wp2
    refine wp_loop_rounds 1 ?_
    rw [rounds_succ]
    go_wp2
    go_ret
    exact ⟨rfl, Below.refl _ _⟩
  · have HC := hid hc
    have HN := hid hn
    clear hc hn
    go_enter Try.func19, Try.ntmps19
    go_wp2
    go_loopw [5] (fun i wr => ∃ k : Nat, k ≤ n ∧ i = .int .i64 k ∧ Below w.heap.size w wr) (fun i _ => n - (intOf i).toNat)
    case atStart => exact ⟨0, Nat.zero_le _, rfl, Below.refl _ _⟩
    case round =>
      obtain ⟨k, hk, rfl, hB⟩ := hrel
      by_cases hlt : k < n
      · have hkx : k < l.length := by rw [← HN.out]; exact hlt
        obtain ⟨x, hx⟩ : ∃ x, x = l[k] := ⟨_, rfl⟩
        have h1 := (hB.cell (p := ⟨b, o + k, none⟩) hl1).trans (HC.out k hkx).1
        have h2 := (hB.cell (p := ⟨b2, o2 + k, none⟩) hl2).trans (HC.out k hkx).2
        rw [← hx] at h1 h2
        clear hx
        have hbw : b < wr.heap.size := Nat.lt_of_lt_of_le hl1 hB.size
        have hbw2 : b2 < wr.heap.size := Nat.lt_of_lt_of_le hl2 hB.size
        have hk0 : (0 : Int) ≤ (k : Int) := by omega
        have hkn : (k : Int) < (n : Int) := by omega
        go_wp2_with fail
        refine wp_region_over (by kernel_rfl) (by kernel_rfl) (fun hov => ?_)
        repeat (go_big_quiet_step ((fail)))
        refine wpQuiet_nil ?_
        intro w5 hb5
        clear hov
        go_wp2
        go_roundw
        case rel => exact ⟨k + 1, by omega, by go_num, hB.trans (hb5.mono hB.size)⟩
        case measure => simp [intOf]; omega
      · obtain rfl : k = n := by omega
        go_wp2
        go_ret
        exact ⟨rfl, hB⟩
end Go.Proofs.Ytnjdoedhhpkjhaa
