/-
  How many readings a text has: the walks and the law.
-/
import Derived.Test.YtojbblbjobbcaaaCodeD
import Derived.Test.YtojbblbjobbcaaaSl64
import Derived.BigRegion
import Derived.RegionTactic
namespace Go.Proofs.Ytojbblbjobbcaaa
open Go.RowKit Go.ChangeShapes Go.WideShapes Go.Maps
set_option linter.unusedVariables false
attribute [local go_sem ↓] Go.wp_at_zero Go.wp_at_succ

def codeC (l : List ByteArray) (t : ByteArray) : Int := if codeOk l = true then (if textB t 33 60 = true then 0 else 2) else 1
theorem codeC_bad {l : List ByteArray} {t : ByteArray} (h : codeOk l = false) : codeC l t = 1 := by simp [codeC, h]
theorem codeC_text {l : List ByteArray} {t : ByteArray} (h : codeOk l = true) (h2 : textB t 33 60 = false) : codeC l t = 2 := by simp [codeC, h, h2]
theorem codeC_ok {l : List ByteArray} {t : ByteArray} (h : codeOk l = true) (h2 : textB t 33 60 = true) : codeC l t = 0 := by simp [codeC, h, h2]
theorem codeC_zero {l : List ByteArray} {t : ByteArray} (h : codeC l t = 0) : codeOk l = true ∧ textB t 33 60 = true := by
  unfold codeC at h
  cases h1 : codeOk l <;> cases h2 : textB t 33 60 <;> simp [h1, h2] at h <;> simp
theorem text_size {t : ByteArray} {lo m : Int} (h : textB t lo m = true) : (t.size : Int) ≤ m := by
  simp only [textB, Bool.and_eq_true, decide_eq_true_eq] at h
  exact h.2
set_option maxHeartbeats 1000000 in
theorem sCodeC_any (ao : Option Addr) (n cap : Nat) (l : List ByteArray) (t : ByteArray) (w : World) (hn : n = l.length) (hr : Rd w ao (strs l)) (hs : ∀ x ∈ l, x.size ≤ maxLen) (ht : t.size ≤ maxLen) (hm : n ≤ 1048576) (hcap : n ≤ cap) (hcm : cap ≤ maxLen) :
    Calls Try.prog 42 #[.slice ao n cap, .string t] w fun e w' => e = .returned (.int .i64 (codeC l t)) ∧ Below w.heap.size w w' := by
  have HN := hid hn
  clear hn
  cases hok : codeOk l
  · have hR := hid (codeC_bad (t := t) hok)
    go_enter Try.func42, Try.ntmps42
    go_wp2_with (go_at_call 38; refine (sCode_any ao n cap l _ HN.out hr hs hm hcap hcm).mono ?_; rw [hok]; rintro e w1 ⟨rfl, hb1⟩)
    go_ret
    exact ⟨ret_int hR.out.symm, hb1⟩
  cases htx : textB t 33 60
  · have hR := hid (codeC_text hok htx)
    go_enter Try.func42, Try.ntmps42
    go_wp2_with (first | (go_at_call 38; refine (sCode_any ao n cap l _ HN.out hr hs hm hcap hcm).mono ?_; rw [hok]; rintro e w1 ⟨rfl, hb1⟩) | (go_at_call 53; refine (sText_b _ _ _ ht htx).mono ?_; rintro e w' ⟨rfl, rfl⟩))
    go_ret
    exact ⟨ret_int hR.out.symm, hb1⟩
  · have hR := hid (codeC_ok hok htx)
    go_enter Try.func42, Try.ntmps42
    go_wp2_with (first | (go_at_call 38; refine (sCode_any ao n cap l _ HN.out hr hs hm hcap hcm).mono ?_; rw [hok]; rintro e w1 ⟨rfl, hb1⟩) | (go_at_call 53; refine (sText_b _ _ _ ht htx).mono ?_; rintro e w' ⟨rfl, rfl⟩))
    go_ret
    exact ⟨ret_int hR.out.symm, hb1⟩
set_option maxHeartbeats 1000000 in
theorem codeC_any (ao : Option Addr) (n cap : Nat) (l : List ByteArray) (t : ByteArray) (w : World) (hn : n = l.length) (hr : Rd w ao (strs l)) (hs : ∀ x ∈ l, x.size ≤ maxLen) (ht : t.size ≤ maxLen) (hm : n ≤ 1048576) :
    Calls Try.prog 43 #[.slice ao n cap, .string t] w fun e w' => e = .returned (.int .i64 (codeC l t)) ∧ Below w.heap.size w w' := by
  have HN := hid hn
  clear hn
  cases hok : codeOk l
  · have hR := hid (codeC_bad (t := t) hok)
    go_enter Try.func43, Try.ntmps43
    go_wp2_with (go_at_call 15; refine (code_any ao n cap l _ HN.out hr hs hm).mono ?_; rw [hok]; rintro e w1 ⟨rfl, hb1⟩)
    go_ret
    exact ⟨ret_int hR.out.symm, hb1⟩
  cases htx : textB t 33 60
  · have hR := hid (codeC_text hok htx)
    go_enter Try.func43, Try.ntmps43
    go_wp2_with (first | (go_at_call 15; refine (code_any ao n cap l _ HN.out hr hs hm).mono ?_; rw [hok]; rintro e w1 ⟨rfl, hb1⟩) | (go_at_call 39; refine (isText_b _ _ _ _ ht (by omega) (by omega) htx).mono ?_; rintro e w' ⟨rfl, rfl⟩))
    go_ret
    exact ⟨ret_int hR.out.symm, hb1⟩
  · have hR := hid (codeC_ok hok htx)
    go_enter Try.func43, Try.ntmps43
    go_wp2_with (first | (go_at_call 15; refine (code_any ao n cap l _ HN.out hr hs hm).mono ?_; rw [hok]; rintro e w1 ⟨rfl, hb1⟩) | (go_at_call 39; refine (isText_b _ _ _ _ ht (by omega) (by omega) htx).mono ?_; rintro e w' ⟨rfl, rfl⟩))
    go_ret
    exact ⟨ret_int hR.out.symm, hb1⟩

/-- the counts: word k at place i -/
def fitB (l : List ByteArray) (t : ByteArray) (i k : Nat) : Bool := if h : k < l.length then preB (t.extract i t.size) l[k] else false
def wsz (l : List ByteArray) (k : Nat) : Nat := if h : k < l.length then l[k].size else 0
theorem fitB_get {l : List ByteArray} {t : ByteArray} {i k : Nat} (h : k < l.length) : fitB l t i k = preB (t.extract i t.size) l[k] := by unfold fitB; rw [dif_pos h]
theorem wsz_get {l : List ByteArray} {k : Nat} (h : k < l.length) : wsz l k = l[k].size := by unfold wsz; rw [dif_pos h]
def cntStep (l : List ByteArray) (t : ByteArray) (i k : Nat) (xs : List Int) : List Int :=
  if fitB l t i k = true then xs.set i (wrap64 (xs.getD i 0 + xs.getD (i + wsz l k) 0)) else xs
def cntIn (l : List ByteArray) (t : ByteArray) (i : Nat) (xs : List Int) : Nat → List Int
  | 0 => xs
  | k + 1 => cntStep l t i k (cntIn l t i xs k)
def cntAll (l : List ByteArray) (t : ByteArray) : Nat → List Int
  | 0 => (List.replicate (t.size + 1) 0).set t.size 1
  | m + 1 => cntIn l t (t.size - 1 - m) (cntAll l t m) l.length
theorem cntStep_len (l : List ByteArray) (t : ByteArray) (i k : Nat) (xs : List Int) : (cntStep l t i k xs).length = xs.length := by
  unfold cntStep; split <;> simp
theorem cntIn_len (l : List ByteArray) (t : ByteArray) (i : Nat) (xs : List Int) (k : Nat) : (cntIn l t i xs k).length = xs.length := by
  induction k with
  | zero => rfl
  | succ k ih => rw [cntIn, cntStep_len, ih]
theorem cntAll_len (l : List ByteArray) (t : ByteArray) (m : Nat) : (cntAll l t m).length = t.size + 1 := by
  induction m with
  | zero => simp [cntAll]
  | succ m ih => rw [cntAll, cntIn_len, ih]
theorem cntStep_no {l : List ByteArray} {t : ByteArray} {i k : Nat} {xs : List Int} (h : fitB l t i k = false) : cntStep l t i k xs = xs := by simp [cntStep, h]
theorem cntStep_yes {l : List ByteArray} {t : ByteArray} {i k : Nat} {xs : List Int} (h : fitB l t i k = true) : cntStep l t i k xs = xs.set i (wrap64 (xs.getD i 0 + xs.getD (i + wsz l k) 0)) := by simp [cntStep, h]
theorem fit_size {t x : ByteArray} {i : Nat} (hi : i ≤ t.size) (h : preB (t.extract i t.size) x = true) : i + x.size ≤ t.size := by
  unfold preB at h
  simp only [Bool.and_eq_true, decide_eq_true_eq] at h
  have := h.1
  simp only [ByteArray.size_extract] at this
  omega
def cntR (l : List ByteArray) (t : ByteArray) : Int × Int := if codeC l t = 0 then ((cntAll l t t.size).getD 0 0, 0) else (0, codeC l t)
theorem cntR_bad {l : List ByteArray} {t : ByteArray} (h : ¬ codeC l t = 0) : cntR l t = (0, codeC l t) := by simp [cntR, h]
theorem cntR_ok {l : List ByteArray} {t : ByteArray} (h : codeC l t = 0) : cntR l t = ((cntAll l t t.size).getD 0 0, 0) := by simp [cntR, h]
theorem i64s_set (xs : List Int) (i : Nat) (v : Int) : (i64s xs).set i (.int .i64 v) = i64s (xs.set i v) := by simp [i64s]
theorem i64s_getD {xs : List Int} {i : Nat} (h : i < xs.length) : (i64s xs)[i]? = some (.int .i64 (xs.getD i 0)) := by
  simp [i64s, List.getD, List.getElem?_eq_getElem h]

theorem i64s_flat (l : List Int) : i64s l = flat (fun x => [Value.int .i64 x]) l := by
  induction l with
  | nil => rfl
  | cons x l ih =>
    have e : flat (fun x => [Value.int .i64 x]) (x :: l) = [Value.int .i64 x] ++ flat (fun x => [Value.int .i64 x]) l := by simp [flat]
    rw [e, ← ih]; rfl
theorem made64 {w : World} {B : Nat} {v : Value} {n : Nat} (h : w.ownsRow B 2 1 v n (madeCells (Value.int IntKind.i64 0).cells (n * 1)).toList) : w.ownsRow B 2 1 v n (i64s (List.replicate n 0)) := by
  rw [i64s_flat, ← made_flat (sz := 1) (fun _ => rfl) (.int .i64 0) 0 n rfl (by omega)]
  exact h
theorem made64_get (n j : Nat) (h : j < n) : (i64s (List.replicate n 0))[j]? = some (.int .i64 0) := by
  simp [i64s, h]

set_option maxRecDepth 100000 in
set_option maxHeartbeats 4000000 in
theorem count_any (ao : Option Addr) (n cap : Nat) (l : List ByteArray) (t : ByteArray) (w : World) (hn : n = l.length) (hr : Rd w ao (strs l)) (hs : ∀ x ∈ l, x.size ≤ maxLen) (ht : t.size ≤ maxLen) (hm : n ≤ 1048576) :
    Calls Try.prog 20 #[.slice ao n cap, .string t] w fun e w' => e = .returned (.tuple #[.int .i64 (cntR l t).1, .int .i64 (cntR l t).2]) ∧ Below w.heap.size w w' := by
  obtain ⟨i0, hi, hz0, hz1, hz2⟩ := info_parts Try.infoInt64
  have HN := hid hn
  clear hn
  by_cases hc : codeC l t = 0
  case neg =>
    have hR := hid (cntR_bad hc)
    obtain ⟨c, hcc⟩ : ∃ c, c = codeC l t := ⟨_, rfl⟩
    rw [← hcc] at hc
    have hne : ((c : Int) != 0) = true := by simpa using hc
    go_enter Try.func20, Try.ntmps20
    go_wp2_with (go_at_call 43; refine (codeC_any ao n cap l t _ HN.out hr hs ht hm).mono ?_; rw [← hcc]; rintro e w1 ⟨rfl, hb1⟩)
    go_ret2
    exact ⟨by rw [hR.out]; simp, hb1⟩
  obtain ⟨hok, htx⟩ := codeC_zero hc
  have h60 := text_size htx
  have hR := hid (cntR_ok hc)
  go_enter Try.func20, Try.ntmps20
  go_wp2_with (first | (go_at_call 43; refine (codeC_any ao n cap l t _ HN.out hr hs ht hm).mono ?_; rw [hc]; rintro e w1 ⟨rfl, hb1⟩; have hr1 := rd_below hr hb1) | (at_make; refine wpList_make_full _ rfl _ _ 32 rfl w1.heap.size 2 i0 (.int .i64 0) 1 Try.underlying32 hi hz0 hz1 .i64 .i64 _ _ (t.size + 1) rfl rfl (by simp) (by simp) (by rw [hz2]; omega) (by unfold maxLen; omega) (Nat.le_refl _) ?_; intro w2 hown hgrow; have hownA := made64 hown; clear hown; have hcl := hownA.cellAt t.size (by omega); have hfz := hownA.frozenAt t.size; rw [made64_get _ _ (by omega)] at hcl))
  have hB0 : Below w1.heap.size w1 w2 := (Below.refl _ _).grown hgrow (Nat.le_refl _) (by simp)
  have hrd := rd_str hr1
  have hst := hownA.stored t.size (.int .i64 1)
  rw [i64s_set] at hst
  clear hr hr1 hcl hfz hgrow hi hz0 hz1 hz2
  go_loopw [8] (fun i wr => ∃ m : Nat, m ≤ t.size ∧ i = .int .i64 ((t.size : Int) - 1 - m) ∧ wr.ownsRow w1.heap.size 2 1 (.slice (some ⟨w1.heap.size, 0, none⟩) (t.size + 1) (t.size + 1)) (t.size + 1) (i64s (cntAll l t m)) ∧ Below w1.heap.size w1 wr) (fun i _ => (intOf i + 1).toNat)
  case atStart => exact ⟨0, Nat.zero_le _, by go_num, hst.1, hB0.setCell (by simp) _⟩
  case round =>
    obtain ⟨m, hmt, rfl, hown, hB⟩ := hrel
    clear hst hB0 hownA
    by_cases hlt : m < t.size
    · obtain ⟨p, hp⟩ : ∃ p, p = t.size - 1 - m := ⟨_, rfl⟩
      have hpi : (t.size : Int) - 1 - (m : Int) = (p : Int) := by omega
      have hps : p < t.size := by omega
      have hpd : ((t.size : Int) - 1 - ((m + 1 : Nat) : Int)) = (p : Int) - 1 := by omega
      have hnx := hid (show cntAll l t (m + 1) = cntIn l t p (cntAll l t m) l.length by rw [cntAll, hp])
      have hcl := cntAll_len l t m
      rw [hpi]
      have HP := hid hpd
      have hpz : (0 : Int) ≤ (p : Int) := by omega
      have hmp : m + p + 1 = t.size := by omega
      clear hp hpi hpd
      obtain ⟨xs, hxs⟩ : ∃ xs, xs = cntAll l t m := ⟨_, rfl⟩
      rw [← hxs] at hown hnx hcl
      have Hxs := hid hxs
      clear hxs
      go_wp2_with fail
      go_loopw [10, 34] (fun _ i wr2 => ∃ k : Nat, k ≤ n ∧ i = .int .i64 k ∧ wr2.ownsRow w1.heap.size 2 1 (.slice (some ⟨w1.heap.size, 0, none⟩) (t.size + 1) (t.size + 1)) (t.size + 1) (i64s (cntIn l t p xs k)) ∧ Below w1.heap.size w1 wr2) (fun _ i _ => n - (intOf i).toNat)
      case atStart => exact ⟨0, Nat.zero_le _, rfl, hown, hB⟩
      case round =>
        obtain ⟨k, hk, rfl, hown2, hB2⟩ := hrel
        by_cases hkn : k < n
        · rcases hrd with hnil | ⟨b, o, rfl, hbl, hcell⟩
          · exact absurd (by rw [HN.out, hnil]; rfl : n = 0) (by omega)
          have hkl : k < l.length := by rw [← HN.out]; exact hkn
          have g1 := cell_here hB2 hbl hcell k hkl
          have hs1 := hs _ (List.getElem_mem hkl)
          have hk0 : (0 : Int) ≤ (k : Int) := by omega
          have hkn1 : (k : Int) < (n : Int) := by omega
          have hf := hid (fitB_get (t := t) (i := p) hkl)
          have hw := hid (wsz_get hkl)
          have hno := hid (fun h => cntStep_no (l := l) (t := t) (i := p) (k := k) (xs := cntIn l t p xs k) h)
          have hyes := hid (fun h => cntStep_yes (l := l) (t := t) (i := p) (k := k) (xs := cntIn l t p xs k) h)
          have hin := hid (show cntIn l t p xs (k + 1) = cntStep l t p k (cntIn l t p xs k) from rfl)
          have hyl : (cntIn l t p xs k).length = t.size + 1 := by rw [cntIn_len, hcl]
          obtain ⟨ys, hys⟩ : ∃ ys, ys = cntIn l t p xs k := ⟨_, rfl⟩
          rw [← hys] at hown2 hno hyes hin hyl
          clear hys
          obtain ⟨x, hx⟩ : ∃ x, x = l[k] := ⟨_, rfl⟩
          rw [← hx] at g1 hs1 hf hw
          clear hx
          have hts : (t.extract p t.size).size ≤ maxLen := by simp only [ByteArray.size_extract]; omega
          have hpt : (p : Int) ≤ (t.size : Int) := by omega
          have hpt2 : p ≤ t.size := by omega
          cases hpr : preB (t.extract p t.size) x
          · go_wp2_with (go_at_call 44; refine (hasPre_b _ _ _ hts hs1 hpr).mono ?_; rintro e w' ⟨rfl, rfl⟩)
            go_roundw
            case rel => exact ⟨k + 1, by omega, by go_num, by rw [hin.out, hno.out (by rw [hf.out, hpr])]; exact hown2, hB2⟩
            case measure => simp [intOf]; omega
          · have hfs := fit_size (by omega) hpr
            have c1 : wr.cell? ⟨w1.heap.size, p, none⟩ = some (.int .i64 (ys.getD p 0)) := by rw [hown2.cellAt p (by omega), i64s_getD (by omega)]
            have c2 : wr.cell? ⟨w1.heap.size, p + x.size, none⟩ = some (.int .i64 (ys.getD (p + x.size) 0)) := by rw [hown2.cellAt (p + x.size) (by omega), i64s_getD (by omega)]
            have hfz := hown2.frozenAt p
            have e1 : IntKind.i64.wrap ((p : Int) + (x.size : Int)) = ((p + x.size : Nat) : Int) := IntWalk.i64_in _ (by omega)
            have e2 : (p : Int) + (x.size : Int) < ((t.size + 1 : Nat) : Int) := by omega
            obtain ⟨a, ha⟩ : ∃ a, a = ys.getD p 0 := ⟨_, rfl⟩
            obtain ⟨d, hd⟩ : ∃ d, d = ys.getD (p + x.size) 0 := ⟨_, rfl⟩
            rw [← ha] at c1
            rw [← hd] at c2
            have Ha := hid ha
            have Hd := hid hd
            clear ha hd
            go_wp2_with (go_at_call 44; refine (hasPre_b _ _ _ hts hs1 hpr).mono ?_; rintro e w' ⟨rfl, rfl⟩)
            go_region
            go_wp2
            go_roundw
            case rel =>
              refine ⟨k + 1, by omega, by go_num, ?_, ?_⟩
              · rw [hin.out, hyes.out (by rw [hf.out, hpr]), hw.out, ← Ha.out, ← Hd.out, ← i64s_set]
                exact (hown2.stored p _).1
              · exact (hB2.setCell (by simp) _).drew
            case measure => simp [intOf]; omega
        · obtain rfl : k = n := by omega
          go_wp2
          go_roundw
          case rel => exact ⟨m + 1, by omega, by rw [HP.out], by rw [hnx.out, ← HN.out]; exact hown2, hB2⟩
          case measure => simp [intOf]; try omega
    · obtain rfl : m = t.size := by omega
      have hm1 : (t.size : Int) - 1 - (t.size : Int) = -1 := by omega
      rw [hm1]
      have hcl := cntAll_len l t t.size
      have c0 : wr.cell? ⟨w1.heap.size, 0, none⟩ = some (.int .i64 ((cntAll l t t.size).getD 0 0)) := by rw [hown.cellAt 0 (by omega), i64s_getD (by omega)]
      clear hm1
      obtain ⟨v, hv⟩ : ∃ v, v = (cntAll l t t.size).getD 0 0 := ⟨_, rfl⟩
      rw [← hv] at c0
      have Hv := hid hv
      clear hv
      go_wp2_with fail
      go_ret2
      exact ⟨by rw [hR.out, ← Hv.out]; simp, hb1.trans (hB.mono hb1.size)⟩
set_option maxRecDepth 100000 in
set_option maxHeartbeats 4000000 in
theorem sCount_any (ao : Option Addr) (n cap : Nat) (l : List ByteArray) (t : ByteArray) (w : World) (hn : n = l.length) (hr : Rd w ao (strs l)) (hs : ∀ x ∈ l, x.size ≤ maxLen) (ht : t.size ≤ maxLen) (hm : n ≤ 1048576) (hcap : n ≤ cap) (hcm : cap ≤ maxLen) :
    Calls Try.prog 19 #[.slice ao n cap, .string t] w fun e w' => e = .returned (.tuple #[.int .i64 (cntR l t).1, .int .i64 (cntR l t).2]) ∧ Below w.heap.size w w' := by
  obtain ⟨i0, hi, hz0, hz1, hz2⟩ := info_parts Try.infoInt64
  have HN := hid hn
  clear hn
  by_cases hc : codeC l t = 0
  case neg =>
    have hR := hid (cntR_bad hc)
    obtain ⟨c, hcc⟩ : ∃ c, c = codeC l t := ⟨_, rfl⟩
    rw [← hcc] at hc
    have hne : ((c : Int) != 0) = true := by simpa using hc
    go_enter Try.func19, Try.ntmps19
    go_wp2_with (go_at_call 42; refine (sCodeC_any ao n cap l t _ HN.out hr hs ht hm hcap hcm).mono ?_; rw [← hcc]; rintro e w1 ⟨rfl, hb1⟩)
    go_ret2
    exact ⟨by rw [hR.out]; simp, hb1⟩
  obtain ⟨hok, htx⟩ := codeC_zero hc
  have h60 := text_size htx
  have hR := hid (cntR_ok hc)
  go_enter Try.func19, Try.ntmps19
  go_wp2_with (first | (go_at_call 42; refine (sCodeC_any ao n cap l t _ HN.out hr hs ht hm hcap hcm).mono ?_; rw [hc]; rintro e w1 ⟨rfl, hb1⟩; have hr1 := rd_below hr hb1) | (at_make; refine wpList_make_full _ rfl _ _ 32 rfl w1.heap.size 2 i0 (.int .i64 0) 1 Try.underlying32 hi hz0 hz1 .i64 .i64 _ _ (t.size + 1) rfl rfl (by simp) (by simp) (by rw [hz2]; omega) (by unfold maxLen; omega) (Nat.le_refl _) ?_; intro w2 hown hgrow; have hownA := made64 hown; clear hown; have hcl := hownA.cellAt t.size (by omega); have hfz := hownA.frozenAt t.size; rw [made64_get _ _ (by omega)] at hcl))
  have hB0 : Below w1.heap.size w1 w2 := (Below.refl _ _).grown hgrow (Nat.le_refl _) (by simp)
  have hrd := rd_str hr1
  have hst := hownA.stored t.size (.int .i64 1)
  rw [i64s_set] at hst
  clear hr hr1 hcl hfz hgrow hi hz0 hz1 hz2
  go_loopw [9] (fun i wr => ∃ m : Nat, m ≤ t.size ∧ i = .int .i64 ((t.size : Int) - 1 - m) ∧ wr.ownsRow w1.heap.size 2 1 (.slice (some ⟨w1.heap.size, 0, none⟩) (t.size + 1) (t.size + 1)) (t.size + 1) (i64s (cntAll l t m)) ∧ Below w1.heap.size w1 wr) (fun i _ => (intOf i + 1).toNat)
  case atStart => exact ⟨0, Nat.zero_le _, by go_num, hst.1, hB0.setCell (by simp) _⟩
  case round =>
    obtain ⟨m, hmt, rfl, hown, hB⟩ := hrel
    clear hst hB0 hownA
    by_cases hlt : m < t.size
    · obtain ⟨p, hp⟩ : ∃ p, p = t.size - 1 - m := ⟨_, rfl⟩
      have hpi : (t.size : Int) - 1 - (m : Int) = (p : Int) := by omega
      have hps : p < t.size := by omega
      have hpd : ((t.size : Int) - 1 - ((m + 1 : Nat) : Int)) = (p : Int) - 1 := by omega
      have hnx := hid (show cntAll l t (m + 1) = cntIn l t p (cntAll l t m) l.length by rw [cntAll, hp])
      have hcl := cntAll_len l t m
      rw [hpi]
      have HP := hid hpd
      have hpz : (0 : Int) ≤ (p : Int) := by omega
      have hmp : m + p + 1 = t.size := by omega
      clear hp hpi hpd
      obtain ⟨xs, hxs⟩ : ∃ xs, xs = cntAll l t m := ⟨_, rfl⟩
      rw [← hxs] at hown hnx hcl
      have Hxs := hid hxs
      clear hxs
      go_wp2_with fail
      go_loopw [10] (fun i wr2 => ∃ k : Nat, k ≤ n ∧ i = .int .i64 k ∧ wr2.ownsRow w1.heap.size 2 1 (.slice (some ⟨w1.heap.size, 0, none⟩) (t.size + 1) (t.size + 1)) (t.size + 1) (i64s (cntIn l t p xs k)) ∧ Below w1.heap.size w1 wr2) (fun i _ => n - (intOf i).toNat)
      case atStart => exact ⟨0, Nat.zero_le _, rfl, hown, hB⟩
      case round =>
        obtain ⟨k, hk, rfl, hown2, hB2⟩ := hrel
        by_cases hkn : k < n
        · rcases hrd with hnil | ⟨b, o, rfl, hbl, hcell⟩
          · exact absurd (by rw [HN.out, hnil]; rfl : n = 0) (by omega)
          have hkl : k < l.length := by rw [← HN.out]; exact hkn
          have g1 := cell_here hB2 hbl hcell k hkl
          have hs1 := hs _ (List.getElem_mem hkl)
          have hk0 : (0 : Int) ≤ (k : Int) := by omega
          have hbw := Nat.lt_of_lt_of_le hbl hB2.size
          have hkn1 : (k : Int) < (n : Int) := by omega
          have hf := hid (fitB_get (t := t) (i := p) hkl)
          have hw := hid (wsz_get hkl)
          have hno := hid (fun h => cntStep_no (l := l) (t := t) (i := p) (k := k) (xs := cntIn l t p xs k) h)
          have hyes := hid (fun h => cntStep_yes (l := l) (t := t) (i := p) (k := k) (xs := cntIn l t p xs k) h)
          have hin := hid (show cntIn l t p xs (k + 1) = cntStep l t p k (cntIn l t p xs k) from rfl)
          have hyl : (cntIn l t p xs k).length = t.size + 1 := by rw [cntIn_len, hcl]
          obtain ⟨ys, hys⟩ : ∃ ys, ys = cntIn l t p xs k := ⟨_, rfl⟩
          rw [← hys] at hown2 hno hyes hin hyl
          clear hys
          obtain ⟨x, hx⟩ : ∃ x, x = l[k] := ⟨_, rfl⟩
          rw [← hx] at g1 hs1 hf hw
          clear hx
          have hts : (t.extract p t.size).size ≤ maxLen := by simp only [ByteArray.size_extract]; omega
          have hpt : (p : Int) ≤ (t.size : Int) := by omega
          have hpt2 : p ≤ t.size := by omega
          cases hpr : preB (t.extract p t.size) x
          · go_wp2_with fail
            go_quiet ((go_at_call 40; with_reducible exact qs (begins_b _ _ _ hts hs1 hpr)))
            go_wp2
            go_roundw
            case rel => exact ⟨k + 1, by omega, by go_num, by rw [hin.out, hno.out (by rw [hf.out, hpr])]; exact owns_drewN hown2 _, below_drewN hB2 _⟩
            case measure => simp [intOf]; omega
          · have hfs := fit_size (by omega) hpr
            have c1 : wr.cell? ⟨w1.heap.size, p, none⟩ = some (.int .i64 (ys.getD p 0)) := by rw [hown2.cellAt p (by omega), i64s_getD (by omega)]
            have c2 : wr.cell? ⟨w1.heap.size, p + x.size, none⟩ = some (.int .i64 (ys.getD (p + x.size) 0)) := by rw [hown2.cellAt (p + x.size) (by omega), i64s_getD (by omega)]
            have hfz := hown2.frozenAt p
            have e1 : IntKind.i64.wrap ((p : Int) + (x.size : Int)) = ((p + x.size : Nat) : Int) := IntWalk.i64_in _ (by omega)
            have e2 : (p : Int) + (x.size : Int) < ((t.size + 1 : Nat) : Int) := by omega
            obtain ⟨a, ha⟩ : ∃ a, a = ys.getD p 0 := ⟨_, rfl⟩
            obtain ⟨d, hd⟩ : ∃ d, d = ys.getD (p + x.size) 0 := ⟨_, rfl⟩
            rw [← ha] at c1
            rw [← hd] at c2
            have Ha := hid ha
            have Hd := hid hd
            clear ha hd
            go_wp2_with fail
            go_quiet ((go_at_call 40; with_reducible exact qs (begins_b _ _ _ hts hs1 hpr)))
            go_wp2
            go_region
            go_wp2
            go_roundw
            case rel =>
              refine ⟨k + 1, by omega, by go_num, ?_, ?_⟩
              · rw [hin.out, hyes.out (by rw [hf.out, hpr]), hw.out, ← Ha.out, ← Hd.out, ← i64s_set]
                exact ((owns_drewN hown2 _).stored p _).1
              · have hx := below_drewN hB2 nq
                refine Below.drew (Below.setCell hx ?_ _)
                exact Nat.le_refl _
            case measure => simp [intOf]; omega
        · obtain rfl : k = n := by omega
          go_wp2
          go_roundw
          case rel => exact ⟨m + 1, by omega, by rw [HP.out], by rw [hnx.out, ← HN.out]; exact hown2, hB2⟩
          case measure => first | (simp [intOf]; omega) | (simp [intOf]; done) | trace_state
    · obtain rfl : m = t.size := by omega
      have hm1 : (t.size : Int) - 1 - (t.size : Int) = -1 := by omega
      rw [hm1]
      have hcl := cntAll_len l t t.size
      have c0 : wr.cell? ⟨w1.heap.size, 0, none⟩ = some (.int .i64 ((cntAll l t t.size).getD 0 0)) := by rw [hown.cellAt 0 (by omega), i64s_getD (by omega)]
      clear hm1
      obtain ⟨v, hv⟩ : ∃ v, v = (cntAll l t t.size).getD 0 0 := ⟨_, rfl⟩
      rw [← hv] at c0
      have Hv := hid hv
      clear hv
      go_wp2_with fail
      go_ret2
      exact ⟨by rw [hR.out, ← Hv.out]; simp, hb1.trans (hB.mono hb1.size)⟩
set_option maxHeartbeats 2000000 in
theorem lawCountReadings (w : World) (ao : Option Addr) (n cap : Nat) (l : List ByteArray) (ha : StArg w ao n cap l) (t : ByteArray) (ht : t.size ≤ maxLen) :
    Calls Try.prog 5 #[.slice ao n cap, .string t] w fun e w' => e = .returned (.bool true) ∧ Below w.heap.size w w' := by
  obtain ⟨hn, hm, hr, hs⟩ := ha
  have HN := hid hn
  clear hn
  have ht3 := ht
  unfold maxLen at ht3
  by_cases hbig : (1048576 : Int) < (t.size : Int)
  · go_enter Try.func5, Try.ntmps5
    go_wp2_with fail
    go_ret
    exact ⟨rfl, Below.refl _ _⟩
  go_enter Try.func5, Try.ntmps5
  go_wp2_with fail
  refine (szStringS_any ao n cap l 1048576 _ (by omega) (by omega) HN.out hm hr hs).mono ?_
  rintro e w1 ⟨rfl, hb1⟩
  by_cases hz : szAllSt 1048576 n l < 0
  · go_wp2_with fail
    go_ret
    exact ⟨rfl, hb1⟩
  have h20 := szAllSt_len (by omega) hz
  have hr1 := rd_below hr hb1
  go_wp2_with fail
  refine (toStringS_any ao n cap l _ HN.out hr1 h20).mono ?_
  rintro e w2 ⟨bo, cap2, rfl, ho2, hb2⟩
  have hr2 := rd_below hr1 hb2
  go_wp2_with fail
  refine (sCount_any bo n cap2 l t _ HN.out (owns_rdN ho2) hs ht h20 (owns_cap ho2).1 (owns_cap ho2).2).mono ?_
  rintro e w3 ⟨rfl, hb3⟩
  have hr3 := rd_below hr2 hb3
  go_wp2_with fail
  refine (toStringS_any ao n cap l _ HN.out hr3 h20).mono ?_
  rintro e w4 ⟨co, cap4, rfl, ho4, hb4⟩
  have hr4 := rd_below hr3 hb4
  go_wp2_with fail
  refine (count_any co n cap4 l t _ HN.out (owns_rdN ho4) hs ht h20).mono ?_
  rintro e w5 ⟨rfl, hb5⟩
  have hr5 := rd_below hr4 hb5
  have hx5 := rd_below (owns_rdN ho4) hb5
  go_wp2_with fail
  refine (toStringS_any ao n cap l _ HN.out hr5 h20).mono ?_
  rintro e w6 ⟨eo, cap6, rfl, ho6, hb6⟩
  go_wp2_with fail
  refine (eqStringS_any co eo l n cap4 cap6 _ HN.out (by omega) (rd_below hx5 hb6) (owns_rdN ho6)).mono ?_
  rintro e w7 ⟨rfl, hb7⟩
  go_wp2_with fail
  go_ret
  have z1 := hb1.size; have z2 := hb2.size; have z3 := hb3.size; have z4 := hb4.size; have z5 := hb5.size; have z6 := hb6.size
  refine ⟨rfl, ?_⟩
  (repeat (first | with_reducible exact Below.refl _ _ | with_reducible assumption | refine Below.drew ?_ | refine below_drewN ?_ _ | (refine Below.alloc ?_ (by first | omega | (simp; done) | (simp; omega)) _) | (refine Below.setCell ?_ (by first | omega | (simp; done) | (simp; omega)) _) | (refine Below.trans ?_ (Below.mono (by assumption) (by first | omega | (simp; done) | (simp; omega))))))
end Go.Proofs.Ytojbblbjobbcaaa
