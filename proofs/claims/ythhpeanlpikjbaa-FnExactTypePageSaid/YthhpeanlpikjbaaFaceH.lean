/-
  Walks: what a machine shows for a text.
-/
import Derived.Test.YthhpeanlpikjbaaFaceG
import Derived.Test.YthhpeanlpikjbaaFaceF
import Derived.Test.YthhpeanlpikjbaaMarkSe
namespace Go.Proofs.Ythhpeanlpikjbaa
open Go.RowKit Go.ChangeShapes Go.WideShapes
set_option linter.unusedVariables false
attribute [local go_sem ↓] Go.wp_at_zero Go.wp_at_succ

set_option maxHeartbeats 1000000 in
theorem sText0_any (s : ByteArray) (most : Int) (w : World) (hs : s.size ≤ maxLen) : Calls Try.prog 70 #[.string s, .int .i64 most] w fun e w' => e = .returned (.bool (textB s 32 most)) ∧ w = w' := by
  unfold maxLen at hs
  go_enter Try.func70, Try.ntmps70
  go_wp2
  go_loop [5] (fun i => ∃ k : Nat, k ≤ s.size ∧ i = .int .i64 k ∧ UpTo (gb 32) s k) (fun i => s.size - (intOf i).toNat)
  case atStart => exact ⟨0, Nat.zero_le _, rfl, upto_zero _ _⟩
  case round =>
    obtain ⟨k, hk, rfl, hu⟩ := hrel
    by_cases hlt : k < s.size
    · by_cases h1 : ((s[k].toNat : Nat) : Int) < 32
      · go_wp2
        go_ret
        exact ⟨ret_bool (by simp [textB, upto_bad hlt (gb_lo h1)]), rfl⟩
      · by_cases h2 : (126 : Int) < ((s[k].toNat : Nat) : Int)
        · go_wp2
          go_ret
          exact ⟨ret_bool (by simp [textB, upto_bad hlt (gb_hi h2)]), rfl⟩
        · go_wp2
          go_round
          case rel => exact ⟨k + 1, by omega, by go_num, upto_next hlt (gb_true (by omega) (by omega)) hu⟩
          case measure => simp [intOf]; omega
    · obtain rfl : k = s.size := by omega
      have ha := hid (upto_all hu)
      by_cases hm : (s.size : Int) ≤ most
      all_goals
        go_wp2
        go_ret
        exact ⟨ret_bool (by simp [textB, ha.out]; omega), rfl⟩
theorem sText0_b {r : Bool} (s : ByteArray) (most : Int) (w : World) (hs : s.size ≤ maxLen) (h : textB s 32 most = r) : Calls Try.prog 70 #[.string s, .int .i64 most] w fun e w' => e = .returned (.bool r) ∧ w = w' := by
  subst h; exact sText0_any s most w hs

theorem two_new (w : World) (x y : Value) (t : TypeId) : ∀ j u, [x, y][j]? = some u → (w.alloc (.cells #[x, y] t)).cell? ((⟨w.heap.size, 0, none⟩ : Addr).add j) = some u := by
  intro j u hj
  match j, hj with
  | 0, hj => simp at hj; subst hj; simp [Addr.add]
  | 1, hj => simp at hj; subst hj; simp [Addr.add]
  | n + 2, hj => simp at hj
theorem two_okSI (x : ByteArray) (y : Int) : ∀ u ∈ [Value.string x, Value.int .i64 y], u.oneCell' = true := by
  intro u hu; simp at hu; rcases hu with rfl | rfl <;> rfl
theorem ses_snoc (l : List Se) (x : Se) : ses (l ++ [x]) = ses l ++ [.string x.1, .int .i64 x.2] := by simp [ses, flat, seF]
theorem text_size {t : ByteArray} {lo m : Int} (h : textB t lo m = true) : (t.size : Int) ≤ m := by
  simp only [textB, Bool.and_eq_true, decide_eq_true_eq] at h
  exact h.2
theorem one_byte {t : ByteArray} {k : Nat} (h : k < t.size) : (t.extract k (k + 1)).toList = [t[k]] := by
  rw [ByteArray.toList_eq, ByteArray.data_extract, Array.toList_extract]
  have hl : k < t.data.toList.length := by rw [Array.length_toList]; exact h
  simp only [List.extract_eq_take_drop]
  rw [show k + 1 - k = 1 by omega, List.drop_eq_getElem_cons hl, List.take_succ_cons, List.take_zero, Array.getElem_toList]
  rfl

/-- the letters typed, up to place k -/
def typeUp (l : List Se) (t : ByteArray) : Nat → List Se
  | 0 => []
  | k + 1 => if h : k < t.size then (if (t[k].toNat : Int) = 32 then typeUp l t k else typeUp l t k ++ [(t.extract k (k + 1), kindI l (t.extract k (k + 1)))]) else typeUp l t k
theorem type_blank {l : List Se} {t : ByteArray} {k : Nat} (h : k < t.size) (hb : (t[k].toNat : Int) = 32) : typeUp l t (k + 1) = typeUp l t k := by rw [typeUp, dif_pos h, if_pos hb]
theorem type_letter {l : List Se} {t : ByteArray} {k : Nat} (h : k < t.size) (hb : ¬ (t[k].toNat : Int) = 32) : typeUp l t (k + 1) = typeUp l t k ++ [(t.extract k (k + 1), kindI l (t.extract k (k + 1)))] := by rw [typeUp, dif_pos h, if_neg hb]
theorem type_len (l : List Se) (t : ByteArray) (k : Nat) : (typeUp l t k).length ≤ k := by
  induction k with
  | zero => simp [typeUp]
  | succ k ih =>
    rw [typeUp]
    split
    · split
      · omega
      · rw [List.length_append, List.length_singleton]; omega
    · omega
def typeL (x : ByteArray) (l : List Se) (t : ByteArray) : List Se := if oneB x l = true then (if textB t 32 60 = true then typeUp l t t.size else []) else []
def typeC (x : ByteArray) (l : List Se) (t : ByteArray) : Int := if oneB x l = true then (if textB t 32 60 = true then 0 else 2) else 1
theorem type_bad {x : ByteArray} {l : List Se} {t : ByteArray} (h : oneB x l = false) : typeL x l t = [] ∧ typeC x l t = 1 := by simp [typeL, typeC, h]
theorem type_text {x : ByteArray} {l : List Se} {t : ByteArray} (h : oneB x l = true) (h2 : textB t 32 60 = false) : typeL x l t = [] ∧ typeC x l t = 2 := by simp [typeL, typeC, h, h2]
theorem type_ok {x : ByteArray} {l : List Se} {t : ByteArray} (h : oneB x l = true) (h2 : textB t 32 60 = true) : typeL x l t = typeUp l t t.size ∧ typeC x l t = 0 := by simp [typeL, typeC, h, h2]
theorem typeL_len (x : ByteArray) (l : List Se) (t : ByteArray) : (typeL x l t).length ≤ 60 := by
  cases h : oneB x l
  · rw [(type_bad h).1]; simp
  · cases h2 : textB t 32 60
    · rw [(type_text h h2).1]; simp
    · rw [(type_ok h h2).1]
      have := type_len l t t.size
      have := text_size h2
      omega
theorem flatRet_mk {B : Nat} {E : TypeId} {sz : Nat} {w w' : World} {xs : List Value} {c : Int} {v : Value} {n : Nat} (ho : w'.ownsRow B E sz v n xs) (hb : Below B w w') : FlatRet B E sz n w xs c (.returned (.tuple #[v, .int .i64 c])) w' := by
  rcases owns_form ho with ⟨rfl, rfl, rfl⟩ | ⟨g, cap, rfl, _⟩
  · exact ⟨none, 0, rfl, ho, hb⟩
  · exact ⟨_, cap, rfl, ho, hb⟩

set_option maxRecDepth 100000 in
set_option maxHeartbeats 4000000 in
theorem typePage_any (x : ByteArray) (ao : Option Addr) (n cap : Nat) (l : List Se) (t : ByteArray) (w : World) (hx : x.size ≤ maxLen) (ht : t.size ≤ maxLen) (hn : n = l.length) (hr : Rd w ao (ses l)) (hs : seSmall l) (hm : n ≤ 1048576) :
    Calls Try.prog 36 #[.agg #[.string x, .slice ao n cap], .string t] w (FlatRet w.heap.size 72 2 (typeL x l t).length w (ses (typeL x l t)) (typeC x l t)) := by
  obtain ⟨i0, hi, hz0, hz1, hz2⟩ := info_parts Try.infoSe
  have HN := hid hn
  clear hn
  have hB0 : Below w.heap.size w (w.alloc (.cells #[.string x, .slice ao n cap] 44)) := (Below.refl _ _).alloc (Nat.le_refl _) _
  have hr0 := rd_below hr hB0
  have hwa := wrAt_new w x ao n cap 44
  cases h1 : oneB x l
  · have hR := hid (type_bad (t := t) h1)
    go_enter Try.func36, Try.ntmps36
    go_wp2_with (go_at_call 56; refine (one_any x ao n cap l _ hx HN.out hr0 hs hm).mono ?_; rw [h1]; rintro e w1 ⟨rfl, hb1⟩)
    go_ret2
    rw [hR.out.1, hR.out.2]
    exact ⟨none, 0, rfl, World.ownsRow_nil _ _ _ _, hB0.trans (hb1.mono (by simp))⟩
  cases h2 : textB t 32 60
  · have hR := hid (type_text h1 h2)
    go_enter Try.func36, Try.ntmps36
    go_wp2_with (first | (go_at_call 56; refine (one_any x ao n cap l _ hx HN.out hr0 hs hm).mono ?_; rw [h1]; rintro e w1 ⟨rfl, hb1⟩) | (go_at_call 71; refine (isText_b _ _ _ _ ht (by omega) (by omega) h2).mono ?_; rintro e w' ⟨rfl, rfl⟩))
    go_ret2
    rw [hR.out.1, hR.out.2]
    exact ⟨none, 0, rfl, World.ownsRow_nil _ _ _ _, hB0.trans (hb1.mono (by simp))⟩
  have hR := hid (type_ok h1 h2)
  have h60 := text_size h2
  go_enter Try.func36, Try.ntmps36
  go_wp2_with (first | (go_at_call 56; refine (one_any x ao n cap l _ hx HN.out hr0 hs hm).mono ?_; rw [h1]; rintro e w1 ⟨rfl, hb1⟩) | (go_at_call 71; refine (isText_b _ _ _ _ ht (by omega) (by omega) h2).mono ?_; rintro e w' ⟨rfl, rfl⟩))
  have hB1 := hB0.trans (hb1.mono (by simp))
  have hr1 := rd_below hr0 hb1
  obtain ⟨hlb, b0, b1⟩ := hwa.below hb1 (by simp) hb1.size
  have hz1' := hB1.size
  clear hb1 hwa hB0 hr0 hr
  go_loopw [6, 7, 8, 18] (fun v _ _ i wr => ∃ k : Nat, k ≤ t.size ∧ i = .int .i64 k ∧ wr.ownsRow w1.heap.size 72 2 v (typeUp l t k).length (ses (typeUp l t k)) ∧ Below w1.heap.size w1 wr) (fun _ _ _ i _ => t.size - (intOf i).toNat)
  case atStart => exact ⟨0, Nat.zero_le _, rfl, World.ownsRow_made _ _ 0 (Nat.le_refl _) (by unfold maxLen; omega) rfl, (Below.refl _ _).alloc (Nat.le_refl _) _⟩
  case round =>
    obtain ⟨k, hk, rfl, hown, hB⟩ := hrel
    have hz := hB.size
    have q0 := (hB.cell (p := ⟨w.heap.size, 0, none⟩) hlb).trans b0
    have q1 := (hB.cell (p := ⟨w.heap.size, 1, none⟩) hlb).trans b1
    by_cases hlt : k < t.size
    · have hk0 : (0 : Int) ≤ (k : Int) := by omega
      have hkn : (k : Int) < (t.size : Int) := by omega
      have hk2 : (k : Int) + 1 ≤ (t.size : Int) := by omega
      have hup := type_len l t k
      have hbl := hid (fun h => type_blank (l := l) hlt h)
      have hle := hid (fun h => type_letter (l := l) hlt h)
      have h1b := hid (one_byte hlt)
      obtain ⟨out, hout⟩ : ∃ out, out = typeUp l t k := ⟨_, rfl⟩
      rw [← hout] at hown hup hbl hle
      clear hout
      have hys : (t.extract k (k + 1)).size ≤ maxLen := by simp only [ByteArray.size_extract]; unfold maxLen; omega
      obtain ⟨v, hv⟩ : ∃ v, v = kindI l (t.extract k (k + 1)) := ⟨_, rfl⟩
      rw [← hv] at hle
      have HV := hid hv.symm
      clear hv
      by_cases hsp : ((t[k].toNat : Nat) : Int) = 32
      · have hn := hid (hbl.out hsp)
        have hs1 : ((t.extract k (k + 1)).toList == [32]) = true := by
          rw [h1b.out]
          have : t[k] = 32 := UInt8.toNat_inj.1 (by show t[k].toNat = 32; omega)
          rw [this]; rfl
        clear hsp
        go_wp2_with fail
        go_roundw
        case rel => exact ⟨k + 1, by omega, by go_num, by rw [hn.out]; exact hown, hB⟩
        case measure => simp [intOf]; omega
      · have hn := hid (hle.out hsp)
        have hs1 : ((t.extract k (k + 1)).toList == [32]) = false := by
          rw [h1b.out]
          have : ¬ t[k] = 32 := fun e => hsp (by rw [e]; rfl)
          simpa using this
        clear hsp
        have hrw := rd_below hr1 hB
        go_wp2_with (first | (go_at_call 62; refine (kindW_b x ao n cap l _ _ HN.out hrw hm HV.out).mono ?_; rintro e w2 ⟨rfl, hb2⟩; have hown2 := owns_below hown hb2; have hB2 := hB.trans (hb2.mono hz); have hzw2 := hB2.size) | (at_builtin; refine wpList_append_own _ rfl _ _ 25 rfl w1.heap.size 72 i0 (.agg #[.string ByteArray.empty, .int .i64 0]) 2 24 Try.underlying25 hi hz0 hz1 hz2 rfl (by decide) _ _ _ rfl (hown2.alloc _) ⟨w2.heap.size, 0, none⟩ 1 1 [.string (t.extract k (k + 1)), .int .i64 v] rfl rfl (two_new _ _ _ _) (two_okSI _ _) (by unfold maxLen; omega) (by omega) (by simp; omega) ?_; intro v' w3 hown3 hgrow3 _))
        go_roundw
        case rel => exact ⟨k + 1, by omega, by go_num, by rw [hn.out, ses_snoc, List.length_append]; exact hown3, below_grown (hB2.alloc hzw2 _) (by simp; omega) (hown2.alloc _) hgrow3⟩
        case measure => simp [intOf]; omega
    · obtain rfl : k = t.size := by omega
      go_wp2
      go_ret2
      rw [hR.out.1, hR.out.2]
      exact flatRet_mk (owns_mono hown hz1') (hB1.trans (hB.mono hz1'))

set_option maxRecDepth 100000 in
set_option maxHeartbeats 4000000 in
theorem sTypePage_any (x : ByteArray) (ao : Option Addr) (n cap : Nat) (l : List Se) (t : ByteArray) (w : World) (hx : x.size ≤ maxLen) (ht : t.size ≤ maxLen) (hn : n = l.length) (hr : Rd w ao (ses l)) (hs : seSmall l) (hm : n ≤ 1048576) :
    Calls Try.prog 35 #[.agg #[.string x, .slice ao n cap], .string t] w (FlatRet w.heap.size 72 2 (typeL x l t).length w (ses (typeL x l t)) (typeC x l t)) := by
  obtain ⟨i0, hi, hz0, hz1, hz2⟩ := info_parts Try.infoSe
  have HN := hid hn
  clear hn
  have hB0 : Below w.heap.size w (w.alloc (.cells #[.string x, .slice ao n cap] 44)) := (Below.refl _ _).alloc (Nat.le_refl _) _
  have hr0 := rd_below hr hB0
  have hwa := wrAt_new w x ao n cap 44
  cases h1 : oneB x l
  · have hR := hid (type_bad (t := t) h1)
    go_enter Try.func35, Try.ntmps35
    go_wp2_with (go_at_call 58; refine (sOne_any _ _ x ao n cap l _ hwa hx HN.out hr0 hs hm).mono ?_; rw [h1]; rintro e w1 ⟨rfl, hb1⟩)
    go_ret2
    rw [hR.out.1, hR.out.2]
    exact ⟨none, 0, rfl, World.ownsRow_nil _ _ _ _, hB0.trans (hb1.mono (by simp))⟩
  cases h2 : textB t 32 60
  · have hR := hid (type_text h1 h2)
    go_enter Try.func35, Try.ntmps35
    go_wp2_with (first | (go_at_call 58; refine (sOne_any _ _ x ao n cap l _ hwa hx HN.out hr0 hs hm).mono ?_; rw [h1]; rintro e w1 ⟨rfl, hb1⟩) | (go_at_call 70; refine (sText0_b _ _ _ ht h2).mono ?_; rintro e w' ⟨rfl, rfl⟩))
    go_ret2
    rw [hR.out.1, hR.out.2]
    exact ⟨none, 0, rfl, World.ownsRow_nil _ _ _ _, hB0.trans (hb1.mono (by simp))⟩
  have hR := hid (type_ok h1 h2)
  have h60 := text_size h2
  go_enter Try.func35, Try.ntmps35
  go_wp2_with (first | (go_at_call 58; refine (sOne_any _ _ x ao n cap l _ hwa hx HN.out hr0 hs hm).mono ?_; rw [h1]; rintro e w1 ⟨rfl, hb1⟩) | (go_at_call 70; refine (sText0_b _ _ _ ht h2).mono ?_; rintro e w' ⟨rfl, rfl⟩))
  have hB1 := hB0.trans (hb1.mono (by simp))
  have hr1 := rd_below hr0 hb1
  have hw1 := hwa.below hb1 (by simp) hb1.size
  have hz1' := hB1.size
  clear hb1 hwa hB0 hr0 hr
  go_loopw [6, 7, 8] (fun v i _ wr => ∃ k : Nat, k ≤ t.size ∧ i = .int .i64 k ∧ wr.ownsRow w1.heap.size 72 2 v (typeUp l t k).length (ses (typeUp l t k)) ∧ Below w1.heap.size w1 wr) (fun _ i _ _ => t.size - (intOf i).toNat)
  case atStart => exact ⟨0, Nat.zero_le _, rfl, World.ownsRow_made _ _ 0 (Nat.le_refl _) (by unfold maxLen; omega) rfl, (Below.refl _ _).alloc (Nat.le_refl _) _⟩
  case round =>
    obtain ⟨k, hk, rfl, hown, hB⟩ := hrel
    have hz := hB.size
    by_cases hlt : k < t.size
    · have hk0 : (0 : Int) ≤ (k : Int) := by omega
      have hkn : (k : Int) < (t.size : Int) := by omega
      have hk2 : (k : Int) + 1 ≤ (t.size : Int) := by omega
      have hup := type_len l t k
      have hbl := hid (fun h => type_blank (l := l) hlt h)
      have hle := hid (fun h => type_letter (l := l) hlt h)
      obtain ⟨out, hout⟩ : ∃ out, out = typeUp l t k := ⟨_, rfl⟩
      rw [← hout] at hown hup hbl hle
      clear hout
      obtain ⟨v, hv⟩ : ∃ v, v = kindI l (t.extract k (k + 1)) := ⟨_, rfl⟩
      rw [← hv] at hle
      have HV := hid hv.symm
      clear hv
      by_cases hsp : ((t[k].toNat : Nat) : Int) = 32
      · have hn := hid (hbl.out hsp)
        have hs1 : (((t[k].toNat : Nat) : Int) != 32) = false := neI_false hsp
        clear hsp
        go_wp2_with fail
        go_roundw
        case rel => exact ⟨k + 1, by omega, by go_num, by rw [hn.out]; exact hown, hB⟩
        case measure => simp [intOf]; omega
      · have hn := hid (hle.out hsp)
        have hs1 : (((t[k].toNat : Nat) : Int) != 32) = true := neI_true hsp
        clear hsp
        have hrw := rd_below hr1 hB
        have hww := hw1.below hB hw1.lt hz
        go_wp2_with (first | (go_at_call 60; refine (sOf_b _ _ x ao n cap l _ _ hww HN.out hrw hm HV.out).mono ?_; rintro e w2 ⟨rfl, rfl⟩) | (at_builtin; refine wpList_append_own _ rfl _ _ 25 rfl w1.heap.size 72 i0 (.agg #[.string ByteArray.empty, .int .i64 0]) 2 24 Try.underlying25 hi hz0 hz1 hz2 rfl (by decide) _ _ _ rfl (hown.alloc _) ⟨wr.heap.size, 0, none⟩ 1 1 [.string (t.extract k (k + 1)), .int .i64 v] rfl rfl (two_new _ _ _ _) (two_okSI _ _) (by unfold maxLen; omega) (by omega) (by simp; omega) ?_; intro v' w3 hown3 hgrow3 _))
        go_roundw
        case rel => exact ⟨k + 1, by omega, by go_num, by rw [hn.out, ses_snoc, List.length_append]; exact hown3, below_grown (hB.alloc hz _) (by simp; omega) (hown.alloc _) hgrow3⟩
        case measure => simp [intOf]; omega
    · obtain rfl : k = t.size := by omega
      go_wp2
      go_ret2
      rw [hR.out.1, hR.out.2]
      exact flatRet_mk (owns_mono hown hz1') (hB1.trans (hB.mono hz1'))
end Go.Proofs.Ythhpeanlpikjbaa
