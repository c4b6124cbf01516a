/-
  The text of some words of a code: the walks and the law.
-/
import Derived.Test.YtojbblbjobbcaaaCodeD
import Derived.Test.YtojbblbjobbcaaaTo64
namespace Go.Proofs.Ytojbblbjobbcaaa
open Go.RowKit Go.ChangeShapes Go.WideShapes Go.Maps
set_option linter.unusedVariables false
attribute [local go_sem ↓] Go.wp_at_zero Go.wp_at_succ

def inB (n lo hi : Int) : Bool := decide (lo ≤ n ∧ n ≤ hi)
theorem inB_true {n lo hi : Int} (h : inB n lo hi = true) : lo ≤ n ∧ n ≤ hi := by simpa [inB] using h
theorem in_any (n lo hi : Int) (w : World) : Calls Try.prog 45 #[.int .i64 n, .int .i64 lo, .int .i64 hi] w fun e w' => e = .returned (.bool (inB n lo hi)) ∧ w = w' := by
  by_cases h1 : lo ≤ n <;> by_cases h2 : n ≤ hi
  all_goals
    go_enter Try.func45, Try.ntmps45
    go_wp2
    go_ret
    exact ⟨by simp [inB, h1, h2], rfl⟩
theorem between_any (n lo hi : Int) (w : World) : Calls Try.prog 46 #[.int .i64 n, .int .i64 lo, .int .i64 hi] w fun e w' => e = .returned (.bool (inB n lo hi)) ∧ w = w' := by
  by_cases h1 : lo ≤ n <;> by_cases h2 : n ≤ hi
  all_goals
    go_enter Try.func46, Try.ntmps46
    go_wp2
    go_ret
    exact ⟨by simp [inB, h1, h2], rfl⟩
theorem in_b {r : Bool} (n lo hi : Int) (w : World) (h : inB n lo hi = r) : Calls Try.prog 45 #[.int .i64 n, .int .i64 lo, .int .i64 hi] w fun e w' => e = .returned (.bool r) ∧ w = w' := by
  subst h; exact in_any n lo hi w
theorem between_b {r : Bool} (n lo hi : Int) (w : World) (h : inB n lo hi = r) : Calls Try.prog 46 #[.int .i64 n, .int .i64 lo, .int .i64 hi] w fun e w' => e = .returned (.bool r) ∧ w = w' := by
  subst h; exact between_any n lo hi w

theorem codeOk_size {l : List ByteArray} (h : codeOk l = true) : ∀ x ∈ l, x.size ≤ 8 := by
  intro x hx
  obtain ⟨k, hk, rfl⟩ := List.getElem_of_mem hx
  unfold codeOk at h
  simp only [Bool.and_eq_true] at h
  have h1 : firstAt (badC l) l.length = none := by simpa using h.1
  unfold firstAt at h1
  rw [List.find?_range_eq_none] at h1
  have h2 := h1 k hk
  rw [badC_get hk] at h2
  cases ht : textB l[k] 33 8
  · rw [ht] at h2; simp at h2
  · simp only [textB, Bool.and_eq_true, decide_eq_true_eq] at ht
    omega
/-- is number k no index? -/
def badI (l : List ByteArray) (ns : List Int) (k : Nat) : Bool := if h : k < ns.length then !(inB ns[k] 0 ((l.length : Int) - 1)) else false
theorem badI_get {l : List ByteArray} {ns : List Int} {k : Nat} (h : k < ns.length) : badI l ns k = !(inB ns[k] 0 ((l.length : Int) - 1)) := by unfold badI; rw [dif_pos h]
def wordAt (l : List ByteArray) (k : Nat) : ByteArray := if h : k < l.length then l[k] else ⟨#[]⟩
theorem wordAt_get {l : List ByteArray} {k : Nat} (h : k < l.length) : wordAt l k = l[k] := by unfold wordAt; rw [dif_pos h]
def catW (l : List ByteArray) (ns : List Int) : ByteArray := ns.foldl (fun a k => a ++ wordAt l k.toNat) ⟨#[]⟩
theorem catW_next {l : List ByteArray} {ns : List Int} {k : Nat} (h : k < ns.length) : catW l (ns.take (k + 1)) = catW l (ns.take k) ++ wordAt l ns[k].toNat := by
  rw [List.take_succ_eq_append_getElem h, catW, catW, List.foldl_append]; rfl
theorem catW_size {l : List ByteArray} (h : ∀ x ∈ l, x.size ≤ 8) (ns : List Int) (k : Nat) (hk : k ≤ ns.length) : (catW l (ns.take k)).size ≤ 8 * k := by
  induction k with
  | zero => show (0 : Nat) ≤ _; omega
  | succ k ih =>
    rw [catW_next (by omega), ByteArray.size_append]
    have := ih (by omega)
    have h2 : (wordAt l ns[k].toNat).size ≤ 8 := by
      unfold wordAt
      split
      · exact h _ (List.getElem_mem _)
      · show (0 : Nat) ≤ 8; omega
    omega
def encR (l : List ByteArray) (ns : List Int) : ByteArray × Int :=
  if codeOk l = true then if (firstAt (badI l ns) ns.length).isSome = true ∨ 60 < ns.length then (⟨#[]⟩, 2) else if 60 < (catW l ns).size then (⟨#[]⟩, 5) else (catW l ns, 0) else (⟨#[]⟩, 1)
theorem encR_bad {l : List ByteArray} {ns : List Int} (h : codeOk l = false) : encR l ns = (⟨#[]⟩, 1) := by simp [encR, h]
theorem encR_long {l : List ByteArray} {ns : List Int} (h : codeOk l = true) (h2 : 60 < ns.length) : encR l ns = (⟨#[]⟩, 2) := by simp [encR, h, h2]
theorem encR_hit {l : List ByteArray} {ns : List Int} {k : Nat} (h : codeOk l = true) (hk : k < ns.length) (hN : NoneUpTo (badI l ns) k) (he : badI l ns k = true) : encR l ns = (⟨#[]⟩, 2) := by
  simp [encR, h, first_hit hN he hk]
theorem encR_full {l : List ByteArray} {ns : List Int} (h : codeOk l = true) (h2 : ¬ 60 < ns.length) (hN : NoneUpTo (badI l ns) ns.length) (h3 : 60 < (catW l ns).size) : encR l ns = (⟨#[]⟩, 5) := by
  simp [encR, h, h2, first_none hN, h3]
theorem encR_ok {l : List ByteArray} {ns : List Int} (h : codeOk l = true) (h2 : ¬ 60 < ns.length) (hN : NoneUpTo (badI l ns) ns.length) (h3 : ¬ 60 < (catW l ns).size) : encR l ns = (catW l ns, 0) := by
  simp [encR, h, h2, first_none hN, h3]

set_option maxHeartbeats 4000000 in
theorem enc_any (ao bo : Option Addr) (n cap m cap2 : Nat) (l : List ByteArray) (ns : List Int) (w : World) (hn : n = l.length) (hr : Rd w ao (strs l)) (hs : ∀ x ∈ l, x.size ≤ maxLen) (hm : n ≤ 1048576) (hn2 : m = ns.length) (hr2 : Rd w bo (i64s ns)) (hm2 : m ≤ 1048576) :
    Calls Try.prog 23 #[.slice ao n cap, .slice bo m cap2] w fun e w' => e = .returned (.tuple #[.string (encR l ns).1, .int .i64 (encR l ns).2]) ∧ Below w.heap.size w w' := by
  have HN := hid hn
  have HM := hid hn2
  clear hn hn2
  cases hok : codeOk l
  · have hR := hid (encR_bad (ns := ns) hok)
    go_enter Try.func23, Try.ntmps23
    go_wp2_with (go_at_call 15; refine (code_any ao n cap l _ HN.out hr hs hm).mono ?_; rw [hok]; rintro e w1 ⟨rfl, hb1⟩)
    go_ret2
    exact ⟨by rw [hR.out]; simp, hb1⟩
  by_cases hlong : 60 < m
  · have hR := hid (encR_long hok (ns := ns) (by rw [← HM.out]; exact hlong))
    have hl1 : (60 : Int) < (m : Int) := by omega
    go_enter Try.func23, Try.ntmps23
    go_wp2_with (go_at_call 15; refine (code_any ao n cap l _ HN.out hr hs hm).mono ?_; rw [hok]; rintro e w1 ⟨rfl, hb1⟩)
    go_ret2
    exact ⟨by rw [hR.out]; simp, hb1⟩
  have h8 := hid (codeOk_size hok)
  have hl1 : ¬ (60 : Int) < (m : Int) := by omega
  have HL := hid (show ¬ 60 < ns.length by rw [← HM.out]; exact hlong)
  go_enter Try.func23, Try.ntmps23
  go_wp2_with (go_at_call 15; refine (code_any ao n cap l _ HN.out hr hs hm).mono ?_; rw [hok]; rintro e w1 ⟨rfl, hb1⟩; have hr1 := rd_below hr hb1; have kr1 := rd_below hr2 hb1)
  have hrd := rd_str hr1
  have krd := rd_i64 kr1
  clear hr hr1 hr2 kr1
  go_loopw [6, 8, 17] (fun v _ i wr => ∃ k : Nat, k ≤ m ∧ i = .int .i64 k ∧ NoneUpTo (badI l ns) k ∧ v = .string (catW l (ns.take k)) ∧ Below w1.heap.size w1 wr) (fun _ _ i _ => m - (intOf i).toNat)
  case atStart => exact ⟨0, Nat.zero_le _, rfl, none_zero _, by simp [catW], Below.refl _ _⟩
  case round =>
    obtain ⟨k, hk, rfl, hN, rfl, hB⟩ := hrel
    have hB' := hb1.trans (hB.mono hb1.size)
    have hsz := catW_size h8.out ns k (by rw [← HM.out]; exact hk)
    by_cases hlt : k < m
    · rcases krd with hnil | ⟨b2, o2, rfl, hbl2, kcell⟩
      · exact absurd (by rw [HM.out, hnil]; rfl : m = 0) (by omega)
      have hkl : k < ns.length := by rw [← HM.out]; exact hlt
      have g1 := (hB.cell (p := ⟨b2, o2 + k, none⟩) hbl2).trans (kcell k hkl)
      have hk0 : (0 : Int) ≤ (k : Int) := by omega
      have hkn : (k : Int) < (m : Int) := by omega
      have hnx := hid (catW_next (l := l) hkl)
      have hbi := badI_get (l := l) hkl
      rw [← HN.out] at hbi
      have e1 : IntKind.i64.wrap ((n : Int) - 1) = (n : Int) - 1 := IntWalk.i64_in _ (by omega)
      obtain ⟨t, ht⟩ : ∃ t, t = catW l (ns.take k) := ⟨_, rfl⟩
      rw [← ht] at hsz hnx
      rw [← ht]
      clear ht
      obtain ⟨x, hx⟩ : ∃ x, x = ns[k] := ⟨_, rfl⟩
      rw [← hx] at g1 hnx hbi
      clear hx
      cases hib : inB x 0 ((n : Int) - 1)
      · have hR := hid (encR_hit hok hkl hN (by rw [hbi, hib]; rfl))
        clear hbi
        go_wp2_with (go_at_call 46; refine (between_b _ _ _ _ hib).mono ?_; rintro e w' ⟨rfl, rfl⟩)
        go_ret2
        exact ⟨by rw [hR.out]; simp, hB'⟩
      · have hgood := hid (none_next hN (by rw [hbi, hib]; rfl))
        clear hbi
        obtain ⟨q, hq⟩ : ∃ q : Nat, x = (q : Int) := ⟨x.toNat, by have := inB_true hib; omega⟩
        subst hq
        have hqn : q < n := by have := inB_true hib; omega
        rcases hrd with hnil | ⟨b, o, rfl, hbl, hcell⟩
        · exact absurd (by rw [HN.out, hnil]; rfl : n = 0) (by omega)
        have hql : q < l.length := by rw [← HN.out]; exact hqn
        have g2 := (hB.cell (p := ⟨b, o + q, none⟩) hbl).trans (hcell q hql)
        have hwd := hid (wordAt_get hql)
        have hy8 := h8.out _ (List.getElem_mem hql)
        have hq0 : (0 : Int) ≤ (q : Int) := by omega
        have hqn1 : (q : Int) < (n : Int) := by omega
        obtain ⟨y, hy⟩ : ∃ y, y = l[q] := ⟨_, rfl⟩
        rw [← hy] at g2 hwd hy8
        clear hy
        go_wp2_with (go_at_call 46; refine (between_b _ _ _ _ hib).mono ?_; rintro e w' ⟨rfl, rfl⟩)
        go_roundw
        case rel => exact ⟨k + 1, by omega, by go_num, hgood.out, by rw [hnx.out, Int.toNat_natCast, hwd.out], hB⟩
        case measure => simp [intOf]; omega
    · obtain rfl : k = m := by omega
      have hd := hid (show ns.take k = ns from List.take_of_length_le (by rw [HM.out]; exact Nat.le_refl _))
      rw [hd.out] at hsz ⊢
      have hN' := hid (show NoneUpTo (badI l ns) ns.length by rw [← HM.out]; exact hN)
      by_cases hf : 60 < (catW l ns).size
      · have hR := hid (encR_full hok HL.out hN'.out hf)
        have hf1 : (60 : Int) < ((catW l ns).size : Int) := by omega
        go_wp2_with fail
        go_ret2
        exact ⟨by rw [hR.out]; simp, hB'⟩
      · have hR := hid (encR_ok hok HL.out hN'.out hf)
        have hf1 : ¬ (60 : Int) < ((catW l ns).size : Int) := by omega
        go_wp2_with fail
        go_ret2
        exact ⟨by rw [hR.out]; simp, hB'⟩

set_option maxHeartbeats 4000000 in
theorem sEnc_any (ao bo : Option Addr) (n cap m cap2 : Nat) (l : List ByteArray) (ns : List Int) (w : World) (hn : n = l.length) (hr : Rd w ao (strs l)) (hs : ∀ x ∈ l, x.size ≤ maxLen) (hm : n ≤ 1048576) (hcap : n ≤ cap) (hcm : cap ≤ maxLen) (hn2 : m = ns.length) (hr2 : Rd w bo (i64s ns)) (hm2 : m ≤ 1048576) :
    Calls Try.prog 21 #[.slice ao n cap, .slice bo m cap2] w fun e w' => e = .returned (.tuple #[.string (encR l ns).1, .int .i64 (encR l ns).2]) ∧ Below w.heap.size w w' := by
  have HN := hid hn
  have HM := hid hn2
  clear hn hn2
  cases hok : codeOk l
  · have hR := hid (encR_bad (ns := ns) hok)
    go_enter Try.func21, Try.ntmps21
    go_wp2_with (go_at_call 38; refine (sCode_any ao n cap l _ HN.out hr hs hm hcap hcm).mono ?_; rw [hok]; rintro e w1 ⟨rfl, hb1⟩)
    go_ret2
    exact ⟨by rw [hR.out]; simp, hb1⟩
  have h8 := hid (codeOk_size hok)
  go_enter Try.func21, Try.ntmps21
  go_wp2_with (go_at_call 38; refine (sCode_any ao n cap l _ HN.out hr hs hm hcap hcm).mono ?_; rw [hok]; rintro e w1 ⟨rfl, hb1⟩; have hr1 := rd_below hr hb1; have kr1 := rd_below hr2 hb1)
  have hrd := rd_str hr1
  have krd := rd_i64 kr1
  clear hr hr1 hr2 kr1
  go_loopw [6] (fun i wr => ∃ k : Nat, k ≤ m ∧ i = .int .i64 k ∧ NoneUpTo (badI l ns) k ∧ Below w1.heap.size w1 wr) (fun i _ => m - (intOf i).toNat)
  case atStart => exact ⟨0, Nat.zero_le _, rfl, none_zero _, Below.refl _ _⟩
  case round =>
    obtain ⟨k, hk, rfl, hN, hB⟩ := hrel
    have hB' := hb1.trans (hB.mono hb1.size)
    by_cases hlt : k < m
    · rcases krd with hnil | ⟨b2, o2, rfl, hbl2, kcell⟩
      · exact absurd (by rw [HM.out, hnil]; rfl : m = 0) (by omega)
      have hkl : k < ns.length := by rw [← HM.out]; exact hlt
      have g1 := (hB.cell (p := ⟨b2, o2 + k, none⟩) hbl2).trans (kcell k hkl)
      have hk0 : (0 : Int) ≤ (k : Int) := by omega
      have hkn : (k : Int) < (m : Int) := by omega
      have hbi := badI_get (l := l) hkl
      rw [← HN.out] at hbi
      have e1 : IntKind.i64.wrap ((n : Int) - 1) = (n : Int) - 1 := IntWalk.i64_in _ (by omega)
      obtain ⟨x, hx⟩ : ∃ x, x = ns[k] := ⟨_, rfl⟩
      rw [← hx] at g1 hbi
      clear hx
      cases hib : inB x 0 ((n : Int) - 1)
      · have hR := hid (encR_hit hok hkl hN (by rw [hbi, hib]; rfl))
        clear hbi
        go_wp2_with (go_at_call 45; refine (in_b _ _ _ _ hib).mono ?_; rintro e w' ⟨rfl, rfl⟩)
        go_ret2
        exact ⟨by rw [hR.out]; simp, hB'⟩
      · have hgood := hid (none_next hN (by rw [hbi, hib]; rfl))
        clear hbi
        go_wp2_with (go_at_call 45; refine (in_b _ _ _ _ hib).mono ?_; rintro e w' ⟨rfl, rfl⟩)
        go_roundw
        case rel => exact ⟨k + 1, by omega, by go_num, hgood.out, hB⟩
        case measure => simp [intOf]; omega
    · obtain rfl : k = m := by omega
      have hN' := hid (show NoneUpTo (badI l ns) ns.length by rw [← HM.out]; exact hN)
      by_cases hlong : 60 < k
      · have hR := hid (encR_long hok (ns := ns) (by rw [← HM.out]; exact hlong))
        have hl1 : (60 : Int) < (k : Int) := by omega
        go_wp2_with fail
        go_ret2
        exact ⟨by rw [hR.out]; simp, hB'⟩
      have HL := hid (show ¬ 60 < ns.length by rw [← HM.out]; exact hlong)
      have hl1 : ¬ (60 : Int) < (k : Int) := by omega
      go_wp2_with fail
      go_loopw [7, 8] (fun v i wr2 => ∃ j : Nat, j ≤ k ∧ i = .int .i64 j ∧ v = .string (catW l (ns.take j)) ∧ Below w1.heap.size w1 wr2) (fun _ i _ => k - (intOf i).toNat)
      case atStart => exact ⟨0, Nat.zero_le _, rfl, by simp [catW], hB⟩
      case round =>
        obtain ⟨j, hj, rfl, rfl, hB2⟩ := hrel
        have hB2' := hb1.trans (hB2.mono hb1.size)
        have hsz := catW_size h8.out ns j (by rw [← HM.out]; exact hj)
        by_cases hjk : j < k
        · rcases krd with hnil | ⟨b2, o2, rfl, hbl2, kcell⟩
          · exact absurd (by rw [HM.out, hnil]; rfl : k = 0) (by omega)
          have hjl : j < ns.length := by rw [← HM.out]; exact hjk
          have g1 := (hB2.cell (p := ⟨b2, o2 + j, none⟩) hbl2).trans (kcell j hjl)
          have hk0 : (0 : Int) ≤ (j : Int) := by omega
          have hkn : (j : Int) < (k : Int) := by omega
          have hnx := hid (catW_next (l := l) hjl)
          have hbi := hN'.out j hjl
          rw [badI_get hjl, ← HN.out] at hbi
          obtain ⟨t, ht⟩ : ∃ t, t = catW l (ns.take j) := ⟨_, rfl⟩
          rw [← ht] at hsz hnx
          rw [← ht]
          clear ht
          obtain ⟨x, hx⟩ : ∃ x, x = ns[j] := ⟨_, rfl⟩
          rw [← hx] at g1 hnx hbi
          clear hx
          have hib : inB x 0 ((n : Int) - 1) = true := by simpa using hbi
          clear hbi
          obtain ⟨q, hq⟩ : ∃ q : Nat, x = (q : Int) := ⟨x.toNat, by have := inB_true hib; omega⟩
          subst hq
          have hqn : q < n := by have := inB_true hib; omega
          rcases hrd with hnil | ⟨b, o, rfl, hbl, hcell⟩
          · exact absurd (by rw [HN.out, hnil]; rfl : n = 0) (by omega)
          have hql : q < l.length := by rw [← HN.out]; exact hqn
          have g2 := (hB2.cell (p := ⟨b, o + q, none⟩) hbl).trans (hcell q hql)
          have hwd := hid (wordAt_get hql)
          have hy8 := h8.out _ (List.getElem_mem hql)
          have hq0 : (0 : Int) ≤ (q : Int) := by omega
          have hqn1 : (q : Int) < (n : Int) := by omega
          obtain ⟨y, hy⟩ : ∃ y, y = l[q] := ⟨_, rfl⟩
          rw [← hy] at g2 hwd hy8
          clear hy hib
          go_wp2_with fail
          go_roundw
          case rel => exact ⟨j + 1, by omega, by go_num, by rw [hnx.out, Int.toNat_natCast, hwd.out], hB2⟩
          case measure => simp [intOf]; omega
        · obtain rfl : j = k := by omega
          have hd := hid (show ns.take j = ns from List.take_of_length_le (by rw [HM.out]; exact Nat.le_refl _))
          rw [hd.out] at hsz ⊢
          by_cases hf : 60 < (catW l ns).size
          · have hR := hid (encR_full hok HL.out hN'.out hf)
            have hf1 : (60 : Int) < ((catW l ns).size : Int) := by omega
            go_wp2_with fail
            go_ret2
            exact ⟨by rw [hR.out]; simp, hB2'⟩
          · have hR := hid (encR_ok hok HL.out hN'.out hf)
            have hf1 : ¬ (60 : Int) < ((catW l ns).size : Int) := by omega
            go_wp2_with fail
            go_ret2
            exact ⟨by rw [hR.out]; simp, hB2'⟩

set_option maxHeartbeats 2000000 in
theorem lawEncodeWords (w : World) (ao : Option Addr) (n cap : Nat) (l : List ByteArray) (ha : StArg w ao n cap l) (bo : Option Addr) (m cap0 : Nat) (ns : List Int) (hb : InArg w bo m cap0 ns) :
    Calls Try.prog 6 #[.slice ao n cap, .slice bo m cap0] w fun e w' => e = .returned (.bool true) ∧ Below w.heap.size w w' := by
  obtain ⟨hn, hm, hr, hs⟩ := ha
  obtain ⟨kn, km, kr, ks⟩ := hb
  have HN := hid hn
  have KN := hid kn
  clear hn kn ks
  have km3 := km
  unfold maxLen at km3
  by_cases hbig : (1048576 : Int) < (m : Int)
  · go_enter Try.func6, Try.ntmps6
    go_wp2_with fail
    go_ret
    exact ⟨rfl, Below.refl _ _⟩
  have k20 : m ≤ 1048576 := by omega
  go_enter Try.func6, Try.ntmps6
  go_wp2_with fail
  refine (szStringS_any ao n cap l 1048576 _ (by omega) (by omega) HN.out hm hr hs).mono ?_
  rintro e w1 ⟨rfl, hb1⟩
  by_cases hz : szAllSt 1048576 n l < 0
  · go_wp2_with fail
    go_ret
    exact ⟨rfl, hb1⟩
  have h20 := szAllSt_len (by omega) hz
  have hr1 := rd_below hr hb1
  have kr1 := rd_below kr hb1
  go_wp2_with fail
  refine (toStringS_any ao n cap l _ HN.out hr1 h20).mono ?_
  rintro e w2 ⟨co, cap2, rfl, ho2, hb2⟩
  have hr2 := rd_below hr1 hb2
  have kr2 := rd_below kr1 hb2
  go_wp2_with fail
  refine (toI64S_any bo m cap0 ns _ KN.out kr2 k20).mono ?_
  rintro e w3 ⟨eo, cap3, rfl, ho3, hb3⟩
  have hr3 := rd_below hr2 hb3
  have kr3 := rd_below kr2 hb3
  go_wp2_with fail
  refine (sEnc_any co eo n cap2 m cap3 l ns _ HN.out (rd_below (owns_rdN ho2) hb3) hs h20 (owns_cap ho2).1 (owns_cap ho2).2 KN.out (owns_rdN ho3) k20).mono ?_
  rintro e w4 ⟨rfl, hb4⟩
  have hr4 := rd_below hr3 hb4
  have kr4 := rd_below kr3 hb4
  go_wp2_with fail
  refine (toStringS_any ao n cap l _ HN.out hr4 h20).mono ?_
  rintro e w5 ⟨fo, cap5, rfl, ho5, hb5⟩
  have hr5 := rd_below hr4 hb5
  have kr5 := rd_below kr4 hb5
  go_wp2_with fail
  refine (toI64S_any bo m cap0 ns _ KN.out kr5 k20).mono ?_
  rintro e w6 ⟨go, cap6, rfl, ho6, hb6⟩
  have hr6 := rd_below hr5 hb6
  have kr6 := rd_below kr5 hb6
  have x6 := rd_below (owns_rdN ho5) hb6
  have y6 := owns_rdN ho6
  go_wp2_with fail
  refine (enc_any fo go n cap5 m cap6 l ns _ HN.out x6 hs h20 KN.out y6 k20).mono ?_
  rintro e w7 ⟨rfl, hb7⟩
  have hr7 := rd_below hr6 hb7
  have kr7 := rd_below kr6 hb7
  have x7 := rd_below x6 hb7
  have y7 := rd_below y6 hb7
  go_wp2_with fail
  refine (toStringS_any ao n cap l _ HN.out hr7 h20).mono ?_
  rintro e w8 ⟨io, cap8, rfl, ho8, hb8⟩
  have kr8 := rd_below kr7 hb8
  have y8 := rd_below y7 hb8
  go_wp2_with fail
  refine (eqStringS_any fo io l n cap5 cap8 _ HN.out (by omega) (rd_below x7 hb8) (owns_rdN ho8)).mono ?_
  rintro e w9 ⟨rfl, hb9⟩
  have kr9 := rd_below kr8 hb9
  have y9 := rd_below y8 hb9
  go_wp2_with fail
  refine (toI64S_any bo m cap0 ns _ KN.out kr9 k20).mono ?_
  rintro e w10 ⟨jo, cap10, rfl, ho10, hb10⟩
  go_wp2_with fail
  refine (eqI64_any go jo ns m cap6 cap10 _ KN.out (by omega) (rd_below y9 hb10) (owns_rdN ho10)).mono ?_
  rintro e w11 ⟨rfl, hb11⟩
  go_wp2_with fail
  go_ret
  have z1 := hb1.size; have z2 := hb2.size; have z3 := hb3.size; have z4 := hb4.size; have z5 := hb5.size; have z6 := hb6.size; have z7 := hb7.size; have z8 := hb8.size; have z9 := hb9.size; have z10 := hb10.size
  refine ⟨rfl, ?_⟩
  (repeat (first | with_reducible exact Below.refl _ _ | with_reducible assumption | refine Below.drew ?_ | refine below_drewN ?_ _ | (refine Below.alloc ?_ (by first | omega | (simp; done) | (simp; omega)) _) | (refine Below.setCell ?_ (by first | omega | (simp; done) | (simp; omega)) _) | (refine Below.trans ?_ (Below.mono (by assumption) (by first | omega | (simp; done) | (simp; omega))))))
end Go.Proofs.Ytojbblbjobbcaaa
