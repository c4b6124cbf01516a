/-
  Readings and their codes: the walks.
-/
import Derived.Test.YtojbblbjobbcaaaRead
namespace Go.Proofs.Ytojbblbjobbcaaa
open Go.RowKit Go.ChangeShapes Go.WideShapes Go.Maps
set_option linter.unusedVariables false
attribute [local go_sem ↓] Go.wp_at_zero Go.wp_at_succ

set_option maxHeartbeats 2000000 in
theorem sFind_any (few : Bool) (ao : Option Addr) (n cap : Nat) (l : List ByteArray) (t : ByteArray) (w : World) (hn : n = l.length) (hr : Rd w ao (strs l)) (hs : ∀ x ∈ l, x.size ≤ maxLen) (ht : t.size ≤ maxLen) (hm : n ≤ 1048576) (hcap : n ≤ cap) (hcm : cap ≤ maxLen) :
    Calls Try.prog 47 #[.slice ao n cap, .string t, .bool few] w (RowRet w.heap.size 2 w (i64s (findL few l t)) (findC l t)) := by
  have HN := hid hn
  clear hn
  by_cases hc : codeC l t = 0
  case neg =>
    have hR := hid (find_bad (few := few) hc)
    obtain ⟨c, hcc⟩ : ∃ c, c = codeC l t := ⟨_, rfl⟩
    rw [← hcc] at hc hR
    have HCC := hid hcc
    clear hcc
    have hne : ((c : Int) != 0) = true := by simpa using hc
    go_enter Try.func47, Try.ntmps47
    go_wp2_with (go_at_call 42; refine (sCodeC_any ao n cap l t _ HN.out hr hs ht hm hcap hcm).mono ?_; rw [← HCC.out]; rintro e w1 ⟨rfl, hb1⟩)
    go_ret2
    rw [hR.out.1, hR.out.2]
    exact ⟨none, 0, by simp [i64s], World.ownsRow_nil _ _ _ _, hb1⟩
  obtain ⟨hok, htx⟩ := codeC_zero hc
  have h60 := text_size htx
  have h10 := codeOk_len hok
  have hRn := hid (fun h h3 => find_no (few := few) hc h h3)
  have hRy := hid (fun h => find_yes (few := few) hc h)
  have hrn := hid (fun h => readR_no (few := few) (l := l) (t := t) h)
  go_enter Try.func47, Try.ntmps47
  go_wp2_with (go_at_call 42; refine (sCodeC_any ao n cap l t _ HN.out hr hs ht hm hcap hcm).mono ?_; rw [hc]; rintro e w1 ⟨rfl, hb1⟩; have hr1 := rd_below hr hb1)
  refine (sRead_any few ao n cap l t _ HN.out hr1 hs hok (by rw [HN.out]; exact h10) (by omega)).mono ?_
  rintro e w2 ⟨fo, fcap, rfl, hof, hb2⟩
  have hB := hb1.trans (hb2.mono hb1.size)
  have hz1 := hb1.size
  by_cases hneg : (fewL l t).getD 0 0 < 0
  · obtain ⟨q1, q2⟩ := hrn.out hneg
    have hR := hid (hRn.out q2 q1)
    rw [q2]
    clear q1 q2
    go_wp2_with fail
    go_ret2
    rw [hR.out.1, hR.out.2]
    exact ⟨none, 0, by simp [i64s], World.ownsRow_nil _ _ _ _, hB⟩
  · have q2 : readB l t = true := (readR_yes (few := few) hneg).2
    have hR := hid (hRy.out q2)
    rw [q2]
    clear q2
    go_wp2_with fail
    go_ret2
    rw [hR.out.1, hR.out.2]
    exact rowRet_mk (owns_mono hof hz1) hB
set_option maxHeartbeats 2000000 in
theorem first_any (ao : Option Addr) (n cap : Nat) (l : List ByteArray) (t : ByteArray) (w : World) (hn : n = l.length) (hr : Rd w ao (strs l)) (hs : ∀ x ∈ l, x.size ≤ maxLen) (ht : t.size ≤ maxLen) (hm : n ≤ 1048576) :
    Calls Try.prog 31 #[.slice ao n cap, .string t] w (RowRet w.heap.size 2 w (i64s (findL false l t)) (findC l t)) := by
  have HN := hid hn
  clear hn
  by_cases hc : codeC l t = 0
  case neg =>
    have hR := hid (find_bad (few := false) hc)
    obtain ⟨c, hcc⟩ : ∃ c, c = codeC l t := ⟨_, rfl⟩
    rw [← hcc] at hc hR
    have HCC := hid hcc
    clear hcc
    have hne : ((c : Int) != 0) = true := by simpa using hc
    go_enter Try.func31, Try.ntmps31
    go_wp2_with (go_at_call 43; refine (codeC_any ao n cap l t _ HN.out hr hs ht hm).mono ?_; rw [← HCC.out]; rintro e w1 ⟨rfl, hb1⟩)
    go_ret2
    rw [hR.out.1, hR.out.2]
    exact ⟨none, 0, by simp [i64s], World.ownsRow_nil _ _ _ _, hb1⟩
  obtain ⟨hok, htx⟩ := codeC_zero hc
  have h60 := text_size htx
  have h10 := codeOk_len hok
  have hRn := hid (fun h h3 => find_no (few := false) hc h h3)
  have hRy := hid (fun h => find_yes (few := false) hc h)
  have hrn := hid (fun h => readR_no (few := false) (l := l) (t := t) h)
  go_enter Try.func31, Try.ntmps31
  go_wp2_with (go_at_call 43; refine (codeC_any ao n cap l t _ HN.out hr hs ht hm).mono ?_; rw [hc]; rintro e w1 ⟨rfl, hb1⟩; have hr1 := rd_below hr hb1)
  refine (reading_any false ao n cap l t _ HN.out hr1 hs hok (by rw [HN.out]; exact h10) (by omega)).mono ?_
  rintro e w2 ⟨fo, fcap, rfl, hof, hb2⟩
  have hB := hb1.trans (hb2.mono hb1.size)
  have hz1 := hb1.size
  by_cases hneg : (fewL l t).getD 0 0 < 0
  · obtain ⟨q1, q2⟩ := hrn.out hneg
    have hR := hid (hRn.out q2 q1)
    rw [q2]
    clear q1 q2
    go_wp2_with fail
    go_ret2
    rw [hR.out.1, hR.out.2]
    exact ⟨none, 0, by simp [i64s], World.ownsRow_nil _ _ _ _, hB⟩
  · have q2 : readB l t = true := (readR_yes (few := false) hneg).2
    have hR := hid (hRy.out q2)
    rw [q2]
    clear q2
    go_wp2_with fail
    go_ret2
    rw [hR.out.1, hR.out.2]
    exact rowRet_mk (owns_mono hof hz1) hB
set_option maxHeartbeats 2000000 in
theorem fewest_any (ao : Option Addr) (n cap : Nat) (l : List ByteArray) (t : ByteArray) (w : World) (hn : n = l.length) (hr : Rd w ao (strs l)) (hs : ∀ x ∈ l, x.size ≤ maxLen) (ht : t.size ≤ maxLen) (hm : n ≤ 1048576) :
    Calls Try.prog 26 #[.slice ao n cap, .string t] w (RowRet w.heap.size 2 w (i64s (findL true l t)) (findC l t)) := by
  have HN := hid hn
  clear hn
  by_cases hc : codeC l t = 0
  case neg =>
    have hR := hid (find_bad (few := true) hc)
    obtain ⟨c, hcc⟩ : ∃ c, c = codeC l t := ⟨_, rfl⟩
    rw [← hcc] at hc hR
    have HCC := hid hcc
    clear hcc
    have hne : ((c : Int) != 0) = true := by simpa using hc
    go_enter Try.func26, Try.ntmps26
    go_wp2_with (go_at_call 43; refine (codeC_any ao n cap l t _ HN.out hr hs ht hm).mono ?_; rw [← HCC.out]; rintro e w1 ⟨rfl, hb1⟩)
    go_ret2
    rw [hR.out.1, hR.out.2]
    exact ⟨none, 0, by simp [i64s], World.ownsRow_nil _ _ _ _, hb1⟩
  obtain ⟨hok, htx⟩ := codeC_zero hc
  have h60 := text_size htx
  have h10 := codeOk_len hok
  have hRn := hid (fun h h3 => find_no (few := true) hc h h3)
  have hRy := hid (fun h => find_yes (few := true) hc h)
  have hrn := hid (fun h => readR_no (few := true) (l := l) (t := t) h)
  go_enter Try.func26, Try.ntmps26
  go_wp2_with (go_at_call 43; refine (codeC_any ao n cap l t _ HN.out hr hs ht hm).mono ?_; rw [hc]; rintro e w1 ⟨rfl, hb1⟩; have hr1 := rd_below hr hb1)
  refine (reading_any true ao n cap l t _ HN.out hr1 hs hok (by rw [HN.out]; exact h10) (by omega)).mono ?_
  rintro e w2 ⟨fo, fcap, rfl, hof, hb2⟩
  have hB := hb1.trans (hb2.mono hb1.size)
  have hz1 := hb1.size
  by_cases hneg : (fewL l t).getD 0 0 < 0
  · obtain ⟨q1, q2⟩ := hrn.out hneg
    have hR := hid (hRn.out q2 q1)
    rw [q2]
    clear q1 q2
    go_wp2_with fail
    go_ret2
    rw [hR.out.1, hR.out.2]
    exact ⟨none, 0, by simp [i64s], World.ownsRow_nil _ _ _ _, hB⟩
  · have q2 : readB l t = true := (readR_yes (few := true) hneg).2
    have hR := hid (hRy.out q2)
    rw [q2]
    clear q2
    go_wp2_with fail
    go_ret2
    rw [hR.out.1, hR.out.2]
    exact rowRet_mk (owns_mono hof hz1) hB
set_option maxHeartbeats 2000000 in
theorem sFirst_any (ao : Option Addr) (n cap : Nat) (l : List ByteArray) (t : ByteArray) (w : World) (hn : n = l.length) (hr : Rd w ao (strs l)) (hs : ∀ x ∈ l, x.size ≤ maxLen) (ht : t.size ≤ maxLen) (hm : n ≤ 1048576) (hcap : n ≤ cap) (hcm : cap ≤ maxLen) :
    Calls Try.prog 30 #[.slice ao n cap, .string t] w (RowRet w.heap.size 2 w (i64s (findL false l t)) (findC l t)) := by
  have HN := hid hn
  clear hn
  go_enter Try.func30, Try.ntmps30
  go_wp2_with fail
  refine (sFind_any false ao n cap l t _ HN.out hr hs ht hm hcap hcm).mono ?_
  rintro e w2 ⟨fo, fcap, rfl, hof, hb2⟩
  go_wp2_with fail
  go_ret2
  exact ⟨fo, fcap, rfl, hof, hb2⟩
set_option maxHeartbeats 2000000 in
theorem sFewest_any (ao : Option Addr) (n cap : Nat) (l : List ByteArray) (t : ByteArray) (w : World) (hn : n = l.length) (hr : Rd w ao (strs l)) (hs : ∀ x ∈ l, x.size ≤ maxLen) (ht : t.size ≤ maxLen) (hm : n ≤ 1048576) (hcap : n ≤ cap) (hcm : cap ≤ maxLen) :
    Calls Try.prog 25 #[.slice ao n cap, .string t] w (RowRet w.heap.size 2 w (i64s (findL true l t)) (findC l t)) := by
  have HN := hid hn
  clear hn
  go_enter Try.func25, Try.ntmps25
  go_wp2_with fail
  refine (sFind_any true ao n cap l t _ HN.out hr hs ht hm hcap hcm).mono ?_
  rintro e w2 ⟨fo, fcap, rfl, hof, hb2⟩
  go_wp2_with fail
  go_ret2
  exact ⟨fo, fcap, rfl, hof, hb2⟩
end Go.Proofs.Ytojbblbjobbcaaa
