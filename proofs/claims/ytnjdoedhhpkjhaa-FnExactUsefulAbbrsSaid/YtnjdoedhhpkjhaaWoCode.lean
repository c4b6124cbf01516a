/-
  The words of a text: the walks of noteWords, l16Words, strings.Join and l16Join, and the codes.
-/
import Derived.Test.YtnjdoedhhpkjhaaWoSplit
import Derived.Test.YtnjdoedhhpkjhaaWoJoin
import Derived.Test.YtnjdoedhhpkjhaaAdd
namespace Go.Proofs.Ytnjdoedhhpkjhaa
open Go.RowKit Go.ChangeShapes Go.WideShapes Go.Maps
set_option linter.unusedVariables false
attribute [local go_sem ↓] Go.wp_at_zero Go.wp_at_succ

def wd (x : ByteArray) : Bool := wordB x 30
def noteB (s : ByteArray) : Bool := decide (s.size ≤ 200) && okI wd s
def OkTo (l : List ByteArray) (k : Nat) : Prop := ∀ j (h : j < l.length), j < k → wd l[j] = true
theorem okTo_zero (l : List ByteArray) : OkTo l 0 := fun j _ h => absurd h (Nat.not_lt_zero j)
theorem okTo_next {l : List ByteArray} {k : Nat} (h : OkTo l k) (hk : k < l.length) (hw : wd l[k] = true) : OkTo l (k + 1) := fun j hj hjk => by
  by_cases e : j = k
  · subst e; exact hw
  · exact h j hj (by omega)
theorem okTo_all {l : List ByteArray} (h : OkTo l l.length) : l.all wd = true := by
  rw [List.all_eq_true]
  intro x hx
  obtain ⟨k, hk, rfl⟩ := List.getElem_of_mem hx
  exact h k hk hk
theorem all_bad {l : List ByteArray} {k : Nat} (hk : k < l.length) (hw : wd l[k] = false) : l.all wd = false := by
  cases h : l.all wd
  · rfl
  · rw [List.all_eq_true] at h
    rw [h _ (List.getElem_mem hk)] at hw
    cases hw
theorem wd_size {x : ByteArray} (h : wd x = true) : 1 ≤ x.size ∧ x.size ≤ 30 := by
  have := word_size (s := x) (m := 30) h
  omega
theorem wd_pos (x : ByteArray) (h : wd x = true) : 0 < x.size := (wd_size h).1
theorem note_empty {s : ByteArray} (h : s.size = 0) : noteB s = true ∧ wordsL s = [] := ⟨by unfold noteB; rw [okI_empty _ _ h, decide_eq_true (by omega)]; rfl, words_empty s h⟩
theorem note_bad {s : ByteArray} {k : Nat} (h0 : s.size ≠ 0) (hk : k < (splitL s 32).length) (hw : wd (splitL s 32)[k] = false) : noteB s = false := by
  unfold noteB
  rw [(ok_same wd wd_pos s h0).1, okS, all_bad hk hw, Bool.and_false]
theorem note_all {s : ByteArray} (h0 : s.size ≠ 0) (h : OkTo (splitL s 32) (splitL s 32).length) : noteB s = decide (s.size ≤ 200) ∧ wordsL s = splitL s 32 := by
  have := ok_same wd wd_pos s h0
  have h2 : okS wd s = true := okTo_all h
  exact ⟨by unfold noteB; rw [this.1, h2, Bool.and_true], this.2 h2⟩
theorem note_big {s : ByteArray} (h : 200 < s.size) : noteB s = false := by
  unfold noteB
  rw [decide_eq_false (by omega)]; rfl
theorem note_badW {s : ByteArray} {k : Nat} (hk : k < (wordsL s).length) (hw : wd (wordsL s)[k] = false) : noteB s = false := by
  unfold noteB okI
  rw [all_bad hk hw]; simp
theorem note_allW {s : ByteArray} (h200 : s.size ≤ 200) (h : OkTo (wordsL s) (wordsL s).length) : noteB s = decide (joinP (partsL (wordsL s)) = s.data.toList) := by
  unfold noteB okI
  rw [okTo_all h, decide_eq_true h200]; simp
theorem note_okTo {s : ByteArray} (h : noteB s = true) : ∀ x ∈ wordsL s, wd x = true := by
  unfold noteB okI at h
  simp only [Bool.and_eq_true] at h
  exact List.all_eq_true.1 h.2.1
theorem note_200 {s : ByteArray} (h : noteB s = true) : s.size ≤ 200 := by
  unfold noteB at h
  simp only [Bool.and_eq_true, decide_eq_true_eq] at h
  exact h.1
theorem spRun_sizes (s : ByteArray) (c : Int) (k : Nat) : ∀ x ∈ (spRun s c k).2, x.size ≤ s.size := by
  induction k with
  | zero => intro x hx; simp [spRun] at hx
  | succ k ih =>
    intro x hx
    rw [spRun, spStep] at hx
    split at hx
    · split at hx
      · rcases List.mem_append.1 hx with h | h
        · exact ih x h
        · rw [List.mem_singleton.1 h]; simp [ByteArray.size_extract]; omega
      · exact ih x hx
    · exact ih x hx
theorem split_sizes (s : ByteArray) : ∀ x ∈ splitL s 32, x.size ≤ s.size := by
  intro x hx
  rcases List.mem_append.1 hx with h | h
  · exact spRun_sizes s 32 _ x h
  · rw [List.mem_singleton.1 h]; simp [ByteArray.size_extract]
theorem words_sizes (s : ByteArray) : ∀ x ∈ wordsL s, x.size ≤ s.size := fun x hx => split_sizes s x (List.mem_filter.1 hx).1
theorem size_data (s : ByteArray) : s.toList.length = s.size := by rw [ByteArray.toList_eq]; simp
theorem emptyS_yes {s : ByteArray} (h : s.size = 0) : (s.toList == []) = true := by
  have := size_data s
  have e : s.toList = [] := List.eq_nil_of_length_eq_zero (by omega)
  rw [e]; rfl
theorem emptyS_no {s : ByteArray} (h : s.size ≠ 0) : (s.toList == []) = false := by
  have := size_data s
  cases e : s.toList with
  | nil => rw [e] at this; simp at this; omega
  | cons a r => rfl
theorem owns_blk {w : World} {B : Nat} {E : TypeId} {size g n c m : Nat} {xs : List Value} (h : w.ownsRow B E size (.slice (some ⟨g, 0, none⟩) n c) m xs) : g < w.heap.size := (h.lt g rfl).2
theorem owns_capW {w : World} {B : Nat} {E : TypeId} {size : Nat} {ao : Option Addr} {n cap m : Nat} {xs : List Value} (h : w.ownsRow B E size (.slice ao n cap) m xs) : n ≤ cap ∧ cap ≤ maxLen := by
  rcases owns_form h with ⟨hv, _, _⟩ | ⟨g, c, hv, _, _, hnc, hcm⟩
  · simp only [Value.slice.injEq] at hv
    obtain ⟨_, rfl, rfl⟩ := hv
    exact ⟨Nat.le_refl _, Nat.zero_le _⟩
  · simp only [Value.slice.injEq] at hv
    obtain ⟨_, rfl, rfl⟩ := hv
    exact ⟨hnc, hcm⟩
theorem split_len (s : ByteArray) : (splitL s 32).length ≤ s.size + 1 := by
  unfold splitL
  rw [List.length_append]
  have := (spRun_bd s 32 s.size).2
  simp; omega
theorem words_len (s : ByteArray) : (wordsL s).length ≤ s.size + 1 := Nat.le_trans (List.length_filter_le _ _) (split_len s)
theorem join_words_len (s : ByteArray) : (joinP (partsL (wordsL s))).length ≤ s.size := by
  have hj := join_split s
  have hs : s.data.toList.length = s.size := by simp
  have hne : partsL (splitL s 32) ≠ [] := by unfold partsL splitL; simp
  have a := joinP_len _ hne
  rw [hj, hs] at a
  have h2 := (sumP_full (partsL (splitL s 32))).1
  rw [← parts_full] at h2
  by_cases h : partsL (wordsL s) = []
  · rw [h]; simp [joinP]
  · have b := joinP_len _ h
    unfold wordsL at b ⊢
    omega
/-- texts, joined -/
def joinB (L : List ByteArray) : ByteArray := ⟨(joinP (partsL L)).toArray⟩
theorem joinB_data (L : List ByteArray) : (joinB L).data.toList = joinP (partsL L) := by simp [joinB]
theorem join_test (L : List ByteArray) (s : ByteArray) : decide (joinP (partsL L) = s.data.toList) = ((joinB L).toList == s.toList) := by
  rw [← joinB_data, ByteArray.toList_eq, ByteArray.toList_eq]
  by_cases h : (joinB L).data.toList = s.data.toList
  · rw [decide_eq_true h, h]; simp
  · rw [decide_eq_false h]
    symm
    simpa using h
theorem joinB_size (L : List ByteArray) : (joinB L).size = (joinP (partsL L)).length := by simp [joinB, ByteArray.size]
theorem ext_data {a b : ByteArray} (h : a.data.toList = b.data.toList) : a = b := ext_toL (by rw [ByteArray.toList_eq, ByteArray.toList_eq]; exact h)
theorem partsL_len (L : List ByteArray) : (partsL L).length = L.length := by simp [partsL]
theorem sumP_le : ∀ (L : List ByteArray) (m : Nat), (∀ x ∈ L, x.size ≤ m) → sumP (partsL L) ≤ L.length * (m + 1)
  | [], m, _ => by simp [partsL, sumP]
  | x :: L, m, h => by
    have ih := sumP_le L m (fun y hy => h y (List.mem_cons_of_mem _ hy))
    have hx := h x List.mem_cons_self
    have e : x.data.toList.length = x.size := by simp
    show x.data.toList.length + 1 + sumP (partsL L) ≤ (L.length + 1) * (m + 1)
    rw [Nat.add_mul, Nat.one_mul]
    omega
theorem join_le {L : List ByteArray} {m : Nat} (h : ∀ x ∈ L, x.size ≤ m) : (joinP (partsL L)).length ≤ L.length * (m + 1) := by
  by_cases hL : partsL L = []
  · rw [hL]; simp [joinP]
  · have a := joinP_len _ hL
    have b := sumP_le L m h
    omega
theorem append_data (a b : ByteArray) : (a ++ b).data.toList = a.data.toList ++ b.data.toList := by simp [ByteArray.data_append]
theorem joinB_next {L : List ByteArray} {k : Nat} (hk : k < L.length) (h0 : k ≠ 0) : joinB (L.take (k + 1)) = joinB (L.take k) ++ ⟨#[32]⟩ ++ L[k] := by
  apply ext_data
  rw [List.take_succ_eq_append_getElem hk, append_data, append_data, joinB_data, joinB_data]
  unfold partsL
  rw [List.map_append, List.map_cons, List.map_nil, joinP_snoc _ _ (by simp; exact ⟨h0, by intro e; rw [e] at hk; simp at hk⟩)]
  simp
theorem joinB_one {L : List ByteArray} (hk : 0 < L.length) : joinB (L.take (0 + 1)) = L[0] := by
  apply ext_data
  rw [List.take_succ_eq_append_getElem hk, joinB_data]
  simp [partsL, joinP]
theorem joinB_zero (L : List ByteArray) : joinB (L.take 0) = ⟨#[]⟩ := by simp [joinB, partsL, joinP]

theorem join_any (ao : Option Addr) (n cap : Nat) (L : List ByteArray) (w : World) (hn : n = L.length) (hr : Rd w ao (strs L)) (hcap : n ≤ cap) (hm : n ≤ 1000000) (hl : (joinP (partsL L)).length ≤ 1000000) :
    Calls Try.prog 85 #[.slice ao n cap, .string ⟨#[32]⟩] w fun e w' => e = .returned (.string (joinB L)) ∧ Below w.heap.size w w' := by
  subst hn
  have hj : Lib.join (L.map (·.data.toList)) (⟨#[32]⟩ : ByteArray).data.toList = joinP (partsL L) := join_same (partsL L)
  rcases rd_str hr with hnil | ⟨b, o, rfl, hbl, hcell⟩
  · subst hnil
    refine (shJoin_none ao cap ⟨#[32]⟩ w).mono ?_
    rintro e w' ⟨rfl, rfl⟩
    exact ⟨rfl, Below.refl _ _⟩
  · refine (shJoin b o cap L ⟨#[32]⟩ w ?_ hbl (by omega) hcap (by rw [hj]; omega)).mono ?_
    · intro j x hx
      obtain ⟨hjl, rfl⟩ := List.getElem?_eq_some_iff.1 hx
      exact hcell j hjl
    · rintro e w' ⟨rfl, hb⟩
      rw [hj]
      exact ⟨rfl, hb⟩

/-- words of a text in new memory, and whether it is one -/
def NoteRet (B : Nat) (w : World) (L : List ByteArray) (b : Bool) (e : Ending) (w' : World) : Prop :=
  ∃ v, e = .returned (.tuple #[v, .bool b]) ∧ Below B w w' ∧ (b = true → ∃ ao cap, v = .slice ao L.length cap ∧ w'.ownsRow B 9 1 (.slice ao L.length cap) L.length (strs L))
theorem note_no {B : Nat} {w w' : World} {L : List ByteArray} {b : Bool} (hb : b = false) (v : Value) (h : Below B w w') : NoteRet B w L b (.returned (.tuple #[v, .bool false])) w' := ⟨v, by rw [hb], h, fun h2 => by rw [hb] at h2; cases h2⟩
theorem note_row {B : Nat} {w w' : World} {L : List ByteArray} {b c : Bool} {ao : Option Addr} {n cap : Nat} (hb : b = c) (hn : n = L.length) (h : Below B w w') (ho : w'.ownsRow B 9 1 (.slice ao n cap) n (strs L)) : NoteRet B w L b (.returned (.tuple #[.slice ao n cap, .bool c])) w' := by
  subst hn
  exact ⟨_, by rw [hb], h, fun _ => ⟨ao, cap, rfl, ho⟩⟩

set_option maxRecDepth 100000 in
set_option maxHeartbeats 4000000 in
theorem noteWords_any (s : ByteArray) (w : World) (hs : s.size ≤ 1048576) : Calls Try.prog 59 #[.string s] w (NoteRet w.heap.size w (wordsL s) (noteB s)) := by
  by_cases hbig : 200 < s.size
  · have hR := hid (note_big hbig)
    have hb : (200 : Int) < (s.size : Int) := by omega
    go_enter Try.func59, Try.ntmps59
    go_wp2_with fail
    go_ret2
    exact note_no hR.out _ (Below.refl _ _)
  have hb : ¬ (200 : Int) < (s.size : Int) := by omega
  have hLn := words_len s
  have hjl := join_words_len s
  have hbadW := hid (fun k hk hw => note_badW (s := s) (k := k) hk hw)
  have hallW := hid (fun h => note_allW (s := s) (by omega) h)
  have hsz := hid (words_sizes s)
  have HS := splitW_any s
  obtain ⟨L, hL⟩ : ∃ L, L = wordsL s := ⟨_, rfl⟩
  rw [← hL] at hLn hjl hbadW hallW hsz ⊢
  simp only [← hL] at HS
  obtain ⟨n, hn⟩ : ∃ n, n = L.length := ⟨_, rfl⟩
  have HC : ∀ w, Calls Try.prog 83 #[.string s] w (fun e w' => ∃ ao cap, e = .returned (.slice ao n cap) ∧ w'.ownsRow w.heap.size 9 1 (.slice ao n cap) n (strs L) ∧ Below w.heap.size w w') := by
    intro w
    refine (HS w hs).mono ?_
    rintro e w1 ⟨ao, cap, rfl, h1, h2⟩
    rw [strs_len, ← hn] at h1 ⊢
    exact ⟨ao, cap, rfl, h1, h2⟩
  have HN := hid hn
  rw [← hn] at hLn
  clear hL HS hn
  go_enter Try.func59, Try.ntmps59
  go_wp2_with (go_at_call 83; refine (HC _).mono ?_; rintro e w1 ⟨ao, cap, rfl, ho1, hb1⟩)
  have hr1 := owns_rdN ho1
  have hcap := (owns_capW ho1).1
  have hrd := rd_str hr1
  go_loop [6, 14] (fun _ i => ∃ k : Nat, k ≤ n ∧ i = .int .i64 k ∧ OkTo L k) (fun _ i => n - (intOf i).toNat)
  case atStart => exact ⟨0, Nat.zero_le _, rfl, okTo_zero _⟩
  case round =>
    obtain ⟨k, hk, rfl, hN⟩ := hrel
    by_cases hlt : k < n
    · rcases hrd with hnil | ⟨b, o, rfl, hbl, hcell⟩
      · exact absurd (by rw [HN.out, hnil]; rfl : n = 0) (by omega)
      have hkl : k < L.length := by rw [← HN.out]; exact hlt
      have g1 := hcell k hkl
      have hk0 : (0 : Int) ≤ (k : Int) := by omega
      have hkn : (k : Int) < (n : Int) := by omega
      have hx : L[k].size ≤ maxLen := by have := hsz.out _ (List.getElem_mem hkl); unfold maxLen; omega
      have hnx := hid (okTo_next hN hkl)
      have hbd := hid (fun hw => hbadW.out k hkl hw)
      obtain ⟨x, hxx⟩ : ∃ x, x = L[k] := ⟨_, rfl⟩
      rw [← hxx] at g1 hx hnx hbd
      clear hxx hcell
      cases hw : wordB x 30
      · have hR := hid (hbd.out hw)
        go_wp2_with (go_at_call 84; refine (smallWord_b _ _ hx hw).mono ?_; rintro e w' ⟨rfl, rfl⟩)
        go_ret2
        exact note_no hR.out _ hb1
      · have hgood := hid (hnx.out hw)
        go_wp2_with (go_at_call 84; refine (smallWord_b _ _ hx hw).mono ?_; rintro e w' ⟨rfl, rfl⟩)
        go_round
        case rel => exact ⟨k + 1, by omega, by go_num, hgood.out⟩
        case measure => simp [intOf]; omega
    · obtain rfl : k = n := by omega
      have hR := hid (hallW.out (by rw [← HN.out]; exact hN))
      go_wp2_with (go_at_call 85; refine (join_any ao k cap L _ HN.out hr1 hcap (by omega) (by omega)).mono ?_; rintro e w2 ⟨rfl, hb2⟩)
      go_ret2
      exact note_row (by rw [hR.out]; exact join_test L s) HN.out (hb1.trans (hb2.mono hb1.size)) (owns_below ho1 hb2)

set_option maxRecDepth 100000 in
set_option maxHeartbeats 4000000 in
theorem sWords_any (s : ByteArray) (w : World) (hs : s.size ≤ 1048576) : Calls Try.prog 57 #[.string s] w (NoteRet w.heap.size w (wordsL s) (noteB s)) := by
  by_cases h0 : s.size = 0
  · have hR := hid (note_empty h0)
    have q2 := (emptyS_yes h0)
    clear h0
    go_enter Try.func57, Try.ntmps57
    go_wp2_with fail
    go_ret2
    rw [hR.out.2]
    refine ⟨.slice (some ⟨w.heap.size, 0, none⟩) 0 0, by rw [hR.out.1]; rfl, (Below.refl _ _).alloc (Nat.le_refl _) _, fun _ => ⟨_, _, rfl, ?_⟩⟩
    exact World.ownsRow_made _ _ 0 (Nat.le_refl _) (by unfold maxLen; omega) rfl
  have q2 := (emptyS_no h0)
  have hLn := split_len s
  have hsz := hid (split_sizes s)
  have hbadS := hid (fun k hk hw => note_bad (s := s) (k := k) h0 hk hw)
  have hallS := hid (fun h => note_all (s := s) h0 h)
  have HS := split_any s 32
  clear h0
  obtain ⟨L, hL⟩ : ∃ L, L = splitL s 32 := ⟨_, rfl⟩
  rw [← hL] at hLn hbadS hallS hsz
  simp only [← hL] at HS
  obtain ⟨n, hn⟩ : ∃ n, n = L.length := ⟨_, rfl⟩
  have HC : ∀ w, Calls Try.prog 80 #[.string s, .int .u8 32] w (fun e w' => ∃ ao cap, e = .returned (.slice ao n cap) ∧ w'.ownsRow w.heap.size 9 1 (.slice ao n cap) n (strs L) ∧ Below w.heap.size w w') := by
    intro w
    refine (HS w hs (by omega)).mono ?_
    rintro e w1 ⟨ao, cap, rfl, h1, h2⟩
    rw [strs_len, ← hn] at h1 ⊢
    exact ⟨ao, cap, rfl, h1, h2⟩
  have HN := hid hn
  rw [← hn] at hLn
  clear hL HS hn
  go_enter Try.func57, Try.ntmps57
  go_wp2_with (go_at_call 80; refine (HC _).mono ?_; rintro e w1 ⟨ao, cap, rfl, ho1, hb1⟩)
  have hr1 := owns_rdN ho1
  have hrd := rd_str hr1
  go_loop [5] (fun i => ∃ k : Nat, k ≤ n ∧ i = .int .i64 k ∧ OkTo L k) (fun i => n - (intOf i).toNat)
  case atStart => exact ⟨0, Nat.zero_le _, rfl, okTo_zero _⟩
  case round =>
    obtain ⟨k, hk, rfl, hN⟩ := hrel
    by_cases hlt : k < n
    · rcases hrd with hnil | ⟨b, o, rfl, hbl, hcell⟩
      · exact absurd (by rw [HN.out, hnil]; rfl : n = 0) (by omega)
      have hkl : k < L.length := by rw [← HN.out]; exact hlt
      have g1 := hcell k hkl
      have hk0 : (0 : Int) ≤ (k : Int) := by omega
      have hkn : (k : Int) < (n : Int) := by omega
      have hx : L[k].size ≤ maxLen := by have := hsz.out _ (List.getElem_mem hkl); unfold maxLen; omega
      have hnx := hid (okTo_next hN hkl)
      have hbd := hid (fun hw => hbadS.out k hkl hw)
      obtain ⟨x, hxx⟩ : ∃ x, x = L[k] := ⟨_, rfl⟩
      rw [← hxx] at g1 hx hnx hbd
      clear hxx hcell
      cases hw : wordB x 30
      · have hR := hid (hbd.out hw)
        go_wp2_with (go_at_call 81; refine (sWord_b _ _ _ hx hw).mono ?_; rintro e w' ⟨rfl, rfl⟩)
        go_ret2
        exact note_no hR.out _ hb1
      · have hgood := hid (hnx.out hw)
        go_wp2_with (go_at_call 81; refine (sWord_b _ _ _ hx hw).mono ?_; rintro e w' ⟨rfl, rfl⟩)
        go_round
        case rel => exact ⟨k + 1, by omega, by go_num, hgood.out⟩
        case measure => simp [intOf]; omega
    · obtain rfl : k = n := by omega
      have hR := hid (hallS.out (by rw [← HN.out]; exact hN))
      by_cases h200 : (s.size : Int) ≤ 200
      all_goals
        go_wp2_with fail
        go_ret2
        rw [hR.out.2]
        exact note_row (by rw [hR.out.1]; simp; omega) HN.out hb1 ho1
end Go.Proofs.Ytnjdoedhhpkjhaa
