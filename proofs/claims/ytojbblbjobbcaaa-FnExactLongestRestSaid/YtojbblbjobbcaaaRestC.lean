/-
  IsUnique, TwoReadings, LongestRest: the walks of both sides.
-/
import Derived.Test.YtojbblbjobbcaaaSpB
import Derived.Test.YtojbblbjobbcaaaCodeD
import Derived.Maps.StringElems
namespace Go.Proofs.Ytojbblbjobbcaaa
open Go.RowKit Go.ChangeShapes Go.WideShapes Go.Maps
set_option linter.unusedVariables false
attribute [local go_sem ↓] Go.wp_at_zero Go.wp_at_succ

theorem codeOk_8 {l : List ByteArray} (h : codeOk l = true) : ∀ x ∈ l, x.size ≤ 8 := by
  intro x hx
  obtain ⟨k, hk, rfl⟩ := List.getElem_of_mem hx
  unfold codeOk at h
  simp only [Bool.and_eq_true] at h
  have h1 : firstAt (badC l) l.length = none := by simpa using h.1
  unfold firstAt at h1
  rw [List.find?_range_eq_none] at h1
  have h2 := h1 k hk
  rw [badC_get hk] at h2
  cases ht : textB l[k] 33 8
  · rw [ht] at h2; simp at h2
  · simp only [textB, Bool.and_eq_true, decide_eq_true_eq] at ht
    omega
/-- there is a set of the least texts -/
theorem good_exists (l : List ByteArray) : ∃ S, Good l S := by
  have key : ∀ K : List ByteArray, ∃ S : List Am, (∀ x ∈ S, Got l x ∧ ∀ y, Got l y → y.2 = x.2 → rk x.1 ≤ rk y.1) ∧ (S.map (·.2)).Nodup ∧ (∀ y, Got l y → y.2 ∈ K → ∃ x ∈ S, x.2 = y.2) := by
    intro K
    induction K with
    | nil => exact ⟨[], (fun x h => by cases h), List.nodup_nil, (fun y _ h => by cases h)⟩
    | cons r K ih =>
      obtain ⟨S, h1, h2, h3⟩ := ih
      by_cases hin : r ∈ S.map (·.2)
      · refine ⟨S, h1, h2, fun y hy hk => ?_⟩
        rcases List.mem_cons.1 hk with e | hk
        · obtain ⟨x, hx, e2⟩ := List.mem_map.1 hin
          exact ⟨x, hx, e2.trans e.symm⟩
        · exact h3 y hy hk
      · by_cases hex : ∃ y, Got l y ∧ y.2 = r
        · obtain ⟨μ, hμ⟩ := least_fun (fun (m : Nat) (_ : Unit) => ∃ y, Got l y ∧ y.2 = r ∧ rk y.1 = m)
          obtain ⟨y0, hy0, e0⟩ := hex
          obtain ⟨⟨y, hy, ey, em⟩, hleast⟩ := hμ () ⟨_, y0, hy0, e0, rfl⟩
          refine ⟨S ++ [y], ?_, ?_, ?_⟩
          · intro x hx
            rcases List.mem_append.1 hx with hx | hx
            · exact h1 x hx
            · rw [List.mem_singleton.1 hx]
              refine ⟨hy, fun z hz e => ?_⟩
              have := hleast (rk z.1) ⟨z, hz, e.trans ey, rfl⟩
              omega
          · rw [List.map_append]
            exact nodup_snoc h2 (by show ¬ y.2 ∈ _; rw [ey]; exact hin)
          · intro z hz hk
            rcases List.mem_cons.1 hk with e | hk
            · exact ⟨y, by simp, ey.trans e.symm⟩
            · obtain ⟨x, hx, e⟩ := h3 z hz hk
              exact ⟨x, List.mem_append_left _ hx, e⟩
        · refine ⟨S, h1, h2, fun y hy hk => ?_⟩
          rcases List.mem_cons.1 hk with e | hk
          · exact absurd ⟨y, hy, e⟩ hex
          · exact h3 y hy hk
  obtain ⟨S, h1, h2, h3⟩ := key (sufs l)
  have hcov : ∀ y, Got l y → Cov S y := fun y hy => by
    obtain ⟨x, hx, e⟩ := h3 y hy (got_suf hy)
    exact ⟨x, hx, e, (h1 x hx).2 y hy e.symm⟩
  exact ⟨S, fun x hx => (h1 x hx).1, h2, fun x hx => hcov x (.start hx), fun x hx h0 w hw y hn => hcov y (.step (h1 x hx).1 h0 hw hn)⟩
theorem keyOn_good {l : List ByteArray} {S T : List Am} (hS : Good l S) (hT : Good l T) (r : ByteArray) : keyOn S r = keyOn T r := by
  rw [Bool.eq_iff_iff]
  constructor
  · intro h
    obtain ⟨x, hx, rfl⟩ := keyOn_mem h
    exact keyOn_of (good_mem hS hT hx)
  · intro h
    obtain ⟨x, hx, rfl⟩ := keyOn_mem h
    exact keyOn_of (good_mem hT hS hx)
theorem good_90 {l : List ByteArray} (h8 : ∀ w ∈ l, w.size ≤ 8) (h10 : l.length ≤ 10) {S : List Am} (h : Good l S) : S.length ≤ 90 := keys_90 h10 h8 h.sound h.keys
def nul : ByteArray := ⟨#[]⟩
theorem nul_size {x : ByteArray} (h : (x.toList == []) = true) : x = nul := tl_eq (by rw [show nul.toList = [] by unfold nul; rw [ByteArray.toList_eq]]; simpa using h)
/-- the text of a rest -/
def textAt (S : List Am) (r : ByteArray) : ByteArray := ((S.find? fun x => x.2.toList == r.toList).map (·.1)).getD nul
theorem textAt_mem {S : List Am} (hk : (S.map (·.2)).Nodup) {x : Am} (hx : x ∈ S) : textAt S x.2 = x.1 := by
  unfold textAt
  cases h : S.find? fun y => y.2.toList == x.2.toList with
  | none =>
    rw [List.find?_eq_none] at h
    have := h x hx
    simp at this
  | some y =>
    have h1 := List.find?_some h
    have h2 := List.mem_of_find?_eq_some h
    have e : y.2 = x.2 := tl_eq (by simpa using h1)
    rw [key_one hk y h2 x hx e]
    rfl
theorem textAt_good {l : List ByteArray} {S T : List Am} (hS : Good l S) (hT : Good l T) {r : ByteArray} (h : keyOn S r = true) : textAt S r = textAt T r := by
  obtain ⟨x, hx, rfl⟩ := keyOn_mem h
  rw [textAt_mem hS.keys hx, textAt_mem hT.keys (good_mem hS hT hx)]
def maxSz (S : List Am) : Nat := S.foldl (fun m x => max m x.2.size) 0
theorem maxSz_from (S : List Am) : ∀ m, (∀ x ∈ S, x.2.size ≤ S.foldl (fun m x => max m x.2.size) m) ∧ m ≤ S.foldl (fun m x => max m x.2.size) m ∧ (S.foldl (fun m x => max m x.2.size) m = m ∨ ∃ x ∈ S, x.2.size = S.foldl (fun m x => max m x.2.size) m) := by
  induction S with
  | nil => intro m; exact ⟨(fun x h => by cases h), Nat.le_refl _, .inl rfl⟩
  | cons y S ih =>
    intro m
    obtain ⟨h1, h2, h3⟩ := ih (max m y.2.size)
    rw [List.foldl_cons]
    refine ⟨?_, by omega, ?_⟩
    · intro x hx
      rcases List.mem_cons.1 hx with rfl | hx
      · omega
      · exact h1 x hx
    · rcases h3 with h3 | ⟨x, hx, e⟩
      · rcases Nat.le_total m y.2.size with h4 | h4
        · exact .inr ⟨y, List.mem_cons_self, by omega⟩
        · exact .inl (by omega)
      · exact .inr ⟨x, List.mem_cons_of_mem _ hx, e⟩
theorem max_is {S : List Am} {m : Nat} (h1 : ∀ x ∈ S, x.2.size ≤ m) (h2 : m = 0 ∨ ∃ x ∈ S, x.2.size = m) : maxSz S = m := by
  obtain ⟨k1, _, k3⟩ := maxSz_from S 0
  unfold maxSz
  rcases h2 with rfl | ⟨x, hx, e⟩
  · rcases k3 with k3 | ⟨y, hy, k3⟩
    · exact k3
    · have := h1 y hy; omega
  · have h4 := k1 x hx
    rcases k3 with k3 | ⟨y, hy, k3⟩
    · omega
    · have := h1 y hy; omega
theorem max_good {l : List ByteArray} {S T : List Am} (hS : Good l S) (hT : Good l T) : maxSz S = maxSz T := by
  obtain ⟨k1, _, k3⟩ := maxSz_from T 0
  refine max_is (fun x hx => k1 x (good_mem hS hT hx)) ?_
  rcases k3 with k3 | ⟨x, hx, k3⟩
  · exact .inl k3
  · exact .inr ⟨x, good_mem hT hS hx, k3⟩

def uniqR (l : List ByteArray) (S : List Am) : Bool × Int := if codeOk l = true then (!(keyOn S nul), 0) else (false, 1)
def twoR (l : List ByteArray) (S : List Am) : ByteArray × Int := if codeOk l = true then (if keyOn S nul = true then (textAt S nul, 0) else (nul, 3)) else (nul, 1)
def longR (l : List ByteArray) (S : List Am) : Int × Int := if codeOk l = true then (if keyOn S nul = true then (0, 9) else ((maxSz S : Int), 0)) else (0, 1)
theorem uniq_bad {l : List ByteArray} {S : List Am} (h : codeOk l = false) : uniqR l S = (false, 1) := by simp [uniqR, h]
theorem uniq_ok {l : List ByteArray} {S T : List Am} (h : codeOk l = true) (hS : Good l S) (hT : Good l T) {b : Bool} (hb : keyOn T nul = b) : uniqR l S = (!b, 0) := by simp [uniqR, h, keyOn_good hS hT, hb]
theorem two_bad {l : List ByteArray} {S : List Am} (h : codeOk l = false) : twoR l S = (nul, 1) := by simp [twoR, h]
theorem two_none {l : List ByteArray} {S T : List Am} (h : codeOk l = true) (hS : Good l S) (hT : Good l T) (hb : keyOn T nul = false) : twoR l S = (nul, 3) := by simp [twoR, h, keyOn_good hS hT, hb]
theorem two_some {l : List ByteArray} {S T : List Am} (h : codeOk l = true) (hS : Good l S) (hT : Good l T) {t : ByteArray} (hx : (t, nul) ∈ T) : twoR l S = (t, 0) := by
  have hb := keyOn_of hx
  rw [← keyOn_good hS hT] at hb
  have e : textAt S nul = t := by rw [textAt_good hS hT hb]; exact textAt_mem hT.keys hx
  simp only at hb
  simp [twoR, h, hb, e]
theorem long_bad {l : List ByteArray} {S : List Am} (h : codeOk l = false) : longR l S = (0, 1) := by simp [longR, h]
theorem long_clash {l : List ByteArray} {S T : List Am} (h : codeOk l = true) (hS : Good l S) (hT : Good l T) (hb : keyOn T nul = true) : longR l S = (0, 9) := by simp [longR, h, keyOn_good hS hT, hb]
theorem long_ok {l : List ByteArray} {S T : List Am} (h : codeOk l = true) (hS : Good l S) (hT : Good l T) (hb : keyOn T nul = false) {m : Nat} (h1 : ∀ x ∈ T, x.2.size ≤ m) (h2 : m = 0 ∨ ∃ x ∈ T, x.2.size = m) : longR l S = ((m : Int), 0) := by
  have e : maxSz S = m := (max_good hS hT).trans (max_is h1 h2)
  simp [longR, h, keyOn_good hS hT, hb, e]

/-- 'v, ok := m[k]', the text known -/
theorem wpList_lookup_ok_s {H : Type} {P : Program} (w : World) {ops : Array Oper} {rest : List Oper} {o : Oper} {a : Act} {Q : Exit → Act → World → Prop} (hg : o.guard = none) (m x : Operand) (t : TypeId) (hop : o.op = Op.lookup t m x true)
    (k e : TypeId) (K : Keyed P k) (ht : P.underlying t = some (.map k e)) (he : P.underlying e = some .string) (hz : (zeroValue e).run P w = .ok (.string ByteArray.empty) w) (b n : Nat) (D : DataW H)
    (hm : a.eval m = .map (some b)) (hown : w.ownsMap P k (plainElem P e) b n D) (key : Value) (kl : Lit) (hx : a.eval x = key) (hkey : keyOf P k key = some kl) (c : Bool) (hc : Maps.has D kl = c) (s : ByteArray) (hat : D.atKey kl (.lit (.string [])) = .lit (.string s.data.toList))
    (hK : wpList P ops Q rest (a.put o.dst (.tuple #[.string s, .bool c])) w) :
    wpList P ops Q (o :: rest) a w := by
  subst hc
  refine wpList_lookup_own_ok w hg m x t hop k e K ht (plainElem P e) hz (.lit (.string [])) [] (plainElem_string he (by decide)) b n D hm hown key kl hx hkey fun v ps hv => ?_
  obtain ⟨s', rfl, hz2, _⟩ := plainElem_string_inv he hv
  simp only [Prod.mk.injEq] at hz2
  rw [hat] at hz2
  have e2 : s = s' := data_inj (by simpa using hz2.1)
  rw [← e2]
  exact hK
theorem keyOf_string_inv {P : Program} {k : TypeId} (hk : P.underlying k = some .string) {key : Value} {kl : Lit} (h : keyOf P k key = some kl) : ∃ x : ByteArray, key = .string x ∧ kl = .string x.data.toList ∧ x.size ≤ maxLen := by
  cases key <;> simp [keyOf, hk, mapKey] at h
  exact ⟨_, rfl, h.2.symm, h.1⟩
/-- a range's step over a map from texts to texts -/
theorem wpList_next_ranges_ss {H : Type} {P : Program} (w : World) {ops : Array Oper} {rest : List Oper} {o : Oper} {a : Act} {Q : Exit → Act → World → Prop}
    (hg : o.guard = none) (it : Operand) (hop : o.op = Op.next it false) (k e : TypeId) (K : Keyed P k) (hk : P.underlying k = some .string) (he : P.underlying e = some .string)
    (b r n : Nat) (D : DataW H) (left : Lit → Bool) (cnt : Nat) (hit : a.eval it = .pointer (some ⟨r, 0, none⟩)) (h : w.ranges P k (plainElem P e) b r n D left cnt)
    (hDone : cnt = 0 → (∀ kl, left kl = false) → wpList P ops Q rest (a.put o.dst (.tuple #[.bool false])) w)
    (hMore : ∀ (x c : ByteArray) (w' : World) (cnt' : Nat), x.size ≤ maxLen → left (.string x.data.toList) = true → Maps.has D (.string x.data.toList) = true → w'.ranges P k (plainElem P e) b r n D (fun z => left z && !z.sameKey (.string x.data.toList)) cnt' → cnt' < cnt →
      w.grownBy w' (some r) → w'.heap.size = w.heap.size → (Instr.entry (.pointer (some ⟨r, 0, none⟩))).run P w' = .ok (.tuple #[.string x, .string c]) w' → wpList P ops Q rest (a.put o.dst (.tuple #[.bool true, .string x, .string c])) w') :
    wpList P ops Q (o :: rest) a w :=
  wpList_next_ranges w hg it hop k K (plainElem P e) Value.string Value.string (fun key kl hkey => by obtain ⟨x, rfl, _⟩ := keyOf_string_inv hk hkey; exact ⟨x, rfl⟩) (fun v y hv => by obtain ⟨c, rfl, _⟩ := plainElem_string_inv he hv; exact ⟨c, rfl⟩)
    b r n D left cnt hit h hDone (fun x c kl y w' cnt' hkey hlk hv hat hrg hlt hgr hsz hen => by
      obtain ⟨x', ex, rfl, hwx⟩ := keyOf_string_inv hk hkey
      cases ex
      exact hMore x c w' cnt' hwx hlk (has_true_of_atKey hat) hrg hlt hgr hsz hen)

theorem nul_ok : nul.size ≤ maxLen := by decide
theorem mem_nul {S : List Am} (h : keyOn S nul = true) : ∃ t, (t, nul) ∈ S := by
  obtain ⟨⟨t, r⟩, hx, e⟩ := keyOn_mem h
  simp only at e
  subst e
  exact ⟨t, hx⟩

set_option maxHeartbeats 4000000 in
theorem unique_any (S0 : List Am) (ao : Option Addr) (n cap : Nat) (l : List ByteArray) (w : World) (hS0 : Good l S0) (hn : n = l.length) (hr : Rd w ao (strs l)) (hs : ∀ x ∈ l, x.size ≤ maxLen) (hm : n ≤ 1048576) :
    Calls Try.prog 33 #[.slice ao n cap] w fun e w' => e = .returned (.tuple #[.bool (uniqR l S0).1, .int .i64 (uniqR l S0).2]) ∧ Below w.heap.size w w' := by
  have HN := hid hn
  clear hn
  cases hok : codeOk l
  · have hR := hid (uniq_bad (S := S0) hok)
    go_enter Try.func33, Try.ntmps33
    go_wp2_with (go_at_call 15; refine (code_any ao n cap l _ HN.out hr hs hm).mono ?_; rw [hok]; rintro e w1 ⟨rfl, hb1⟩)
    go_ret2
    exact ⟨by simp [hR.out], hb1⟩
  have H8 := hid (codeOk_8 hok)
  have h10 := codeOk_len hok
  have H10 := hid h10
  rw [← HN.out] at h10
  have hkey := keyStr nul_ok
  cases hk : keyOn S0 nul
  all_goals
    have hR := hid (uniq_ok hok hS0 hS0 hk)
    go_enter Try.func33, Try.ntmps33
    go_wp2_with (first | (go_at_call 15; refine (code_any ao n cap l _ HN.out hr hs hm).mono ?_; rw [hok]; rintro e w1 ⟨rfl, hb1⟩; have hr1 := rd_below hr hb1) | (go_at_call 52; refine (restTexts_any ao n cap l _ HN.out hr1 H8.out h10).mono ?_; rintro e w2 ⟨bm, D, rfl, hgd, hmap, hbm, hb2⟩; have hhas : Maps.has (mapA D) (.string nul.data.toList) = _ := (mapA_has D nul).trans ((keyOn_good hgd hS0 nul).trans hk)) | (at_lookup; refine wpList_lookup_ok_b _ rfl _ _ 60 rfl 9 9 (string_keyed Try.underlying9) Try.underlying60 (plainElem Try.prog 9) (Try.zeroStr _) _ [] (plainElem_string Try.underlying9 (by decide)) bm D.length (mapA D) rfl hmap (.string nul) _ rfl hkey _ hhas ?_; intro v ps hv))
    go_ret2
    exact ⟨by simp [hR.out], hb1.trans (hb2.mono hb1.size)⟩

set_option maxHeartbeats 4000000 in
theorem two_any (S0 : List Am) (ao : Option Addr) (n cap : Nat) (l : List ByteArray) (w : World) (hS0 : Good l S0) (hn : n = l.length) (hr : Rd w ao (strs l)) (hs : ∀ x ∈ l, x.size ≤ maxLen) (hm : n ≤ 1048576) :
    Calls Try.prog 35 #[.slice ao n cap] w fun e w' => e = .returned (.tuple #[.string (twoR l S0).1, .int .i64 (twoR l S0).2]) ∧ Below w.heap.size w w' := by
  have HN := hid hn
  clear hn
  cases hok : codeOk l
  · have hR := hid (two_bad (S := S0) hok)
    go_enter Try.func35, Try.ntmps35
    go_wp2_with (go_at_call 15; refine (code_any ao n cap l _ HN.out hr hs hm).mono ?_; rw [hok]; rintro e w1 ⟨rfl, hb1⟩)
    go_ret2
    exact ⟨by simp [hR.out, nul], hb1⟩
  have H8 := hid (codeOk_8 hok)
  have h10 := codeOk_len hok
  have H10 := hid h10
  rw [← HN.out] at h10
  have hkey := keyStr nul_ok
  cases hk : keyOn S0 nul
  · have hR := hid (two_none hok hS0 hS0 hk)
    go_enter Try.func35, Try.ntmps35
    go_wp2_with (first | (go_at_call 15; refine (code_any ao n cap l _ HN.out hr hs hm).mono ?_; rw [hok]; rintro e w1 ⟨rfl, hb1⟩; have hr1 := rd_below hr hb1) | (go_at_call 52; refine (restTexts_any ao n cap l _ HN.out hr1 H8.out h10).mono ?_; rintro e w2 ⟨bm, D, rfl, hgd, hmap, hbm, hb2⟩; have hhas : Maps.has (mapA D) (.string nul.data.toList) = _ := (mapA_has D nul).trans ((keyOn_good hgd hS0 nul).trans hk)) | (at_lookup; refine wpList_lookup_ok_b _ rfl _ _ 60 rfl 9 9 (string_keyed Try.underlying9) Try.underlying60 (plainElem Try.prog 9) (Try.zeroStr _) _ [] (plainElem_string Try.underlying9 (by decide)) bm D.length (mapA D) rfl hmap (.string nul) _ rfl hkey _ hhas ?_; intro v ps hv))
    go_ret2
    exact ⟨by simp [hR.out, nul], hb1.trans (hb2.mono hb1.size)⟩
  · obtain ⟨t, ht⟩ := mem_nul hk
    have hR := hid (two_some hok hS0 hS0 ht)
    go_enter Try.func35, Try.ntmps35
    go_wp2_with (first | (go_at_call 15; refine (code_any ao n cap l _ HN.out hr hs hm).mono ?_; rw [hok]; rintro e w1 ⟨rfl, hb1⟩; have hr1 := rd_below hr hb1) | (go_at_call 52; refine (restTexts_any ao n cap l _ HN.out hr1 H8.out h10).mono ?_; rintro e w2 ⟨bm, D, rfl, hgd, hmap, hbm, hb2⟩; have hhas : Maps.has (mapA D) (.string nul.data.toList) = _ := (mapA_has D nul).trans ((keyOn_good hgd hS0 nul).trans hk); have hat := mapA_at hgd.keys (good_mem hS0 hgd ht) (.lit (.string []))) | (at_lookup; refine wpList_lookup_ok_s _ rfl _ _ 60 rfl 9 9 (string_keyed Try.underlying9) Try.underlying60 Try.underlying9 (Try.zeroStr _) bm D.length (mapA D) rfl hmap (.string nul) _ rfl hkey _ hhas t hat ?_))
    go_ret2
    exact ⟨by simp [hR.out], hb1.trans (hb2.mono hb1.size)⟩

theorem idx_false {S : List Am} {r : ByteArray} (h : keyOn S r = false) : idxI (keysL S) r = -1 := by
  rcases idx_cases S r with ⟨_, h2⟩ | ⟨j, hj, _, h3⟩
  · exact h2
  · have := keyOn_of (List.getElem_mem hj)
    rw [h3, h] at this; cases this
theorem idx_true {S : List Am} {r : ByteArray} (h : keyOn S r = true) : ∃ j, ∃ hj : j < S.length, idxI (keysL S) r = (j : Int) ∧ S[j].2 = r := by
  rcases idx_cases S r with ⟨h1, _⟩ | h2
  · rw [h] at h1; cases h1
  · exact h2
theorem two_at {l : List ByteArray} {S S0 : List Am} {t r : ByteArray} (hS : Good l S) (hS0 : Good l S0) (ht : (t, r) ∈ S0) {j : Nat} (hj : j < S.length) (e : S[j].2 = r) : S[j].1 = t := by
  have := key_one hS.keys _ (List.getElem_mem hj) _ (good_mem hS0 hS ht) e
  rw [this]
set_option maxHeartbeats 4000000 in
theorem sUnique_any (S0 : List Am) (ao : Option Addr) (n cap : Nat) (l : List ByteArray) (w : World) (hS0 : Good l S0) (hn : n = l.length) (hr : Rd w ao (strs l)) (hs : ∀ x ∈ l, x.size ≤ maxLen) (hm : n ≤ 1048576) (hcap : n ≤ cap) (hcm : cap ≤ maxLen) :
    Calls Try.prog 32 #[.slice ao n cap] w fun e w' => e = .returned (.tuple #[.bool (uniqR l S0).1, .int .i64 (uniqR l S0).2]) ∧ Below w.heap.size w w' := by
  have HN := hid hn
  clear hn
  cases hok : codeOk l
  · have hR := hid (uniq_bad (S := S0) hok)
    go_enter Try.func32, Try.ntmps32
    go_wp2_with (go_at_call 38; refine (sCode_any ao n cap l _ HN.out hr hs hm hcap hcm).mono ?_; rw [hok]; rintro e w1 ⟨rfl, hb1⟩)
    go_ret2
    exact ⟨by simp [hR.out], hb1⟩
  have H8 := hid (codeOk_8 hok)
  have h10 := codeOk_len hok
  have H10 := hid h10
  rw [← HN.out] at h10
  cases hk : keyOn S0 nul
  all_goals
    have hR := hid (uniq_ok hok hS0 hS0 hk)
    go_enter Try.func32, Try.ntmps32
    go_wp2_with (first | (go_at_call 38; refine (sCode_any ao n cap l _ HN.out hr hs hm hcap hcm).mono ?_; rw [hok]; rintro e w1 ⟨rfl, hb1⟩; have hr1 := rd_below hr hb1) | (go_at_call 51; refine (sRests_any ao n cap l _ HN.out hr1 H8.out h10).mono ?_; rintro e w2 ⟨p, S, rfl, hgd, ⟨ra, rc, ta, tc, H⟩, hb2⟩; have q0 := H.c0; have hkS := (keyOn_good hgd hS0 nul).trans hk; have h90 := good_90 H8.out H10.out hgd) | (go_at_call 50; refine (index_b ra S.length rc (keysL S) nul _ (keysL_len S).symm (owns_rdN H.rrow) (by omega) rfl).mono ?_; rintro e w3 ⟨rfl, rfl⟩))
    have hlt : decide (idxI (keysL S) nul < 0) = !(keyOn S nul) := by
      rcases idx_cases S nul with ⟨h1, h2⟩ | ⟨j, hj, h2, h3⟩
      · rw [h1, h2]; rfl
      · have := keyOn_of (List.getElem_mem hj)
        rw [h3] at this
        rw [this, h2]; simp
    rw [hkS] at hlt
    go_ret2
    exact ⟨by rw [hR.out]; simpa using hlt, hb1.trans (hb2.mono hb1.size)⟩

theorem rs_rd {B p : Nat} {S : List Am} {b : Bool} {w : World} {ra : Option Addr} {rc : Nat} (h : RsAt B p S b w) (q0 : w.cell? ⟨p, 0, none⟩ = some (.slice ra S.length rc)) : Rd w ra (strs (keysL S)) := by
  obtain ⟨ra', rc', ta, tc, H⟩ := h
  have := H.c0
  rw [q0] at this
  simp only [Option.some.injEq, Value.slice.injEq] at this
  obtain ⟨rfl, _, _⟩ := this
  exact owns_rdN H.rrow
set_option maxHeartbeats 4000000 in
theorem sTwo_any (S0 : List Am) (ao : Option Addr) (n cap : Nat) (l : List ByteArray) (w : World) (hS0 : Good l S0) (hn : n = l.length) (hr : Rd w ao (strs l)) (hs : ∀ x ∈ l, x.size ≤ maxLen) (hm : n ≤ 1048576) (hcap : n ≤ cap) (hcm : cap ≤ maxLen) :
    Calls Try.prog 34 #[.slice ao n cap] w fun e w' => e = .returned (.tuple #[.string (twoR l S0).1, .int .i64 (twoR l S0).2]) ∧ Below w.heap.size w w' := by
  have HN := hid hn
  clear hn
  cases hok : codeOk l
  · have hR := hid (two_bad (S := S0) hok)
    go_enter Try.func34, Try.ntmps34
    go_wp2_with (go_at_call 38; refine (sCode_any ao n cap l _ HN.out hr hs hm hcap hcm).mono ?_; rw [hok]; rintro e w1 ⟨rfl, hb1⟩)
    go_ret2
    exact ⟨by simp [hR.out, nul], hb1⟩
  have H8 := hid (codeOk_8 hok)
  have h10 := codeOk_len hok
  have H10 := hid h10
  rw [← HN.out] at h10
  cases hk : keyOn S0 nul
  · have hR := hid (two_none hok hS0 hS0 hk)
    go_enter Try.func34, Try.ntmps34
    go_wp2_with (first | (go_at_call 38; refine (sCode_any ao n cap l _ HN.out hr hs hm hcap hcm).mono ?_; rw [hok]; rintro e w1 ⟨rfl, hb1⟩; have hr1 := rd_below hr hb1) | (go_at_call 51; refine (sRests_any ao n cap l _ HN.out hr1 H8.out h10).mono ?_; rintro e w2 ⟨p, S, rfl, hgd, ⟨ra, rc, ta, tc, H⟩, hb2⟩; have q0 := H.c0; have hix := idx_false ((keyOn_good hgd hS0 nul).trans hk); have h90 := good_90 H8.out H10.out hgd) | (go_at_call 50; refine (index_b ra S.length rc (keysL S) nul _ (keysL_len S).symm (owns_rdN H.rrow) (by omega) hix).mono ?_; rintro e w3 ⟨rfl, rfl⟩))
    go_ret2
    exact ⟨by simp [hR.out, nul], hb1.trans (hb2.mono hb1.size)⟩
  · obtain ⟨t, ht⟩ := mem_nul hk
    have hR := hid (two_some hok hS0 hS0 ht)
    go_enter Try.func34, Try.ntmps34
    go_wp2_with (first | (go_at_call 38; refine (sCode_any ao n cap l _ HN.out hr hs hm hcap hcm).mono ?_; rw [hok]; rintro e w1 ⟨rfl, hb1⟩; have hr1 := rd_below hr hb1) | (go_at_call 51; refine (sRests_any ao n cap l _ HN.out hr1 H8.out h10).mono ?_; rintro e w2 ⟨p, S, rfl, hgd, hrs, hb2⟩; obtain ⟨j, hj, hix, hjr⟩ := idx_true ((keyOn_good hgd hS0 nul).trans hk); have h90 := good_90 H8.out H10.out hgd; obtain ⟨ra, rc, ta, tc, q0, q1, q2, _, hrows⟩ := hrs.parts; obtain ⟨gr, gt, rfl, rfl, hcellS⟩ := hrows.resolve_left (by omega); have d1 := (hcellS j hj).2; rw [two_at hgd hS0 ht hj hjr] at d1; have hrdk := rs_rd hrs q0; have hj0 := Int.natCast_nonneg j; have hj1 := Int.ofNat_lt.2 hj) | (go_at_call 50; refine (index_b _ S.length rc (keysL S) nul _ (keysL_len S).symm hrdk (by omega) hix).mono ?_; rintro e w3 ⟨rfl, rfl⟩))
    go_ret2
    exact ⟨by simp [hR.out, two_at hgd hS0 ht hj hjr], hb1.trans (hb2.mono hb1.size)⟩

def MaxTo (S : List Am) (k m : Nat) : Prop := (∀ j (h : j < S.length), j < k → S[j].2.size ≤ m) ∧ (m = 0 ∨ ∃ j, ∃ h : j < S.length, j < k ∧ S[j].2.size = m)
theorem maxTo_zero (S : List Am) : MaxTo S 0 0 := ⟨fun j _ h => absurd h (Nat.not_lt_zero j), .inl rfl⟩
theorem maxTo_next {S : List Am} {k m : Nat} (h : MaxTo S k m) (hk : k < S.length) : MaxTo S (k + 1) (max m S[k].2.size) := by
  obtain ⟨h1, h2⟩ := h
  refine ⟨fun j hj hjk => ?_, ?_⟩
  · by_cases e : j = k
    · subst e; omega
    · have := h1 j hj (by omega); omega
  · rcases Nat.le_total m S[k].2.size with h3 | h3
    · exact .inr ⟨k, hk, by omega, by omega⟩
    · rcases h2 with h2 | ⟨j, hj, hjk, e⟩
      · exact .inl (by omega)
      · exact .inr ⟨j, hj, by omega, by omega⟩

set_option maxHeartbeats 4000000 in
theorem sLong_any (S0 : List Am) (ao : Option Addr) (n cap : Nat) (l : List ByteArray) (w : World) (hS0 : Good l S0) (hn : n = l.length) (hr : Rd w ao (strs l)) (hs : ∀ x ∈ l, x.size ≤ maxLen) (hm : n ≤ 1048576) (hcap : n ≤ cap) (hcm : cap ≤ maxLen) :
    Calls Try.prog 36 #[.slice ao n cap] w fun e w' => e = .returned (.tuple #[.int .i64 (longR l S0).1, .int .i64 (longR l S0).2]) ∧ Below w.heap.size w w' := by
  have HN := hid hn
  clear hn
  cases hok : codeOk l
  · have hR := hid (long_bad (S := S0) hok)
    go_enter Try.func36, Try.ntmps36
    go_wp2_with (go_at_call 38; refine (sCode_any ao n cap l _ HN.out hr hs hm hcap hcm).mono ?_; rw [hok]; rintro e w1 ⟨rfl, hb1⟩)
    go_ret2
    exact ⟨by simp [hR.out], hb1⟩
  have H8 := hid (codeOk_8 hok)
  have h10 := codeOk_len hok
  have H10 := hid h10
  rw [← HN.out] at h10
  go_enter Try.func36, Try.ntmps36
  go_wp2_with (first | (go_at_call 38; refine (sCode_any ao n cap l _ HN.out hr hs hm hcap hcm).mono ?_; rw [hok]; rintro e w1 ⟨rfl, hb1⟩; have hr1 := rd_below hr hb1) | (go_at_call 51; refine (sRests_any ao n cap l _ HN.out hr1 H8.out h10).mono ?_; rintro e w2 ⟨p, S, rfl, hgd, hrs, hb2⟩; have h90 := good_90 H8.out H10.out hgd; obtain ⟨ra, rc, ta, tc, q0, q1, q2, _, hrows⟩ := hrs.parts))
  have hbb := hb1.trans (hb2.mono hb1.size)
  clear hr hr1
  go_loop [5, 6] (fun v i => ∃ k m : Nat, k ≤ S.length ∧ i = .int .i64 k ∧ v = .int .i64 m ∧ m ≤ 8 ∧ MaxTo S k m ∧ ∀ j (h : j < S.length), j < k → S[j].2.size ≠ 0) (fun _ i => S.length - (intOf i).toNat)
  case atStart => exact ⟨0, 0, Nat.zero_le _, rfl, rfl, by omega, maxTo_zero _, fun j _ h => absurd h (Nat.not_lt_zero j)⟩
  case round =>
    obtain ⟨k, m, hk, rfl, rfl, hm8, hmx, hne⟩ := hrel
    have hk0 : (0 : Int) ≤ (k : Int) := by omega
    by_cases hlt : k < S.length
    · obtain ⟨gr, gt, rfl, rfl, hcellS⟩ := hrows.resolve_left (by omega)
      have d0 := (hcellS k hlt).1
      have hk1 : (k : Int) < (S.length : Int) := by omega
      have hz8 := got_size H8.out (hgd.sound _ (List.getElem_mem hlt))
      have hnx := hid (maxTo_next hmx hlt)
      have hin := hid (keyOn_of (List.getElem_mem hlt))
      obtain ⟨r, hr⟩ : ∃ r, r = S[k].2 := ⟨_, rfl⟩
      rw [← hr] at d0 hz8 hnx hin
      have HR := hid hr
      clear hr hcellS
      rcases emptyT_cases r with ⟨hz', he⟩ | ⟨hz', he⟩
      · have hR := hid (long_clash hok hS0 hgd (by rw [← nul_size he]; exact hin.out))
        clear hz'
        go_wp2_with fail
        go_ret2
        exact ⟨by simp [hR.out], hbb⟩
      · have hne' := hid (show ∀ j (h : j < S.length), j < k + 1 → S[j].2.size ≠ 0 from fun j hj hjk => by
          by_cases e : j = k
          · subst e; rw [← HR.out]; exact hz'
          · exact hne j hj (by omega))
        clear hz'
        by_cases hmr : m < r.size
        · have hmr1 : (m : Int) < (r.size : Int) := by omega
          go_wp2_with fail
          go_round
          case rel => exact ⟨k + 1, max m r.size, by omega, by go_num, by go_num, by omega, hnx.out, hne'.out⟩
          case measure => simp [intOf]; omega
        · have hmr1 : ¬ (m : Int) < (r.size : Int) := by omega
          go_wp2_with fail
          go_round
          case rel => exact ⟨k + 1, max m r.size, by omega, by go_num, by go_num, by omega, hnx.out, hne'.out⟩
          case measure => simp [intOf]; omega
    · have hke : k = S.length := by omega
      have hk1 : ¬ (k : Int) < (S.length : Int) := by omega
      have hno : keyOn S nul = false := by
        cases h : keyOn S nul
        · rfl
        · obtain ⟨x, hx, e⟩ := keyOn_mem h
          obtain ⟨j, hj, rfl⟩ := List.getElem_of_mem hx
          exact absurd (by rw [e]; rfl) (hne j hj (by omega))
      have hR := hid (long_ok hok hS0 hgd hno (m := m) (fun x hx => by
        obtain ⟨j, hj, rfl⟩ := List.getElem_of_mem hx
        exact hmx.1 j hj (by omega)) (by
        rcases hmx.2 with h | ⟨j, hj, _, e⟩
        · exact .inl h
        · exact .inr ⟨_, List.getElem_mem hj, e⟩))
      clear hke
      go_wp2_with fail
      go_ret2
      exact ⟨by simp [hR.out], hbb⟩

theorem left_next {left : Lit → Bool} {D : List Am} {x : ByteArray} {m : Nat} (h : ∀ y ∈ D, left (.string y.2.data.toList) = true ∨ y.2.size ≤ m) : ∀ y ∈ D, (left (.string y.2.data.toList) && !(Lit.string y.2.data.toList).sameKey (.string x.data.toList)) = true ∨ y.2.size ≤ max m x.size := by
  intro y hy
  by_cases e : y.2 = x
  · right; rw [e]; omega
  · rcases h y hy with h1 | h1
    · left
      rw [h1]
      cases hs : (Lit.string y.2.data.toList).sameKey (.string x.data.toList)
      · rfl
      · exact absurd (data_inj (WideAt.sameKey_eq hs)) e
    · right; omega
theorem max_next {D : List Am} {x : ByteArray} {m : Nat} (h : m = 0 ∨ ∃ y ∈ D, y.2.size = m) (hx : ∃ y ∈ D, y.2 = x) : max m x.size = 0 ∨ ∃ y ∈ D, y.2.size = max m x.size := by
  rcases Nat.le_total m x.size with h1 | h1
  · obtain ⟨y, hy, e⟩ := hx
    exact .inr ⟨y, hy, by rw [e]; omega⟩
  · rcases h with h2 | ⟨y, hy, e⟩
    · exact .inl (by omega)
    · exact .inr ⟨y, hy, by omega⟩

set_option maxRecDepth 100000 in
set_option maxHeartbeats 4000000 in
theorem long_any (S0 : List Am) (ao : Option Addr) (n cap : Nat) (l : List ByteArray) (w : World) (hS0 : Good l S0) (hn : n = l.length) (hr : Rd w ao (strs l)) (hs : ∀ x ∈ l, x.size ≤ maxLen) (hm : n ≤ 1048576) :
    Calls Try.prog 37 #[.slice ao n cap] w fun e w' => e = .returned (.tuple #[.int .i64 (longR l S0).1, .int .i64 (longR l S0).2]) ∧ Below w.heap.size w w' := by
  have HN := hid hn
  clear hn
  cases hok : codeOk l
  · have hR := hid (long_bad (S := S0) hok)
    go_enter Try.func37, Try.ntmps37
    go_wp2_with (go_at_call 15; refine (code_any ao n cap l _ HN.out hr hs hm).mono ?_; rw [hok]; rintro e w1 ⟨rfl, hb1⟩)
    go_ret2
    exact ⟨by simp [hR.out], hb1⟩
  have H8 := hid (codeOk_8 hok)
  have h10 := codeOk_len hok
  rw [← HN.out] at h10
  have hkey := keyStr nul_ok
  cases hk : keyOn S0 nul
  rotate_left
  · have hR := hid (long_clash hok hS0 hS0 hk)
    go_enter Try.func37, Try.ntmps37
    go_wp2_with (first | (go_at_call 15; refine (code_any ao n cap l _ HN.out hr hs hm).mono ?_; rw [hok]; rintro e w1 ⟨rfl, hb1⟩; have hr1 := rd_below hr hb1) | (go_at_call 52; refine (restTexts_any ao n cap l _ HN.out hr1 H8.out h10).mono ?_; rintro e w2 ⟨bm, D, rfl, hgd, hmap, hbm, hb2⟩; have hhas : Maps.has (mapA D) (.string nul.data.toList) = _ := (mapA_has D nul).trans ((keyOn_good hgd hS0 nul).trans hk)) | (at_lookup; refine wpList_lookup_ok_b _ rfl _ _ 60 rfl 9 9 (string_keyed Try.underlying9) Try.underlying60 (plainElem Try.prog 9) (Try.zeroStr _) _ [] (plainElem_string Try.underlying9 (by decide)) bm D.length (mapA D) rfl hmap (.string nul) _ rfl hkey _ hhas ?_; intro v ps hv))
    go_ret2
    exact ⟨by simp [hR.out], hb1.trans (hb2.mono hb1.size)⟩
  · go_enter Try.func37, Try.ntmps37
    go_wp2_with (first | (go_at_call 15; refine (code_any ao n cap l _ HN.out hr hs hm).mono ?_; rw [hok]; rintro e w1 ⟨rfl, hb1⟩; have hr1 := rd_below hr hb1) | (go_at_call 52; refine (restTexts_any ao n cap l _ HN.out hr1 H8.out h10).mono ?_; rintro e w2 ⟨bm, D, rfl, hgd, hmap, hbm, hb2⟩; have hkD := (keyOn_good hgd hS0 nul).trans hk; have hhas : Maps.has (mapA D) (.string nul.data.toList) = _ := (mapA_has D nul).trans hkD) | (at_lookup; refine wpList_lookup_ok_b _ rfl _ _ 60 rfl 9 9 (string_keyed Try.underlying9) Try.underlying60 (plainElem Try.prog 9) (Try.zeroStr _) _ [] (plainElem_string Try.underlying9 (by decide)) bm D.length (mapA D) rfl hmap (.string nul) _ rfl hkey _ hhas ?_; intro v ps hv) | (at_range; refine wpList_range_own _ rfl _ 60 rfl 9 9 (string_keyed Try.underlying9) Try.underlying60 (plainElem Try.prog 9) bm D.length (mapA D) rfl hmap ?_; intro w3 hrg0 hg0 hs0))
    have hbb := hb1.trans (hb2.mono hb1.size)
    have hb3 : Below w.heap.size w w3 := hbb.grown hg0 hbb.size (fun k hk => by cases hk)
    have hsz2 := hbb.size
    clear hr hr1 hv
    go_frame
    go_loopw [7] (fun v wr => ∃ (left : Lit → Bool) (cnt m : Nat), wr.ranges Try.prog 9 (plainElem (H := Unit) Try.prog 9) bm w2.heap.size D.length (mapA D) left cnt ∧ v = .int .i64 m ∧ m ≤ 8 ∧ (∀ x ∈ D, left (.string x.2.data.toList) = true ∨ x.2.size ≤ m) ∧ (m = 0 ∨ ∃ x ∈ D, x.2.size = m) ∧ Below w.heap.size w wr) (fun _ wr => wr.rangeLeft bm w2.heap.size)
    case atStart => exact ⟨_, _, 0, hrg0, rfl, by omega, fun x hx => .inl ((mapA_has D x.2).trans (keyOn_of hx)), .inl rfl, hb3⟩
    case round =>
      clear hrg0 hg0 hs0
      obtain ⟨left, cnt, m, hrg, rfl, hm8, hall, hone, hB⟩ := hrel
      have HALL := hid hall
      have HONE := hid hone
      clear hall hone
      go_wp2_with (at_next; refine wpList_next_ranges_ss _ rfl _ rfl 9 9 (string_keyed Try.underlying9) Try.underlying9 Try.underlying9 bm w2.heap.size D.length (mapA D) left cnt rfl hrg ?_ ?_)
      · intro hc0 hl0
        have hR := hid (long_ok hok hS0 hgd hkD (m := m) (fun x hx => by
          rcases HALL.out x hx with h | h
          · rw [hl0] at h; cases h
          · exact h) HONE.out)
        clear hl0
        go_wp2_with fail
        go_ret2
        exact ⟨by simp [hR.out], hB⟩
      · intro x c w4 cnt' hxs hlx hhx hrg4 hlt hgr hsz hen
        have hxk : keyOn D x = true := (mapA_has D x).symm.trans hhx
        obtain ⟨y, hy, hye⟩ := keyOn_mem hxk
        have hx8 := got_size H8.out (hgd.sound y hy)
        rw [hye] at hx8
        have hall' := hid (left_next (x := x) HALL.out)
        have hone' := hid (max_next (x := x) HONE.out ⟨y, hy, hye⟩)
        have hB4 : Below w.heap.size w w4 := hB.grown hgr hB.size (fun k hk => by simp at hk; omega)
        clear hxk hy hye hhx hlx
        by_cases hmr : m < x.size
        · have hmr1 : (m : Int) < (x.size : Int) := by omega
          go_wp2_with fail
          go_roundw
          case rel => exact ⟨_, cnt', max m x.size, hrg4, by go_num, by omega, hall'.out, hone'.out, hB4⟩
          case measure => rw [hrg4.left_eq, hrg.left_eq]; omega
        · have hmr1 : ¬ (m : Int) < (x.size : Int) := by omega
          go_wp2_with fail
          go_roundw
          case rel => exact ⟨_, cnt', max m x.size, hrg4, by go_num, by omega, hall'.out, hone'.out, hB4⟩
          case measure => rw [hrg4.left_eq, hrg.left_eq]; omega
end Go.Proofs.Ytojbblbjobbcaaa
