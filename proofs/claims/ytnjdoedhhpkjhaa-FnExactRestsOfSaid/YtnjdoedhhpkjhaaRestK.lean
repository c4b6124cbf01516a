/-
  The rests: what every law about them uses; a range over a map from texts to texts.
-/
import Derived.Test.YtnjdoedhhpkjhaaSpB
import Derived.Maps.StringElems
namespace Go.Proofs.Ytnjdoedhhpkjhaa
open Go.RowKit Go.ChangeShapes Go.WideShapes Go.Maps
set_option linter.unusedVariables false

theorem codeOk_10 {l : List ByteArray} (h : codeOk l = true) : l.length ≤ 10 := by
  unfold codeOk at h
  simp only [Bool.and_eq_true, decide_eq_true_eq] at h
  exact h.2
theorem codeOk_8 {l : List ByteArray} (h : codeOk l = true) : ∀ x ∈ l, x.size ≤ 8 := by
  intro x hx
  obtain ⟨k, hk, rfl⟩ := List.getElem_of_mem hx
  unfold codeOk at h
  simp only [Bool.and_eq_true] at h
  have h1 : firstAt (badC l) l.length = none := by simpa using h.1
  unfold firstAt at h1
  rw [List.find?_range_eq_none] at h1
  have h2 := h1 k hk
  rw [badC_get hk] at h2
  cases ht : textB l[k] 33 8
  · rw [ht] at h2; simp at h2
  · simp only [textB, Bool.and_eq_true, decide_eq_true_eq] at ht
    omega
/-- there is a set of the least texts -/
theorem good_exists (l : List ByteArray) : ∃ S, Good l S := by
  have key : ∀ K : List ByteArray, ∃ S : List Am, (∀ x ∈ S, Got l x ∧ ∀ y, Got l y → y.2 = x.2 → rk x.1 ≤ rk y.1) ∧ (S.map (·.2)).Nodup ∧ (∀ y, Got l y → y.2 ∈ K → ∃ x ∈ S, x.2 = y.2) := by
    intro K
    induction K with
    | nil => exact ⟨[], (fun x h => by cases h), List.nodup_nil, (fun y _ h => by cases h)⟩
    | cons r K ih =>
      obtain ⟨S, h1, h2, h3⟩ := ih
      by_cases hin : r ∈ S.map (·.2)
      · refine ⟨S, h1, h2, fun y hy hk => ?_⟩
        rcases List.mem_cons.1 hk with e | hk
        · obtain ⟨x, hx, e2⟩ := List.mem_map.1 hin
          exact ⟨x, hx, e2.trans e.symm⟩
        · exact h3 y hy hk
      · by_cases hex : ∃ y, Got l y ∧ y.2 = r
        · obtain ⟨μ, hμ⟩ := least_fun (fun (m : Nat) (_ : Unit) => ∃ y, Got l y ∧ y.2 = r ∧ rk y.1 = m)
          obtain ⟨y0, hy0, e0⟩ := hex
          obtain ⟨⟨y, hy, ey, em⟩, hleast⟩ := hμ () ⟨_, y0, hy0, e0, rfl⟩
          refine ⟨S ++ [y], ?_, ?_, ?_⟩
          · intro x hx
            rcases List.mem_append.1 hx with hx | hx
            · exact h1 x hx
            · rw [List.mem_singleton.1 hx]
              refine ⟨hy, fun z hz e => ?_⟩
              have := hleast (rk z.1) ⟨z, hz, e.trans ey, rfl⟩
              omega
          · rw [List.map_append]
            exact nodup_snoc h2 (by show ¬ y.2 ∈ _; rw [ey]; exact hin)
          · intro z hz hk
            rcases List.mem_cons.1 hk with e | hk
            · exact ⟨y, by simp, ey.trans e.symm⟩
            · obtain ⟨x, hx, e⟩ := h3 z hz hk
              exact ⟨x, List.mem_append_left _ hx, e⟩
        · refine ⟨S, h1, h2, fun y hy hk => ?_⟩
          rcases List.mem_cons.1 hk with e | hk
          · exact absurd ⟨y, hy, e⟩ hex
          · exact h3 y hy hk
  obtain ⟨S, h1, h2, h3⟩ := key (sufs l)
  have hcov : ∀ y, Got l y → Cov S y := fun y hy => by
    obtain ⟨x, hx, e⟩ := h3 y hy (got_suf hy)
    exact ⟨x, hx, e, (h1 x hx).2 y hy e.symm⟩
  exact ⟨S, fun x hx => (h1 x hx).1, h2, fun x hx => hcov x (.start hx), fun x hx h0 w hw y hn => hcov y (.step (h1 x hx).1 h0 hw hn)⟩
theorem keyOn_good {l : List ByteArray} {S T : List Am} (hS : Good l S) (hT : Good l T) (r : ByteArray) : keyOn S r = keyOn T r := by
  rw [Bool.eq_iff_iff]
  constructor
  · intro h
    obtain ⟨x, hx, rfl⟩ := keyOn_mem h
    exact keyOn_of (good_mem hS hT hx)
  · intro h
    obtain ⟨x, hx, rfl⟩ := keyOn_mem h
    exact keyOn_of (good_mem hT hS hx)
theorem good_90 {l : List ByteArray} (h8 : ∀ w ∈ l, w.size ≤ 8) (h10 : l.length ≤ 10) {S : List Am} (h : Good l S) : S.length ≤ 90 := keys_90 h10 h8 h.sound h.keys
def nul : ByteArray := ⟨#[]⟩
theorem nul_size {x : ByteArray} (h : (x.toList == []) = true) : x = nul := tl_eq (by rw [show nul.toList = [] by unfold nul; rw [ByteArray.toList_eq]]; simpa using h)
theorem keyOf_string_inv {P : Program} {k : TypeId} (hk : P.underlying k = some .string) {key : Value} {kl : Lit} (h : keyOf P k key = some kl) : ∃ x : ByteArray, key = .string x ∧ kl = .string x.data.toList ∧ x.size ≤ maxLen := by
  cases key <;> simp [keyOf, hk, mapKey] at h
  exact ⟨_, rfl, h.2.symm, h.1⟩
/-- a range's step over a map from texts to texts -/
theorem wpList_next_ranges_ss {H : Type} {P : Program} (w : World) {ops : Array Oper} {rest : List Oper} {o : Oper} {a : Act} {Q : Exit → Act → World → Prop}
    (hg : o.guard = none) (it : Operand) (hop : o.op = Op.next it false) (k e : TypeId) (K : Keyed P k) (hk : P.underlying k = some .string) (he : P.underlying e = some .string)
    (b r n : Nat) (D : DataW H) (left : Lit → Bool) (cnt : Nat) (hit : a.eval it = .pointer (some ⟨r, 0, none⟩)) (h : w.ranges P k (plainElem P e) b r n D left cnt)
    (hDone : cnt = 0 → (∀ kl, left kl = false) → wpList P ops Q rest (a.put o.dst (.tuple #[.bool false])) w)
    (hMore : ∀ (x c : ByteArray) (w' : World) (cnt' : Nat), x.size ≤ maxLen → left (.string x.data.toList) = true → Maps.has D (.string x.data.toList) = true → w'.ranges P k (plainElem P e) b r n D (fun z => left z && !z.sameKey (.string x.data.toList)) cnt' → cnt' < cnt →
      w.grownBy w' (some r) → w'.heap.size = w.heap.size → (Instr.entry (.pointer (some ⟨r, 0, none⟩))).run P w' = .ok (.tuple #[.string x, .string c]) w' → wpList P ops Q rest (a.put o.dst (.tuple #[.bool true, .string x, .string c])) w') :
    wpList P ops Q (o :: rest) a w :=
  wpList_next_ranges w hg it hop k K (plainElem P e) Value.string Value.string (fun key kl hkey => by obtain ⟨x, rfl, _⟩ := keyOf_string_inv hk hkey; exact ⟨x, rfl⟩) (fun v y hv => by obtain ⟨c, rfl, _⟩ := plainElem_string_inv he hv; exact ⟨c, rfl⟩)
    b r n D left cnt hit h hDone (fun x c kl y w' cnt' hkey hlk hv hat hrg hlt hgr hsz hen => by
      obtain ⟨x', ex, rfl, hwx⟩ := keyOf_string_inv hk hkey
      cases ex
      exact hMore x c w' cnt' hwx hlk (has_true_of_atKey hat) hrg hlt hgr hsz hen)
end Go.Proofs.Ytnjdoedhhpkjhaa
