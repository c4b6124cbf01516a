/-
  A map from texts to marks that the call made: looked up, written; and what it holds once some texts are marked.
-/
import Derived.Test.YthhpeanlpikjbaaMem
import Derived.Maps.OwnSet
namespace Go.Proofs.Ythhpeanlpikjbaa
open Go.RowKit Go.Maps
set_option linter.unusedVariables false

theorem plainElem_bool_inv {H : Type} {P : Program} {e : TypeId} (he : P.underlying e = some .bool) {v : Value} {z : DataW H × List MemPlace} (h : plainElem P e v = some z) : ∃ x, v = .bool x ∧ z = (.lit (.bool x), []) := by
  unfold plainElem at h
  rw [he] at h
  cases v <;> simp at h
  exact ⟨_, rfl, h.symm⟩

theorem ownsMap_bool {H : Type} {P : Program} {k e t : TypeId} {w : World} {b n : Nat} {D : DataW H} (h : w.ownsMap P k (plainElem P e) b n D) (K : Keyed P k) (ht : P.underlying t = some (.map k e)) (he : P.underlying e = some .bool) (hz : (zeroValue e).run P w = .ok (.bool false) w)
    {key : Value} {kl : Lit} (hkey : keyOf P k key = some kl) {c : Bool} (hc : D.atKey kl (.lit (.bool false)) = .lit (.bool c)) : (Instr.lookup t (.map (some b)) key false).run P w = .ok (.bool c) w := by
  obtain ⟨v, ps, hrun, hv⟩ := h.lookup K ht hz (plainElem_bool he false) hkey
  obtain ⟨c', rfl, hc'⟩ := plainElem_bool_inv he hv
  simp only [Prod.mk.injEq] at hc'
  rw [hc] at hc'
  simp only [DataW.lit.injEq, Lit.bool.injEq] at hc'
  rw [hc'.1]
  exact hrun
/-- 'm[k]' at elements of type bool -/
theorem wpList_lookup_own_bool {H : Type} {P : Program} (w : World) {ops : Array Oper} {rest : List Oper} {o : Oper} {a : Act} {Q : Exit → Act → World → Prop}
    (hg : o.guard = none) (m x : Operand) (t : TypeId) (hop : o.op = Op.lookup t m x false)
    (k e : TypeId) (K : Keyed P k) (ht : P.underlying t = some (.map k e)) (he : P.underlying e = some .bool) (hz : (zeroValue e).run P w = .ok (.bool false) w) (b n : Nat) (D : DataW H)
    (hm : a.eval m = .map (some b)) (hown : w.ownsMap P k (plainElem P e) b n D) (key : Value) (kl : Lit) (hx : a.eval x = key) (hkey : keyOf P k key = some kl) (c : Bool) (hc : D.atKey kl (.lit (.bool false)) = .lit (.bool c))
    (hK : wpList P ops Q rest (a.put o.dst (.bool c)) w) :
    wpList P ops Q (o :: rest) a w := by
  refine wpList_plain hg fun K' hK' => ?_
  have hrun := ownsMap_bool hown K ht he hz hkey hc
  unfold Oper.wp
  simp [execOp, hop, hm, hx, hrun, Result.andThen]
  exact hK' _ _ hK

/-- the texts that are marked -/
def markD (l : List ByteArray) : DataW Unit := l.foldl (fun D x => D.put (.string x.data.toList) (.lit (.bool true))) (.map [])
def isIn (l : List ByteArray) (x : ByteArray) : Bool := l.any (fun y => y.toList == x.toList)
theorem markD_snoc (l : List ByteArray) (x : ByteArray) : markD (l ++ [x]) = (markD l).put (.string x.data.toList) (.lit (.bool true)) := by simp [markD]
theorem isIn_snoc (l : List ByteArray) (x y : ByteArray) : isIn (l ++ [x]) y = (isIn l y || (x.toList == y.toList)) := by simp [isIn]
theorem data_toList (x : ByteArray) : x.data.toList = x.toList := (ByteArray.toList_eq x).symm
theorem markD_isMap (l : List ByteArray) : IsMap (markD l) := by
  suffices h : ∀ (l : List ByteArray) (D : DataW Unit), IsMap D → IsMap (l.foldl (fun D x => D.put (.string x.data.toList) (.lit (.bool true))) D) from h l _ isMap_empty
  intro l
  induction l with
  | nil => intro D h; exact h
  | cons x l ih => intro D h; exact ih _ (h.put _ _)
theorem markD_at (l : List ByteArray) (y : ByteArray) : (markD l).atKey (.string y.data.toList) (.lit (.bool false)) = .lit (.bool (isIn l y)) := by
  have key : ∀ (n : Nat) (l : List ByteArray), l.length = n → (markD l).atKey (.string y.data.toList) (.lit (.bool false)) = .lit (.bool (isIn l y)) := by
    intro n
    induction n with
    | zero =>
      intro l h
      rw [List.eq_nil_of_length_eq_zero h]
      rfl
    | succ n ih =>
      intro l h
      obtain ⟨l', x, rfl⟩ : ∃ l' x, l = l' ++ [x] := by
        rcases List.eq_nil_or_concat l with e | ⟨l', x, e⟩
        · rw [e] at h; simp at h
        · exact ⟨l', x, by simpa using e⟩
      have hl : l'.length = n := by simpa using h
      rw [markD_snoc, isIn_snoc]
      by_cases e : x.toList = y.toList
      · rw [data_toList, data_toList, e, atKey_put_same (markD_isMap l') (by trivial)]
        simp
      · rw [atKey_put_other (by rw [data_toList, data_toList]; intro e2; apply e; simpa using e2.symm), ih l' hl]
        simp [e]
  exact key _ l rfl
end Go.Proofs.Ythhpeanlpikjbaa
