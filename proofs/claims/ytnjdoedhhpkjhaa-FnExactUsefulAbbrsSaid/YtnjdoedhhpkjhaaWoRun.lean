/-
  Plain facts: the parts of a text join to the text; the words are the parts that are not empty. No program in sight.
-/
import Derived.Test.YtnjdoedhhpkjhaaWoMath
namespace Go.Proofs.Ytnjdoedhhpkjhaa
set_option linter.unusedVariables false

def partsL (L : List ByteArray) : List (List UInt8) := L.map fun x => x.data.toList
theorem take_next {s : ByteArray} {k : Nat} (h : k < s.size) : s.data.toList.take (k + 1) = s.data.toList.take k ++ [s[k]] := by
  have h' : k < s.data.toList.length := by simpa using h
  rw [List.take_add_one, List.getElem?_eq_getElem h']
  rfl
theorem join_run (s : ByteArray) : ∀ k, k ≤ s.size → joinP (partsL ((spRun s 32 k).2 ++ [s.extract (spRun s 32 k).1 k])) = s.data.toList.take k
  | 0, _ => by simp [spRun, partsL, joinP]
  | k + 1, h => by
    have ih := join_run s k (by omega)
    have hk : k < s.size := by omega
    have ha := (spRun_bd s 32 k).1
    by_cases hc : (s[k].toNat : Int) = 32
    · have e : s[k] = 32 := by
        apply UInt8.toNat_inj.1
        show s[k].toNat = 32
        omega
      rw [spRun_cut hk hc]
      unfold partsL at ih ⊢
      rw [List.map_append (l₁ := _ ++ _), List.map_cons, List.map_nil, extract_toList, joinP_snoc _ _ (by simp), ih, take_next hk, e]
      simp
      omega
    · rw [spRun_on hk hc]
      unfold partsL at ih ⊢
      rw [List.map_append, List.map_cons, List.map_nil, extract_toList] at ih ⊢
      rw [take_next hk, List.drop_append_of_le_length (by simp; omega), joinP_more, ih]
theorem join_split (s : ByteArray) : joinP (partsL (splitL s 32)) = s.data.toList := by
  have := join_run s s.size (Nat.le_refl _)
  rw [splitL, this]
  exact List.take_of_length_le (by simp)
/-- the words of a text: its parts that are not empty -/
def wordsL (s : ByteArray) : List ByteArray := (splitL s 32).filter fun x => decide (0 < x.size)
theorem parts_full (L : List ByteArray) : partsL (L.filter fun x => decide (0 < x.size)) = fullP (partsL L) := by
  unfold partsL fullP
  rw [List.filter_map]
  rfl
theorem parts_inj : ∀ {L M : List ByteArray}, partsL L = partsL M → L = M
  | [], [], _ => rfl
  | [], _ :: _, h => by simp [partsL] at h
  | _ :: _, [], h => by simp [partsL] at h
  | ⟨⟨a⟩⟩ :: L, ⟨⟨b⟩⟩ :: M, h => by
    simp only [partsL, List.map_cons, List.cons.injEq] at h
    have := parts_inj (L := L) (M := M) h.2
    rw [this, show a = b from h.1]
/-- the words join to the text just where no part is empty -/
theorem words_join (s : ByteArray) (h0 : s.size ≠ 0) : joinP (partsL (wordsL s)) = s.data.toList ↔ wordsL s = splitL s 32 := by
  have hj := join_split s
  have hne : joinP (partsL (splitL s 32)) ≠ [] := by
    rw [hj]; intro e
    have e2 : s.data.toList.length = 0 := by rw [e]; rfl
    have e3 : s.data.toList.length = s.size := by simp
    omega
  have := join_full (partsL (splitL s 32)) hne
  rw [hj] at this
  unfold wordsL
  rw [parts_full]
  constructor
  · intro h
    apply parts_inj
    rw [parts_full]
    exact this.1 h
  · intro h
    apply this.2
    rw [← parts_full, h]
end Go.Proofs.Ytnjdoedhhpkjhaa
