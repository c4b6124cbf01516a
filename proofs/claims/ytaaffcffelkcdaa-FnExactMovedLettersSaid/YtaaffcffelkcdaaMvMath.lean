/-
  Plain facts: which letters have moved. No program in sight.
-/
import Derived.Test.YtaaffcffelkcdaaLayF
import Derived.Test.YtaaffcffelkcdaaLayH
namespace Go.Proofs.Ytaaffcffelkcdaa
set_option linter.unusedVariables false

theorem set_false_same {ms : List Bool} {c : Nat} (hc : c < ms.length) (h : marked ms c = false) : ms.set c false = ms := by
  apply List.ext_getElem?
  intro i
  by_cases e : c = i
  · subst e
    unfold marked at h
    rw [List.getD, List.getElem?_eq_getElem hc] at h
    rw [List.getElem?_set_self hc, List.getElem?_eq_getElem hc]
    simpa using h.symm
  · rw [List.getElem?_set_ne e]
theorem marked_put_other {ms : List Bool} {c x : Nat} (v : Bool) (e : ¬ x = c) : marked (ms.set c v) x = marked ms x := by
  unfold marked
  have e2 : c ≠ x := fun h => e h.symm
  simp [List.getD, List.getElem?_set_ne e2]

def ltr (ra : List ByteArray) (r c : Nat) : Nat := if h : c < (rowAt ra r).size then (rowAt ra r)[c].toNat else 0
theorem ltr_get {ra : List ByteArray} {r c : Nat} (h : c < (rowAt ra r).size) : ltr ra r c = (rowAt ra r)[c].toNat := by unfold ltr; rw [dif_pos h]
def mvB (ra rb : List ByteArray) (r c : Nat) : Bool := if h : c < (rowAt ra r).size ∧ c < (rowAt rb r).size then !(decide (((rowAt rb r)[c].toNat : Int) = ((rowAt ra r)[c].toNat : Int))) else false
theorem mvB_get {ra rb : List ByteArray} {r c : Nat} (h : c < (rowAt ra r).size) (h2 : c < (rowAt rb r).size) : mvB ra rb r c = !(decide (((rowAt rb r)[c].toNat : Int) = ((rowAt ra r)[c].toNat : Int))) := by unfold mvB; rw [dif_pos ⟨h, h2⟩]
def mvRow (ra rb : List ByteArray) (r : Nat) (ms : List Bool) : Nat → List Bool | 0 => ms | c + 1 => (mvRow ra rb r ms c).set (ltr ra r c) (mvB ra rb r c)
def mvTo (ra rb : List ByteArray) : Nat → List Bool | 0 => List.replicate 256 false | r + 1 => mvRow ra rb r (mvTo ra rb r) (rowAt ra r).size
theorem mvRow_len (ra rb : List ByteArray) (r : Nat) (ms : List Bool) : ∀ c, (mvRow ra rb r ms c).length = ms.length
  | 0 => rfl
  | c + 1 => by rw [mvRow, List.length_set, mvRow_len ra rb r ms c]
theorem mvTo_len (ra rb : List ByteArray) : ∀ r, (mvTo ra rb r).length = 256
  | 0 => noMarks_len
  | r + 1 => by rw [mvTo, mvRow_len, mvTo_len ra rb r]

/-- no letter from a place on is marked -/
def Clear (ra : List ByteArray) (r c : Nat) (ms : List Bool) : Prop := ∀ b : UInt8, NoneUpTo (hasR ra b) r → NoneUpTo (byteAt (rowAt ra r) b) c → marked ms b.toNat = false
theorem clear_row {ra rb : List ByteArray} {r : Nat} {ms : List Bool} (h : Clear ra r 0 ms) : ∀ c, c ≤ (rowAt ra r).size → Clear ra r c (mvRow ra rb r ms c)
  | 0, _ => h
  | c + 1, hc => by
    have ih := clear_row (rb := rb) h c (by omega)
    intro b h1 h2
    have hcl : c < (rowAt ra r).size := by omega
    rw [mvRow, ltr_get hcl]
    have hb := h2 c (by omega)
    rw [byteAt_get hcl] at hb
    simp only [decide_eq_false_iff_not] at hb
    rw [marked_put_other _ (by omega)]
    exact ih b h1 (fun j hj => h2 j (by omega))
theorem clear_to (ra rb : List ByteArray) : ∀ r, Clear ra r 0 (mvTo ra rb r)
  | 0 => fun b _ _ => marked_none _
  | r + 1 => fun b h1 _ => clear_row (rb := rb) (clear_to ra rb r) _ (Nat.le_refl _) b (fun j hj => h1 j (by omega)) (hasR_false (h1 r (by omega)))

def MvP (x y : ByteArray) (f : Nat → List Bool) (M M2 : List Bool) : Prop :=
  f 0 = M ∧ M2 = f x.size ∧ (∀ c, (f c).length = 256) ∧
  (∀ c (hc : c < x.size) (hc2 : c < y.size), ¬ (y[c].toNat : Int) = (x[c].toNat : Int) → f (c + 1) = (f c).set x[c].toNat true) ∧
  (∀ c (hc : c < x.size) (hc2 : c < y.size), (y[c].toNat : Int) = (x[c].toNat : Int) → f (c + 1) = (f c).set x[c].toNat false ∧ f (c + 1) = f c)
theorem mv_all {ra rb : List ByteArray} (hlay : layOk ra = true) {k : Nat} (hk : k < ra.length) : MvP (rowAt ra k) (rowAt rb k) (mvRow ra rb k (mvTo ra rb k)) (mvTo ra rb k) (mvTo ra rb (k + 1)) := by
  refine ⟨rfl, rfl, fun c => by rw [mvRow_len, mvTo_len], fun c hc hc2 h => ?_, fun c hc hc2 h => ?_⟩
  · rw [mvRow, ltr_get hc, mvB_get hc hc2, decide_eq_false h]; rfl
  · have e : mvRow ra rb k (mvTo ra rb k) (c + 1) = (mvRow ra rb k (mvTo ra rb k) c).set (rowAt ra k)[c].toNat false := by
      rw [mvRow, ltr_get hc, mvB_get hc hc2, decide_eq_true h]; rfl
    refine ⟨e, ?_⟩
    rw [e]
    obtain ⟨_, _, h3⟩ := lay_true hlay
    have hsp := (h3 k hk).2 c hc
    obtain ⟨_, _, h1, h2, _⟩ := spot_some hsp
    exact set_false_same (by rw [mvRow_len, mvTo_len]; exact UInt8.toNat_lt _) (clear_row (clear_to ra rb k) c (by omega) _ h1 h2)

def mvV (ra rb : List ByteArray) : ByteArray := if bothC ra rb = 0 then ascB (mvTo ra rb ra.length) else ⟨#[]⟩
theorem mvV_no {ra rb : List ByteArray} (h : ¬ bothC ra rb = 0) : mvV ra rb = ⟨#[]⟩ := if_neg h
theorem mvV_yes {ra rb : List ByteArray} (h : bothC ra rb = 0) : mvV ra rb = ascB (mvTo ra rb ra.length) := if_pos h
theorem mvV_size (ra rb : List ByteArray) : (mvV ra rb).size ≤ 256 := by
  unfold mvV
  split
  · rw [ascB_size]; exact bytes_len _
  · show 0 ≤ 256; omega
theorem asc_none : ascB (List.replicate 256 false) = ⟨#[]⟩ := by unfold ascB; rw [bytes_none]; rfl
theorem one_at {x : ByteArray} {c : Nat} (hc : c < x.size) : ∃ h : (x.extract c (c + 1)).size = 1, (x.extract c (c + 1))[0] = x[c] := by
  have h : (x.extract c (c + 1)).size = 1 := by simp; omega
  exact ⟨h, by simp [ByteArray.getElem_extract]⟩
end Go.Proofs.Ytaaffcffelkcdaa
