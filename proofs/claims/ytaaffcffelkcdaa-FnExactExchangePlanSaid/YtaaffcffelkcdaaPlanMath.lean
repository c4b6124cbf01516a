/-
  Plain facts: the plan of exchanges, place by place. No program in sight.
-/
import Derived.Test.YtaaffcffelkcdaaLayK
namespace Go.Proofs.Ytaaffcffelkcdaa
set_option linter.unusedVariables false

theorem exS_size (a b : UInt8) (s : ByteArray) : (exS a b s).size = s.size := by
  show ((s.data.toList.map (exB a b)).toArray).size = s.size
  simp
theorem exL_row {x : List ByteArray} {a b : UInt8} {r : Nat} (h : r < x.length) : rowAt (exL x a b) r = exS a b (rowAt x r) := by
  rw [rowAt_get (show r < (exL x a b).length by rw [exL_len]; exact h), rowAt_get h]
  simp [exL]
def twoT (a b : UInt8) : ByteArray := ⟨#[a, b]⟩
abbrev Pl := List ByteArray × List ByteArray
def plStep (rb : List ByteArray) (r : Nat) (st : Pl) (c : Nat) : Pl :=
  if h : c < (rowAt st.1 r).size ∧ c < (rowAt rb r).size then
    if ((rowAt st.1 r)[c].toNat : Int) = ((rowAt rb r)[c].toNat : Int) then st else (exL st.1 (rowAt st.1 r)[c] (rowAt rb r)[c], st.2 ++ [twoT (rowAt st.1 r)[c] (rowAt rb r)[c]])
  else st
def plRow (rb : List ByteArray) (r : Nat) (st : Pl) : Nat → Pl | 0 => st | c + 1 => plStep rb r (plRow rb r st c) c
def plTo (ra rb : List ByteArray) : Nat → Pl | 0 => (ra, []) | r + 1 => plRow rb r (plTo ra rb r) (rowAt rb r).size
theorem pl_same {rb : List ByteArray} {r c : Nat} {st : Pl} (h1 : c < (rowAt st.1 r).size) (h2 : c < (rowAt rb r).size) (h : ((rowAt st.1 r)[c].toNat : Int) = ((rowAt rb r)[c].toNat : Int)) : plStep rb r st c = st := by
  unfold plStep; rw [dif_pos ⟨h1, h2⟩, if_pos h]
theorem pl_diff {rb : List ByteArray} {r c : Nat} {st : Pl} (h1 : c < (rowAt st.1 r).size) (h2 : c < (rowAt rb r).size) (h : ¬ ((rowAt st.1 r)[c].toNat : Int) = ((rowAt rb r)[c].toNat : Int)) :
    plStep rb r st c = (exL st.1 (rowAt st.1 r)[c] (rowAt rb r)[c], st.2 ++ [twoT (rowAt st.1 r)[c] (rowAt rb r)[c]]) := by
  unfold plStep; rw [dif_pos ⟨h1, h2⟩, if_neg h]
/-- the rows at hand have the shape of the first ones -/
def Shape (ra x : List ByteArray) : Prop := x.length = ra.length ∧ ∀ r, r < ra.length → (rowAt x r).size = (rowAt ra r).size
theorem shape_ex {ra x : List ByteArray} (a b : UInt8) (h : Shape ra x) : Shape ra (exL x a b) :=
  ⟨by rw [exL_len]; exact h.1, fun r hr => by rw [exL_row (by rw [h.1]; exact hr), exS_size]; exact h.2 r hr⟩
theorem shape_step {ra rb : List ByteArray} {r c : Nat} {st : Pl} (h : Shape ra st.1) : Shape ra (plStep rb r st c).1 ∧ (plStep rb r st c).2.length ≤ st.2.length + 1 := by
  unfold plStep
  split
  · split
    · exact ⟨h, by omega⟩
    · exact ⟨shape_ex _ _ h, by simp⟩
  · exact ⟨h, by omega⟩
theorem shape_row {ra rb : List ByteArray} {r : Nat} {st : Pl} (h : Shape ra st.1) : ∀ c, Shape ra (plRow rb r st c).1 ∧ (plRow rb r st c).2.length ≤ st.2.length + c
  | 0 => ⟨h, by simp [plRow]⟩
  | c + 1 => by
    obtain ⟨h1, h2⟩ := shape_row (rb := rb) (r := r) h c
    obtain ⟨h3, h4⟩ := shape_step (rb := rb) (r := r) (c := c) h1
    exact ⟨h3, by rw [plRow]; omega⟩
theorem shape_to {ra rb : List ByteArray} (hb : bothC ra rb = 0) : ∀ r, r ≤ ra.length → Shape ra (plTo ra rb r).1 ∧ (plTo ra rb r).2.length ≤ 12 * r
  | 0, _ => ⟨⟨rfl, fun _ _ => rfl⟩, by simp [plTo]⟩
  | r + 1, hr => by
    obtain ⟨h1, h2⟩ := shape_to hb r (by omega)
    obtain ⟨h3, h4⟩ := shape_row (rb := rb) (r := r) h1 (rowAt rb r).size
    obtain ⟨e1, e2, e3, e4⟩ := both_zero hb
    have := (row_size ((lay_true e2).2.2 r (by omega)).1).2
    exact ⟨h3, by rw [plTo]; omega⟩
def plV (ra rb : List ByteArray) : List ByteArray := if bothC ra rb = 0 then (plTo ra rb rb.length).2 else []
end Go.Proofs.Ytaaffcffelkcdaa
