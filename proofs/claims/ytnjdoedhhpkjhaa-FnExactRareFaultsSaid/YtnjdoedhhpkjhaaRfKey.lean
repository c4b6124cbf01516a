/-
  The map keyed by faults: what a key reads as, the count, and 'm[f]++' as three operations.
-/
import Derived.Test.YtnjdoedhhpkjhaaRfMath
import Derived.DeepKeys4
import Derived.WideKeyEntry
import Derived.Maps.OwnOps
import Derived.Maps.Views
namespace Go.Proofs.Ytnjdoedhhpkjhaa
open Go.RowKit Go.ChangeShapes Go.WideShapes Go.Maps Go.WideElems Go.MapKept
open Go.ChangeMaps (setBlock heap_setBlock_same)
set_option linter.unusedVariables false

theorem rf_laid : laidOutB Try.prog = true := by kernel_rfl
theorem rf_row : (82 : TypeId) < Try.prog.types.size := of_decide_eq_true (by kernel_rfl)
theorem rf_wide : (match Try.prog.underlying 82 with | some (.array _ _) | some (.struct _) => true | _ => false) = true := by rw [Try.underlying82]
set_option maxRecDepth 1000000 in
theorem rf_law : Go.WideMaps.KeyLaw Try.prog 82 := deep_law_laid rf_laid (m := 2) (by omega) rf_row (by kernel_rfl) rf_wide
theorem rf_keyed : Keyed Try.prog 82 := Keyed.of_law rf_law
theorem rf_zero (w : World) : (zeroValue 3).run Try.prog w = .ok (.int .i64 0) w := by kernel_rfl
theorem rf_cells : Try.prog.cellsOf 82 = 2 := by kernel_rfl
theorem rf_cellsS : Try.prog.cellsOf 9 = 1 := by kernel_rfl
theorem rf_cellsI : Try.prog.cellsOf 2 = 1 := by kernel_rfl
theorem rf_keyType : Try.prog.keyType 82 = true := by kernel_rfl
theorem rf_types : ∃ d, Try.prog.types.size = d + 1 := by
  have h := rf_row
  cases hh : Try.prog.types.size with
  | zero => rw [hh] at h; exact absurd h (Nat.not_lt_zero _)
  | succ d => exact ⟨d, rfl⟩
def KeyOk (x : Se) : Prop := x.1.size ≤ maxLen ∧ (Lit.int .i64 x.2).wf = true
def seV (x : Se) : Value := .agg #[.string x.1, .int .i64 x.2]
theorem key_ex (x : Se) (h : KeyOk x) : ∃ kl, keyOf Try.prog 82 (seV x) = some kl := by
  obtain ⟨d, hd⟩ := rf_types
  obtain ⟨s, i⟩ := x
  obtain ⟨h1, h2⟩ := h
  dsimp only at h1 h2
  refine ⟨.string (keyBytes [.string s.data.toList, .int .i64 i]), ?_⟩
  unfold keyOf seV
  rw [Try.underlying82]
  simp only [rf_keyType, Value.formed, Try.underlying82, rf_cells, Bool.true_and]
  rw [hd]
  simp [Program.keyLits, Try.underlying82, Try.underlying9, Try.underlying2, rf_cells, rf_cellsS, rf_cellsI, Value.cells, h1, h2]
/-- what a fault reads as, as a key -/
noncomputable def klF (x : Se) : Lit := (keyOf Try.prog 82 (seV x)).getD (.bool true)
theorem key_at {x : Se} (h : KeyOk x) : keyOf Try.prog 82 (seV x) = some (klF x) := by
  obtain ⟨kl, hk⟩ := key_ex x h
  unfold klF; rw [hk]; rfl
attribute [irreducible] klF
theorem klF_inj {x y : Se} (hx : KeyOk x) (hy : KeyOk y) (h : klF x = klF y) : x = y := by
  have h1 := key_at hx
  have h2 := key_at hy
  rw [h] at h1
  have := rf_law.inj h1 h2
  unfold seV at this
  obtain ⟨a, b⟩ := x
  obtain ⟨c, d⟩ := y
  simpa using this

set_option maxRecDepth 100000 in
theorem klF_key {x : Se} (h : KeyOk x) : WideAt.IsKeyLit (klF x) := rf_keyed.key (key_at h)

/-- the map holds the counts of a list -/
def Cnt (D : DataW Unit) (L : List Se) : Prop := IsMap D ∧ ∀ x, KeyOk x → D.atKey (klF x) (.lit (.int .i64 0)) = .lit (.int .i64 (L.count x : Nat))
theorem cnt_zero : Cnt (.map []) [] := by
  refine ⟨isMap_empty, fun x hx => ?_⟩
  rw [List.count_nil]
  generalize klF x = kl
  rfl
theorem cnt_next {D : DataW Unit} {L : List Se} (h : Cnt D L) {x : Se} (hx : KeyOk x) : Cnt (D.put (klF x) (.lit (.int .i64 ((L.count x : Nat) + 1)))) (L ++ [x]) := by
  refine ⟨h.1.put _ _, fun y hy => ?_⟩
  rw [List.count_append]
  by_cases e : y = x
  · subst e
    have hl := klF_key hy
    rw [show List.count y L + List.count y [y] = List.count y L + 1 by simp]
    generalize klF y = a at *
    rw [atKey_put_same h.1 hl]
    rfl
  · have hne : klF y ≠ klF x := fun q => e (klF_inj hy hx q)
    have h2 := h.2 y hy
    rw [List.count_cons_of_ne (fun q => e q.symm), List.count_nil, Nat.add_zero, ← h2]
    generalize klF y = a at *
    generalize klF x = c at *
    exact atKey_put_other hne _ _

theorem setBlock_two (w : World) (b : Nat) (o o' : Obj) : setBlock (setBlock w b o) b o' = setBlock w b o' := by
  simp [setBlock]
section
variable {P : Program} {w : World} {t k e b n : Nat} {D : DataW Unit}
theorem count_entry (h : w.ownsMap P k (plainElem P e) b n D) (K : Go.WideMaps.KeyLaw P k) (ht : P.underlying t = some (.map k e)) (he : P.underlying e = some (.int .i64)) (hz : ∀ u, (zeroValue e).run P u = .ok (.int .i64 0) u)
    {key : Value} {kl : Lit} (hkey : keyOf P k key = some kl) (hn : n < maxLen) {c : Int} (hat : D.atKey kl (.lit (.int .i64 0)) = .lit (.int .i64 c)) (hwc : (Lit.int .i64 (c + 1)).wf = true) :
    ∃ v0 st w2 w4, (Instr.lookup t (.map (some b)) key false).run P w = .ok (.int .i64 c) w ∧ (Instr.mapEntry t (.map (some b)) key).run P w = .ok (.tuple #[v0, goInt st]) w2 ∧
      (Instr.lookup t (.map (some b)) key false).run P w2 = .ok (.int .i64 c) w2 ∧ (Instr.entryStore t (.map (some b)) (goInt st) (.int .i64 (c + 1))).run P w2 = .ok () w4 ∧
      w4.ownsMap P k (plainElem P e) b (n + 1) (D.put kl (.lit (.int .i64 (c + 1)))) ∧ w.grownBy w2 (some b) ∧ w.grownBy w4 (some b) := by
  have K' := Keyed.of_law K
  have hl := K'.key hkey
  have hm := h.isMap
  obtain ⟨c0, hrun, hat0, hwc0⟩ := h.lookup_int K' ht he (hz w) hkey
  have ec : c0 = c := by
    rw [hat0] at hat
    simpa using hat
  subst ec
  have hU := h.update K' ht hn hkey (plainElem_int he hwc0)
  have hU' := h.update K' ht hn hkey (plainElem_int he hwc)
  obtain ⟨es, clock, hb, F, hs, hD⟩ := h
  have hA : ∃ v0 st W2, (Instr.mapEntry t (.map (some b)) key).run P w = .ok (.tuple #[v0, goInt st]) W2 ∧ (Instr.mapUpdate t (.map (some b)) key (.int .i64 c0)).run P w = .ok () W2 := by
    rcases K.find w hkey es.toList F.keys with ⟨h1, h2⟩ | ⟨j, e0, h1, h2, h3⟩
    · have hl0 : (Instr.lookup t (.map (some b)) key false).run P w = .ok (.int .i64 0) w := by
        simp [Instr.lookup, run_underlying ht, MapKept.run_getObj_map hb, K.check w _ hkey, h1, hz, Result.andThen]
      rw [hrun] at hl0
      have e1 : c0 = 0 := by simpa using hl0
      subst e1
      refine ⟨.int .i64 0, clock, setBlock w b (.map (es.push ⟨key, .int .i64 0, clock⟩) (clock + 1)), ?_, ?_⟩
      · simp [Instr.mapEntry, run_underlying ht, MapKept.run_getObj_map hb, K.check w false hkey, h1, hz, MapKept.run_setObj_map _ hb, Result.andThen, setBlock]
      · simp [Instr.mapUpdate, run_underlying ht, MapKept.run_getObj_map hb, K.check w false hkey, h1, MapKept.run_setObj_map _ hb, Result.andThen, setBlock]
    · have hj : es[j]? = some e0 := by simpa using h2
      have hl0 : (Instr.lookup t (.map (some b)) key false).run P w = .ok e0.val w := by
        simp [Instr.lookup, run_underlying ht, MapKept.run_getObj_map hb, K.check w _ hkey, h1, Result.andThen]
      rw [hrun] at hl0
      have e1 : e0.val = .int .i64 c0 := by simpa using hl0.symm
      have hsame : es.modify j (fun e => { e with key := key }) = es.modify j (fun e' => { e' with key := key, val := .int .i64 c0 }) := by
        apply Array.ext'
        rw [Array.toList_modify, Array.toList_modify, Go.ChangeMaps.modify_eq_set _ _ _ _ h2, Go.ChangeMaps.modify_eq_set _ _ _ _ h2, ← e1]
      refine ⟨e0.val, e0.born, setBlock w b (.map (es.modify j (fun e' => { e' with key := key, val := .int .i64 c0 })) clock), ?_, ?_⟩
      · simp [Instr.mapEntry, run_underlying ht, MapKept.run_getObj_map hb, K.check w false hkey, h1, hj, h3, K.stays w hkey, hsame, MapKept.run_setObj_map _ hb, Result.andThen, setBlock]
      · simp [Instr.mapUpdate, run_underlying ht, MapKept.run_getObj_map hb, K.check w false hkey, h1, hj, h3, K.stays w hkey, MapKept.run_setObj_map _ hb, Result.andThen, setBlock]
  obtain ⟨v0, st, W2, hE, hC⟩ := hA
  obtain ⟨w2, hu1, hu2, hu3⟩ := hU
  rw [hC] at hu1
  obtain rfl : W2 = w2 := by simpa using hu1
  obtain ⟨v1, st1, es1, clock1, hE1, _, hS⟩ := entry_then_store K ht hz hb F hkey
  rw [hE] at hE1
  have hst : st = st1 ∧ W2 = setBlock w b (.map es1 clock1) := by
    simp only [Result.ok.injEq, Value.tuple.injEq, goInt] at hE1
    obtain ⟨q1, q2⟩ := hE1
    simp at q1
    exact ⟨by omega, q2⟩
  obtain ⟨rfl, hW⟩ := hst
  obtain ⟨es', clock', hS1, hS2⟩ := hS W2 (.int .i64 (c0 + 1)) (by rw [hW]; exact heap_setBlock_same hb _)
  obtain ⟨w4, hv1, hv2, hv3⟩ := hU'
  rw [hS2] at hv1
  obtain rfl : setBlock w b (.map es' clock') = w4 := by simpa using hv1
  obtain ⟨c2, hrun2, hat2, _⟩ := hu2.lookup_int K' ht he (hz _) hkey
  rw [atKey_put_same hm hl] at hat2
  have e2 : c2 = c0 := by simpa using hat2.symm
  subst e2
  refine ⟨v0, _, W2, _, hrun, hE, hrun2, ?_, hv2, hu3, hv3⟩
  rw [hS1, hW, setBlock_two]
end
end Go.Proofs.Ytnjdoedhhpkjhaa
