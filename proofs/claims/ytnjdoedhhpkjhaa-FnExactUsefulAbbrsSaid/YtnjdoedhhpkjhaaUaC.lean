/-
  The abbreviations by what they save: what the library's stable sort leaves.
-/
import Derived.Test.YtnjdoedhhpkjhaaUaB
namespace Go.Proofs.Ytnjdoedhhpkjhaa
open Go.Shelf Go.RowKit Go.Lib Go.Sort
set_option linter.unusedVariables false

section
variable {α : Type} [Inhabited α] {lt T : α → α → Bool}
set_option maxHeartbeats 4000000 in
theorem sliceStable_big (hT : SWO T) (t e : TypeId) (i ie : TypeInfo) (hi : Try.prog.info? t = some i) (hd : i.desc = .slice e) (hpk : Try.prog.packed t = false) (hie : Try.prog.info? e = some ie) (ke : Nat) (hke : ∀ w, (Extern.Rtype.kind e).run Try.prog w = .ok ke w)
    (hs1 : ie.size = 1) (hagg : ∀ w, (isAgg e).run Try.prog w = .ok false w) (enc : α → Value) (h1 : ∀ x, (enc x).oneCell' = true) (g : Nat) (lb : Array Value)
    (eg : ∀ args w, (callFunc g args).run Try.prog w = .ok (.enter g args) w) (blk off c : Nat) (d : Array α) (h20 : 20 < d.size) (h40 : d.size < 40)
    (hsee : ∀ p q, p < q → q < d.size → lt d[q]! d[p]! = T d[q]! d[p]!)
    (f : Nat) (hf : Try.prog.funcs.findIdx? (·.name == "internal/reflectlite" ++ ".Swapper$" ++ toString (swapperK d.size ie ke)) = some f)
    (gS : Bool) (hx : ∀ args W, (callFunc f args).run Try.prog W = ((Extern.ReflectliteSwapper.swap gS args).run Try.prog W).andThen fun v w' => .ok (.value v) w')
    (w : World) (hless : LessReads Try.prog g lb enc lt blk off d.size w) (hH : Holds enc w blk off d) (hblk : blk < w.heap.size) :
    Calls Try.prog 37 #[.iface t (.slice (some ⟨blk, off, none⟩) d.size c), .func (.func g) #[] lb] w fun e w' =>
      e = .returned (.tuple #[]) ∧ ∃ d' n os, Done T 0 d.size d d' ∧ w' = grow (putRow enc (Sort.ahead w n) blk off d') os := by
  refine Any.sort_SliceStable_of_stable st_lays t e i ie hi hd hpk hie ke hke _ d.size c (by omega) f hf (.func g) #[] lb w _ ?_
  have hB : sliceBound Try.prog e ie ke (some ⟨blk, off, none⟩) d.size c = #[.slice (some ⟨blk, off, none⟩) d.size c, typeHandle Try.prog e] := by
    unfold sliceBound; rw [if_neg (swapperK_gt _ _ _ (by omega))]
  have hW : stableWorld Try.prog st_ren t (some ⟨blk, off, none⟩) d.size c w = grow w #[.cells #[.slice (some ⟨blk, off, none⟩) d.size c] t, .cells #[.pointer (some ⟨Try.prog.globals.size, t, none⟩), .pointer (some ⟨w.heap.size, 0, none⟩), .int .u64 151] (st_ren.t 36)] := by
    unfold stableWorld; rw [alloc_eq_grow, alloc_eq_grow, grow_grow]; rfl
  generalize (#[.cells #[.slice (some ⟨blk, off, none⟩) d.size c] t, .cells #[.pointer (some ⟨Try.prog.globals.size, t, none⟩), .pointer (some ⟨w.heap.size, 0, none⟩), .int .u64 151] (st_ren.t 36)] : Array Obj) = os0 at hW
  rw [hB, hW]
  have hp := stable_big hT enc g lb f _ blk off d (grow w os0) eg (hless.grow hblk os0)
    (swapSwaps_of_literal gS f hx e ie hie hs1 hagg enc h1 blk off d.size c) (holds_grow enc w _ blk off d hblk hH) (by rw [size_grow]; omega) h20 h40 hsee
  refine hp.mono ?_
  rintro e w' ⟨rfl, d', hd', n, os, rfl⟩
  exact ⟨rfl, d', n, _, hd', by unfold sortWorld; rw [ahead_grow, putRow_grow enc (Sort.ahead w n) _ blk off _ hblk, grow_grow]⟩
end

def finE {m : Nat} (x : Fin (m + 1)) : Value := .int .i64 (x.val : Int)
def natI (L : List Nat) : List Int := L.map Int.ofNat
theorem natI_len (L : List Nat) : (natI L).length = L.length := by simp [natI]
theorem natI_row (L : List Nat) : i64s (natI L) = L.map (fun x : Nat => Value.int .i64 (x : Int)) := by
  unfold natI i64s; rw [List.map_map]; rfl
theorem fin_rowU {m : Nat} {d : Array (Fin (m + 1))} {L : List Nat} (h : d.toList.map Fin.val = L) : d.toList.map finE = i64s (natI L) := by
  subst h
  rw [natI_row, List.map_map]; rfl
theorem holds_finU {w : World} {B : Nat} {E : TypeId} {g k m cap : Nat} {L : List Nat} (hL : ∀ x ∈ L, x < m + 1) (hk : k = L.length) (h : w.ownsRow B E 1 (.slice (some ⟨g, 0, none⟩) k cap) k (i64s (natI L))) : Holds (finE (m := m)) w g 0 (finL m L) := by
  intro j hj
  rw [finL_size] at hj
  refine ⟨?_, h.frozenAt _⟩
  rw [show (0 + j) = j from Nat.zero_add j, h.cellAt j (by omega), natI_row, List.getElem?_map, List.getElem?_eq_getElem hj]
  show some (Value.int .i64 (L[j] : Int)) = some (Value.int .i64 (((finL m L)[j]!).val : Int))
  rw [finL_get hL hj]
noncomputable def usT : TypeInfo := (Try.prog.info? 24).get (by kernel_rfl)
noncomputable def usE : TypeInfo := (Try.prog.info? 2).get (by kernel_rfl)
theorem usK (n : Nat) (h2 : 2 ≤ n) : Lib.swapperK n usE 6 = 5 := by
  have a : usE.hasPointers = false := by kernel_rfl
  have b : usE.bytes = 8 := by kernel_rfl
  have c : (n == 0) = false := by simp; omega
  have d : (n == 1) = false := by simp; omega
  simp [Lib.swapperK, a, b, c, d]
theorem foldSmall (S : Nat → Int) {L : List Nat} (h : L.length ≤ 1) : L.foldl (evStep (uLt S)) [] = L := by
  match L, h with
  | [], _ => rfl
  | [x], _ => rfl
/-- what the sort leaves: the row in its order, all else as it was -/
def Sorted (w : World) (g n cap B : Nat) (xs : List Value) (w' : World) : Prop :=
  w.grownBy w' (some g) ∧ w'.ownsRow B 2 1 (.slice (some ⟨g, 0, none⟩) n cap) n xs
theorem UsC.kept {w w' : World} {bm bl mb nW blk : Nat} {ao : Option Addr} {n cap : Nat} {l : List Ab} {W : List ByteArray} (h : UsC w bm bl mb nW ao n cap l W) (hg : w.grownBy w' (some blk)) (h1 : bm < w.heap.size ∧ bm ≠ blk) (h2 : bl < w.heap.size ∧ bl ≠ blk) (h3 : mb ≠ blk) (h4 : ∀ b o, ao = some ⟨b, o, none⟩ → l = [] ∨ (b < w.heap.size ∧ b ≠ blk)) :
    UsC w' bm bl mb nW ao n cap l W := by
  obtain ⟨hn, cm, cl, ⟨D, hD, hC⟩, rows, small, few⟩ := h
  have hc : ∀ b o, b < w.heap.size → b ≠ blk → w'.cell? ⟨b, o, none⟩ = w.cell? ⟨b, o, none⟩ := fun b o h5 h6 => World.cell?_of_block (hg.block b h5 (by simp; exact h6))
  refine ⟨hn, (hc _ _ h1.1 h1.2).trans cm, (hc _ _ h2.1 h2.2).trans cl, ⟨D, hD.kept hg (by simp; exact h3), hC⟩, fun t ht => ?_, small, few⟩
  obtain ⟨b, o, rfl, c1, c2⟩ := rows t ht
  rcases h4 b o rfl with h5 | ⟨h5, h6⟩
  · rw [h5] at ht; simp at ht
  · exact ⟨b, o, rfl, (hc _ _ h5 h6).trans c1, (hc _ _ h5 h6).trans c2⟩

set_option maxHeartbeats 8000000 in
theorem stableU_any (bm bl bu bo mb nW blk k c B : Nat) (ao : Option Addr) (n cap : Nat) (l : List Ab) (W : List ByteArray) (L : List Nat) (w : World) (h : UsC w bm bl mb nW ao n cap l W)
    (cu : w.cell? ⟨bu, 0, none⟩ = some (.func (.func 36) #[] #[.pointer (some ⟨bm, 0, none⟩), .pointer (some ⟨bl, 0, none⟩)])) (co : w.cell? ⟨bo, 0, none⟩ = some (.slice (some ⟨blk, 0, none⟩) k c))
    (hk : k = L.length) (hL : ∀ x ∈ L, x < n) (hasc : L.Pairwise (· < ·)) (hk30 : k ≤ 30) (hrow : w.ownsRow B 2 1 (.slice (some ⟨blk, 0, none⟩) k c) k (i64s (natI L)))
    (h1 : bm < w.heap.size ∧ bm ≠ blk) (h2 : bl < w.heap.size ∧ bl ≠ blk) (h3 : mb ≠ blk) (h4 : ∀ b o, ao = some ⟨b, o, none⟩ → l = [] ∨ (b < w.heap.size ∧ b ≠ blk)) (h5 : bu < w.heap.size ∧ bu ≠ blk) (h6 : bo < w.heap.size ∧ bo ≠ blk) :
    Calls Try.prog 37 #[.iface 24 (.slice (some ⟨blk, 0, none⟩) k c), .func (.func 38) #[] #[.pointer (some ⟨bu, 0, none⟩), .pointer (some ⟨bo, 0, none⟩)]] w fun e w' =>
      e = .returned (.tuple #[]) ∧ Sorted w blk k c B (i64s (natI (L.foldl (evStep (uLt (sv l W))) []))) w' := by
  have hblk := (hrow.lt blk rfl).2
  by_cases hn1 : k ≤ 1
  · have hf : ∃ f, Try.prog.funcs.findIdx? (·.name == "internal/reflectlite" ++ ".Swapper$" ++ toString (swapperK k usE 6)) = some f := by
      match k, hn1 with
      | 0, _ => exact ⟨86, by kernel_rfl⟩
      | 1, _ => exact ⟨87, by kernel_rfl⟩
    obtain ⟨f, hf⟩ := hf
    refine (Any.sort_SliceStable_tiny st_lays 24 2 usT usE (by kernel_rfl) (by kernel_rfl) (by kernel_rfl) (by kernel_rfl) 6 (fun _ => by kernel_rfl) _ k c hn1 f hf _ _ _ w).mono ?_
    rintro e w' ⟨rfl, os, rfl⟩
    refine ⟨rfl, ?_, ?_⟩
    · refine ⟨rfl, rfl, rfl, by simp, fun k hk _ => heap_grow_old _ _ hk⟩
    · rw [foldSmall _ (by omega)]
      exact owns_below hrow ⟨rfl, rfl, rfl, by simp, fun k hk => heap_grow_old _ _ hk⟩
  obtain ⟨m, rfl⟩ : ∃ m, n = m + 1 := by
    cases n with
    | zero =>
      exfalso
      cases L with
      | nil => simp at hk; omega
      | cons x L => exact Nat.not_lt_zero _ (hL x List.mem_cons_self)
    | succ m => exact ⟨m, rfl⟩
  have hH := holds_finU (m := m) hL hk hrow
  have hd : (finL m L).size = k := by rw [finL_size, hk]
  have hless : LessReads Try.prog 38 #[.pointer (some ⟨bu, 0, none⟩), .pointer (some ⟨bo, 0, none⟩)] (finE (m := m)) (uF (sv l W)) blk 0 (finL m L).size w := by
    intro q os dk hs i j hi hj
    rw [hd] at hs hi hj
    have hg := grownBy_sorted (finE (m := m)) w q blk dk os
    have e : sortWorld (finE (m := m)) w blk 0 q dk os = putRow finE (grow (Sort.ahead w q) os) blk 0 dk := by
      unfold sortWorld; rw [putRow_grow _ (Sort.ahead w q) _ blk 0 _ hblk]
    have hHg : Holds (finE (m := m)) (grow (Sort.ahead w q) os) blk 0 (finL m L) := holds_grow _ _ _ blk 0 _ hblk (holds_ahead _ _ _ _ _ _ hH)
    have hoth : ∀ b, b < w.heap.size → b ≠ blk → (sortWorld (finE (m := m)) w blk 0 q dk os).cell? ⟨b, 0, none⟩ = w.cell? ⟨b, 0, none⟩ := fun b h7 h8 => World.cell?_of_block (hg.block b h7 (by simp; exact h8))
    have hin : ∀ t, t < k → (sortWorld (finE (m := m)) w blk 0 q dk os).cell? ⟨blk, t, none⟩ = some (finE dk[t]!) := by
      intro t ht
      have := cell?_putRow (finE (m := m)) (grow (Sort.ahead w q) os) blk 0 (finL m L) dk hHg (by rw [hs, hd]) t (by rw [hs]; exact ht)
      rw [Nat.zero_add] at this
      rw [e]; exact this
    exact less_any bm bl bu bo mb nW blk k c ao (m + 1) cap l W _ (h.kept hg h1 h2 h3 h4) ((hoth bu h5.1 h5.2).trans cu) ((hoth bo h6.1 h6.2).trans co) i j (dk[i]!).val (dk[j]!).val hi hj (dk[i]!).isLt (dk[j]!).isLt (hin i hi) (hin j hj)
  have eg := enters_of Try.func38 (by kernel_rfl) rfl
  have hsw : ∀ args W, (callFunc 90 args).run Try.prog W = ((Extern.ReflectliteSwapper.swap true args).run Try.prog W).andThen fun v w' => .ok (.value v) w' :=
    fun args W => run_callFunc_extern Try.func90 (by kernel_rfl) (by kernel_rfl) (by kernel_rfl) (e := Extern.ReflectliteSwapper.swap true) (by kernel_rfl) args W
  by_cases h20 : k ≤ 20
  · have hS := Any.sort_SliceStable_small st_lays 24 2 usT usE (by kernel_rfl) (by kernel_rfl) (by kernel_rfl) (by kernel_rfl) 6 (fun _ => by kernel_rfl) (by kernel_rfl) (fun _ => by kernel_rfl) (finE (m := m)) (fun _ => rfl) (uF (sv l W)) 38 _
      eg blk 0 c (finL m L) (by rw [hd]; omega) (by rw [hd]; omega) 90 (by rw [usK _ (by rw [hd]; omega)]; kernel_rfl) true hsw w hless hH hblk
    rw [hd] at hS
    change Calls Try.prog 37 _ _ _ at hS
    refine hS.mono ?_
    rintro e w' ⟨rfl, q, os, rfl⟩
    refine ⟨rfl, grownBy_sorted _ _ _ _ _ _, ?_⟩
    have hl := ins_list (M := m) (sv l W) hL (by omega)
    rw [hd] at hl
    have hz : (insertionSort (uF (sv l W)) (finL m L) 0 k).size = k := by
      have := congrArg List.length hl
      rw [List.length_map, Array.length_toList, evFold_len] at this
      rw [this, hk]; simp
    have := owns_sorted (finE (m := m)) hrow q _ os hz
    rw [fin_rowU hl] at this
    exact this
  · have hS := sliceStable_big (uT_swo (sv l W)) 24 2 usT usE (by kernel_rfl) (by kernel_rfl) (by kernel_rfl) (by kernel_rfl) 6 (fun _ => by kernel_rfl) (by kernel_rfl) (fun _ => by kernel_rfl) (finE (m := m)) (fun _ => rfl) 38 _
      eg blk 0 c (finL m L) (by rw [hd]; omega) (by rw [hd]; omega) (see_asc (sv l W) hL hasc) 90 (by rw [usK _ (by rw [hd]; omega)]; kernel_rfl) true hsw w hless hH hblk
    rw [hd] at hS
    refine hS.mono ?_
    rintro e w' ⟨rfl, d', q, os, hdn, rfl⟩
    refine ⟨rfl, grownBy_sorted _ _ _ _ _ _, ?_⟩
    have hl := done_list (M := m) (sv l W) hL hasc (by omega) (by rw [hd]; exact hdn)
    have hz : d'.size = k := by rw [hdn.perm.1, hd]
    have := owns_sorted (finE (m := m)) hrow q d' os hz
    rw [fin_rowU hl] at this
    exact this
end Go.Proofs.Ytnjdoedhhpkjhaa
