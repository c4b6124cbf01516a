/-
  Sheets: the call of sort.SliceStable.
-/
import Derived.Test.YtbfkiopikkolcaaSortLay
import Derived.Test.YtbfkiopikkolcaaEvA
namespace Go.Proofs.Ytbfkiopikkolcaa
open Go.Shelf Go.RowKit Go.Lib Go.Sort
set_option linter.unusedVariables false

theorem grown_cell {w w' : World} {g k c b : Nat} (h : w.grownBy w' (Value.slice (some ⟨g, 0, none⟩) k c).ownBlock) (hb : b < w.heap.size) (hne : g ≠ b) : w'.cell? ⟨b, 0, none⟩ = w.cell? ⟨b, 0, none⟩ :=
  World.cell?_of_block (h.block b hb (by simp [Value.ownBlock]; omega))
theorem grown_frozen {w w' : World} {g k c b : Nat} (h : w.grownBy w' (Value.slice (some ⟨g, 0, none⟩) k c).ownBlock) (hb : b < w.heap.size) (hne : g ≠ b) : w'.frozen? ⟨b, 0, none⟩ = w.frozen? ⟨b, 0, none⟩ :=
  World.frozen?_of_block (h.block b hb (by simp [Value.ownBlock]; omega))

section
variable {α : Type} [Inhabited α]
theorem grownBy_sorted (enc : α → Value) (w : World) (k g : Nat) (d : Array α) (os : Array Obj) : w.grownBy (grow (putRow enc (Sort.ahead w k) g 0 d) os) (some g) := by
  refine ⟨rfl, rfl, rfl, ?_, ?_⟩
  · rw [size_grow, size_putRow, heap_ahead]; omega
  · intro q hq hne
    rw [heap_grow_old _ _ (by rw [size_putRow, heap_ahead]; exact hq)]
    show ((Sort.ahead w k).heap.modify g (onCells (putCells enc 0 d)))[q]? = w.heap[q]?
    rw [Array.getElem?_modify, if_neg (fun e => hne (by rw [e]))]; rfl
theorem owns_sorted (enc : α → Value) {w : World} {B : Nat} {E : TypeId} {g n cap : Nat} {xs : List Value} (h : w.ownsRow B E 1 (.slice (some ⟨g, 0, none⟩) n cap) n xs) (k : Nat) (d : Array α) (os : Array Obj) (hd : d.size = n) :
    (grow (putRow enc (Sort.ahead w k) g 0 d) os).ownsRow B E 1 (.slice (some ⟨g, 0, none⟩) n cap) n (d.toList.map enc) := by
  have hlt := (h.lt g rfl).2
  refine ⟨by simp [hd], .inr ?_⟩
  rcases h.2 with ⟨hv, _⟩ | ⟨g', cap', cur, hv, hb, hg, h1, h2, h3, h4⟩
  · cases hv
  cases hv
  refine ⟨g, cap, putCells enc 0 d cur, rfl, hb, ?_, h1, h2, ?_, ?_⟩
  · rw [heap_grow_old _ _ (by rw [size_putRow, heap_ahead]; exact hlt)]
    show ((Sort.ahead w k).heap.modify g (onCells (putCells enc 0 d)))[g]? = _
    rw [Array.getElem?_modify, if_pos rfl, heap_ahead, hg]; rfl
  · simp [putCells, h3]
  · apply List.ext_getElem
    · simp [putCells]; omega
    · intro i h5 h6
      have hi : i < d.size := by simpa using h6
      simp [putCells, hi]
end

def finE {m : Nat} (x : Fin (m + 1)) : Value := .int .i64 (x.val : Int)
theorem i64s_eq (l : List Nat) : i64s (l.map Int.ofNat) = l.map (fun x : Nat => Value.int .i64 (Int.ofNat x)) := by
  rw [i64s, List.map_map]; rfl
theorem fin_row (G : Nat → Int) (m : Nat) : (insertionSort (finLt G) (finA m) 0 (finA m).size).toList.map finE = i64s (evI G (m + 1)) := by
  rw [evI, ← fin_sort G m, i64s_eq, List.map_map]
  rfl
def upI (n : Nat) : List Int := (List.range n).map Int.ofNat
theorem upI_zero : upI 0 = [] := rfl
theorem upI_len (n : Nat) : (upI n).length = n := by simp [upI]
theorem upI_succ (n : Nat) : i64s (upI n) ++ [.int .i64 (n : Int)] = i64s (upI (n + 1)) := by
  simp [upI, i64s, List.range_succ]
theorem ev_tiny (G : Nat → Int) (n : Nat) (h : n ≤ 1) : evI G n = upI n := by
  match n, h with
  | 0, _ => rfl
  | 1, _ => rfl
theorem evI_len (G : Nat → Int) (n : Nat) : (evI G n).length = n := by simp [evI, evN_len]
theorem holds_fin {w : World} {B : Nat} {E : TypeId} {g m cap : Nat} (h : w.ownsRow B E 1 (.slice (some ⟨g, 0, none⟩) (m + 1) cap) (m + 1) (i64s (upI (m + 1)))) : Holds (finE (m := m)) w g 0 (finA m) := by
  intro j hj
  rw [finA_size] at hj
  refine ⟨?_, h.frozenAt _⟩
  rw [show (0 + j) = j from Nat.zero_add j, h.cellAt j (by omega), i64s_getD (by rw [upI_len]; exact hj)]
  have e : (finA m)[j]! = ⟨j, hj⟩ := by
    rw [getElem!_pos _ j (by rw [finA_size]; exact hj)]; simp [finA]
  rw [e]
  simp [upI, finE, List.getD, hj]

set_option maxHeartbeats 2000000 in
/-- the closure -/
theorem less_sheets (b o n cap blk c Bw Bo : Nat) (W : World) (G : Nat → Int) (hw : W.cell? ⟨Bw, 0, none⟩ = some (.slice (some ⟨b, o, none⟩) n cap)) (ho : W.cell? ⟨Bo, 0, none⟩ = some (.slice (some ⟨blk, 0, none⟩) n c))
    (hc : ∀ t, t < n → W.cell? ⟨b, o + t, none⟩ = some (.int .i64 (G t))) (i j p q : Nat) (hi : i < n) (hj : j < n) (hp : p < n) (hq : q < n)
    (hip : W.cell? ⟨blk, i, none⟩ = some (.int .i64 p)) (hjq : W.cell? ⟨blk, j, none⟩ = some (.int .i64 q)) (hsz : n < 4611686018427387904) :
    Calls Try.prog 71 #[.int .i64 i, .int .i64 j, .pointer (some ⟨Bw, 0, none⟩), .pointer (some ⟨Bo, 0, none⟩)] W fun e w' => e = .returned (.bool (decide (G p < G q))) ∧ ∃ q, w' = W.drewN q := by
  have cp := hc p hp
  have cq := hc q hq
  clear hc
  generalize G p = x at *
  generalize G q = y at *
  go_enter Try.func71, Try.ntmps71
  go_wp2
  go_quiet (fail)
  go_wp2
  go_ret
  exact ⟨rfl, nq, rfl⟩
noncomputable def siT : TypeInfo := (Try.prog.info? 37).get (by kernel_rfl)
noncomputable def siE : TypeInfo := (Try.prog.info? 2).get (by kernel_rfl)
theorem siK (n : Nat) (h2 : 2 ≤ n) : Lib.swapperK n siE 6 = 5 := by
  have a : siE.hasPointers = false := by kernel_rfl
  have b : siE.bytes = 8 := by kernel_rfl
  have c : (n == 0) = false := by simp; omega
  have d : (n == 1) = false := by simp; omega
  simp [Lib.swapperK, a, b, c, d]

/-- what the sort leaves: the row in its order, all else as it was -/
def Sorted (w : World) (g n cap B : Nat) (xs : List Value) (w' : World) : Prop :=
  w.grownBy w' (some g) ∧ w'.ownsRow B 2 1 (.slice (some ⟨g, 0, none⟩) n cap) n xs
set_option maxHeartbeats 4000000 in
theorem stable_any (ao : Option Addr) (n cap blk c Bw Bo B : Nat) (w : World) (G : Nat → Int) (hw : w.cell? ⟨Bw, 0, none⟩ = some (.slice ao n cap)) (ho : w.cell? ⟨Bo, 0, none⟩ = some (.slice (some ⟨blk, 0, none⟩) n c))
    (hrd : n = 0 ∨ ∃ b o, ao = some ⟨b, o, none⟩ ∧ b ≠ blk ∧ b < w.heap.size ∧ ∀ t, t < n → w.cell? ⟨b, o + t, none⟩ = some (.int .i64 (G t))) (hrow : w.ownsRow B 2 1 (.slice (some ⟨blk, 0, none⟩) n c) n (i64s (upI n)))
    (h1 : Bw ≠ blk) (h2 : Bo ≠ blk) (hlw : Bw < w.heap.size) (hlo : Bo < w.heap.size) (h12 : n ≤ 12) :
    Calls Try.prog 70 #[.iface 37 (.slice (some ⟨blk, 0, none⟩) n c), .func (.func 71) #[] #[.pointer (some ⟨Bw, 0, none⟩), .pointer (some ⟨Bo, 0, none⟩)]] w fun e w' => e = .returned (.tuple #[]) ∧ Sorted w blk n c B (i64s (evI G n)) w' := by
  have hblk := (hrow.lt blk rfl).2
  by_cases hn : n ≤ 1
  · have hf : ∃ f, Try.prog.funcs.findIdx? (·.name == "internal/reflectlite" ++ ".Swapper$" ++ toString (swapperK n siE 6)) = some f := by
      match n, hn with
      | 0, _ => exact ⟨79, by kernel_rfl⟩
      | 1, _ => exact ⟨80, by kernel_rfl⟩
    obtain ⟨f, hf⟩ := hf
    refine (Any.sort_SliceStable_tiny ev_lays 37 2 siT siE (by kernel_rfl) (by kernel_rfl) (by kernel_rfl) (by kernel_rfl) 6 (fun _ => by kernel_rfl) _ n c hn f hf _ _ _ w).mono ?_
    rintro e w' ⟨rfl, os, rfl⟩
    refine ⟨rfl, ?_, ?_⟩
    · refine ⟨rfl, rfl, rfl, by simp, fun k hk _ => heap_grow_old _ _ hk⟩
    · rw [ev_tiny G n hn]
      exact owns_below hrow ⟨rfl, rfl, rfl, by simp, fun k hk => heap_grow_old _ _ hk⟩
  rcases hrd with h0 | ⟨b, o, rfl, h3, hlb, hc⟩
  · omega
  obtain ⟨m, rfl⟩ : ∃ m, n = m + 1 := ⟨n - 1, by omega⟩
  have hH := holds_fin hrow
  have hd : (finA m).size = m + 1 := finA_size m
  have hless : LessReads Try.prog 71 #[.pointer (some ⟨Bw, 0, none⟩), .pointer (some ⟨Bo, 0, none⟩)] (finE (m := m)) (finLt G) blk 0 (finA m).size w := by
    intro q os dk hs i j hi hj
    rw [hd] at hs hi hj
    have e : sortWorld (finE (m := m)) w blk 0 q dk os = putRow finE (grow (Sort.ahead w q) os) blk 0 dk := by
      unfold sortWorld; rw [putRow_grow _ (Sort.ahead w q) _ blk 0 _ hblk]
    have hHg : Holds (finE (m := m)) (grow (Sort.ahead w q) os) blk 0 (finA m) := holds_grow _ _ _ blk 0 _ hblk (holds_ahead _ _ _ _ _ _ hH)
    have hoth : ∀ B0 off, B0 ≠ blk → B0 < w.heap.size → (sortWorld (finE (m := m)) w blk 0 q dk os).cell? ⟨B0, off, none⟩ = w.cell? ⟨B0, off, none⟩ := by
      intro B0 off hne hl
      rw [e, cell?_putRow_other _ _ blk 0 dk _ (Or.inl hne), cell?_grow _ _ _ (by rw [heap_ahead]; exact hl), cell?_ahead]
    have hin : ∀ t, t < m + 1 → (sortWorld (finE (m := m)) w blk 0 q dk os).cell? ⟨blk, t, none⟩ = some (finE dk[t]!) := by
      intro t ht
      have := cell?_putRow (finE (m := m)) (grow (Sort.ahead w q) os) blk 0 (finA m) dk hHg (by rw [hs, hd]) t (by rw [hs]; exact ht)
      rw [Nat.zero_add] at this
      rw [e]; exact this
    have := less_sheets b o (m + 1) cap blk c Bw Bo (sortWorld (finE (m := m)) w blk 0 q dk os) G ((hoth Bw 0 h1 hlw).trans hw) ((hoth Bo 0 h2 hlo).trans ho) (fun t ht => (hoth b _ h3 hlb).trans (hc t ht)) i j (dk[i]!).val (dk[j]!).val hi hj (dk[i]!).isLt (dk[j]!).isLt (hin i hi) (hin j hj) (by omega)
    exact this
  have hS := Any.sort_SliceStable_small ev_lays 37 2 siT siE (by kernel_rfl) (by kernel_rfl) (by kernel_rfl) (by kernel_rfl) 6 (fun _ => by kernel_rfl) (by kernel_rfl) (fun _ => by kernel_rfl) (finE (m := m)) (fun _ => rfl) (finLt G) 71 _
    (enters_of Try.func71 (by kernel_rfl) rfl) blk 0 c (finA m) (by rw [hd]; omega) (by rw [hd]; omega) 83 (by rw [siK _ (by rw [hd]; omega)]; kernel_rfl) true
    (fun args W => run_callFunc_extern Try.func83 (by kernel_rfl) (by kernel_rfl) (by kernel_rfl) (e := Extern.ReflectliteSwapper.swap true) (by kernel_rfl) args W) w hless hH hblk
  rw [hd] at hS
  change Calls Try.prog 70 _ _ _ at hS
  refine hS.mono ?_
  rintro e w' ⟨rfl, k, os, rfl⟩
  refine ⟨rfl, grownBy_sorted _ _ _ _ _ _, ?_⟩
  have hsz := fin_sort_size G m
  rw [hd] at hsz
  have := owns_sorted (finE (m := m)) hrow k (insertionSort (finLt G) (finA m) 0 (m + 1)) os hsz
  have hr := fin_row G m
  rw [hd] at hr
  rw [hr] at this
  exact this
end Go.Proofs.Ytbfkiopikkolcaa
