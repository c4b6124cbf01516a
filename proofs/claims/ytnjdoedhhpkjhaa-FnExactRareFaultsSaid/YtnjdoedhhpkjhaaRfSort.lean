/-
  The call of sort.Slice on faults.
-/
import Derived.Test.YtnjdoedhhpkjhaaSliceLay
import Derived.Test.YtnjdoedhhpkjhaaRfMath
namespace Go.Proofs.Ytnjdoedhhpkjhaa
open Go.Shelf Go.RowKit Go.Lib Go.Sort
set_option linter.unusedVariables false

theorem drewN_two (W : World) (a b : Nat) : (W.drewN a).drewN b = W.drewN (a + b) := by
  simp [World.drewN, Nat.add_assoc]
set_option maxHeartbeats 2000000 in
/-- the closure -/
theorem less_rf (blk c n Bo : Nat) (W : World) (x y : Se) (ho : W.cell? ⟨Bo, 0, none⟩ = some (.slice (some ⟨blk, 0, none⟩) n c)) (i j : Nat) (hi : i < n) (hj : j < n) (hsz : n < 4611686018427387904)
    (hx0 : W.cell? ⟨blk, i * 2, none⟩ = some (.string x.1)) (hx1 : W.cell? ⟨blk, i * 2 + 1, none⟩ = some (.int .i64 x.2)) (hy0 : W.cell? ⟨blk, j * 2, none⟩ = some (.string y.1)) (hy1 : W.cell? ⟨blk, j * 2 + 1, none⟩ = some (.int .i64 y.2)) :
    Calls Try.prog 53 #[.int .i64 i, .int .i64 j, .pointer (some ⟨Bo, 0, none⟩)] W fun e w' => e = .returned (.bool (seLt x y)) ∧ ∃ q, w' = W.drewN q := by
  obtain ⟨a, p⟩ := x
  obtain ⟨b, q⟩ := y
  dsimp only at hx0 hx1 hy0 hy1
  by_cases he : a = b
  · have hs := hid (seLt_same (x := (a, p)) (y := (b, q)) he)
    have h1 : (a.toList == b.toList) = true := by rw [he]; simp
    generalize seLt (a, p) (b, q) = r at *
    clear he
    go_enter Try.func53, Try.ntmps53
    go_wp2_with fail
    go_quiet (fail)
    go_wp2_with fail
    go_quiet (fail)
    go_wp2_with fail
    go_ret
    rw [hs.out]
    exact ⟨rfl, _, drewN_two _ _ _⟩
  · have hs := hid (seLt_other (x := (a, p)) (y := (b, q)) he)
    have h1 : (a.toList == b.toList) = false := by
      have : ¬ a.toList = b.toList := fun e => he (ext_tl e)
      simpa using this
    generalize seLt (a, p) (b, q) = r at *
    clear he
    go_enter Try.func53, Try.ntmps53
    go_wp2_with fail
    go_quiet (fail)
    go_wp2_with fail
    go_quiet (fail)
    go_wp2_with fail
    go_ret
    rw [hs.out]
    exact ⟨rfl, _, drewN_two _ _ _⟩

noncomputable def sfT : TypeInfo := (Try.prog.info? 43).get (by kernel_rfl)
noncomputable def sfE : TypeInfo := (Try.prog.info? 82).get (by kernel_rfl)
theorem sfK (n : Nat) (h2 : 2 ≤ n) : Lib.swapperK n sfE 25 = 9 := by
  have a : sfE.hasPointers = true := by kernel_rfl
  have b : (sfE.bytes == 8) = false := by kernel_rfl
  have c : (n == 0) = false := by simp; omega
  have d : (n == 1) = false := by simp; omega
  simp [Lib.swapperK, a, b, c, d]

theorem flatSe_eq (d : Array Se) : (flatK seF 2 d).toList = ses d.toList := by
  apply List.ext_getElem
  · rw [Array.length_toList, size_flatK, ses_len, Array.length_toList]
  · intro t h1 h2
    rw [Array.length_toList, size_flatK] at h1
    have h3 : t / 2 < d.size := by omega
    have e1 : (flatK seF 2 d).toList[t]'(by rw [Array.length_toList, size_flatK]; exact h1) = (flatK seF 2 d)[t]! := by
      rw [getElem!_pos _ t (by rw [size_flatK]; exact h1), Array.getElem_toList]
    rw [e1, get_flatK _ _ _ _ h1]
    have e2 := flat_get seF_len d.toList (t / 2) (t % 2) (by simpa using h3) (by omega)
    have e3 : t / 2 * 2 + t % 2 = t := by omega
    rw [e3] at e2
    have e4 : (ses d.toList)[t]? = some (ses d.toList)[t] := List.getElem?_eq_getElem h2
    unfold ses at e4 ⊢
    rw [e2] at e4
    rw [getElem!_pos d (t / 2) h3]
    have e5 : (seF d[t / 2])[t % 2]? = some ((flat seF d.toList)[t]'(by unfold ses at h2; exact h2)) := by rw [← e4]; simp
    rw [List.getElem!_eq_getElem?_getD, e5]
    rfl
theorem holds_se {w : World} {B blk n c : Nat} {L : List Se} (hn : n = L.length) (h : w.ownsRow B 82 2 (.slice (some ⟨blk, 0, none⟩) n c) n (ses L)) : HoldsK seF 2 w blk 0 L.toArray := by
  intro t ht
  rw [size_flatK] at ht
  have ht2 : t < L.length * 2 := by simpa using ht
  refine ⟨?_, h.frozenAt _⟩
  have e := flatSe_eq L.toArray
  have h3 : (flatK seF 2 L.toArray).size = L.length * 2 := by rw [size_flatK]; simp
  rw [show 0 + t = t from Nat.zero_add t, h.cellAt t (by omega)]
  have e1 : (ses L)[t]? = some (flatK seF 2 L.toArray)[t]! := by
    have : (flatK seF 2 L.toArray).toList[t]? = some (flatK seF 2 L.toArray)[t]! := by
      rw [List.getElem?_eq_getElem (by rw [Array.length_toList, h3]; exact ht2), Array.getElem_toList, getElem!_pos _ t (by rw [h3]; exact ht2)]
    rw [← this, e]
  rw [e1]; rfl
theorem owns_sortedK {w : World} {B blk n c : Nat} {xs : List Value} (h : w.ownsRow B 82 2 (.slice (some ⟨blk, 0, none⟩) n c) n xs) (k : Nat) (d : Array Se) (os : Array Obj) (hd : d.size = n) :
    (grow (putRowK seF 2 (Sort.ahead w k) blk 0 d) os).ownsRow B 82 2 (.slice (some ⟨blk, 0, none⟩) n c) n (ses d.toList) := by
  have hlt := (h.lt blk rfl).2
  refine ⟨by simp [ses_len, hd], .inr ?_⟩
  rcases h.2 with ⟨hv, _⟩ | ⟨g', cap', cur, hv, hb, hg, h1, h2, h3, h4⟩
  · cases hv
  cases hv
  refine ⟨blk, c, putCells id 0 (flatK seF 2 d) cur, rfl, hb, ?_, h1, h2, ?_, ?_⟩
  · rw [heap_grow_old _ _ (by unfold putRowK; rw [size_putRow, heap_ahead]; exact hlt)]
    show ((Sort.ahead w k).heap.modify blk (onCells (putCells id 0 (flatK seF 2 d))))[blk]? = _
    rw [Array.getElem?_modify, if_pos rfl, heap_ahead, hg]; rfl
  · simp [putCells, h3]
  · rw [← flatSe_eq]
    apply List.ext_getElem
    · simp [putCells, size_flatK]; omega
    · intro i h5 h6
      have hi : i < (flatK seF 2 d).size := by simpa using h6
      have hi2 : i < d.size * 2 := by rw [size_flatK] at hi; exact hi
      simp only [putCells]
      simp [hi2]
theorem grownBy_sortedK (w : World) (k blk : Nat) (d : Array Se) (os : Array Obj) : w.grownBy (grow (putRowK seF 2 (Sort.ahead w k) blk 0 d) os) (some blk) := by
  refine ⟨rfl, rfl, rfl, ?_, ?_⟩
  · unfold putRowK; rw [size_grow, size_putRow, heap_ahead]; omega
  · intro q hq hne
    unfold putRowK
    rw [heap_grow_old _ _ (by rw [size_putRow, heap_ahead]; exact hq)]
    show ((Sort.ahead w k).heap.modify blk (onCells (putCells id 0 _)))[q]? = w.heap[q]?
    rw [Array.getElem?_modify, if_neg (fun e => hne (by rw [e]))]; rfl

/-- what the sort leaves -/
def SortedSe (w : World) (B blk c n : Nat) (L : List Se) (w' : World) : Prop :=
  ∃ d : List Se, d.Perm L ∧ (∀ i j (hi : i < d.length) (hj : j < d.length), i < j → seLt d[j] d[i] = false) ∧ w.grownBy w' (some blk) ∧ w'.ownsRow B 82 2 (.slice (some ⟨blk, 0, none⟩) n c) n (ses d)
set_option maxHeartbeats 4000000 in
theorem rfSort_any (B blk c n Bo : Nat) (L : List Se) (w : World) (hn : n = L.length) (h120 : n ≤ 1048576) (ho : w.cell? ⟨Bo, 0, none⟩ = some (.slice (some ⟨blk, 0, none⟩) n c)) (hne : Bo ≠ blk) (hlo : Bo < w.heap.size)
    (hrow : w.ownsRow B 82 2 (.slice (some ⟨blk, 0, none⟩) n c) n (ses L)) :
    Calls Try.prog 52 #[.iface 43 (.slice (some ⟨blk, 0, none⟩) n c), .func (.func 53) #[] #[.pointer (some ⟨Bo, 0, none⟩)]] w fun e w' => e = .returned (.tuple #[]) ∧ SortedSe w B blk c n L w' := by
  have hblk := (hrow.lt blk rfl).2
  by_cases h1 : n ≤ 1
  · have hf : ∃ f, Try.prog.funcs.findIdx? (·.name == "internal/reflectlite" ++ ".Swapper$" ++ toString (swapperK n sfE 25)) = some f := by
      match n, h1 with
      | 0, _ => exact ⟨86, by kernel_rfl⟩
      | 1, _ => exact ⟨87, by kernel_rfl⟩
    obtain ⟨f, hf⟩ := hf
    refine (Any.sort_Slice_tiny sl_lays 43 82 sfT sfE (by kernel_rfl) (by kernel_rfl) (by kernel_rfl) (by kernel_rfl) 25 (fun _ => by kernel_rfl) _ n c h1 f hf _ _ _ w).mono ?_
    rintro e w' ⟨rfl, os, rfl⟩
    refine ⟨rfl, L, List.Perm.refl _, fun i j hi hj hij => by omega, ?_, ?_⟩
    · exact ⟨rfl, rfl, rfl, by simp, fun k hk _ => heap_grow_old _ _ hk⟩
    · exact owns_below hrow ⟨rfl, rfl, rfl, by simp, fun k hk => heap_grow_old _ _ hk⟩
  have hd : L.toArray.size = n := by simp [hn]
  have hH := holds_se hn hrow
  have hless : LessReadsK Try.prog 53 #[.pointer (some ⟨Bo, 0, none⟩)] seF 2 seLt blk 0 L.toArray.size w := by
    intro q os dk hs i j hi hj
    rw [hd] at hs hi hj
    have e : sortWorldK seF 2 w blk 0 q dk os = putRowK seF 2 (grow (Sort.ahead w q) os) blk 0 dk := by
      unfold sortWorldK; rw [putRowK_grow _ _ (Sort.ahead w q) _ blk 0 _ hblk]
    have hHg : HoldsK seF 2 (grow (Sort.ahead w q) os) blk 0 L.toArray := holdsK_grow _ _ _ _ blk 0 _ hblk (holdsK_ahead _ _ _ _ _ _ _ hH)
    have hHp := holdsK_putRowK seF 2 (grow (Sort.ahead w q) os) blk 0 _ dk hHg (by rw [hs, hd])
    rw [← e] at hHp
    have hin : ∀ t, t < n → ∀ cc, cc < 2 → (sortWorldK seF 2 w blk 0 q dk os).cell? ⟨blk, t * 2 + cc, none⟩ = some (seF dk[t]!)[cc]! := by
      intro t ht cc hc
      have := (hHp.cell (i := t) (c := cc) (by rw [hs]; exact ht) hc).1
      rw [Nat.zero_add] at this
      exact this
    have hbox : (sortWorldK seF 2 w blk 0 q dk os).cell? ⟨Bo, 0, none⟩ = some (.slice (some ⟨blk, 0, none⟩) n c) := by
      rw [e, cell?_putRowK_other _ _ _ blk 0 dk _ hne, cell?_grow _ _ _ (by rw [heap_ahead]; exact hlo), cell?_ahead]
      exact ho
    exact less_rf blk c n Bo (sortWorldK seF 2 w blk 0 q dk os) dk[i]! dk[j]! hbox i j hi hj (by omega) (hin i hi 0 (by omega)) (hin i hi 1 (by omega)) (hin j hj 0 (by omega)) (hin j hj 1 (by omega))
  have hS := Any.sort_Slice_cells_sorted sl_lays 43 82 sfT sfE (by kernel_rfl) (by kernel_rfl) (by kernel_rfl) (by kernel_rfl) 25 (fun _ => by kernel_rfl) seF 2 seF_len (by kernel_rfl) (fun _ => by kernel_rfl)
    (fun x v hv => by rcases List.mem_cons.1 hv with rfl | hv
                      · rfl
                      · rcases List.mem_cons.1 hv with rfl | hv
                        · rfl
                        · cases hv) seLt seLt_swo 53 _
    (enters_of Try.func53 (by kernel_rfl) rfl) blk 0 c L.toArray (by rw [hd]; omega) (by rw [hd]; omega) 94 (by rw [sfK _ (by rw [hd]; omega)]; kernel_rfl) false
    (fun args W => run_callFunc_extern Try.func94 (by kernel_rfl) (by kernel_rfl) (by kernel_rfl) (e := Extern.ReflectliteSwapper.swap false) (by kernel_rfl) args W) w hless hH hblk
  rw [hd] at hS
  change Calls Try.prog 52 _ _ _ at hS
  refine hS.mono ?_
  rintro e w' ⟨rfl, d', k, os, hp, hs, rfl⟩
  obtain ⟨p1, _, p3⟩ := hp
  have hd' : d'.size = n := by rw [p1, hd]
  refine ⟨rfl, d'.toList, ?_, ?_, grownBy_sortedK _ _ _ _ _, owns_sortedK hrow k d' os hd'⟩
  · have e1 : d'.extract 0 n = d' := by rw [← hd']; simp
    have e2 : L.toArray.extract 0 n = L.toArray := by rw [← hd]; simp
    rw [e1, e2] at p3
    simpa using p3
  · intro i j hi hj hij
    have hi' : i < d'.size := by simpa using hi
    have hj' : j < d'.size := by simpa using hj
    have := hs i j (Nat.zero_le _) hij (by omega)
    rw [getElem!_pos _ i hi', getElem!_pos _ j hj'] at this
    simpa using this
end Go.Proofs.Ytnjdoedhhpkjhaa
