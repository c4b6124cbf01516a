/-
  The fewest letters: contracts over a copy of the list; the number of letters is small.
-/
import Derived.Test.YthhpeanlpikjbaaFlI
import Derived.Test.YthhpeanlpikjbaaMark
import Derived.Test.YthhpeanlpikjbaaMarkWs
namespace Go.Proofs.Ythhpeanlpikjbaa
open Go.RowKit Go.ChangeShapes Go.WideShapes
set_option linter.unusedVariables false

theorem fsK_d {l M : List Ws} (h : M.map Ws.d = l.map Ws.d) (i : Nat) : fsK M i = fsK l i := by
  have hl : M.length = l.length := by have := congrArg List.length h; simpa using this
  unfold fsK
  by_cases hi : i < l.length
  · rw [dif_pos (by omega), dif_pos hi]
    have h1 : (M.map Ws.d)[i]? = (l.map Ws.d)[i]? := by rw [h]
    rw [List.getElem?_map, List.getElem?_map, List.getElem?_eq_getElem (by omega), List.getElem?_eq_getElem hi] at h1
    simp only [Option.map_some, Option.some.injEq, Ws.d, Prod.mk.injEq] at h1
    exact h1.2
  · rw [dif_neg (by omega), dif_neg hi]
theorem muK_d {l M : List Ws} (h : M.map Ws.d = l.map Ws.d) (i : Nat) (ms : List Bool) : ∀ k, muK M i ms k = muK l i ms k
  | 0 => rfl
  | k + 1 => by rw [muK, muK, muK_d h i ms k, fsK_d h, fsK_d h]
theorem muI_d {l M : List Ws} (h : M.map Ws.d = l.map Ws.d) : ∀ i, muI M i = muI l i
  | 0 => rfl
  | i + 1 => by rw [muI, muI, muI_d h i, muK_d h]
theorem clash_d {l M : List Ws} (h : M.map Ws.d = l.map Ws.d) : clash M = clash l := by
  have hl : M.length = l.length := by have := congrArg List.length h; simpa using this
  unfold clash ownL
  rw [hl]
  congr 1
  funext i
  congr 1
  funext k
  rw [fsK_d h, fsK_d h]
theorem pB_d {l M : List Ws} (h : M.map Ws.d = l.map Ws.d) (L bs : List ByteArray) : pB M L bs = pB l L bs := by
  have hl : M.length = l.length := by have := congrArg List.length h; simpa using this
  funext c
  unfold pB goodL tellP
  rw [hl]
  congr 1
  funext i
  congr 1
  funext k
  rw [fsK_d h, fsK_d h]
theorem few_d {l M : List Ws} (h : M.map Ws.d = l.map Ws.d) : fewAll M = fewAll l := by
  have hl : M.length = l.length := by have := congrArg List.length h; simpa using this
  unfold fewAll
  rw [h, clash_d h, hl, muI_d h, pB_d h]
def flL (l : List Ws) : List ByteArray := (fewAll l).1
def flC (l : List Ws) : Int := (fewAll l).2
theorem fewest_mem {N : Nat} {p : List Nat → Bool} {c : List Nat} (h : fewest N p = some c) : c.length ≤ N := by
  unfold fewest at h
  rw [List.findSome?_eq_some_iff] at h
  obtain ⟨a, s, b, he, hs, _⟩ := h
  have hm : s ∈ List.range (N + 1) := by rw [he]; simp
  have := List.mem_range.1 hm
  have h2 := (combos_mem (List.mem_of_find?_eq_some hs)).1
  omega
theorem flL_len (l : List Ws) : (flL l).length ≤ 256 := by
  unfold flL fewAll
  split
  · simp
  split
  · simp
  split
  · simp
  rename_i h3
  split
  · rename_i c hc
    have := fewest_mem hc
    rw [List.length_map]; omega
  · simp
def FewN (B N : Nat) (L : List ByteArray) (c : Int) (w : World) (e : Ending) (w' : World) : Prop :=
  ∃ ao cap, e = .returned (.tuple #[.slice ao N cap, .int .i64 c]) ∧ w'.ownsRow B 9 1 (.slice ao N cap) N (strs L) ∧ Below B w w'
theorem sFew2 (l : List Ws) (ao : Option Addr) (n cap : Nat) (M : List Ws) (w : World) (hd : M.map Ws.d = l.map Ws.d) (ha : WsArg w ao n cap M) (hs : WsSmall M) :
    Calls Try.prog 47 #[.slice ao n cap] w (FewN w.heap.size (flL l).length (flL l) (flC l) w) := by
  have := sFew_any ao n cap M w ha hs
  rw [few_d hd] at this
  exact this
theorem few2 (l : List Ws) (ao : Option Addr) (n cap : Nat) (M : List Ws) (w : World) (hd : M.map Ws.d = l.map Ws.d) (ha : WsArg w ao n cap M) (hs : WsSmall M) :
    Calls Try.prog 48 #[.slice ao n cap] w (FewN w.heap.size (flL l).length (flL l) (flC l) w) := by
  have := few_any ao n cap M w ha hs
  rw [few_d hd] at this
  exact this
theorem wsT_dF : ∀ {l M : List Ws}, M.map Ws.d = l.map Ws.d → wsT M = wsT l
  | [], [], _ => rfl
  | [], _ :: _, h => by simp at h
  | _ :: _, [], h => by simp at h
  | x :: l, y :: M, h => by
    simp only [List.map_cons, List.cons.injEq] at h
    have e : y.fs = x.fs := by have := h.1; simp only [Ws.d, Prod.mk.injEq] at this; exact this.2
    rw [wsT, wsT, e, wsT_dF h.2]
theorem szWr_nF {x : ByteArray} {n : Nat} {l : List Se} {lf : Int} (h0 : 0 ≤ lf) (h : 0 ≤ szWr x n l lf) : szWr x n l lf + n ≤ lf := by
  unfold szWr at h ⊢
  split
  · rename_i h1; rw [if_pos h1] at h; omega
  · rename_i h1
    rw [if_neg h1] at h
    split
    · rename_i h2; rw [if_pos h2] at h; omega
    · rename_i h2
      by_cases hb : lf - (x.size : Int) - (n : Int) < 0
      · rw [szAllSe_big hb] at h2; omega
      · rw [szAllSe_small hb]
        have := szSes_le l (lf - x.size - n) (by omega)
        omega
theorem szWs_TF (l : List Ws) : ∀ lf : Int, 0 ≤ lf → lf ≤ 1048576 → 0 ≤ szWs lf l → (wsT l : Int) + 2 * szWs lf l ≤ l.length + 2 * lf := by
  induction l with
  | nil => intro lf _ _ _; simp [szWs, wsT]
  | cons x r ih =>
    intro lf h h1 hz
    rw [szWs] at hz ⊢
    split
    · rename_i h2; rw [if_pos h2] at hz; omega
    · rename_i h2
      rw [if_neg h2] at hz
      have a := szWr_nF h (show 0 ≤ szWr x.nm x.fs.length x.fs lf by omega)
      have b := ih _ (by omega) (by omega) hz
      simp only [wsT, List.length_cons]
      omega
theorem wsT_smallF {n : Nat} {l : List Ws} (hn : n = l.length) (hz : ¬ szAllWs 1048576 n l < 0) : wsT l ≤ 3145728 := by
  by_cases hb : (1048576 : Int) - (n : Int) < 0
  · rw [szAllWs_big hb] at hz; omega
  · rw [szAllWs_small hb] at hz
    have := szWs_TF l (1048576 - n) (by omega) (by omega) (by omega)
    omega
end Go.Proofs.Ythhpeanlpikjbaa
