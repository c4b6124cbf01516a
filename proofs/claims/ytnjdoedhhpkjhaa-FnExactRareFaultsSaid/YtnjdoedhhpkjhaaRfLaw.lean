/-
  The faults that one machine alone has: contracts over a copy of the list; the number of marks is small.
-/
import Derived.Test.YtnjdoedhhpkjhaaRfS
import Derived.Test.YtnjdoedhhpkjhaaMarkWs
namespace Go.Proofs.Ytnjdoedhhpkjhaa
open Go.RowKit Go.ChangeShapes Go.WideShapes
set_option linter.unusedVariables false

theorem rareAll_eq {l M : List Ws} (h : M.map Ws.d = l.map Ws.d) : rareAll M = rareAll l := by
  unfold rareAll; rw [h]
def rfL (l : List Ws) : List Se := (rareAll l).1
def rfC (l : List Ws) : Int := (rareAll l).2
theorem rfL_len (l : List Ws) : (rfL l).length ≤ 720 := by
  unfold rfL
  cases h : okWs (l.map Ws.d)
  · rw [rareAll_bad h]; simp
  · rw [rareAll_ok h]
    obtain ⟨hA, h12⟩ := okWs_facts h
    have h12 : l.length ≤ 12 := by simpa using h12
    have h1 := upF_len (l := l) (fun x hx => (fs_ok (hA x.d (List.mem_map.2 ⟨x, hx, rfl⟩))).len) l.length (Nat.le_refl _)
    rw [upF_all] at h1
    have h2 := letsOf_len (allF (l.map Ws.d))
    have h3 := doneL_len (l.map Ws.d) (letsOf (allF (l.map Ws.d))) _ (Nat.le_refl _)
    rw [doneL_all] at h3
    show (rfS (l.map Ws.d)).length ≤ 720
    omega
theorem sRare2 (l : List Ws) (ao : Option Addr) (n cap : Nat) (M : List Ws) (w : World) (hd : M.map Ws.d = l.map Ws.d) (ha : WsArg w ao n cap M) (hs : WsSmall M) :
    Calls Try.prog 23 #[.slice ao n cap] w (FlatRet w.heap.size 82 2 (rfL l).length w (ses (rfL l)) (rfC l)) := by
  have := sRare_any ao n cap M w ha hs
  rw [rareAll_eq hd] at this
  exact this
theorem rare2 (l : List Ws) (ao : Option Addr) (n cap : Nat) (M : List Ws) (w : World) (hd : M.map Ws.d = l.map Ws.d) (ha : WsArg w ao n cap M) (hs : WsSmall M) :
    Calls Try.prog 25 #[.slice ao n cap] w (FlatRet w.heap.size 82 2 (rfL l).length w (ses (rfL l)) (rfC l)) := by
  have := rare_any ao n cap M w ha hs
  rw [rareAll_eq hd] at this
  exact this
theorem wsT_d : ∀ {l M : List Ws}, M.map Ws.d = l.map Ws.d → wsT M = wsT l
  | [], [], _ => rfl
  | [], _ :: _, h => by simp at h
  | _ :: _, [], h => by simp at h
  | x :: l, y :: M, h => by
    simp only [List.map_cons, List.cons.injEq] at h
    have e : y.fs = x.fs := by have := h.1; simp only [Ws.d, Prod.mk.injEq] at this; exact this.2
    rw [wsT, wsT, e, wsT_d h.2]
theorem szWr_n {x : ByteArray} {n : Nat} {l : List Se} {lf : Int} (h0 : 0 ≤ lf) (h : 0 ≤ szWr x n l lf) : szWr x n l lf + n ≤ lf := by
  unfold szWr at h ⊢
  split
  · rename_i h1; rw [if_pos h1] at h; omega
  · rename_i h1
    rw [if_neg h1] at h
    split
    · rename_i h2; rw [if_pos h2] at h; omega
    · rename_i h2
      by_cases hb : lf - (x.size : Int) - (n : Int) < 0
      · rw [szAllSe_big hb] at h2; omega
      · rw [szAllSe_small hb]
        have := szSes_le l (lf - x.size - n) (by omega)
        omega
theorem szWs_T (l : List Ws) : ∀ lf : Int, 0 ≤ lf → lf ≤ 1048576 → 0 ≤ szWs lf l → (wsT l : Int) + 2 * szWs lf l ≤ l.length + 2 * lf := by
  induction l with
  | nil => intro lf _ _ _; simp [szWs, wsT]
  | cons x r ih =>
    intro lf h h1 hz
    rw [szWs] at hz ⊢
    split
    · rename_i h2; rw [if_pos h2] at hz; omega
    · rename_i h2
      rw [if_neg h2] at hz
      have a := szWr_n h (show 0 ≤ szWr x.nm x.fs.length x.fs lf by omega)
      have b := ih _ (by omega) (by omega) hz
      simp only [wsT, List.length_cons]
      omega
theorem wsT_small {n : Nat} {l : List Ws} (hn : n = l.length) (hz : ¬ szAllWs 1048576 n l < 0) : wsT l ≤ 3145728 := by
  by_cases hb : (1048576 : Int) - (n : Int) < 0
  · rw [szAllWs_big hb] at hz; omega
  · rw [szAllWs_small hb] at hz
    have := szWs_T l (1048576 - n) (by omega) (by omega) (by omega)
    omega
end Go.Proofs.Ytnjdoedhhpkjhaa
