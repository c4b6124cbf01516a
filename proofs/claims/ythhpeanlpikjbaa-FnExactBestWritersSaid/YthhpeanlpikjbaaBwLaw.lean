/-
  The machines that fit a page best: contracts over a copy of the list; the number of marks is small.
-/
import Derived.Test.YthhpeanlpikjbaaBwS
import Derived.Test.YthhpeanlpikjbaaMarkWs
namespace Go.Proofs.Ythhpeanlpikjbaa
open Go.RowKit Go.ChangeShapes Go.WideShapes
set_option linter.unusedVariables false

theorem agF_eq {l M : List Ws} (h : M.map Ws.d = l.map Ws.d) (p : List Se) : agF M p = agF l p := by
  have hl := ws_len h
  funext k
  unfold agF
  by_cases hk : k < M.length
  · rw [dif_pos hk, dif_pos (by omega), (ws_at h hk (by omega)).2]
  · rw [dif_neg hk, dif_neg (by omega)]
theorem bwAll_eq {l M : List Ws} (h : M.map Ws.d = l.map Ws.d) (p : List Se) : bwAll M p = bwAll l p := by
  unfold bwAll
  rw [h, agF_eq h, ws_len h]
def bwL (l : List Ws) (p : List Se) : List Int := (bwAll l p).1.map Int.ofNat
def bwV (l : List Ws) (p : List Se) : Int := (bwAll l p).2.1
def bwC (l : List Ws) (p : List Se) : Int := (bwAll l p).2.2
theorem natI_i64s (L : List Nat) : natI L = i64s (L.map Int.ofNat) := by rw [i64s, List.map_map]; rfl
theorem bwL_len (l : List Ws) (p : List Se) : (bwL l p).length ≤ 12 := by
  unfold bwL bwAll
  split
  · rename_i h
    split
    · simp
    · have h1 : okWs (l.map Ws.d) = true := by
        cases hh : okWs (l.map Ws.d)
        · rw [hh] at h; simp at h
        · rfl
      have := bw_len (agF l p) l.length
      have := okWs_len h1
      simp; omega
  · simp
theorem sBestW2 (l : List Ws) (ao : Option Addr) (n cap : Nat) (M : List Ws) (bo : Option Addr) (n2 cap2 : Nat) (p : List Se) (w : World) (hd : M.map Ws.d = l.map Ws.d) (ha : WsArg w ao n cap M) (hs : WsSmall M) (hn2 : n2 = p.length) (hr2 : Rd w bo (ses p)) (hs2 : seSmall p) (hm2 : n2 ≤ 1048576) :
    Calls Try.prog 41 #[.slice ao n cap, .slice bo n2 cap2] w (RowRet3 w.heap.size 2 w (i64s (bwL l p)) (bwV l p) (bwC l p)) := by
  have := sBestW_any ao n cap M bo n2 cap2 p w ha hs hn2 hr2 hs2 hm2
  rw [bwAll_eq hd, natI_i64s] at this
  exact this
theorem bestW2 (l : List Ws) (ao : Option Addr) (n cap : Nat) (M : List Ws) (bo : Option Addr) (n2 cap2 : Nat) (p : List Se) (w : World) (hd : M.map Ws.d = l.map Ws.d) (ha : WsArg w ao n cap M) (hs : WsSmall M) (hn2 : n2 = p.length) (hr2 : Rd w bo (ses p)) (hs2 : seSmall p) (hm2 : n2 ≤ 1048576) :
    Calls Try.prog 42 #[.slice ao n cap, .slice bo n2 cap2] w (RowRet3 w.heap.size 2 w (i64s (bwL l p)) (bwV l p) (bwC l p)) := by
  have := bestW_any ao n cap M bo n2 cap2 p w ha hs hn2 hr2 hs2 hm2
  rw [bwAll_eq hd, natI_i64s] at this
  exact this
theorem wsT_d : ∀ {l M : List Ws}, M.map Ws.d = l.map Ws.d → wsT M = wsT l
  | [], [], _ => rfl
  | [], _ :: _, h => by simp at h
  | _ :: _, [], h => by simp at h
  | x :: l, y :: M, h => by
    simp only [List.map_cons, List.cons.injEq] at h
    have e : y.fs = x.fs := by have := h.1; simp only [Ws.d, Prod.mk.injEq] at this; exact this.2
    rw [wsT, wsT, e, wsT_d h.2]
theorem szWr_n {x : ByteArray} {n : Nat} {l : List Se} {lf : Int} (h0 : 0 ≤ lf) (h : 0 ≤ szWr x n l lf) : szWr x n l lf + n ≤ lf := by
  unfold szWr at h ⊢
  split
  · rename_i h1; rw [if_pos h1] at h; omega
  · rename_i h1
    rw [if_neg h1] at h
    split
    · rename_i h2; rw [if_pos h2] at h; omega
    · rename_i h2
      by_cases hb : lf - (x.size : Int) - (n : Int) < 0
      · rw [szAllSe_big hb] at h2; omega
      · rw [szAllSe_small hb]
        have := szSes_le l (lf - x.size - n) (by omega)
        omega
theorem szWs_T (l : List Ws) : ∀ lf : Int, 0 ≤ lf → lf ≤ 1048576 → 0 ≤ szWs lf l → (wsT l : Int) + 2 * szWs lf l ≤ l.length + 2 * lf := by
  induction l with
  | nil => intro lf _ _ _; simp [szWs, wsT]
  | cons x r ih =>
    intro lf h h1 hz
    rw [szWs] at hz ⊢
    split
    · rename_i h2; rw [if_pos h2] at hz; omega
    · rename_i h2
      rw [if_neg h2] at hz
      have a := szWr_n h (show 0 ≤ szWr x.nm x.fs.length x.fs lf by omega)
      have b := ih _ (by omega) (by omega) hz
      simp only [wsT, List.length_cons]
      omega
theorem wsT_small {n : Nat} {l : List Ws} (hn : n = l.length) (hz : ¬ szAllWs 1048576 n l < 0) : wsT l ≤ 3145728 := by
  by_cases hb : (1048576 : Int) - (n : Int) < 0
  · rw [szAllWs_big hb] at hz; omega
  · rw [szAllWs_small hb] at hz
    have := szWs_T l (1048576 - n) (by omega) (by omega) (by omega)
    omega
end Go.Proofs.Ythhpeanlpikjbaa
